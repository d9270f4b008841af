/- The engine and the contracts. -/
import Derived.Test.YtkamoncpfogmaaaGreatDoorC6
import Derived.Test.YtkamoncpfogmaaaGreatDoorC5
import Derived.Test.YtkamoncpfogmaaaGreatDoorC2
import Derived.Test.YtkamoncpfogmaaaGreatDoorC3
import Derived.Test.YtkamoncpfogmaaaGreatDoorE3
import Derived.Lib.LaidTab
set_option linter.unusedVariables false
set_option linter.unusedSimpArgs false
namespace Hw.Pa
open Go Go.Proofs Hw.M

def locZ (l : List Tok) : Nat → Nat → List Fld → List Fld
  | 0, _, acc => acc
  | f + 1, i, acc => if isA l i (⟨#[108, 111, 99, 97, 108]⟩ : ByteArray) = true then match fieldA l (i + 1) with
      | .ok x k => match oneA l (⟨#[59]⟩ : ByteArray) k with
        | .ok _ k2 => locZ l f k2 (acc ++ [x])
        | _ => acc ++ [x]
      | _ => acc
    else acc
section
variable {l : List Tok} (hl : GoodL l)
include hl
theorem fieldA_rg (i : Nat) (hi : i < l.length) : RA l (fieldA l i) := by rw [← er_field]; exact .er (RG.field hl hi)
theorem typA_rg (i : Nat) (hi : i < l.length) : RA l (typA l i) := by rw [← er_typ]; exact .er (RG.typ hl hi)
theorem listA_rg (sep fin : Str) (f i : Nat) (a : List Fld) (hi : i < l.length) : RA l (listA l sep fin (fieldA l) f i a) := by rw [← er_listF]; exact .er (list_rg hl F0 sep fin (fieldJ l) (fun _ h => .field hl h) f i a hi)
theorem rfields_ok (sep fin : Str) (f i : Nat) (hi : i < l.length) : RK0 116 [pS (toksP l), I (i : Nat), Sr sep, Sr fin] (fun a => pS (fieldsP a)) [] (listA l sep fin (fieldA l) f i []) := by
  refine .mk fun xf jf bf hR hz => ?_
  have hll := hl.len
  obtain ⟨t, ht⟩ := exists_at hi
  cases f with
  | zero => simp only [listA] at hR; exact (pab_out hR).elim
  | succ f =>
  simp only [listA] at hR
  by_cases hf : isA l i fin = true
  · rw [if_pos hf] at hR
    obtain ⟨rfl, rfl, rfl⟩ := pab_ok hR
    refine fn_ok T Tryz.func116 (by kernel_rfl) rfl rfl rfl rfl fun C hC => ?_
    repeat' first | refine g_go T hC true 400 rfl rfl ?_ | (exfalso; simp at h; done) | refine g_cond rfl (fun h => ?_) (fun h => ?_) | refine g_idx T hC rfl rfl rfl (Int.natCast_nonneg _) (map_at ht) rfl rfl ?_ | refine g_call hC ((rIs_y ht hf)) rfl rfl (LeSs.refl _) rfl rfl rfl ?_ | refine g_retl T (.inl rfl) rfl ?_
    rw [wrapS (i := i) (by omega)]
    exact g_fin ⟨.inl rfl, id, _, rfl, .tup (.cons (.one (.nil 2)) (.cons (.refl _) (.cons (.refl _) .nil))), trivial, rfl, rfl⟩
  rw [if_neg hf] at hR
  have hR2 : (fieldA l i).bind (fun x i => listA l sep fin (fieldA l) f i ([] ++ [x])) = pab xf jf bf := hR
  clear hR
  refine fn_ok T Tryz.func116 (by kernel_rfl) rfl rfl rfl rfl fun C hC => ?_
  repeat' first | refine g_go T hC true 400 rfl rfl ?_ | (exfalso; simp at h; done) | refine g_cond rfl (fun h => ?_) (fun h => ?_) | refine g_idx T hC rfl rfl rfl (Int.natCast_nonneg _) (map_at ht) rfl rfl ?_ | refine g_call hC ((rIs_n ht hf)) rfl rfl (LeSs.refl _) rfl rfl rfl ?_
  refine g_adopt hC rfl 101 2 rfl [(11, .one (.ar 101))] ⟨⟨_, rfl, AdS.nil⟩, trivial⟩ [] trivial ?_
  refine g_loop (fun q : List Fld × Nat × Nat => q.2.1 < l.length ∧ q.1.length ≤ q.2.1 ∧ (fieldA l q.2.1).bind (fun x i => listA l sep fin (fieldA l) q.2.2 i (q.1 ++ [x])) = pab xf jf bf)
    (fun q => ([(0, pS (toksP l)), (1, I (q.2.1 : Nat)), (2, Sr sep), (3, Sr fin), (11, .one (.ar 101))], [(101, some (Res.arr 2 (q.1.map fieldR)))])) (fun q => q.2.2) hC
    ([], i, f) ⟨hi, Nat.zero_le _, hR2⟩ id ⟨rfl, ⟨rfl, rfl, rfl, rfl, rfl, trivial⟩, ⟨rfl, trivial⟩, rfl, fun _ _ => rfl⟩ ?_
  clear hR2 hf hi ht
  rintro ⟨acc, k, g⟩ ⟨hk, hak, hd⟩
  simp only at hk hak hd
  have hal : (acc.map fieldR).length = acc.length := List.length_map _
  rcases RK.at (rfield_ok hl k hk) hd with ⟨y, k2, hy, hd2, hE⟩ | ⟨_, rfl, z, hE⟩
  rotate_left
  · rw [hz rfl]
    repeat' first | refine g_go T hC true 400 rfl rfl ?_ | (exfalso; simp at h; done) | refine g_cond rfl (fun h => ?_) (fun h => ?_) | refine g_call hC (hE) rfl rfl (LeSs.refl _) rfl rfl rfl ?_ | refine g_retl T (.inl rfl) rfl ?_ | refine g_outR ?_
    exact g_fin ⟨.inl rfl, id, _, rfl, .tup (.cons (.one (.nil 2)) (.cons (.refl _) (.cons (.refl _) .nil))), trivial, rfl, rfl⟩
  have hk2 := (fieldA_rg hl k hk).1 _ _ hy
  have hkk := field_fwd hy
  have hal' : (acc ++ [y]).length = acc.length + 1 := by simp
  obtain ⟨u, hu⟩ := exists_at hk2
  cases g with
  | zero => simp only [listA] at hd2; exact (pab_out hd2).elim
  | succ g =>
    simp only [listA] at hd2
    by_cases hs : isA l k2 fin = true
    · rw [if_pos hs] at hd2
      obtain ⟨rfl, rfl, rfl⟩ := pab_ok hd2
      repeat' first | refine g_go T hC true 400 rfl rfl ?_ | (exfalso; simp at h; done) | refine g_cond rfl (fun h => ?_) (fun h => ?_) | refine g_call hC (hE) rfl rfl (LeSs.refl _) rfl rfl rfl ?_ | refine g_lit T hC (rows := [fieldR y]) rfl rfl rfl rfl rfl rfl rfl rfl rfl ?_ | (refine g_append T 102 hC (rows := acc.map fieldR) (rows2 := [fieldR y]) (rows3 := (acc ++ [y]).map fieldR) (bytes := 32) rfl rfl rfl rfl (SrcS.sl (T.es_ok _ _ rfl)) (by rw [List.map_append]; rfl) rfl rfl rfl (by kernel_rfl) (by rw [hal, List.length_singleton]; omega) (by rw [hal, List.length_singleton]; omega) rfl rfl rfl ?_) | refine g_idx T hC rfl rfl rfl (Int.natCast_nonneg _) (map_at hu) rfl rfl ?_ | refine g_call hC ((rIs_y hu hs)) rfl rfl (LeSs.refl _) rfl rfl rfl ?_ | refine g_retl T (.inl rfl) rfl ?_ | refine g_outR ?_
      rw [wrapS (i := k2) (by omega)]
      refine g_freeze rfl (id := 102) (e := 2) (rows := (acc ++ [y]).map fieldR) rfl [(8, pS (fieldsP (acc ++ [y])))] ⟨⟨_, rfl, FrS.ar⟩, trivial⟩ [] trivial ?_
      exact g_fin ⟨.inl rfl, id, _, rfl, .refl _, trivial, rfl, rfl⟩
    · rw [if_neg hs, if_neg (by omega)] at hd2
      by_cases hc : isA l k2 sep = true
      · have hd3 : (fieldA l (k2 + 1)).bind (fun x i => listA l sep fin (fieldA l) g i ((acc ++ [y]) ++ [x])) = pab xf jf bf := by unfold oneA at hd2; rw [if_pos hc] at hd2; exact hd2
        repeat' first | refine g_go T hC true 400 rfl rfl ?_ | (exfalso; simp at h; done) | refine g_cond rfl (fun h => ?_) (fun h => ?_) | refine g_call hC (hE) rfl rfl (LeSs.refl _) rfl rfl rfl ?_ | refine g_lit T hC (rows := [fieldR y]) rfl rfl rfl rfl rfl rfl rfl rfl rfl ?_ | (refine g_append T 102 hC (rows := acc.map fieldR) (rows2 := [fieldR y]) (rows3 := (acc ++ [y]).map fieldR) (bytes := 32) rfl rfl rfl rfl (SrcS.sl (T.es_ok _ _ rfl)) (by rw [List.map_append]; rfl) rfl rfl rfl (by kernel_rfl) (by rw [hal, List.length_singleton]; omega) (by rw [hal, List.length_singleton]; omega) rfl rfl rfl ?_) | refine g_idx T hC rfl rfl rfl (Int.natCast_nonneg _) (map_at hu) rfl rfl ?_ | refine g_call hC ((rIs_n hu hs)) rfl rfl (LeSs.refl _) rfl rfl rfl ?_ | refine g_call hC ((rIs_y hu hc)) rfl rfl (LeSs.refl _) rfl rfl rfl ?_
        rw [wrapS (i := k2) (by omega)]
        exact g_round (acc ++ [y], k2 + 1, g) ⟨isA_next hl hc, by simp only; omega, hd3⟩ (mvP 101 102) (Nat.lt_succ_self _) ⟨rfl, ⟨rfl, rfl, rfl, rfl, rfl, trivial⟩, ⟨rfl, trivial⟩, rfl, fun i hi => mvP_low (by omega) hi⟩
      · have hd3 : PA.no k2 = pab xf jf bf := by unfold oneA at hd2; rw [if_neg hc] at hd2; exact hd2
        obtain ⟨rfl, rfl⟩ := pab_no hd3
        rw [hz rfl]
        repeat' first | refine g_go T hC true 400 rfl rfl ?_ | (exfalso; simp at h; done) | refine g_cond rfl (fun h => ?_) (fun h => ?_) | refine g_call hC (hE) rfl rfl (LeSs.refl _) rfl rfl rfl ?_ | refine g_lit T hC (rows := [fieldR y]) rfl rfl rfl rfl rfl rfl rfl rfl rfl ?_ | (refine g_append T 102 hC (rows := acc.map fieldR) (rows2 := [fieldR y]) (rows3 := (acc ++ [y]).map fieldR) (bytes := 32) rfl rfl rfl rfl (SrcS.sl (T.es_ok _ _ rfl)) (by rw [List.map_append]; rfl) rfl rfl rfl (by kernel_rfl) (by rw [hal, List.length_singleton]; omega) (by rw [hal, List.length_singleton]; omega) rfl rfl rfl ?_) | refine g_idx T hC rfl rfl rfl (Int.natCast_nonneg _) (map_at hu) rfl rfl ?_ | refine g_call hC ((rIs_n hu hs)) rfl rfl (LeSs.refl _) rfl rfl rfl ?_ | refine g_call hC ((rIs_n hu hc)) rfl rfl (LeSs.refl _) rfl rfl rfl ?_ | refine g_retl T (.inl rfl) rfl ?_ | refine g_outR ?_
        exact g_fin ⟨.inl rfl, id, _, rfl, .tup (.cons (.one (.nil 2)) (.cons (.refl _) (.cons (.refl _) .nil))), trivial, rfl, rfl⟩
set_option maxHeartbeats 2000000 in
theorem rproc_ok (f i : Nat) (hi : i < l.length) : RK 118 [pS (toksP l), I (i : Nat)] (fun p => aggS (procR p)) (procA l f i) := by
  refine .mkd ⟨(⟨#[]⟩ : ByteArray), [], (⟨#[]⟩ : ByteArray), [], []⟩ fun bf xf jf hR => ?_
  have hll := hl.len
  unfold procA at hR
  rcases RK.at (rname_ok hl i hi) hR with ⟨n, k1, h1, hd1, c1⟩ | ⟨_, rfl, z, c1⟩
  rotate_left
  · refine ⟨⟨(⟨#[]⟩ : ByteArray), [], (⟨#[]⟩ : ByteArray), [], []⟩, (fun h => by cases h), ?_⟩
    refine fn_ok T Tryz.func118 (by kernel_rfl) rfl rfl rfl rfl fun C hC => ?_
    repeat' first | refine g_go T hC true 400 rfl rfl ?_ | (exfalso; simp at h; done) | refine g_cond rfl (fun h => ?_) (fun h => ?_) | refine g_call hC (c1) rfl rfl (LeSs.refl _) rfl rfl rfl ?_ | refine g_retl T (.inl rfl) rfl ?_
    exact g_fin ⟨.inl rfl, id, _, rfl, .tup (.cons (.agg (.cons (.refl _) (.cons (.nil 2) (.cons (.refl _) (.cons (.nil 2) (.cons (.nil 5) .nil)))))) (.cons (.refl _) (.cons (.refl _) .nil))), trivial, rfl, rfl⟩
  have hk1 := name_lt2 hl h1
  unfold oneA at hd1
  by_cases q1 : isA l k1 (⟨#[40]⟩ : ByteArray) = true
  rotate_left
  · rw [if_neg q1] at hd1
    obtain ⟨rfl, rfl⟩ := pab_no hd1
    refine ⟨⟨n, [], (⟨#[]⟩ : ByteArray), [], []⟩, (fun h => by cases h), ?_⟩
    refine fn_ok T Tryz.func118 (by kernel_rfl) rfl rfl rfl rfl fun C hC => ?_
    repeat' first | refine g_go T hC true 400 rfl rfl ?_ | (exfalso; simp at h; done) | refine g_cond rfl (fun h => ?_) (fun h => ?_) | refine g_call hC (c1) rfl rfl (LeSs.refl _) rfl rfl rfl ?_ | refine g_call hC ((rone_n hl hk1 q1)) rfl rfl (LeSs.refl _) rfl rfl rfl ?_ | refine g_retl T (.inl rfl) rfl ?_
    exact g_fin ⟨.inl rfl, id, _, rfl, .tup (.cons (.agg (.cons (.refl _) (.cons (.nil 2) (.cons (.refl _) (.cons (.nil 2) (.cons (.nil 5) .nil)))))) (.cons (.refl _) (.cons (.refl _) .nil))), trivial, rfl, rfl⟩
  rw [if_pos q1] at hd1
  have hk2 := isA_next hl q1
  rcases RK0.at (rfields_ok hl (⟨#[44]⟩ : ByteArray) (⟨#[41]⟩ : ByteArray) f (k1 + 1) hk2) hd1 with ⟨ps, k3, h3, hd3, c3⟩ | ⟨_, rfl, c3⟩
  rotate_left
  · refine ⟨⟨n, [], (⟨#[]⟩ : ByteArray), [], []⟩, (fun h => by cases h), ?_⟩
    refine fn_ok T Tryz.func118 (by kernel_rfl) rfl rfl rfl rfl fun C hC => ?_
    repeat' first | refine g_go T hC true 400 rfl rfl ?_ | (exfalso; simp at h; done) | refine g_cond rfl (fun h => ?_) (fun h => ?_) | refine g_call hC (c1) rfl rfl (LeSs.refl _) rfl rfl rfl ?_ | refine g_call hC ((rone_y hl q1)) rfl rfl (LeSs.refl _) rfl rfl rfl ?_ | refine g_call hC (c3) rfl rfl (LeSs.refl _) rfl rfl rfl ?_ | refine g_retl T (.inl rfl) rfl ?_
    exact g_fin ⟨.inl rfl, id, _, rfl, .tup (.cons (.agg (.cons (.refl _) (.cons (.refl _) (.cons (.refl _) (.cons (.nil 2) (.cons (.nil 5) .nil)))))) (.cons (.refl _) (.cons (.refl _) .nil))), trivial, rfl, rfl⟩
  have hk3 := (listA_rg hl _ _ f _ _ hk2).1 _ _ h3
  obtain ⟨u, hu⟩ := exists_at hk3
  by_cases q3 : isA l k3 ⟨#[123]⟩ = true
  · simp only [if_pos q3, PA.bind, oneA] at hd3
    have hk5 := isA_next hl q3
    generalize hk5e : k3 + 1 = k5 at hd3 hk5
    have hO := rone_y hl q3
    rw [hk5e] at hO
    have hd5 : (locsA l f k5 []).bind (fun ls i => (stmtsA l f i []).bind fun b i => .ok ⟨n, ps, (⟨#[]⟩ : ByteArray), ls, b⟩ i) = pab xf jf bf := hd3
    clear hd3
    obtain ⟨yf, hy1, hy2⟩ : ∃ yf : Pr, (bf = true → yf = xf) ∧ (bf = false → yf = ⟨n, ps, (⟨#[]⟩ : ByteArray), locZ l f k5 [], []⟩) := by
      cases bf with
      | true => exact ⟨xf, fun _ => rfl, fun h => by cases h⟩
      | false => exact ⟨_, (fun h => by cases h), fun _ => rfl⟩
    refine ⟨yf, hy1, ?_⟩
    refine fn_ok T Tryz.func118 (by kernel_rfl) rfl rfl rfl rfl fun C hC => ?_
    repeat' first | refine g_go T hC true 400 rfl rfl ?_ | (exfalso; simp at h; done) | refine g_cond rfl (fun h => ?_) (fun h => ?_) | refine g_call hC (c1) rfl rfl (LeSs.refl _) rfl rfl rfl ?_ | refine g_call hC ((rone_y hl q1)) rfl rfl (LeSs.refl _) rfl rfl rfl ?_ | refine g_call hC (c3) rfl rfl (LeSs.refl _) rfl rfl rfl ?_ | refine g_idx T hC rfl rfl rfl (Int.natCast_nonneg _) (map_at hu) rfl rfl ?_ | refine g_call hC ((rIs_y hu q3)) rfl rfl (LeSs.refl _) rfl rfl rfl ?_ | refine g_call hC (hO) rfl rfl (LeSs.refl _) rfl rfl rfl ?_
    refine g_adopt hC rfl 101 2 rfl [] trivial [(1007, [.p (ks n), .p (fieldsP ps), .p (ks (⟨#[]⟩ : ByteArray)), .ar 101, .p (.k (.slice none 0 0))])] ⟨⟨_, rfl, by decide, .cons (.refl _) (.cons (.refl _) (.cons (.refl _) (.cons .nil (.cons (.refl _) .nil))))⟩, trivial⟩ ?_
    refine g_loop (fun q : List Fld × Nat × Nat => q.2.1 < l.length ∧ q.1.length ≤ q.2.1 ∧ q.2.2 ≤ f ∧ (locsA l q.2.2 q.2.1 q.1).bind (fun ls i => (stmtsA l f i []).bind fun b i => .ok ⟨n, ps, (⟨#[]⟩ : ByteArray), ls, b⟩ i) = pab xf jf bf ∧ (bf = false → yf = ⟨n, ps, (⟨#[]⟩ : ByteArray), locZ l q.2.2 q.2.1 q.1, []⟩))
      (fun q => ([(0, pS (toksP l)), (1, I (q.2.1 : Nat)), (4, .one (.bx 1004 0)), (7, .one (.bx 1007 0))], [(1004, some (Res.box (zV [ZK.str, ZK.slice, ZK.str, ZK.slice, ZK.slice]))), (1007, some (Res.box [.p (ks n), .p (fieldsP ps), .p (ks (⟨#[]⟩ : ByteArray)), .ar 101, .p (.k (.slice none 0 0))])), (101, some (Res.arr 2 (q.1.map fieldR)))])) (fun q => q.2.2) hC
      ([], k5, f) ⟨hk5, Nat.zero_le _, Nat.le_refl _, hd5, hy2⟩ id ⟨rfl, ⟨rfl, rfl, rfl, rfl, trivial⟩, ⟨rfl, rfl, rfl, trivial⟩, rfl, fun _ _ => rfl⟩ ?_
    clear hy2 hd5
    rintro ⟨acc, k, g⟩ ⟨hk, hak, hgf, hd, hz⟩
    simp only at hk hak hgf hd hz
    have hal : (acc.map fieldR).length = acc.length := List.length_map _
    obtain ⟨t, ht⟩ := exists_at hk
    cases g with
    | zero => simp only [locsA] at hd; exact (pab_out hd).elim
    | succ g =>
    simp only [locsA] at hd
    simp only [locZ] at hz
    by_cases hs : isA l k (⟨#[108, 111, 99, 97, 108]⟩ : ByteArray) = true
    · rw [if_pos hs] at hd hz
      have hk1 := isA_next hl hs
      have hFl := rfield_ok hl (k + 1) hk1
      rw [← wrapS (i := k) (by omega)] at hFl
      rcases RK.at hFl (β := Pr) (g := fun x i => ((oneA l (⟨#[59]⟩ : ByteArray) i).bind fun _ i => locsA l g i (acc ++ [x])).bind (fun ls i => (stmtsA l f i []).bind fun b i => .ok ⟨n, ps, (⟨#[]⟩ : ByteArray), ls, b⟩ i)) (x := xf) (j := jf) (b := bf) (by rw [← hd]; cases fieldA l (k + 1) <;> rfl) with ⟨y, k2, hy, hd2, hE⟩ | ⟨hy, rfl, z, hE⟩
      rotate_left
      · rw [hy] at hz
        rw [hz rfl]
        refine g_freeze rfl (id := 101) (e := 2) (rows := acc.map fieldR) rfl [] trivial [(1007, [.p (ks n), .p (fieldsP ps), .p (ks (⟨#[]⟩ : ByteArray)), .p (fieldsP acc), .p (.k (.slice none 0 0))])] ⟨⟨_, rfl, by decide, .cons (.refl _) (.cons (.refl _) (.cons (.refl _) (.cons .ar (.cons (.refl _) .nil))))⟩, trivial⟩ ?_
        repeat' first | refine g_go T hC true 400 rfl rfl ?_ | (exfalso; simp at h; done) | refine g_cond rfl (fun h => ?_) (fun h => ?_) | refine g_idx T hC rfl rfl rfl (Int.natCast_nonneg _) (map_at ht) rfl rfl ?_ | refine g_call hC ((rIs_y ht hs)) rfl rfl (LeSs.refl _) rfl rfl rfl ?_ | refine g_call hC (hE) rfl rfl (LeSs.refl _) rfl rfl rfl ?_ | refine g_retl T (.inl rfl) rfl ?_ | refine g_outR ?_
        exact g_fin ⟨.inl rfl, id, _, rfl, .tup (.cons (.agg (.cons (.refl _) (.cons (.refl _) (.cons (.refl _) (.cons (.refl _) (.cons (.nil 5) .nil)))))) (.cons (.refl _) (.cons (.refl _) .nil))), trivial, rfl, rfl⟩
      rw [hy] at hz
      simp only at hz
      have hk2 := (fieldA_rg hl (k + 1) hk1).1 _ _ hy
      have hkk := field_fwd hy
      have hal' : (acc ++ [y]).length = acc.length + 1 := by simp
      unfold oneA at hd2 hz
      by_cases hq : isA l k2 (⟨#[59]⟩ : ByteArray) = true
      · rw [if_pos hq] at hd2 hz
        simp only at hz
        repeat' first | refine g_go T hC true 400 rfl rfl ?_ | (exfalso; simp at h; done) | refine g_cond rfl (fun h => ?_) (fun h => ?_) | refine g_idx T hC rfl rfl rfl (Int.natCast_nonneg _) (map_at ht) rfl rfl ?_ | refine g_call hC ((rIs_y ht hs)) rfl rfl (LeSs.refl _) rfl rfl rfl ?_ | refine g_call hC (hE) rfl rfl (LeSs.refl _) rfl rfl rfl ?_ | refine g_lit T hC (rows := [fieldR y]) rfl rfl rfl rfl rfl rfl rfl rfl rfl ?_ | (refine g_append T 102 hC (rows := acc.map fieldR) (rows2 := [fieldR y]) (rows3 := (acc ++ [y]).map fieldR) (bytes := 32) rfl rfl rfl rfl (SrcS.sl (T.es_ok _ _ rfl)) (by rw [List.map_append]; rfl) rfl rfl rfl (by kernel_rfl) (by rw [hal, List.length_singleton]; omega) (by rw [hal, List.length_singleton]; omega) rfl rfl rfl ?_) | refine g_call hC ((rone_y hl hq)) rfl rfl (LeSs.refl _) rfl rfl rfl ?_
        exact g_round (acc ++ [y], k2 + 1, g) ⟨isA_next hl hq, by simp only; omega, by simp only; omega, hd2, hz⟩ (mvP 101 102) (Nat.lt_succ_self _) ⟨rfl, ⟨rfl, rfl, rfl, rfl, trivial⟩, ⟨rfl, rfl, rfl, trivial⟩, rfl, fun i hi => mvP_low (by omega) hi⟩
      · rw [if_neg hq] at hd2 hz
        obtain ⟨rfl, rfl⟩ := pab_no hd2
        rw [hz rfl]
        repeat' first | refine g_go T hC true 400 rfl rfl ?_ | (exfalso; simp at h; done) | refine g_cond rfl (fun h => ?_) (fun h => ?_) | refine g_idx T hC rfl rfl rfl (Int.natCast_nonneg _) (map_at ht) rfl rfl ?_ | refine g_call hC ((rIs_y ht hs)) rfl rfl (LeSs.refl _) rfl rfl rfl ?_ | refine g_call hC (hE) rfl rfl (LeSs.refl _) rfl rfl rfl ?_ | refine g_lit T hC (rows := [fieldR y]) rfl rfl rfl rfl rfl rfl rfl rfl rfl ?_ | (refine g_append T 102 hC (rows := acc.map fieldR) (rows2 := [fieldR y]) (rows3 := (acc ++ [y]).map fieldR) (bytes := 32) rfl rfl rfl rfl (SrcS.sl (T.es_ok _ _ rfl)) (by rw [List.map_append]; rfl) rfl rfl rfl (by kernel_rfl) (by rw [hal, List.length_singleton]; omega) (by rw [hal, List.length_singleton]; omega) rfl rfl rfl ?_)
        refine g_freeze rfl (id := 102) (e := 2) (rows := (acc ++ [y]).map fieldR) rfl [] trivial [(1007, [.p (ks n), .p (fieldsP ps), .p (ks (⟨#[]⟩ : ByteArray)), .p (fieldsP (acc ++ [y])), .p (.k (.slice none 0 0))])] ⟨⟨_, rfl, by decide, .cons (.refl _) (.cons (.refl _) (.cons (.refl _) (.cons .ar (.cons (.refl _) .nil))))⟩, trivial⟩ ?_
        repeat' first | refine g_go T hC true 400 rfl rfl ?_ | (exfalso; simp at h; done) | refine g_cond rfl (fun h => ?_) (fun h => ?_) | refine g_call hC ((rone_n hl hk2 hq)) rfl rfl (LeSs.refl _) rfl rfl rfl ?_ | refine g_retl T (.inl rfl) rfl ?_ | refine g_outR ?_
        exact g_fin ⟨.inl rfl, id, _, rfl, .tup (.cons (.agg (.cons (.refl _) (.cons (.refl _) (.cons (.refl _) (.cons (.refl _) (.cons (.nil 5) .nil)))))) (.cons (.refl _) (.cons (.refl _) .nil))), trivial, rfl, rfl⟩
    · rw [if_neg hs] at hd hz
      refine g_freeze rfl (id := 101) (e := 2) (rows := acc.map fieldR) rfl [] trivial [(1007, [.p (ks n), .p (fieldsP ps), .p (ks (⟨#[]⟩ : ByteArray)), .p (fieldsP acc), .p (.k (.slice none 0 0))])] ⟨⟨_, rfl, by decide, .cons (.refl _) (.cons (.refl _) (.cons (.refl _) (.cons .ar (.cons (.refl _) .nil))))⟩, trivial⟩ ?_
      rcases RK0.at ((sr_all hl f).blk k hk) hd with ⟨bd, k6, hb, hd6, hB⟩ | ⟨_, rfl, hB⟩
      · obtain ⟨rfl, rfl, rfl⟩ := pab_ok hd6
        rw [hy1 rfl]
        repeat' first | refine g_go T hC true 400 rfl rfl ?_ | (exfalso; simp at h; done) | refine g_cond rfl (fun h => ?_) (fun h => ?_) | refine g_idx T hC rfl rfl rfl (Int.natCast_nonneg _) (map_at ht) rfl rfl ?_ | refine g_call hC ((rIs_n ht hs)) rfl rfl (LeSs.refl _) rfl rfl rfl ?_ | refine g_outE ?_ | refine g_call hC (hB) rfl rfl (LeSs.refl _) rfl rfl rfl ?_ | refine g_retl T (.inl rfl) rfl ?_
        exact g_fin ⟨.inl rfl, id, _, rfl, .refl _, trivial, rfl, rfl⟩
      · rw [hz rfl]
        repeat' first | refine g_go T hC true 400 rfl rfl ?_ | (exfalso; simp at h; done) | refine g_cond rfl (fun h => ?_) (fun h => ?_) | refine g_idx T hC rfl rfl rfl (Int.natCast_nonneg _) (map_at ht) rfl rfl ?_ | refine g_call hC ((rIs_n ht hs)) rfl rfl (LeSs.refl _) rfl rfl rfl ?_ | refine g_outE ?_ | refine g_call hC (hB) rfl rfl (LeSs.refl _) rfl rfl rfl ?_ | refine g_retl T (.inl rfl) rfl ?_
        exact g_fin ⟨.inl rfl, id, _, rfl, .refl _, trivial, rfl, rfl⟩
  · simp only [if_neg q3] at hd3
    rcases RK.at (rtyp_ok hl k3 hk3) hd3 with ⟨r, k4, h4, hd4, c4⟩ | ⟨_, rfl, z, c4⟩
    rotate_left
    · refine ⟨⟨n, ps, z, [], []⟩, (fun h => by cases h), ?_⟩
      refine fn_ok T Tryz.func118 (by kernel_rfl) rfl rfl rfl rfl fun C hC => ?_
      repeat' first | refine g_go T hC true 400 rfl rfl ?_ | (exfalso; simp at h; done) | refine g_cond rfl (fun h => ?_) (fun h => ?_) | refine g_call hC (c1) rfl rfl (LeSs.refl _) rfl rfl rfl ?_ | refine g_call hC ((rone_y hl q1)) rfl rfl (LeSs.refl _) rfl rfl rfl ?_ | refine g_call hC (c3) rfl rfl (LeSs.refl _) rfl rfl rfl ?_ | refine g_idx T hC rfl rfl rfl (Int.natCast_nonneg _) (map_at hu) rfl rfl ?_ | refine g_call hC ((rIs_n hu q3)) rfl rfl (LeSs.refl _) rfl rfl rfl ?_ | refine g_call hC (c4) rfl rfl (LeSs.refl _) rfl rfl rfl ?_ | refine g_retl T (.inl rfl) rfl ?_
      exact g_fin ⟨.inl rfl, id, _, rfl, .tup (.cons (.agg (.cons (.refl _) (.cons (.refl _) (.cons (.refl _) (.cons (.nil 2) (.cons (.nil 5) .nil)))))) (.cons (.refl _) (.cons (.refl _) .nil))), trivial, rfl, rfl⟩
    have hk4 := (typA_rg hl k3 hk3).1 _ _ h4
    by_cases q4 : isA l k4 ⟨#[123]⟩ = true
    rotate_left
    · rw [if_neg q4] at hd4
      obtain ⟨rfl, rfl⟩ := pab_no hd4
      refine ⟨⟨n, ps, r, [], []⟩, (fun h => by cases h), ?_⟩
      refine fn_ok T Tryz.func118 (by kernel_rfl) rfl rfl rfl rfl fun C hC => ?_
      repeat' first | refine g_go T hC true 400 rfl rfl ?_ | (exfalso; simp at h; done) | refine g_cond rfl (fun h => ?_) (fun h => ?_) | refine g_call hC (c1) rfl rfl (LeSs.refl _) rfl rfl rfl ?_ | refine g_call hC ((rone_y hl q1)) rfl rfl (LeSs.refl _) rfl rfl rfl ?_ | refine g_call hC (c3) rfl rfl (LeSs.refl _) rfl rfl rfl ?_ | refine g_idx T hC rfl rfl rfl (Int.natCast_nonneg _) (map_at hu) rfl rfl ?_ | refine g_call hC ((rIs_n hu q3)) rfl rfl (LeSs.refl _) rfl rfl rfl ?_ | refine g_call hC (c4) rfl rfl (LeSs.refl _) rfl rfl rfl ?_ | refine g_call hC ((rone_n hl hk4 q4)) rfl rfl (LeSs.refl _) rfl rfl rfl ?_ | refine g_retl T (.inl rfl) rfl ?_
      exact g_fin ⟨.inl rfl, id, _, rfl, .tup (.cons (.agg (.cons (.refl _) (.cons (.refl _) (.cons (.refl _) (.cons (.nil 2) (.cons (.nil 5) .nil)))))) (.cons (.refl _) (.cons (.refl _) .nil))), trivial, rfl, rfl⟩
    rw [if_pos q4] at hd4
    have hk5 := isA_next hl q4
    generalize hk5e : k4 + 1 = k5 at hd4 hk5
    have hO := rone_y hl q4
    rw [hk5e] at hO
    have hd5 : (locsA l f k5 []).bind (fun ls i => (stmtsA l f i []).bind fun b i => .ok ⟨n, ps, r, ls, b⟩ i) = pab xf jf bf := hd4
    clear hd4
    obtain ⟨yf, hy1, hy2⟩ : ∃ yf : Pr, (bf = true → yf = xf) ∧ (bf = false → yf = ⟨n, ps, r, locZ l f k5 [], []⟩) := by
      cases bf with
      | true => exact ⟨xf, fun _ => rfl, fun h => by cases h⟩
      | false => exact ⟨_, (fun h => by cases h), fun _ => rfl⟩
    refine ⟨yf, hy1, ?_⟩
    refine fn_ok T Tryz.func118 (by kernel_rfl) rfl rfl rfl rfl fun C hC => ?_
    repeat' first | refine g_go T hC true 400 rfl rfl ?_ | (exfalso; simp at h; done) | refine g_cond rfl (fun h => ?_) (fun h => ?_) | refine g_call hC (c1) rfl rfl (LeSs.refl _) rfl rfl rfl ?_ | refine g_call hC ((rone_y hl q1)) rfl rfl (LeSs.refl _) rfl rfl rfl ?_ | refine g_call hC (c3) rfl rfl (LeSs.refl _) rfl rfl rfl ?_ | refine g_idx T hC rfl rfl rfl (Int.natCast_nonneg _) (map_at hu) rfl rfl ?_ | refine g_call hC ((rIs_n hu q3)) rfl rfl (LeSs.refl _) rfl rfl rfl ?_ | refine g_call hC (c4) rfl rfl (LeSs.refl _) rfl rfl rfl ?_ | refine g_call hC (hO) rfl rfl (LeSs.refl _) rfl rfl rfl ?_
    refine g_adopt hC rfl 101 2 rfl [] trivial [(1007, [.p (ks n), .p (fieldsP ps), .p (ks r), .ar 101, .p (.k (.slice none 0 0))])] ⟨⟨_, rfl, by decide, .cons (.refl _) (.cons (.refl _) (.cons (.refl _) (.cons .nil (.cons (.refl _) .nil))))⟩, trivial⟩ ?_
    refine g_loop (fun q : List Fld × Nat × Nat => q.2.1 < l.length ∧ q.1.length ≤ q.2.1 ∧ q.2.2 ≤ f ∧ (locsA l q.2.2 q.2.1 q.1).bind (fun ls i => (stmtsA l f i []).bind fun b i => .ok ⟨n, ps, r, ls, b⟩ i) = pab xf jf bf ∧ (bf = false → yf = ⟨n, ps, r, locZ l q.2.2 q.2.1 q.1, []⟩))
      (fun q => ([(0, pS (toksP l)), (1, I (q.2.1 : Nat)), (4, .one (.bx 1004 0)), (7, .one (.bx 1007 0))], [(1004, some (Res.box (zV [ZK.str, ZK.slice, ZK.str, ZK.slice, ZK.slice]))), (1007, some (Res.box [.p (ks n), .p (fieldsP ps), .p (ks r), .ar 101, .p (.k (.slice none 0 0))])), (101, some (Res.arr 2 (q.1.map fieldR)))])) (fun q => q.2.2) hC
      ([], k5, f) ⟨hk5, Nat.zero_le _, Nat.le_refl _, hd5, hy2⟩ id ⟨rfl, ⟨rfl, rfl, rfl, rfl, trivial⟩, ⟨rfl, rfl, rfl, trivial⟩, rfl, fun _ _ => rfl⟩ ?_
    clear hy2 hd5
    rintro ⟨acc, k, g⟩ ⟨hk, hak, hgf, hd, hz⟩
    simp only at hk hak hgf hd hz
    have hal : (acc.map fieldR).length = acc.length := List.length_map _
    obtain ⟨t, ht⟩ := exists_at hk
    cases g with
    | zero => simp only [locsA] at hd; exact (pab_out hd).elim
    | succ g =>
    simp only [locsA] at hd
    simp only [locZ] at hz
    by_cases hs : isA l k (⟨#[108, 111, 99, 97, 108]⟩ : ByteArray) = true
    · rw [if_pos hs] at hd hz
      have hk1 := isA_next hl hs
      have hFl := rfield_ok hl (k + 1) hk1
      rw [← wrapS (i := k) (by omega)] at hFl
      rcases RK.at hFl (β := Pr) (g := fun x i => ((oneA l (⟨#[59]⟩ : ByteArray) i).bind fun _ i => locsA l g i (acc ++ [x])).bind (fun ls i => (stmtsA l f i []).bind fun b i => .ok ⟨n, ps, r, ls, b⟩ i)) (x := xf) (j := jf) (b := bf) (by rw [← hd]; cases fieldA l (k + 1) <;> rfl) with ⟨y, k2, hy, hd2, hE⟩ | ⟨hy, rfl, z, hE⟩
      rotate_left
      · rw [hy] at hz
        rw [hz rfl]
        refine g_freeze rfl (id := 101) (e := 2) (rows := acc.map fieldR) rfl [] trivial [(1007, [.p (ks n), .p (fieldsP ps), .p (ks r), .p (fieldsP acc), .p (.k (.slice none 0 0))])] ⟨⟨_, rfl, by decide, .cons (.refl _) (.cons (.refl _) (.cons (.refl _) (.cons .ar (.cons (.refl _) .nil))))⟩, trivial⟩ ?_
        repeat' first | refine g_go T hC true 400 rfl rfl ?_ | (exfalso; simp at h; done) | refine g_cond rfl (fun h => ?_) (fun h => ?_) | refine g_idx T hC rfl rfl rfl (Int.natCast_nonneg _) (map_at ht) rfl rfl ?_ | refine g_call hC ((rIs_y ht hs)) rfl rfl (LeSs.refl _) rfl rfl rfl ?_ | refine g_call hC (hE) rfl rfl (LeSs.refl _) rfl rfl rfl ?_ | refine g_retl T (.inl rfl) rfl ?_ | refine g_outR ?_
        exact g_fin ⟨.inl rfl, id, _, rfl, .tup (.cons (.agg (.cons (.refl _) (.cons (.refl _) (.cons (.refl _) (.cons (.refl _) (.cons (.nil 5) .nil)))))) (.cons (.refl _) (.cons (.refl _) .nil))), trivial, rfl, rfl⟩
      rw [hy] at hz
      simp only at hz
      have hk2 := (fieldA_rg hl (k + 1) hk1).1 _ _ hy
      have hkk := field_fwd hy
      have hal' : (acc ++ [y]).length = acc.length + 1 := by simp
      unfold oneA at hd2 hz
      by_cases hq : isA l k2 (⟨#[59]⟩ : ByteArray) = true
      · rw [if_pos hq] at hd2 hz
        simp only at hz
        repeat' first | refine g_go T hC true 400 rfl rfl ?_ | (exfalso; simp at h; done) | refine g_cond rfl (fun h => ?_) (fun h => ?_) | refine g_idx T hC rfl rfl rfl (Int.natCast_nonneg _) (map_at ht) rfl rfl ?_ | refine g_call hC ((rIs_y ht hs)) rfl rfl (LeSs.refl _) rfl rfl rfl ?_ | refine g_call hC (hE) rfl rfl (LeSs.refl _) rfl rfl rfl ?_ | refine g_lit T hC (rows := [fieldR y]) rfl rfl rfl rfl rfl rfl rfl rfl rfl ?_ | (refine g_append T 102 hC (rows := acc.map fieldR) (rows2 := [fieldR y]) (rows3 := (acc ++ [y]).map fieldR) (bytes := 32) rfl rfl rfl rfl (SrcS.sl (T.es_ok _ _ rfl)) (by rw [List.map_append]; rfl) rfl rfl rfl (by kernel_rfl) (by rw [hal, List.length_singleton]; omega) (by rw [hal, List.length_singleton]; omega) rfl rfl rfl ?_) | refine g_call hC ((rone_y hl hq)) rfl rfl (LeSs.refl _) rfl rfl rfl ?_
        exact g_round (acc ++ [y], k2 + 1, g) ⟨isA_next hl hq, by simp only; omega, by simp only; omega, hd2, hz⟩ (mvP 101 102) (Nat.lt_succ_self _) ⟨rfl, ⟨rfl, rfl, rfl, rfl, trivial⟩, ⟨rfl, rfl, rfl, trivial⟩, rfl, fun i hi => mvP_low (by omega) hi⟩
      · rw [if_neg hq] at hd2 hz
        obtain ⟨rfl, rfl⟩ := pab_no hd2
        rw [hz rfl]
        repeat' first | refine g_go T hC true 400 rfl rfl ?_ | (exfalso; simp at h; done) | refine g_cond rfl (fun h => ?_) (fun h => ?_) | refine g_idx T hC rfl rfl rfl (Int.natCast_nonneg _) (map_at ht) rfl rfl ?_ | refine g_call hC ((rIs_y ht hs)) rfl rfl (LeSs.refl _) rfl rfl rfl ?_ | refine g_call hC (hE) rfl rfl (LeSs.refl _) rfl rfl rfl ?_ | refine g_lit T hC (rows := [fieldR y]) rfl rfl rfl rfl rfl rfl rfl rfl rfl ?_ | (refine g_append T 102 hC (rows := acc.map fieldR) (rows2 := [fieldR y]) (rows3 := (acc ++ [y]).map fieldR) (bytes := 32) rfl rfl rfl rfl (SrcS.sl (T.es_ok _ _ rfl)) (by rw [List.map_append]; rfl) rfl rfl rfl (by kernel_rfl) (by rw [hal, List.length_singleton]; omega) (by rw [hal, List.length_singleton]; omega) rfl rfl rfl ?_)
        refine g_freeze rfl (id := 102) (e := 2) (rows := (acc ++ [y]).map fieldR) rfl [] trivial [(1007, [.p (ks n), .p (fieldsP ps), .p (ks r), .p (fieldsP (acc ++ [y])), .p (.k (.slice none 0 0))])] ⟨⟨_, rfl, by decide, .cons (.refl _) (.cons (.refl _) (.cons (.refl _) (.cons .ar (.cons (.refl _) .nil))))⟩, trivial⟩ ?_
        repeat' first | refine g_go T hC true 400 rfl rfl ?_ | (exfalso; simp at h; done) | refine g_cond rfl (fun h => ?_) (fun h => ?_) | refine g_call hC ((rone_n hl hk2 hq)) rfl rfl (LeSs.refl _) rfl rfl rfl ?_ | refine g_retl T (.inl rfl) rfl ?_ | refine g_outR ?_
        exact g_fin ⟨.inl rfl, id, _, rfl, .tup (.cons (.agg (.cons (.refl _) (.cons (.refl _) (.cons (.refl _) (.cons (.refl _) (.cons (.nil 5) .nil)))))) (.cons (.refl _) (.cons (.refl _) .nil))), trivial, rfl, rfl⟩
    · rw [if_neg hs] at hd hz
      refine g_freeze rfl (id := 101) (e := 2) (rows := acc.map fieldR) rfl [] trivial [(1007, [.p (ks n), .p (fieldsP ps), .p (ks r), .p (fieldsP acc), .p (.k (.slice none 0 0))])] ⟨⟨_, rfl, by decide, .cons (.refl _) (.cons (.refl _) (.cons (.refl _) (.cons .ar (.cons (.refl _) .nil))))⟩, trivial⟩ ?_
      rcases RK0.at ((sr_all hl f).blk k hk) hd with ⟨bd, k6, hb, hd6, hB⟩ | ⟨_, rfl, hB⟩
      · obtain ⟨rfl, rfl, rfl⟩ := pab_ok hd6
        rw [hy1 rfl]
        repeat' first | refine g_go T hC true 400 rfl rfl ?_ | (exfalso; simp at h; done) | refine g_cond rfl (fun h => ?_) (fun h => ?_) | refine g_idx T hC rfl rfl rfl (Int.natCast_nonneg _) (map_at ht) rfl rfl ?_ | refine g_call hC ((rIs_n ht hs)) rfl rfl (LeSs.refl _) rfl rfl rfl ?_ | refine g_outE ?_ | refine g_call hC (hB) rfl rfl (LeSs.refl _) rfl rfl rfl ?_ | refine g_retl T (.inl rfl) rfl ?_
        exact g_fin ⟨.inl rfl, id, _, rfl, .refl _, trivial, rfl, rfl⟩
      · rw [hz rfl]
        repeat' first | refine g_go T hC true 400 rfl rfl ?_ | (exfalso; simp at h; done) | refine g_cond rfl (fun h => ?_) (fun h => ?_) | refine g_idx T hC rfl rfl rfl (Int.natCast_nonneg _) (map_at ht) rfl rfl ?_ | refine g_call hC ((rIs_n ht hs)) rfl rfl (LeSs.refl _) rfl rfl rfl ?_ | refine g_outE ?_ | refine g_call hC (hB) rfl rfl (LeSs.refl _) rfl rfl rfl ?_ | refine g_retl T (.inl rfl) rfl ?_
        exact g_fin ⟨.inl rfl, id, _, rfl, .refl _, trivial, rfl, rfl⟩
end
end Hw.Pa
namespace Hw.Pa
open Go Go.Proofs Hw.M

def dA (a : Nat) (d : Desc) : RL := [(a, .arr 2 (d.types.map nodeTR)), (a + 1, .arr 2 (d.globals.map fieldR)), (a + 2, .arr 5 (d.procs.map procR)), (a + 3, .arr 7 (d.measures.map measureR)), (a + 4, .arr 6 (d.invs.map invR)), (a + 5, .arr 5 (d.pots.map potR)), (a + 6, .arr 5 (d.bounds.map boundR))]
abbrev dV (a : Nat) (d : Desc) : S := .agg [.p (ks d.n), .ar a, .ar (a + 1), .ar (a + 2), .ar (a + 3), .ar (a + 4), .ar (a + 5), .ar (a + 6)]
def RI (l : List Tok) (i : Nat) (d : Desc) (r : PA Desc) : Prop :=
  ∀ (b : Bool) (x : Desc) (j : Nat), r = pab x j b → ∃ y, (b = true → y = x) ∧ FnOK Tryz.prog 83 [pS (toksP l), I (i : Nat), dV 0 d] (dA 0 d) (.tup [dV 7 y, I (j : Nat), Bo b]) (dA 7 y)
section
variable {l : List Tok} (hl : GoodL l)
include hl
set_option maxHeartbeats 1000000 in
theorem ritem_type (f i : Nat) (d : Desc) (hi : i < l.length) (hd : cntD d ≤ 2000000)  (hs : isA l i (⟨#[116, 121, 112, 101]⟩ : ByteArray) = true) : RI l i d (itemA l f i d) := by
  intro bf xf jf hR
  have hll := hl.len
  have hi1 := isA_next hl hs
  have hw : IntKind.i64.wrap ((i : Int) + 1) = ((i + 1 : Nat) : Int) := wrapS (by omega)
  obtain ⟨t, ht⟩ := exists_at hi
  unfold cntD at hd
  unfold itemA at hR
  rw [if_pos hs] at hR
  have cN := rname_ok hl (i + 1) hi1
  rw [← hw] at cN
  rcases RK.at cN hR with ⟨n, k1, e1, hd1, c1⟩ | ⟨_, rfl, z, c1⟩
  rotate_left
  · skip
    refine ⟨d, (fun h => by cases h), ?_⟩
    refine fn_ok T Tryz.func83 (by kernel_rfl) rfl rfl rfl rfl fun C hC => ?_
    repeat' first | refine g_go T hC true 400 rfl rfl ?_ | (exfalso; simp at h; done) | refine g_cond rfl (fun h => ?_) (fun h => ?_) | refine g_idx T hC rfl rfl rfl (Int.natCast_nonneg _) (map_at ht) rfl rfl ?_ | refine g_call hC ((rIs_y ht hs)) rfl rfl (LeSs.refl _) rfl rfl rfl ?_ | refine g_call hC (c1) rfl rfl (LeSs.refl _) rfl rfl rfl ?_ | refine g_retl T (.inl rfl) rfl ?_
    exact g_fin ⟨.inl rfl, nm [0, 1, 2, 3, 4, 5, 6, 0, 1, 2, 3, 4, 5, 6], _, rfl, .refl _, ⟨rfl, rfl, rfl, rfl, rfl, rfl, rfl, trivial⟩, rfl, rfl⟩
  have hk1 := name_lt2 hl e1
  by_cases q : isA l k1 ⟨#[123]⟩ = true
  rotate_left
  · rw [show oneA l ⟨#[123]⟩ k1 = .no k1 from if_neg q, noB] at hd1
    obtain ⟨rfl, rfl⟩ := pab_no hd1
    refine ⟨d, (fun h => by cases h), ?_⟩
    refine fn_ok T Tryz.func83 (by kernel_rfl) rfl rfl rfl rfl fun C hC => ?_
    repeat' first | refine g_go T hC true 400 rfl rfl ?_ | (exfalso; simp at h; done) | refine g_cond rfl (fun h => ?_) (fun h => ?_) | refine g_idx T hC rfl rfl rfl (Int.natCast_nonneg _) (map_at ht) rfl rfl ?_ | refine g_call hC ((rIs_y ht hs)) rfl rfl (LeSs.refl _) rfl rfl rfl ?_ | refine g_call hC (c1) rfl rfl (LeSs.refl _) rfl rfl rfl ?_ | refine g_call hC ((rone_n hl hk1 q)) rfl rfl (LeSs.refl _) rfl rfl rfl ?_ | refine g_retl T (.inl rfl) rfl ?_
    exact g_fin ⟨.inl rfl, nm [0, 1, 2, 3, 4, 5, 6, 0, 1, 2, 3, 4, 5, 6], _, rfl, .refl _, ⟨rfl, rfl, rfl, rfl, rfl, rfl, rfl, trivial⟩, rfl, rfl⟩
  rw [show oneA l ⟨#[123]⟩ k1 = .ok () (k1 + 1) from if_pos q, okB] at hd1
  rcases RK0.at (rfields_ok hl (⟨#[59]⟩ : ByteArray) ⟨#[125]⟩ f (k1 + 1) (isA_next hl q)) hd1 with ⟨fs, k3, e3, hd3, c3⟩ | ⟨_, rfl, c3⟩
  · obtain ⟨rfl, rfl, rfl⟩ := pab_ok hd3
    refine ⟨_, fun _ => rfl, ?_⟩
    refine fn_ok T Tryz.func83 (by kernel_rfl) rfl rfl rfl rfl fun C hC => ?_
    repeat' first | refine g_go T hC true 400 rfl rfl ?_ | (exfalso; simp at h; done) | refine g_cond rfl (fun h => ?_) (fun h => ?_) | refine g_idx T hC rfl rfl rfl (Int.natCast_nonneg _) (map_at ht) rfl rfl ?_ | refine g_call hC ((rIs_y ht hs)) rfl rfl (LeSs.refl _) rfl rfl rfl ?_ | refine g_call hC (c1) rfl rfl (LeSs.refl _) rfl rfl rfl ?_ | refine g_call hC ((rone_y hl q)) rfl rfl (LeSs.refl _) rfl rfl rfl ?_ | refine g_call hC (c3) rfl rfl (LeSs.refl _) rfl rfl rfl ?_ | refine g_lit T hC (rows := [nodeTR (⟨n, fs⟩ : NodeT)]) rfl rfl rfl rfl rfl rfl rfl rfl rfl ?_ | (refine g_append T 102 hC (rows := d.types.map nodeTR) (rows2 := [nodeTR (⟨n, fs⟩ : NodeT)]) (rows3 := (d.types ++ [(⟨n, fs⟩ : NodeT)]).map nodeTR) (bytes := 40) rfl rfl rfl rfl (SrcS.sl (T.es_ok _ _ rfl)) (by rw [List.map_append]; rfl) rfl rfl rfl (by kernel_rfl) (by rw [List.length_map, List.length_singleton]; omega) (by rw [List.length_map, List.length_singleton]; omega) rfl rfl rfl ?_) | refine g_retl T (.inl rfl) rfl ?_
    exact g_fin ⟨.inl rfl, nm [0, 1, 2, 3, 4, 5, 6, 102, 1, 2, 3, 4, 5, 6], _, rfl, .refl _, ⟨rfl, rfl, rfl, rfl, rfl, rfl, rfl, trivial⟩, rfl, rfl⟩
  · skip
    refine ⟨{ d with types := d.types ++ [⟨n, []⟩] }, (fun h => by cases h), ?_⟩
    refine fn_ok T Tryz.func83 (by kernel_rfl) rfl rfl rfl rfl fun C hC => ?_
    repeat' first | refine g_go T hC true 400 rfl rfl ?_ | (exfalso; simp at h; done) | refine g_cond rfl (fun h => ?_) (fun h => ?_) | refine g_idx T hC rfl rfl rfl (Int.natCast_nonneg _) (map_at ht) rfl rfl ?_ | refine g_call hC ((rIs_y ht hs)) rfl rfl (LeSs.refl _) rfl rfl rfl ?_ | refine g_call hC (c1) rfl rfl (LeSs.refl _) rfl rfl rfl ?_ | refine g_call hC ((rone_y hl q)) rfl rfl (LeSs.refl _) rfl rfl rfl ?_ | refine g_call hC (c3) rfl rfl (LeSs.refl _) rfl rfl rfl ?_ | refine g_lit T hC (rows := [nodeTR (⟨n, []⟩ : NodeT)]) rfl rfl rfl rfl rfl rfl rfl rfl rfl ?_ | (refine g_append T 102 hC (rows := d.types.map nodeTR) (rows2 := [nodeTR (⟨n, []⟩ : NodeT)]) (rows3 := (d.types ++ [(⟨n, []⟩ : NodeT)]).map nodeTR) (bytes := 40) rfl rfl rfl rfl (SrcS.sl (T.es_ok _ _ rfl)) (by rw [List.map_append]; rfl) rfl rfl rfl (by kernel_rfl) (by rw [List.length_map, List.length_singleton]; omega) (by rw [List.length_map, List.length_singleton]; omega) rfl rfl rfl ?_) | refine g_retl T (.inl rfl) rfl ?_
    exact g_fin ⟨.inl rfl, nm [0, 1, 2, 3, 4, 5, 6, 102, 1, 2, 3, 4, 5, 6], _, rfl, .refl _, ⟨rfl, rfl, rfl, rfl, rfl, rfl, rfl, trivial⟩, rfl, rfl⟩
set_option maxHeartbeats 1000000 in
theorem ritem_var (f i : Nat) (d : Desc) (hi : i < l.length) (hd : cntD d ≤ 2000000) (h1 : ¬ isA l i (⟨#[116, 121, 112, 101]⟩ : ByteArray) = true) (hs : isA l i (⟨#[118, 97, 114]⟩ : ByteArray) = true) : RI l i d (itemA l f i d) := by
  intro bf xf jf hR
  have hll := hl.len
  have hi1 := isA_next hl hs
  have hw : IntKind.i64.wrap ((i : Int) + 1) = ((i + 1 : Nat) : Int) := wrapS (by omega)
  obtain ⟨t, ht⟩ := exists_at hi
  unfold cntD at hd
  unfold itemA at hR
  rw [if_neg h1] at hR
  rw [if_pos hs] at hR
  have cN := rfield_ok hl (i + 1) hi1
  rw [← hw] at cN
  rcases RK.at cN hR with ⟨x, k1, e1, hd1, c1⟩ | ⟨_, rfl, z, c1⟩
  · obtain ⟨rfl, rfl, rfl⟩ := pab_ok hd1
    refine ⟨_, fun _ => rfl, ?_⟩
    refine fn_ok T Tryz.func83 (by kernel_rfl) rfl rfl rfl rfl fun C hC => ?_
    repeat' first | refine g_go T hC true 400 rfl rfl ?_ | (exfalso; simp at h; done) | refine g_cond rfl (fun h => ?_) (fun h => ?_) | refine g_idx T hC rfl rfl rfl (Int.natCast_nonneg _) (map_at ht) rfl rfl ?_ | refine g_call hC ((rIs_n ht h1)) rfl rfl (LeSs.refl _) rfl rfl rfl ?_ | refine g_call hC ((rIs_y ht hs)) rfl rfl (LeSs.refl _) rfl rfl rfl ?_ | refine g_call hC (c1) rfl rfl (LeSs.refl _) rfl rfl rfl ?_ | refine g_lit T hC (rows := [fieldR x]) rfl rfl rfl rfl rfl rfl rfl rfl rfl ?_ | (refine g_append T 102 hC (rows := d.globals.map fieldR) (rows2 := [fieldR x]) (rows3 := (d.globals ++ [x]).map fieldR) (bytes := 32) rfl rfl rfl rfl (SrcS.sl (T.es_ok _ _ rfl)) (by rw [List.map_append]; rfl) rfl rfl rfl (by kernel_rfl) (by rw [List.length_map, List.length_singleton]; omega) (by rw [List.length_map, List.length_singleton]; omega) rfl rfl rfl ?_) | refine g_retl T (.inl rfl) rfl ?_
    exact g_fin ⟨.inl rfl, nm [0, 1, 2, 3, 4, 5, 6, 0, 102, 2, 3, 4, 5, 6], _, rfl, .refl _, ⟨rfl, rfl, rfl, rfl, rfl, rfl, rfl, trivial⟩, rfl, rfl⟩
  · skip
    refine ⟨{ d with globals := d.globals ++ [z] }, (fun h => by cases h), ?_⟩
    refine fn_ok T Tryz.func83 (by kernel_rfl) rfl rfl rfl rfl fun C hC => ?_
    repeat' first | refine g_go T hC true 400 rfl rfl ?_ | (exfalso; simp at h; done) | refine g_cond rfl (fun h => ?_) (fun h => ?_) | refine g_idx T hC rfl rfl rfl (Int.natCast_nonneg _) (map_at ht) rfl rfl ?_ | refine g_call hC ((rIs_n ht h1)) rfl rfl (LeSs.refl _) rfl rfl rfl ?_ | refine g_call hC ((rIs_y ht hs)) rfl rfl (LeSs.refl _) rfl rfl rfl ?_ | refine g_call hC (c1) rfl rfl (LeSs.refl _) rfl rfl rfl ?_ | refine g_lit T hC (rows := [fieldR z]) rfl rfl rfl rfl rfl rfl rfl rfl rfl ?_ | (refine g_append T 102 hC (rows := d.globals.map fieldR) (rows2 := [fieldR z]) (rows3 := (d.globals ++ [z]).map fieldR) (bytes := 32) rfl rfl rfl rfl (SrcS.sl (T.es_ok _ _ rfl)) (by rw [List.map_append]; rfl) rfl rfl rfl (by kernel_rfl) (by rw [List.length_map, List.length_singleton]; omega) (by rw [List.length_map, List.length_singleton]; omega) rfl rfl rfl ?_) | refine g_retl T (.inl rfl) rfl ?_
    exact g_fin ⟨.inl rfl, nm [0, 1, 2, 3, 4, 5, 6, 0, 102, 2, 3, 4, 5, 6], _, rfl, .refl _, ⟨rfl, rfl, rfl, rfl, rfl, rfl, rfl, trivial⟩, rfl, rfl⟩
set_option maxHeartbeats 1000000 in
theorem ritem_proc (f i : Nat) (d : Desc) (hi : i < l.length) (hd : cntD d ≤ 2000000) (h1 : ¬ isA l i (⟨#[116, 121, 112, 101]⟩ : ByteArray) = true) (h2 : ¬ isA l i (⟨#[118, 97, 114]⟩ : ByteArray) = true) (hs : isA l i (⟨#[112, 114, 111, 99]⟩ : ByteArray) = true) : RI l i d (itemA l f i d) := by
  intro bf xf jf hR
  have hll := hl.len
  have hi1 := isA_next hl hs
  have hw : IntKind.i64.wrap ((i : Int) + 1) = ((i + 1 : Nat) : Int) := wrapS (by omega)
  obtain ⟨t, ht⟩ := exists_at hi
  unfold cntD at hd
  unfold itemA at hR
  rw [if_neg h1] at hR
  rw [if_neg h2] at hR
  rw [if_pos hs] at hR
  have cN := rproc_ok hl f (i + 1) hi1
  rw [← hw] at cN
  rcases RK.at cN hR with ⟨x, k1, e1, hd1, c1⟩ | ⟨_, rfl, z, c1⟩
  · obtain ⟨rfl, rfl, rfl⟩ := pab_ok hd1
    refine ⟨_, fun _ => rfl, ?_⟩
    refine fn_ok T Tryz.func83 (by kernel_rfl) rfl rfl rfl rfl fun C hC => ?_
    repeat' first | refine g_go T hC true 400 rfl rfl ?_ | (exfalso; simp at h; done) | refine g_cond rfl (fun h => ?_) (fun h => ?_) | refine g_idx T hC rfl rfl rfl (Int.natCast_nonneg _) (map_at ht) rfl rfl ?_ | refine g_call hC ((rIs_n ht h1)) rfl rfl (LeSs.refl _) rfl rfl rfl ?_ | refine g_call hC ((rIs_n ht h2)) rfl rfl (LeSs.refl _) rfl rfl rfl ?_ | refine g_call hC ((rIs_y ht hs)) rfl rfl (LeSs.refl _) rfl rfl rfl ?_ | refine g_call hC (c1) rfl rfl (LeSs.refl _) rfl rfl rfl ?_ | refine g_lit T hC (rows := [procR x]) rfl rfl rfl rfl rfl rfl rfl rfl rfl ?_ | (refine g_append T 102 hC (rows := d.procs.map procR) (rows2 := [procR x]) (rows3 := (d.procs ++ [x]).map procR) (bytes := 104) rfl rfl rfl rfl (SrcS.sl (T.es_ok _ _ rfl)) (by rw [List.map_append]; rfl) rfl rfl rfl (by kernel_rfl) (by rw [List.length_map, List.length_singleton]; omega) (by rw [List.length_map, List.length_singleton]; omega) rfl rfl rfl ?_) | refine g_retl T (.inl rfl) rfl ?_
    exact g_fin ⟨.inl rfl, nm [0, 1, 2, 3, 4, 5, 6, 0, 1, 102, 3, 4, 5, 6], _, rfl, .refl _, ⟨rfl, rfl, rfl, rfl, rfl, rfl, rfl, trivial⟩, rfl, rfl⟩
  · skip
    refine ⟨{ d with procs := d.procs ++ [z] }, (fun h => by cases h), ?_⟩
    refine fn_ok T Tryz.func83 (by kernel_rfl) rfl rfl rfl rfl fun C hC => ?_
    repeat' first | refine g_go T hC true 400 rfl rfl ?_ | (exfalso; simp at h; done) | refine g_cond rfl (fun h => ?_) (fun h => ?_) | refine g_idx T hC rfl rfl rfl (Int.natCast_nonneg _) (map_at ht) rfl rfl ?_ | refine g_call hC ((rIs_n ht h1)) rfl rfl (LeSs.refl _) rfl rfl rfl ?_ | refine g_call hC ((rIs_n ht h2)) rfl rfl (LeSs.refl _) rfl rfl rfl ?_ | refine g_call hC ((rIs_y ht hs)) rfl rfl (LeSs.refl _) rfl rfl rfl ?_ | refine g_call hC (c1) rfl rfl (LeSs.refl _) rfl rfl rfl ?_ | refine g_lit T hC (rows := [procR z]) rfl rfl rfl rfl rfl rfl rfl rfl rfl ?_ | (refine g_append T 102 hC (rows := d.procs.map procR) (rows2 := [procR z]) (rows3 := (d.procs ++ [z]).map procR) (bytes := 104) rfl rfl rfl rfl (SrcS.sl (T.es_ok _ _ rfl)) (by rw [List.map_append]; rfl) rfl rfl rfl (by kernel_rfl) (by rw [List.length_map, List.length_singleton]; omega) (by rw [List.length_map, List.length_singleton]; omega) rfl rfl rfl ?_) | refine g_retl T (.inl rfl) rfl ?_
    exact g_fin ⟨.inl rfl, nm [0, 1, 2, 3, 4, 5, 6, 0, 1, 102, 3, 4, 5, 6], _, rfl, .refl _, ⟨rfl, rfl, rfl, rfl, rfl, rfl, rfl, trivial⟩, rfl, rfl⟩
set_option maxHeartbeats 1000000 in
theorem ritem_measure (f i : Nat) (d : Desc) (hi : i < l.length) (hd : cntD d ≤ 2000000) (h1 : ¬ isA l i (⟨#[116, 121, 112, 101]⟩ : ByteArray) = true) (h2 : ¬ isA l i (⟨#[118, 97, 114]⟩ : ByteArray) = true) (h3 : ¬ isA l i (⟨#[112, 114, 111, 99]⟩ : ByteArray) = true) (hs : isA l i (⟨#[109, 101, 97, 115, 117, 114, 101]⟩ : ByteArray) = true) : RI l i d (itemA l f i d) := by
  intro bf xf jf hR
  have hll := hl.len
  have hi1 := isA_next hl hs
  have hw : IntKind.i64.wrap ((i : Int) + 1) = ((i + 1 : Nat) : Int) := wrapS (by omega)
  obtain ⟨t, ht⟩ := exists_at hi
  unfold cntD at hd
  unfold itemA at hR
  rw [if_neg h1] at hR
  rw [if_neg h2] at hR
  rw [if_neg h3] at hR
  rw [if_pos hs] at hR
  have cN := rmeasure_ok hl f (i + 1) hi1
  rw [← hw] at cN
  rcases RK.at cN hR with ⟨x, k1, e1, hd1, c1⟩ | ⟨_, rfl, z, c1⟩
  · obtain ⟨rfl, rfl, rfl⟩ := pab_ok hd1
    refine ⟨_, fun _ => rfl, ?_⟩
    refine fn_ok T Tryz.func83 (by kernel_rfl) rfl rfl rfl rfl fun C hC => ?_
    repeat' first | refine g_go T hC true 400 rfl rfl ?_ | (exfalso; simp at h; done) | refine g_cond rfl (fun h => ?_) (fun h => ?_) | refine g_idx T hC rfl rfl rfl (Int.natCast_nonneg _) (map_at ht) rfl rfl ?_ | refine g_call hC ((rIs_n ht h1)) rfl rfl (LeSs.refl _) rfl rfl rfl ?_ | refine g_call hC ((rIs_n ht h2)) rfl rfl (LeSs.refl _) rfl rfl rfl ?_ | refine g_call hC ((rIs_n ht h3)) rfl rfl (LeSs.refl _) rfl rfl rfl ?_ | refine g_call hC ((rIs_y ht hs)) rfl rfl (LeSs.refl _) rfl rfl rfl ?_ | refine g_call hC (c1) rfl rfl (LeSs.refl _) rfl rfl rfl ?_ | refine g_lit T hC (rows := [measureR x]) rfl rfl rfl rfl rfl rfl rfl rfl rfl ?_ | (refine g_append T 102 hC (rows := d.measures.map measureR) (rows2 := [measureR x]) (rows3 := (d.measures ++ [x]).map measureR) (bytes := 96) rfl rfl rfl rfl (SrcS.sl (T.es_ok _ _ rfl)) (by rw [List.map_append]; rfl) rfl rfl rfl (by kernel_rfl) (by rw [List.length_map, List.length_singleton]; omega) (by rw [List.length_map, List.length_singleton]; omega) rfl rfl rfl ?_) | refine g_retl T (.inl rfl) rfl ?_
    exact g_fin ⟨.inl rfl, nm [0, 1, 2, 3, 4, 5, 6, 0, 1, 2, 102, 4, 5, 6], _, rfl, .refl _, ⟨rfl, rfl, rfl, rfl, rfl, rfl, rfl, trivial⟩, rfl, rfl⟩
  · skip
    refine ⟨{ d with measures := d.measures ++ [z] }, (fun h => by cases h), ?_⟩
    refine fn_ok T Tryz.func83 (by kernel_rfl) rfl rfl rfl rfl fun C hC => ?_
    repeat' first | refine g_go T hC true 400 rfl rfl ?_ | (exfalso; simp at h; done) | refine g_cond rfl (fun h => ?_) (fun h => ?_) | refine g_idx T hC rfl rfl rfl (Int.natCast_nonneg _) (map_at ht) rfl rfl ?_ | refine g_call hC ((rIs_n ht h1)) rfl rfl (LeSs.refl _) rfl rfl rfl ?_ | refine g_call hC ((rIs_n ht h2)) rfl rfl (LeSs.refl _) rfl rfl rfl ?_ | refine g_call hC ((rIs_n ht h3)) rfl rfl (LeSs.refl _) rfl rfl rfl ?_ | refine g_call hC ((rIs_y ht hs)) rfl rfl (LeSs.refl _) rfl rfl rfl ?_ | refine g_call hC (c1) rfl rfl (LeSs.refl _) rfl rfl rfl ?_ | refine g_lit T hC (rows := [measureR z]) rfl rfl rfl rfl rfl rfl rfl rfl rfl ?_ | (refine g_append T 102 hC (rows := d.measures.map measureR) (rows2 := [measureR z]) (rows3 := (d.measures ++ [z]).map measureR) (bytes := 96) rfl rfl rfl rfl (SrcS.sl (T.es_ok _ _ rfl)) (by rw [List.map_append]; rfl) rfl rfl rfl (by kernel_rfl) (by rw [List.length_map, List.length_singleton]; omega) (by rw [List.length_map, List.length_singleton]; omega) rfl rfl rfl ?_) | refine g_retl T (.inl rfl) rfl ?_
    exact g_fin ⟨.inl rfl, nm [0, 1, 2, 3, 4, 5, 6, 0, 1, 2, 102, 4, 5, 6], _, rfl, .refl _, ⟨rfl, rfl, rfl, rfl, rfl, rfl, rfl, trivial⟩, rfl, rfl⟩
set_option maxHeartbeats 1000000 in
theorem ritem_bound (f i : Nat) (d : Desc) (hi : i < l.length) (hd : cntD d ≤ 2000000) (h1 : ¬ isA l i (⟨#[116, 121, 112, 101]⟩ : ByteArray) = true) (h2 : ¬ isA l i (⟨#[118, 97, 114]⟩ : ByteArray) = true) (h3 : ¬ isA l i (⟨#[112, 114, 111, 99]⟩ : ByteArray) = true) (h4 : ¬ isA l i (⟨#[109, 101, 97, 115, 117, 114, 101]⟩ : ByteArray) = true) (h5 : ¬ isA l i (⟨#[105, 110, 118, 97, 114, 105, 97, 110, 116]⟩ : ByteArray) = true) (h6 : ¬ isA l i (⟨#[112, 111, 116, 101, 110, 116, 105, 97, 108]⟩ : ByteArray) = true) (hs : isA l i (⟨#[98, 111, 117, 110, 100]⟩ : ByteArray) = true) : RI l i d (itemA l f i d) := by
  intro bf xf jf hR
  have hll := hl.len
  have hi1 := isA_next hl hs
  have hw : IntKind.i64.wrap ((i : Int) + 1) = ((i + 1 : Nat) : Int) := wrapS (by omega)
  obtain ⟨t, ht⟩ := exists_at hi
  unfold cntD at hd
  unfold itemA at hR
  rw [if_neg h1] at hR
  rw [if_neg h2] at hR
  rw [if_neg h3] at hR
  rw [if_neg h4] at hR
  rw [if_neg h5] at hR
  rw [if_neg h6] at hR
  rw [if_pos hs] at hR
  have cN := rname_ok hl (i + 1) hi1
  rw [← hw] at cN
  rcases RK.at cN hR with ⟨n, k1, e1, hd1, c1⟩ | ⟨_, rfl, z, c1⟩
  rotate_left
  · skip
    refine ⟨d, (fun h => by cases h), ?_⟩
    refine fn_ok T Tryz.func83 (by kernel_rfl) rfl rfl rfl rfl fun C hC => ?_
    repeat' first | refine g_go T hC true 400 rfl rfl ?_ | (exfalso; simp at h; done) | refine g_cond rfl (fun h => ?_) (fun h => ?_) | refine g_idx T hC rfl rfl rfl (Int.natCast_nonneg _) (map_at ht) rfl rfl ?_ | refine g_call hC ((rIs_n ht h1)) rfl rfl (LeSs.refl _) rfl rfl rfl ?_ | refine g_call hC ((rIs_n ht h2)) rfl rfl (LeSs.refl _) rfl rfl rfl ?_ | refine g_call hC ((rIs_n ht h3)) rfl rfl (LeSs.refl _) rfl rfl rfl ?_ | refine g_call hC ((rIs_n ht h4)) rfl rfl (LeSs.refl _) rfl rfl rfl ?_ | refine g_call hC ((rIs_n ht h5)) rfl rfl (LeSs.refl _) rfl rfl rfl ?_ | refine g_call hC ((rIs_n ht h6)) rfl rfl (LeSs.refl _) rfl rfl rfl ?_ | refine g_call hC ((rIs_y ht hs)) rfl rfl (LeSs.refl _) rfl rfl rfl ?_ | refine g_call hC (c1) rfl rfl (LeSs.refl _) rfl rfl rfl ?_ | refine g_retl T (.inl rfl) rfl ?_
    exact g_fin ⟨.inl rfl, nm [0, 1, 2, 3, 4, 5, 6, 0, 1, 2, 3, 4, 5, 6], _, rfl, .refl _, ⟨rfl, rfl, rfl, rfl, rfl, rfl, rfl, trivial⟩, rfl, rfl⟩
  have hk1 := name_lt2 hl e1
  unfold formulaA at hd1
  by_cases qe : isA l k1 (⟨#[61]⟩ : ByteArray) = true
  rotate_left
  · rw [show oneA l (⟨#[61]⟩ : ByteArray) k1 = .no k1 from if_neg qe, noB, noB] at hd1
    obtain ⟨rfl, rfl⟩ := pab_no hd1
    have cO := rone_n hl hk1 qe
    skip
    refine ⟨d, (fun h => by cases h), ?_⟩
    refine fn_ok T Tryz.func83 (by kernel_rfl) rfl rfl rfl rfl fun C hC => ?_
    repeat' first | refine g_go T hC true 400 rfl rfl ?_ | (exfalso; simp at h; done) | refine g_cond rfl (fun h => ?_) (fun h => ?_) | refine g_idx T hC rfl rfl rfl (Int.natCast_nonneg _) (map_at ht) rfl rfl ?_ | refine g_call hC ((rIs_n ht h1)) rfl rfl (LeSs.refl _) rfl rfl rfl ?_ | refine g_call hC ((rIs_n ht h2)) rfl rfl (LeSs.refl _) rfl rfl rfl ?_ | refine g_call hC ((rIs_n ht h3)) rfl rfl (LeSs.refl _) rfl rfl rfl ?_ | refine g_call hC ((rIs_n ht h4)) rfl rfl (LeSs.refl _) rfl rfl rfl ?_ | refine g_call hC ((rIs_n ht h5)) rfl rfl (LeSs.refl _) rfl rfl rfl ?_ | refine g_call hC ((rIs_n ht h6)) rfl rfl (LeSs.refl _) rfl rfl rfl ?_ | refine g_call hC ((rIs_y ht hs)) rfl rfl (LeSs.refl _) rfl rfl rfl ?_ | refine g_call hC (c1) rfl rfl (LeSs.refl _) rfl rfl rfl ?_ | refine g_call hC (cO) rfl rfl (LeSs.refl _) rfl rfl rfl ?_ | refine g_retl T (.inl rfl) rfl ?_
    skip
    exact g_fin ⟨.inl rfl, nm [0, 1, 2, 3, 4, 5, 6, 0, 1, 2, 3, 4, 5, 6], _, rfl, .refl _, ⟨rfl, rfl, rfl, rfl, rfl, rfl, rfl, trivial⟩, rfl, rfl⟩
  rw [show oneA l (⟨#[61]⟩ : ByteArray) k1 = .ok () (k1 + 1) from if_pos qe, okB] at hd1
  have cO := rone_y hl qe
  skip
  rcases RK0.at (rExpr_ok hl (er_all hl f) (k1 + 1) (isA_next hl qe)) hd1 with ⟨x, k9, e9, hd9, c9⟩ | ⟨_, rfl, c9⟩
  · obtain ⟨rfl, rfl, rfl⟩ := pab_ok hd9
    refine ⟨_, fun _ => rfl, ?_⟩
    refine fn_ok T Tryz.func83 (by kernel_rfl) rfl rfl rfl rfl fun C hC => ?_
    repeat' first | refine g_go T hC true 400 rfl rfl ?_ | (exfalso; simp at h; done) | refine g_cond rfl (fun h => ?_) (fun h => ?_) | refine g_idx T hC rfl rfl rfl (Int.natCast_nonneg _) (map_at ht) rfl rfl ?_ | refine g_call hC ((rIs_n ht h1)) rfl rfl (LeSs.refl _) rfl rfl rfl ?_ | refine g_call hC ((rIs_n ht h2)) rfl rfl (LeSs.refl _) rfl rfl rfl ?_ | refine g_call hC ((rIs_n ht h3)) rfl rfl (LeSs.refl _) rfl rfl rfl ?_ | refine g_call hC ((rIs_n ht h4)) rfl rfl (LeSs.refl _) rfl rfl rfl ?_ | refine g_call hC ((rIs_n ht h5)) rfl rfl (LeSs.refl _) rfl rfl rfl ?_ | refine g_call hC ((rIs_n ht h6)) rfl rfl (LeSs.refl _) rfl rfl rfl ?_ | refine g_call hC ((rIs_y ht hs)) rfl rfl (LeSs.refl _) rfl rfl rfl ?_ | refine g_call hC (c1) rfl rfl (LeSs.refl _) rfl rfl rfl ?_ | refine g_call hC (cO) rfl rfl (LeSs.refl _) rfl rfl rfl ?_ | refine g_call hC (c9) rfl rfl (LeSs.refl _) rfl rfl rfl ?_ | refine g_lit T hC (rows := [boundR (⟨n, x⟩ : Bd)]) rfl rfl rfl rfl rfl rfl rfl rfl rfl ?_ | (refine g_append T 102 hC (rows := d.bounds.map boundR) (rows2 := [boundR (⟨n, x⟩ : Bd)]) (rows3 := (d.bounds ++ [(⟨n, x⟩ : Bd)]).map boundR) (bytes := 72) rfl rfl rfl rfl (SrcS.sl (T.es_ok _ _ rfl)) (by rw [List.map_append]; rfl) rfl rfl rfl (by kernel_rfl) (by rw [List.length_map, List.length_singleton]; omega) (by rw [List.length_map, List.length_singleton]; omega) rfl rfl rfl ?_) | refine g_retl T (.inl rfl) rfl ?_
    exact g_fin ⟨.inl rfl, nm [0, 1, 2, 3, 4, 5, 6, 0, 1, 2, 3, 4, 5, 102], _, rfl, .refl _, ⟨rfl, rfl, rfl, rfl, rfl, rfl, rfl, trivial⟩, rfl, rfl⟩
  · refine ⟨{ d with bounds := d.bounds ++ [⟨n, E0⟩] }, (fun h => by cases h), ?_⟩
    refine fn_ok T Tryz.func83 (by kernel_rfl) rfl rfl rfl rfl fun C hC => ?_
    repeat' first | refine g_go T hC true 400 rfl rfl ?_ | (exfalso; simp at h; done) | refine g_cond rfl (fun h => ?_) (fun h => ?_) | refine g_idx T hC rfl rfl rfl (Int.natCast_nonneg _) (map_at ht) rfl rfl ?_ | refine g_call hC ((rIs_n ht h1)) rfl rfl (LeSs.refl _) rfl rfl rfl ?_ | refine g_call hC ((rIs_n ht h2)) rfl rfl (LeSs.refl _) rfl rfl rfl ?_ | refine g_call hC ((rIs_n ht h3)) rfl rfl (LeSs.refl _) rfl rfl rfl ?_ | refine g_call hC ((rIs_n ht h4)) rfl rfl (LeSs.refl _) rfl rfl rfl ?_ | refine g_call hC ((rIs_n ht h5)) rfl rfl (LeSs.refl _) rfl rfl rfl ?_ | refine g_call hC ((rIs_n ht h6)) rfl rfl (LeSs.refl _) rfl rfl rfl ?_ | refine g_call hC ((rIs_y ht hs)) rfl rfl (LeSs.refl _) rfl rfl rfl ?_ | refine g_call hC (c1) rfl rfl (LeSs.refl _) rfl rfl rfl ?_ | refine g_call hC (cO) rfl rfl (LeSs.refl _) rfl rfl rfl ?_ | refine g_call hC (c9) rfl rfl (LeSs.refl _) rfl rfl rfl ?_ | refine g_lit T hC (rows := [boundR (⟨n, E0⟩ : Bd)]) rfl rfl rfl rfl rfl rfl rfl rfl rfl ?_ | (refine g_append T 102 hC (rows := d.bounds.map boundR) (rows2 := [boundR (⟨n, E0⟩ : Bd)]) (rows3 := (d.bounds ++ [(⟨n, E0⟩ : Bd)]).map boundR) (bytes := 72) rfl rfl rfl rfl (SrcS.sl (T.es_ok _ _ rfl)) (by rw [List.map_append]; rfl) rfl rfl rfl (by kernel_rfl) (by rw [List.length_map, List.length_singleton]; omega) (by rw [List.length_map, List.length_singleton]; omega) rfl rfl rfl ?_) | refine g_retl T (.inl rfl) rfl ?_
    exact g_fin ⟨.inl rfl, nm [0, 1, 2, 3, 4, 5, 6, 0, 1, 2, 3, 4, 5, 102], _, rfl, .refl _, ⟨rfl, rfl, rfl, rfl, rfl, rfl, rfl, trivial⟩, rfl, rfl⟩
set_option maxHeartbeats 1000000 in
theorem ritem_potential (f i : Nat) (d : Desc) (hi : i < l.length) (hd : cntD d ≤ 2000000) (h1 : ¬ isA l i (⟨#[116, 121, 112, 101]⟩ : ByteArray) = true) (h2 : ¬ isA l i (⟨#[118, 97, 114]⟩ : ByteArray) = true) (h3 : ¬ isA l i (⟨#[112, 114, 111, 99]⟩ : ByteArray) = true) (h4 : ¬ isA l i (⟨#[109, 101, 97, 115, 117, 114, 101]⟩ : ByteArray) = true) (h5 : ¬ isA l i (⟨#[105, 110, 118, 97, 114, 105, 97, 110, 116]⟩ : ByteArray) = true) (hs : isA l i (⟨#[112, 111, 116, 101, 110, 116, 105, 97, 108]⟩ : ByteArray) = true) : RI l i d (itemA l f i d) := by
  intro bf xf jf hR
  have hll := hl.len
  have hi1 := isA_next hl hs
  have hw : IntKind.i64.wrap ((i : Int) + 1) = ((i + 1 : Nat) : Int) := wrapS (by omega)
  obtain ⟨t, ht⟩ := exists_at hi
  unfold cntD at hd
  unfold itemA at hR
  rw [if_neg h1] at hR
  rw [if_neg h2] at hR
  rw [if_neg h3] at hR
  rw [if_neg h4] at hR
  rw [if_neg h5] at hR
  rw [if_pos hs] at hR
  obtain ⟨⟨uk, us, un, ul, uc⟩, hu1⟩ := exists_at hi1
  have hw2 : i + 1 + 1 < l.length → IntKind.i64.wrap (IntKind.i64.wrap ((i : Int) + 1) + 1) = ((i + 1 + 1 : Nat) : Int) := fun _ => by rw [hw]; exact wrapS (by omega)
  by_cases hk : uk = 1
  · subst hk
    have hne : ¬ isA l (i + 1) (⟨#[61]⟩ : ByteArray) = true := by
      intro h
      unfold isA at h
      rw [hu1] at h
      simp at h
    have hk2 : i + 1 + 1 < l.length := hl.next hu1 (by show (1 : Int) ≠ 5; decide)
    rw [if_neg hne, show nameA l (i + 1) = .ok us (i + 1 + 1) from by unfold nameA; rw [hu1]; exact if_pos rfl, okB] at hR
    unfold formulaA at hR
    by_cases qe : isA l (i + 1 + 1) (⟨#[61]⟩ : ByteArray) = true
    rotate_left
    · rw [show oneA l (⟨#[61]⟩ : ByteArray) (i + 1 + 1) = .no (i + 1 + 1) from if_neg qe, noB, noB] at hR
      obtain ⟨rfl, rfl⟩ := pab_no hR
      have cO := rone_n hl hk2 qe
      rw [← hw2 hk2] at cO
      refine ⟨d, (fun h => by cases h), ?_⟩
      refine fn_ok T Tryz.func83 (by kernel_rfl) rfl rfl rfl rfl fun C hC => ?_
      repeat' first | refine g_go T hC true 400 rfl rfl ?_ | (exfalso; simp at h; done) | refine g_cond rfl (fun h => ?_) (fun h => ?_) | refine g_idx T hC rfl rfl rfl (Int.natCast_nonneg _) (map_at ht) rfl rfl ?_ | refine g_call hC ((rIs_n ht h1)) rfl rfl (LeSs.refl _) rfl rfl rfl ?_ | refine g_call hC ((rIs_n ht h2)) rfl rfl (LeSs.refl _) rfl rfl rfl ?_ | refine g_call hC ((rIs_n ht h3)) rfl rfl (LeSs.refl _) rfl rfl rfl ?_ | refine g_call hC ((rIs_n ht h4)) rfl rfl (LeSs.refl _) rfl rfl rfl ?_ | refine g_call hC ((rIs_n ht h5)) rfl rfl (LeSs.refl _) rfl rfl rfl ?_ | refine g_call hC ((rIs_y ht hs)) rfl rfl (LeSs.refl _) rfl rfl rfl ?_ | refine g_idx T hC (i := IntKind.i64.wrap ((i : Int) + 1)) rfl rfl rfl (by rw [hw]; exact Int.natCast_nonneg _) (by rw [hw]; exact map_at hu1) rfl rfl ?_ | refine g_call hC (cO) rfl rfl (LeSs.refl _) rfl rfl rfl ?_ | refine g_retl T (.inl rfl) rfl ?_
      rw [hw2 hk2]
      exact g_fin ⟨.inl rfl, nm [0, 1, 2, 3, 4, 5, 6, 0, 1, 2, 3, 4, 5, 6], _, rfl, .refl _, ⟨rfl, rfl, rfl, rfl, rfl, rfl, rfl, trivial⟩, rfl, rfl⟩
    rw [show oneA l (⟨#[61]⟩ : ByteArray) (i + 1 + 1) = .ok () ((i + 1 + 1) + 1) from if_pos qe, okB] at hR
    have cO := rone_y hl qe
    rw [← hw2 hk2] at cO
    rcases RK0.at (rExpr_ok hl (er_all hl f) ((i + 1 + 1) + 1) (isA_next hl qe)) hR with ⟨x, k9, e9, hd9, c9⟩ | ⟨_, rfl, c9⟩
    · obtain ⟨rfl, rfl, rfl⟩ := pab_ok hd9
      refine ⟨_, fun _ => rfl, ?_⟩
      refine fn_ok T Tryz.func83 (by kernel_rfl) rfl rfl rfl rfl fun C hC => ?_
      repeat' first | refine g_go T hC true 400 rfl rfl ?_ | (exfalso; simp at h; done) | refine g_cond rfl (fun h => ?_) (fun h => ?_) | refine g_idx T hC rfl rfl rfl (Int.natCast_nonneg _) (map_at ht) rfl rfl ?_ | refine g_call hC ((rIs_n ht h1)) rfl rfl (LeSs.refl _) rfl rfl rfl ?_ | refine g_call hC ((rIs_n ht h2)) rfl rfl (LeSs.refl _) rfl rfl rfl ?_ | refine g_call hC ((rIs_n ht h3)) rfl rfl (LeSs.refl _) rfl rfl rfl ?_ | refine g_call hC ((rIs_n ht h4)) rfl rfl (LeSs.refl _) rfl rfl rfl ?_ | refine g_call hC ((rIs_n ht h5)) rfl rfl (LeSs.refl _) rfl rfl rfl ?_ | refine g_call hC ((rIs_y ht hs)) rfl rfl (LeSs.refl _) rfl rfl rfl ?_ | refine g_idx T hC (i := IntKind.i64.wrap ((i : Int) + 1)) rfl rfl rfl (by rw [hw]; exact Int.natCast_nonneg _) (by rw [hw]; exact map_at hu1) rfl rfl ?_ | refine g_call hC (cO) rfl rfl (LeSs.refl _) rfl rfl rfl ?_ | refine g_call hC (c9) rfl rfl (LeSs.refl _) rfl rfl rfl ?_ | refine g_lit T hC (rows := [potR (⟨us, x⟩ : Pt)]) rfl rfl rfl rfl rfl rfl rfl rfl rfl ?_ | (refine g_append T 102 hC (rows := d.pots.map potR) (rows2 := [potR (⟨us, x⟩ : Pt)]) (rows3 := (d.pots ++ [(⟨us, x⟩ : Pt)]).map potR) (bytes := 72) rfl rfl rfl rfl (SrcS.sl (T.es_ok _ _ rfl)) (by rw [List.map_append]; rfl) rfl rfl rfl (by kernel_rfl) (by rw [List.length_map, List.length_singleton]; omega) (by rw [List.length_map, List.length_singleton]; omega) rfl rfl rfl ?_) | refine g_retl T (.inl rfl) rfl ?_
      exact g_fin ⟨.inl rfl, nm [0, 1, 2, 3, 4, 5, 6, 0, 1, 2, 3, 4, 102, 6], _, rfl, .refl _, ⟨rfl, rfl, rfl, rfl, rfl, rfl, rfl, trivial⟩, rfl, rfl⟩
    · refine ⟨{ d with pots := d.pots ++ [⟨us, E0⟩] }, (fun h => by cases h), ?_⟩
      refine fn_ok T Tryz.func83 (by kernel_rfl) rfl rfl rfl rfl fun C hC => ?_
      repeat' first | refine g_go T hC true 400 rfl rfl ?_ | (exfalso; simp at h; done) | refine g_cond rfl (fun h => ?_) (fun h => ?_) | refine g_idx T hC rfl rfl rfl (Int.natCast_nonneg _) (map_at ht) rfl rfl ?_ | refine g_call hC ((rIs_n ht h1)) rfl rfl (LeSs.refl _) rfl rfl rfl ?_ | refine g_call hC ((rIs_n ht h2)) rfl rfl (LeSs.refl _) rfl rfl rfl ?_ | refine g_call hC ((rIs_n ht h3)) rfl rfl (LeSs.refl _) rfl rfl rfl ?_ | refine g_call hC ((rIs_n ht h4)) rfl rfl (LeSs.refl _) rfl rfl rfl ?_ | refine g_call hC ((rIs_n ht h5)) rfl rfl (LeSs.refl _) rfl rfl rfl ?_ | refine g_call hC ((rIs_y ht hs)) rfl rfl (LeSs.refl _) rfl rfl rfl ?_ | refine g_idx T hC (i := IntKind.i64.wrap ((i : Int) + 1)) rfl rfl rfl (by rw [hw]; exact Int.natCast_nonneg _) (by rw [hw]; exact map_at hu1) rfl rfl ?_ | refine g_call hC (cO) rfl rfl (LeSs.refl _) rfl rfl rfl ?_ | refine g_call hC (c9) rfl rfl (LeSs.refl _) rfl rfl rfl ?_ | refine g_lit T hC (rows := [potR (⟨us, E0⟩ : Pt)]) rfl rfl rfl rfl rfl rfl rfl rfl rfl ?_ | (refine g_append T 102 hC (rows := d.pots.map potR) (rows2 := [potR (⟨us, E0⟩ : Pt)]) (rows3 := (d.pots ++ [(⟨us, E0⟩ : Pt)]).map potR) (bytes := 72) rfl rfl rfl rfl (SrcS.sl (T.es_ok _ _ rfl)) (by rw [List.map_append]; rfl) rfl rfl rfl (by kernel_rfl) (by rw [List.length_map, List.length_singleton]; omega) (by rw [List.length_map, List.length_singleton]; omega) rfl rfl rfl ?_) | refine g_retl T (.inl rfl) rfl ?_
      exact g_fin ⟨.inl rfl, nm [0, 1, 2, 3, 4, 5, 6, 0, 1, 2, 3, 4, 102, 6], _, rfl, .refl _, ⟨rfl, rfl, rfl, rfl, rfl, rfl, rfl, trivial⟩, rfl, rfl⟩
  · by_cases qe0 : isA l (i + 1) (⟨#[61]⟩ : ByteArray) = true
    · rw [if_pos qe0, okB] at hR
      unfold formulaA at hR
      by_cases qe : isA l (i + 1) (⟨#[61]⟩ : ByteArray) = true
      rotate_left
      · rw [show oneA l (⟨#[61]⟩ : ByteArray) (i + 1) = .no (i + 1) from if_neg qe, noB, noB] at hR
        obtain ⟨rfl, rfl⟩ := pab_no hR
        have cO := rone_n hl hi1 qe
        rw [← hw] at cO
        refine ⟨d, (fun h => by cases h), ?_⟩
        refine fn_ok T Tryz.func83 (by kernel_rfl) rfl rfl rfl rfl fun C hC => ?_
        repeat' first | refine g_go T hC true 400 rfl rfl ?_ | (exfalso; exact absurd (of_decide_eq_true h) hk) | (exfalso; simp at h; done) | refine g_cond rfl (fun h => ?_) (fun h => ?_) | refine g_idx T hC rfl rfl rfl (Int.natCast_nonneg _) (map_at ht) rfl rfl ?_ | refine g_call hC ((rIs_n ht h1)) rfl rfl (LeSs.refl _) rfl rfl rfl ?_ | refine g_call hC ((rIs_n ht h2)) rfl rfl (LeSs.refl _) rfl rfl rfl ?_ | refine g_call hC ((rIs_n ht h3)) rfl rfl (LeSs.refl _) rfl rfl rfl ?_ | refine g_call hC ((rIs_n ht h4)) rfl rfl (LeSs.refl _) rfl rfl rfl ?_ | refine g_call hC ((rIs_n ht h5)) rfl rfl (LeSs.refl _) rfl rfl rfl ?_ | refine g_call hC ((rIs_y ht hs)) rfl rfl (LeSs.refl _) rfl rfl rfl ?_ | refine g_idx T hC (i := IntKind.i64.wrap ((i : Int) + 1)) rfl rfl rfl (by rw [hw]; exact Int.natCast_nonneg _) (by rw [hw]; exact map_at hu1) rfl rfl ?_ | refine g_call hC (cO) rfl rfl (LeSs.refl _) rfl rfl rfl ?_ | refine g_retl T (.inl rfl) rfl ?_
        rw [hw]
        exact g_fin ⟨.inl rfl, nm [0, 1, 2, 3, 4, 5, 6, 0, 1, 2, 3, 4, 5, 6], _, rfl, .refl _, ⟨rfl, rfl, rfl, rfl, rfl, rfl, rfl, trivial⟩, rfl, rfl⟩
      rw [show oneA l (⟨#[61]⟩ : ByteArray) (i + 1) = .ok () ((i + 1) + 1) from if_pos qe, okB] at hR
      have cO := rone_y hl qe
      rw [← hw] at cO
      rcases RK0.at (rExpr_ok hl (er_all hl f) ((i + 1) + 1) (isA_next hl qe)) hR with ⟨x, k9, e9, hd9, c9⟩ | ⟨_, rfl, c9⟩
      · obtain ⟨rfl, rfl, rfl⟩ := pab_ok hd9
        refine ⟨_, fun _ => rfl, ?_⟩
        refine fn_ok T Tryz.func83 (by kernel_rfl) rfl rfl rfl rfl fun C hC => ?_
        repeat' first | refine g_go T hC true 400 rfl rfl ?_ | (exfalso; exact absurd (of_decide_eq_true h) hk) | (exfalso; simp at h; done) | refine g_cond rfl (fun h => ?_) (fun h => ?_) | refine g_idx T hC rfl rfl rfl (Int.natCast_nonneg _) (map_at ht) rfl rfl ?_ | refine g_call hC ((rIs_n ht h1)) rfl rfl (LeSs.refl _) rfl rfl rfl ?_ | refine g_call hC ((rIs_n ht h2)) rfl rfl (LeSs.refl _) rfl rfl rfl ?_ | refine g_call hC ((rIs_n ht h3)) rfl rfl (LeSs.refl _) rfl rfl rfl ?_ | refine g_call hC ((rIs_n ht h4)) rfl rfl (LeSs.refl _) rfl rfl rfl ?_ | refine g_call hC ((rIs_n ht h5)) rfl rfl (LeSs.refl _) rfl rfl rfl ?_ | refine g_call hC ((rIs_y ht hs)) rfl rfl (LeSs.refl _) rfl rfl rfl ?_ | refine g_idx T hC (i := IntKind.i64.wrap ((i : Int) + 1)) rfl rfl rfl (by rw [hw]; exact Int.natCast_nonneg _) (by rw [hw]; exact map_at hu1) rfl rfl ?_ | refine g_call hC (cO) rfl rfl (LeSs.refl _) rfl rfl rfl ?_ | refine g_call hC (c9) rfl rfl (LeSs.refl _) rfl rfl rfl ?_ | refine g_lit T hC (rows := [potR (⟨(⟨#[]⟩ : ByteArray), x⟩ : Pt)]) rfl rfl rfl rfl rfl rfl rfl rfl rfl ?_ | (refine g_append T 102 hC (rows := d.pots.map potR) (rows2 := [potR (⟨(⟨#[]⟩ : ByteArray), x⟩ : Pt)]) (rows3 := (d.pots ++ [(⟨(⟨#[]⟩ : ByteArray), x⟩ : Pt)]).map potR) (bytes := 72) rfl rfl rfl rfl (SrcS.sl (T.es_ok _ _ rfl)) (by rw [List.map_append]; rfl) rfl rfl rfl (by kernel_rfl) (by rw [List.length_map, List.length_singleton]; omega) (by rw [List.length_map, List.length_singleton]; omega) rfl rfl rfl ?_) | refine g_retl T (.inl rfl) rfl ?_
        exact g_fin ⟨.inl rfl, nm [0, 1, 2, 3, 4, 5, 6, 0, 1, 2, 3, 4, 102, 6], _, rfl, .refl _, ⟨rfl, rfl, rfl, rfl, rfl, rfl, rfl, trivial⟩, rfl, rfl⟩
      · refine ⟨{ d with pots := d.pots ++ [⟨(⟨#[]⟩ : ByteArray), E0⟩] }, (fun h => by cases h), ?_⟩
        refine fn_ok T Tryz.func83 (by kernel_rfl) rfl rfl rfl rfl fun C hC => ?_
        repeat' first | refine g_go T hC true 400 rfl rfl ?_ | (exfalso; exact absurd (of_decide_eq_true h) hk) | (exfalso; simp at h; done) | refine g_cond rfl (fun h => ?_) (fun h => ?_) | refine g_idx T hC rfl rfl rfl (Int.natCast_nonneg _) (map_at ht) rfl rfl ?_ | refine g_call hC ((rIs_n ht h1)) rfl rfl (LeSs.refl _) rfl rfl rfl ?_ | refine g_call hC ((rIs_n ht h2)) rfl rfl (LeSs.refl _) rfl rfl rfl ?_ | refine g_call hC ((rIs_n ht h3)) rfl rfl (LeSs.refl _) rfl rfl rfl ?_ | refine g_call hC ((rIs_n ht h4)) rfl rfl (LeSs.refl _) rfl rfl rfl ?_ | refine g_call hC ((rIs_n ht h5)) rfl rfl (LeSs.refl _) rfl rfl rfl ?_ | refine g_call hC ((rIs_y ht hs)) rfl rfl (LeSs.refl _) rfl rfl rfl ?_ | refine g_idx T hC (i := IntKind.i64.wrap ((i : Int) + 1)) rfl rfl rfl (by rw [hw]; exact Int.natCast_nonneg _) (by rw [hw]; exact map_at hu1) rfl rfl ?_ | refine g_call hC (cO) rfl rfl (LeSs.refl _) rfl rfl rfl ?_ | refine g_call hC (c9) rfl rfl (LeSs.refl _) rfl rfl rfl ?_ | refine g_lit T hC (rows := [potR (⟨(⟨#[]⟩ : ByteArray), E0⟩ : Pt)]) rfl rfl rfl rfl rfl rfl rfl rfl rfl ?_ | (refine g_append T 102 hC (rows := d.pots.map potR) (rows2 := [potR (⟨(⟨#[]⟩ : ByteArray), E0⟩ : Pt)]) (rows3 := (d.pots ++ [(⟨(⟨#[]⟩ : ByteArray), E0⟩ : Pt)]).map potR) (bytes := 72) rfl rfl rfl rfl (SrcS.sl (T.es_ok _ _ rfl)) (by rw [List.map_append]; rfl) rfl rfl rfl (by kernel_rfl) (by rw [List.length_map, List.length_singleton]; omega) (by rw [List.length_map, List.length_singleton]; omega) rfl rfl rfl ?_) | refine g_retl T (.inl rfl) rfl ?_
        exact g_fin ⟨.inl rfl, nm [0, 1, 2, 3, 4, 5, 6, 0, 1, 2, 3, 4, 102, 6], _, rfl, .refl _, ⟨rfl, rfl, rfl, rfl, rfl, rfl, rfl, trivial⟩, rfl, rfl⟩
    · rw [if_neg qe0, show nameA l (i + 1) = .no (i + 1) from by unfold nameA; rw [hu1]; exact if_neg hk, noB] at hR
      obtain ⟨rfl, rfl⟩ := pab_no hR
      have cO := rone_n hl hi1 qe0
      rw [← hw] at cO
      refine ⟨d, (fun h => by cases h), ?_⟩
      refine fn_ok T Tryz.func83 (by kernel_rfl) rfl rfl rfl rfl fun C hC => ?_
      repeat' first | refine g_go T hC true 400 rfl rfl ?_ | (exfalso; exact absurd (of_decide_eq_true h) hk) | (exfalso; simp at h; done) | refine g_cond rfl (fun h => ?_) (fun h => ?_) | refine g_idx T hC rfl rfl rfl (Int.natCast_nonneg _) (map_at ht) rfl rfl ?_ | refine g_call hC ((rIs_n ht h1)) rfl rfl (LeSs.refl _) rfl rfl rfl ?_ | refine g_call hC ((rIs_n ht h2)) rfl rfl (LeSs.refl _) rfl rfl rfl ?_ | refine g_call hC ((rIs_n ht h3)) rfl rfl (LeSs.refl _) rfl rfl rfl ?_ | refine g_call hC ((rIs_n ht h4)) rfl rfl (LeSs.refl _) rfl rfl rfl ?_ | refine g_call hC ((rIs_n ht h5)) rfl rfl (LeSs.refl _) rfl rfl rfl ?_ | refine g_call hC ((rIs_y ht hs)) rfl rfl (LeSs.refl _) rfl rfl rfl ?_ | refine g_idx T hC (i := IntKind.i64.wrap ((i : Int) + 1)) rfl rfl rfl (by rw [hw]; exact Int.natCast_nonneg _) (by rw [hw]; exact map_at hu1) rfl rfl ?_ | refine g_call hC (cO) rfl rfl (LeSs.refl _) rfl rfl rfl ?_ | refine g_retl T (.inl rfl) rfl ?_
      rw [hw]
      exact g_fin ⟨.inl rfl, nm [0, 1, 2, 3, 4, 5, 6, 0, 1, 2, 3, 4, 5, 6], _, rfl, .refl _, ⟨rfl, rfl, rfl, rfl, rfl, rfl, rfl, trivial⟩, rfl, rfl⟩
set_option maxHeartbeats 1000000 in
theorem ritem_invariant (f i : Nat) (d : Desc) (hi : i < l.length) (hd : cntD d ≤ 2000000) (h1 : ¬ isA l i (⟨#[116, 121, 112, 101]⟩ : ByteArray) = true) (h2 : ¬ isA l i (⟨#[118, 97, 114]⟩ : ByteArray) = true) (h3 : ¬ isA l i (⟨#[112, 114, 111, 99]⟩ : ByteArray) = true) (h4 : ¬ isA l i (⟨#[109, 101, 97, 115, 117, 114, 101]⟩ : ByteArray) = true) (hs : isA l i (⟨#[105, 110, 118, 97, 114, 105, 97, 110, 116]⟩ : ByteArray) = true) : RI l i d (itemA l f i d) := by
  intro bf xf jf hR
  have hll := hl.len
  have hi1 := isA_next hl hs
  have hw : IntKind.i64.wrap ((i : Int) + 1) = ((i + 1 : Nat) : Int) := wrapS (by omega)
  obtain ⟨t, ht⟩ := exists_at hi
  unfold cntD at hd
  unfold itemA at hR
  rw [if_neg h1] at hR
  rw [if_neg h2] at hR
  rw [if_neg h3] at hR
  rw [if_neg h4] at hR
  rw [if_pos hs] at hR
  have cN := rname_ok hl (i + 1) hi1
  rw [← hw] at cN
  rcases RK.at cN hR with ⟨n, k1, e1, hd1, c1⟩ | ⟨_, rfl, z, c1⟩
  rotate_left
  · skip
    refine ⟨d, (fun h => by cases h), ?_⟩
    refine fn_ok T Tryz.func83 (by kernel_rfl) rfl rfl rfl rfl fun C hC => ?_
    repeat' first | refine g_go T hC true 400 rfl rfl ?_ | (exfalso; simp at h; done) | refine g_cond rfl (fun h => ?_) (fun h => ?_) | refine g_idx T hC rfl rfl rfl (Int.natCast_nonneg _) (map_at ht) rfl rfl ?_ | refine g_call hC ((rIs_n ht h1)) rfl rfl (LeSs.refl _) rfl rfl rfl ?_ | refine g_call hC ((rIs_n ht h2)) rfl rfl (LeSs.refl _) rfl rfl rfl ?_ | refine g_call hC ((rIs_n ht h3)) rfl rfl (LeSs.refl _) rfl rfl rfl ?_ | refine g_call hC ((rIs_n ht h4)) rfl rfl (LeSs.refl _) rfl rfl rfl ?_ | refine g_call hC ((rIs_y ht hs)) rfl rfl (LeSs.refl _) rfl rfl rfl ?_ | refine g_call hC (c1) rfl rfl (LeSs.refl _) rfl rfl rfl ?_ | refine g_retl T (.inl rfl) rfl ?_
    exact g_fin ⟨.inl rfl, nm [0, 1, 2, 3, 4, 5, 6, 0, 1, 2, 3, 4, 5, 6], _, rfl, .refl _, ⟨rfl, rfl, rfl, rfl, rfl, rfl, rfl, trivial⟩, rfl, rfl⟩
  have hk1 := name_lt2 hl e1
  clear hR
  obtain ⟨u, hu⟩ := exists_at hk1
  by_cases qp : isA l k1 (⟨#[40]⟩ : ByteArray) = true
  · rw [if_pos qp] at hd1
    have hk1' := isA_next hl qp
    have cM := rname_ok hl (k1 + 1) hk1'
    rw [← wrapS (i := k1) (by omega)] at cM
    have hd2 : (nameA l (k1 + 1)).bind (fun t i => ((oneA l (⟨#[41]⟩ : ByteArray) i).bind fun _ i => PA.ok t i).bind fun t i => (formulaA l f i).bind fun x i => .ok { d with invs := d.invs ++ [⟨n, t, x⟩] } i) = pab xf jf bf := by
      rw [← hd1]; cases nameA l (k1 + 1) <;> rfl
    clear hd1
    rcases RK.at cM hd2 with ⟨ty, k3, e3, hd3, c3⟩ | ⟨_, rfl, z, c3⟩
    rotate_left
    · skip
      refine ⟨d, (fun h => by cases h), ?_⟩
      refine fn_ok T Tryz.func83 (by kernel_rfl) rfl rfl rfl rfl fun C hC => ?_
      repeat' first | refine g_go T hC true 400 rfl rfl ?_ | (exfalso; simp at h; done) | refine g_cond rfl (fun h => ?_) (fun h => ?_) | refine g_idx T hC rfl rfl rfl (Int.natCast_nonneg _) (map_at ht) rfl rfl ?_ | refine g_call hC ((rIs_n ht h1)) rfl rfl (LeSs.refl _) rfl rfl rfl ?_ | refine g_call hC ((rIs_n ht h2)) rfl rfl (LeSs.refl _) rfl rfl rfl ?_ | refine g_call hC ((rIs_n ht h3)) rfl rfl (LeSs.refl _) rfl rfl rfl ?_ | refine g_call hC ((rIs_n ht h4)) rfl rfl (LeSs.refl _) rfl rfl rfl ?_ | refine g_call hC ((rIs_y ht hs)) rfl rfl (LeSs.refl _) rfl rfl rfl ?_ | refine g_call hC (c1) rfl rfl (LeSs.refl _) rfl rfl rfl ?_ | refine g_idx T hC rfl rfl rfl (Int.natCast_nonneg _) (map_at hu) rfl rfl ?_ | refine g_call hC ((rIs_y hu qp)) rfl rfl (LeSs.refl _) rfl rfl rfl ?_ | refine g_call hC (c3) rfl rfl (LeSs.refl _) rfl rfl rfl ?_ | refine g_retl T (.inl rfl) rfl ?_
      exact g_fin ⟨.inl rfl, nm [0, 1, 2, 3, 4, 5, 6, 0, 1, 2, 3, 4, 5, 6], _, rfl, .refl _, ⟨rfl, rfl, rfl, rfl, rfl, rfl, rfl, trivial⟩, rfl, rfl⟩
    have hk3 := name_lt2 hl e3
    by_cases qc : isA l k3 (⟨#[41]⟩ : ByteArray) = true
    rotate_left
    · rw [show oneA l (⟨#[41]⟩ : ByteArray) k3 = .no k3 from if_neg qc, noB, noB] at hd3
      obtain ⟨rfl, rfl⟩ := pab_no hd3
      refine ⟨d, (fun h => by cases h), ?_⟩
      refine fn_ok T Tryz.func83 (by kernel_rfl) rfl rfl rfl rfl fun C hC => ?_
      repeat' first | refine g_go T hC true 400 rfl rfl ?_ | (exfalso; simp at h; done) | refine g_cond rfl (fun h => ?_) (fun h => ?_) | refine g_idx T hC rfl rfl rfl (Int.natCast_nonneg _) (map_at ht) rfl rfl ?_ | refine g_call hC ((rIs_n ht h1)) rfl rfl (LeSs.refl _) rfl rfl rfl ?_ | refine g_call hC ((rIs_n ht h2)) rfl rfl (LeSs.refl _) rfl rfl rfl ?_ | refine g_call hC ((rIs_n ht h3)) rfl rfl (LeSs.refl _) rfl rfl rfl ?_ | refine g_call hC ((rIs_n ht h4)) rfl rfl (LeSs.refl _) rfl rfl rfl ?_ | refine g_call hC ((rIs_y ht hs)) rfl rfl (LeSs.refl _) rfl rfl rfl ?_ | refine g_call hC (c1) rfl rfl (LeSs.refl _) rfl rfl rfl ?_ | refine g_idx T hC rfl rfl rfl (Int.natCast_nonneg _) (map_at hu) rfl rfl ?_ | refine g_call hC ((rIs_y hu qp)) rfl rfl (LeSs.refl _) rfl rfl rfl ?_ | refine g_call hC (c3) rfl rfl (LeSs.refl _) rfl rfl rfl ?_ | refine g_call hC ((rone_n hl hk3 qc)) rfl rfl (LeSs.refl _) rfl rfl rfl ?_ | refine g_retl T (.inl rfl) rfl ?_
      exact g_fin ⟨.inl rfl, nm [0, 1, 2, 3, 4, 5, 6, 0, 1, 2, 3, 4, 5, 6], _, rfl, .refl _, ⟨rfl, rfl, rfl, rfl, rfl, rfl, rfl, trivial⟩, rfl, rfl⟩
    rw [show oneA l (⟨#[41]⟩ : ByteArray) k3 = .ok () (k3 + 1) from if_pos qc, okB, okB] at hd3
    have hk4 := isA_next hl qc
    unfold formulaA at hd3
    by_cases qe : isA l (k3 + 1) (⟨#[61]⟩ : ByteArray) = true
    rotate_left
    · rw [show oneA l (⟨#[61]⟩ : ByteArray) (k3 + 1) = .no (k3 + 1) from if_neg qe, noB, noB] at hd3
      obtain ⟨rfl, rfl⟩ := pab_no hd3
      have cO := rone_n hl hk4 qe
      skip
      refine ⟨d, (fun h => by cases h), ?_⟩
      refine fn_ok T Tryz.func83 (by kernel_rfl) rfl rfl rfl rfl fun C hC => ?_
      repeat' first | refine g_go T hC true 400 rfl rfl ?_ | (exfalso; simp at h; done) | refine g_cond rfl (fun h => ?_) (fun h => ?_) | refine g_idx T hC rfl rfl rfl (Int.natCast_nonneg _) (map_at ht) rfl rfl ?_ | refine g_call hC ((rIs_n ht h1)) rfl rfl (LeSs.refl _) rfl rfl rfl ?_ | refine g_call hC ((rIs_n ht h2)) rfl rfl (LeSs.refl _) rfl rfl rfl ?_ | refine g_call hC ((rIs_n ht h3)) rfl rfl (LeSs.refl _) rfl rfl rfl ?_ | refine g_call hC ((rIs_n ht h4)) rfl rfl (LeSs.refl _) rfl rfl rfl ?_ | refine g_call hC ((rIs_y ht hs)) rfl rfl (LeSs.refl _) rfl rfl rfl ?_ | refine g_call hC (c1) rfl rfl (LeSs.refl _) rfl rfl rfl ?_ | refine g_idx T hC rfl rfl rfl (Int.natCast_nonneg _) (map_at hu) rfl rfl ?_ | refine g_call hC ((rIs_y hu qp)) rfl rfl (LeSs.refl _) rfl rfl rfl ?_ | refine g_call hC (c3) rfl rfl (LeSs.refl _) rfl rfl rfl ?_ | refine g_call hC ((rone_y hl qc)) rfl rfl (LeSs.refl _) rfl rfl rfl ?_ | refine g_call hC (cO) rfl rfl (LeSs.refl _) rfl rfl rfl ?_ | refine g_retl T (.inl rfl) rfl ?_
      skip
      exact g_fin ⟨.inl rfl, nm [0, 1, 2, 3, 4, 5, 6, 0, 1, 2, 3, 4, 5, 6], _, rfl, .refl _, ⟨rfl, rfl, rfl, rfl, rfl, rfl, rfl, trivial⟩, rfl, rfl⟩
    rw [show oneA l (⟨#[61]⟩ : ByteArray) (k3 + 1) = .ok () ((k3 + 1) + 1) from if_pos qe, okB] at hd3
    have cO := rone_y hl qe
    skip
    rcases RK0.at (rExpr_ok hl (er_all hl f) ((k3 + 1) + 1) (isA_next hl qe)) hd3 with ⟨x, k9, e9, hd9, c9⟩ | ⟨_, rfl, c9⟩
    · obtain ⟨rfl, rfl, rfl⟩ := pab_ok hd9
      refine ⟨_, fun _ => rfl, ?_⟩
      refine fn_ok T Tryz.func83 (by kernel_rfl) rfl rfl rfl rfl fun C hC => ?_
      repeat' first | refine g_go T hC true 400 rfl rfl ?_ | (exfalso; simp at h; done) | refine g_cond rfl (fun h => ?_) (fun h => ?_) | refine g_idx T hC rfl rfl rfl (Int.natCast_nonneg _) (map_at ht) rfl rfl ?_ | refine g_call hC ((rIs_n ht h1)) rfl rfl (LeSs.refl _) rfl rfl rfl ?_ | refine g_call hC ((rIs_n ht h2)) rfl rfl (LeSs.refl _) rfl rfl rfl ?_ | refine g_call hC ((rIs_n ht h3)) rfl rfl (LeSs.refl _) rfl rfl rfl ?_ | refine g_call hC ((rIs_n ht h4)) rfl rfl (LeSs.refl _) rfl rfl rfl ?_ | refine g_call hC ((rIs_y ht hs)) rfl rfl (LeSs.refl _) rfl rfl rfl ?_ | refine g_call hC (c1) rfl rfl (LeSs.refl _) rfl rfl rfl ?_ | refine g_idx T hC rfl rfl rfl (Int.natCast_nonneg _) (map_at hu) rfl rfl ?_ | refine g_call hC ((rIs_y hu qp)) rfl rfl (LeSs.refl _) rfl rfl rfl ?_ | refine g_call hC (c3) rfl rfl (LeSs.refl _) rfl rfl rfl ?_ | refine g_call hC ((rone_y hl qc)) rfl rfl (LeSs.refl _) rfl rfl rfl ?_ | refine g_call hC (cO) rfl rfl (LeSs.refl _) rfl rfl rfl ?_ | refine g_call hC (c9) rfl rfl (LeSs.refl _) rfl rfl rfl ?_ | refine g_lit T hC (rows := [invR (⟨n, ty, x⟩ : Iv)]) rfl rfl rfl rfl rfl rfl rfl rfl rfl ?_ | (refine g_append T 102 hC (rows := d.invs.map invR) (rows2 := [invR (⟨n, ty, x⟩ : Iv)]) (rows3 := (d.invs ++ [(⟨n, ty, x⟩ : Iv)]).map invR) (bytes := 88) rfl rfl rfl rfl (SrcS.sl (T.es_ok _ _ rfl)) (by rw [List.map_append]; rfl) rfl rfl rfl (by kernel_rfl) (by rw [List.length_map, List.length_singleton]; omega) (by rw [List.length_map, List.length_singleton]; omega) rfl rfl rfl ?_) | refine g_retl T (.inl rfl) rfl ?_
      exact g_fin ⟨.inl rfl, nm [0, 1, 2, 3, 4, 5, 6, 0, 1, 2, 3, 102, 5, 6], _, rfl, .refl _, ⟨rfl, rfl, rfl, rfl, rfl, rfl, rfl, trivial⟩, rfl, rfl⟩
    · refine ⟨{ d with invs := d.invs ++ [⟨n, ty, E0⟩] }, (fun h => by cases h), ?_⟩
      refine fn_ok T Tryz.func83 (by kernel_rfl) rfl rfl rfl rfl fun C hC => ?_
      repeat' first | refine g_go T hC true 400 rfl rfl ?_ | (exfalso; simp at h; done) | refine g_cond rfl (fun h => ?_) (fun h => ?_) | refine g_idx T hC rfl rfl rfl (Int.natCast_nonneg _) (map_at ht) rfl rfl ?_ | refine g_call hC ((rIs_n ht h1)) rfl rfl (LeSs.refl _) rfl rfl rfl ?_ | refine g_call hC ((rIs_n ht h2)) rfl rfl (LeSs.refl _) rfl rfl rfl ?_ | refine g_call hC ((rIs_n ht h3)) rfl rfl (LeSs.refl _) rfl rfl rfl ?_ | refine g_call hC ((rIs_n ht h4)) rfl rfl (LeSs.refl _) rfl rfl rfl ?_ | refine g_call hC ((rIs_y ht hs)) rfl rfl (LeSs.refl _) rfl rfl rfl ?_ | refine g_call hC (c1) rfl rfl (LeSs.refl _) rfl rfl rfl ?_ | refine g_idx T hC rfl rfl rfl (Int.natCast_nonneg _) (map_at hu) rfl rfl ?_ | refine g_call hC ((rIs_y hu qp)) rfl rfl (LeSs.refl _) rfl rfl rfl ?_ | refine g_call hC (c3) rfl rfl (LeSs.refl _) rfl rfl rfl ?_ | refine g_call hC ((rone_y hl qc)) rfl rfl (LeSs.refl _) rfl rfl rfl ?_ | refine g_call hC (cO) rfl rfl (LeSs.refl _) rfl rfl rfl ?_ | refine g_call hC (c9) rfl rfl (LeSs.refl _) rfl rfl rfl ?_ | refine g_lit T hC (rows := [invR (⟨n, ty, E0⟩ : Iv)]) rfl rfl rfl rfl rfl rfl rfl rfl rfl ?_ | (refine g_append T 102 hC (rows := d.invs.map invR) (rows2 := [invR (⟨n, ty, E0⟩ : Iv)]) (rows3 := (d.invs ++ [(⟨n, ty, E0⟩ : Iv)]).map invR) (bytes := 88) rfl rfl rfl rfl (SrcS.sl (T.es_ok _ _ rfl)) (by rw [List.map_append]; rfl) rfl rfl rfl (by kernel_rfl) (by rw [List.length_map, List.length_singleton]; omega) (by rw [List.length_map, List.length_singleton]; omega) rfl rfl rfl ?_) | refine g_retl T (.inl rfl) rfl ?_
      exact g_fin ⟨.inl rfl, nm [0, 1, 2, 3, 4, 5, 6, 0, 1, 2, 3, 102, 5, 6], _, rfl, .refl _, ⟨rfl, rfl, rfl, rfl, rfl, rfl, rfl, trivial⟩, rfl, rfl⟩
  · rw [if_neg qp, okB] at hd1
    unfold formulaA at hd1
    by_cases qe : isA l k1 (⟨#[61]⟩ : ByteArray) = true
    rotate_left
    · rw [show oneA l (⟨#[61]⟩ : ByteArray) k1 = .no k1 from if_neg qe, noB, noB] at hd1
      obtain ⟨rfl, rfl⟩ := pab_no hd1
      have cO := rone_n hl hk1 qe
      skip
      refine ⟨d, (fun h => by cases h), ?_⟩
      refine fn_ok T Tryz.func83 (by kernel_rfl) rfl rfl rfl rfl fun C hC => ?_
      repeat' first | refine g_go T hC true 400 rfl rfl ?_ | (exfalso; simp at h; done) | refine g_cond rfl (fun h => ?_) (fun h => ?_) | refine g_idx T hC rfl rfl rfl (Int.natCast_nonneg _) (map_at ht) rfl rfl ?_ | refine g_call hC ((rIs_n ht h1)) rfl rfl (LeSs.refl _) rfl rfl rfl ?_ | refine g_call hC ((rIs_n ht h2)) rfl rfl (LeSs.refl _) rfl rfl rfl ?_ | refine g_call hC ((rIs_n ht h3)) rfl rfl (LeSs.refl _) rfl rfl rfl ?_ | refine g_call hC ((rIs_n ht h4)) rfl rfl (LeSs.refl _) rfl rfl rfl ?_ | refine g_call hC ((rIs_y ht hs)) rfl rfl (LeSs.refl _) rfl rfl rfl ?_ | refine g_call hC (c1) rfl rfl (LeSs.refl _) rfl rfl rfl ?_ | refine g_idx T hC rfl rfl rfl (Int.natCast_nonneg _) (map_at hu) rfl rfl ?_ | refine g_call hC ((rIs_n hu qp)) rfl rfl (LeSs.refl _) rfl rfl rfl ?_ | refine g_call hC (cO) rfl rfl (LeSs.refl _) rfl rfl rfl ?_ | refine g_retl T (.inl rfl) rfl ?_
      skip
      exact g_fin ⟨.inl rfl, nm [0, 1, 2, 3, 4, 5, 6, 0, 1, 2, 3, 4, 5, 6], _, rfl, .refl _, ⟨rfl, rfl, rfl, rfl, rfl, rfl, rfl, trivial⟩, rfl, rfl⟩
    rw [show oneA l (⟨#[61]⟩ : ByteArray) k1 = .ok () (k1 + 1) from if_pos qe, okB] at hd1
    have cO := rone_y hl qe
    skip
    rcases RK0.at (rExpr_ok hl (er_all hl f) (k1 + 1) (isA_next hl qe)) hd1 with ⟨x, k9, e9, hd9, c9⟩ | ⟨_, rfl, c9⟩
    · obtain ⟨rfl, rfl, rfl⟩ := pab_ok hd9
      refine ⟨_, fun _ => rfl, ?_⟩
      refine fn_ok T Tryz.func83 (by kernel_rfl) rfl rfl rfl rfl fun C hC => ?_
      repeat' first | refine g_go T hC true 400 rfl rfl ?_ | (exfalso; simp at h; done) | refine g_cond rfl (fun h => ?_) (fun h => ?_) | refine g_idx T hC rfl rfl rfl (Int.natCast_nonneg _) (map_at ht) rfl rfl ?_ | refine g_call hC ((rIs_n ht h1)) rfl rfl (LeSs.refl _) rfl rfl rfl ?_ | refine g_call hC ((rIs_n ht h2)) rfl rfl (LeSs.refl _) rfl rfl rfl ?_ | refine g_call hC ((rIs_n ht h3)) rfl rfl (LeSs.refl _) rfl rfl rfl ?_ | refine g_call hC ((rIs_n ht h4)) rfl rfl (LeSs.refl _) rfl rfl rfl ?_ | refine g_call hC ((rIs_y ht hs)) rfl rfl (LeSs.refl _) rfl rfl rfl ?_ | refine g_call hC (c1) rfl rfl (LeSs.refl _) rfl rfl rfl ?_ | refine g_idx T hC rfl rfl rfl (Int.natCast_nonneg _) (map_at hu) rfl rfl ?_ | refine g_call hC ((rIs_n hu qp)) rfl rfl (LeSs.refl _) rfl rfl rfl ?_ | refine g_call hC (cO) rfl rfl (LeSs.refl _) rfl rfl rfl ?_ | refine g_call hC (c9) rfl rfl (LeSs.refl _) rfl rfl rfl ?_ | refine g_lit T hC (rows := [invR (⟨n, (⟨#[]⟩ : ByteArray), x⟩ : Iv)]) rfl rfl rfl rfl rfl rfl rfl rfl rfl ?_ | (refine g_append T 102 hC (rows := d.invs.map invR) (rows2 := [invR (⟨n, (⟨#[]⟩ : ByteArray), x⟩ : Iv)]) (rows3 := (d.invs ++ [(⟨n, (⟨#[]⟩ : ByteArray), x⟩ : Iv)]).map invR) (bytes := 88) rfl rfl rfl rfl (SrcS.sl (T.es_ok _ _ rfl)) (by rw [List.map_append]; rfl) rfl rfl rfl (by kernel_rfl) (by rw [List.length_map, List.length_singleton]; omega) (by rw [List.length_map, List.length_singleton]; omega) rfl rfl rfl ?_) | refine g_retl T (.inl rfl) rfl ?_
      exact g_fin ⟨.inl rfl, nm [0, 1, 2, 3, 4, 5, 6, 0, 1, 2, 3, 102, 5, 6], _, rfl, .refl _, ⟨rfl, rfl, rfl, rfl, rfl, rfl, rfl, trivial⟩, rfl, rfl⟩
    · refine ⟨{ d with invs := d.invs ++ [⟨n, (⟨#[]⟩ : ByteArray), E0⟩] }, (fun h => by cases h), ?_⟩
      refine fn_ok T Tryz.func83 (by kernel_rfl) rfl rfl rfl rfl fun C hC => ?_
      repeat' first | refine g_go T hC true 400 rfl rfl ?_ | (exfalso; simp at h; done) | refine g_cond rfl (fun h => ?_) (fun h => ?_) | refine g_idx T hC rfl rfl rfl (Int.natCast_nonneg _) (map_at ht) rfl rfl ?_ | refine g_call hC ((rIs_n ht h1)) rfl rfl (LeSs.refl _) rfl rfl rfl ?_ | refine g_call hC ((rIs_n ht h2)) rfl rfl (LeSs.refl _) rfl rfl rfl ?_ | refine g_call hC ((rIs_n ht h3)) rfl rfl (LeSs.refl _) rfl rfl rfl ?_ | refine g_call hC ((rIs_n ht h4)) rfl rfl (LeSs.refl _) rfl rfl rfl ?_ | refine g_call hC ((rIs_y ht hs)) rfl rfl (LeSs.refl _) rfl rfl rfl ?_ | refine g_call hC (c1) rfl rfl (LeSs.refl _) rfl rfl rfl ?_ | refine g_idx T hC rfl rfl rfl (Int.natCast_nonneg _) (map_at hu) rfl rfl ?_ | refine g_call hC ((rIs_n hu qp)) rfl rfl (LeSs.refl _) rfl rfl rfl ?_ | refine g_call hC (cO) rfl rfl (LeSs.refl _) rfl rfl rfl ?_ | refine g_call hC (c9) rfl rfl (LeSs.refl _) rfl rfl rfl ?_ | refine g_lit T hC (rows := [invR (⟨n, (⟨#[]⟩ : ByteArray), E0⟩ : Iv)]) rfl rfl rfl rfl rfl rfl rfl rfl rfl ?_ | (refine g_append T 102 hC (rows := d.invs.map invR) (rows2 := [invR (⟨n, (⟨#[]⟩ : ByteArray), E0⟩ : Iv)]) (rows3 := (d.invs ++ [(⟨n, (⟨#[]⟩ : ByteArray), E0⟩ : Iv)]).map invR) (bytes := 88) rfl rfl rfl rfl (SrcS.sl (T.es_ok _ _ rfl)) (by rw [List.map_append]; rfl) rfl rfl rfl (by kernel_rfl) (by rw [List.length_map, List.length_singleton]; omega) (by rw [List.length_map, List.length_singleton]; omega) rfl rfl rfl ?_) | refine g_retl T (.inl rfl) rfl ?_
      exact g_fin ⟨.inl rfl, nm [0, 1, 2, 3, 4, 5, 6, 0, 1, 2, 3, 102, 5, 6], _, rfl, .refl _, ⟨rfl, rfl, rfl, rfl, rfl, rfl, rfl, trivial⟩, rfl, rfl⟩
theorem ritem_no (f i : Nat) (d : Desc) (hi : i < l.length) (hk : kwI l i = false) : RI l i d (itemA l f i d) := by
  have _ := hl
  intro bf xf jf hR
  obtain ⟨t, ht⟩ := exists_at hi
  have hJ : itemA l f i d = .no i := by rw [← er_item, itemJ_no hk]; rfl
  rw [hJ] at hR
  obtain ⟨rfl, rfl⟩ := pab_no hR
  unfold kwI at hk
  simp only [Bool.or_eq_false_iff] at hk
  obtain ⟨⟨⟨⟨⟨⟨h1, h2⟩, h3⟩, h4⟩, h5⟩, h6⟩, h7⟩ := hk
  rw [← Bool.not_eq_true] at h1 h2 h3 h4 h5 h6 h7
  refine ⟨d, (fun h => by cases h), ?_⟩
  refine fn_ok T Tryz.func83 (by kernel_rfl) rfl rfl rfl rfl fun C hC => ?_
  repeat' first | refine g_go T hC true 400 rfl rfl ?_ | (exfalso; simp at h; done) | refine g_cond rfl (fun h => ?_) (fun h => ?_) | refine g_idx T hC rfl rfl rfl (Int.natCast_nonneg _) (map_at ht) rfl rfl ?_ | refine g_call hC ((rIs_n ht (by assumption))) rfl rfl (LeSs.refl _) rfl rfl rfl ?_ | refine g_retl T (.inl rfl) rfl ?_
  exact g_fin ⟨.inl rfl, nm [0, 1, 2, 3, 4, 5, 6, 0, 1, 2, 3, 4, 5, 6], _, rfl, .refl _, ⟨rfl, rfl, rfl, rfl, rfl, rfl, rfl, trivial⟩, rfl, rfl⟩
theorem ritem_ok (f i : Nat) (d : Desc) (hi : i < l.length) (hd : cntD d ≤ 2000000) : RI l i d (itemA l f i d) := by
  by_cases hk : kwI l i = true
  rotate_left
  · exact ritem_no hl f i d hi (by rw [← Bool.not_eq_true]; exact hk)
  by_cases h1 : isA l i (⟨#[116, 121, 112, 101]⟩ : ByteArray) = true
  · exact ritem_type hl f i d hi hd  h1
  by_cases h2 : isA l i (⟨#[118, 97, 114]⟩ : ByteArray) = true
  · exact ritem_var hl f i d hi hd h1 h2
  by_cases h3 : isA l i (⟨#[112, 114, 111, 99]⟩ : ByteArray) = true
  · exact ritem_proc hl f i d hi hd h1 h2 h3
  by_cases h4 : isA l i (⟨#[109, 101, 97, 115, 117, 114, 101]⟩ : ByteArray) = true
  · exact ritem_measure hl f i d hi hd h1 h2 h3 h4
  by_cases h5 : isA l i (⟨#[105, 110, 118, 97, 114, 105, 97, 110, 116]⟩ : ByteArray) = true
  · exact ritem_invariant hl f i d hi hd h1 h2 h3 h4 h5
  by_cases h6 : isA l i (⟨#[112, 111, 116, 101, 110, 116, 105, 97, 108]⟩ : ByteArray) = true
  · exact ritem_potential hl f i d hi hd h1 h2 h3 h4 h5 h6
  have h7 : isA l i (⟨#[98, 111, 117, 110, 100]⟩ : ByteArray) = true := by unfold kwI at hk; simpa [h1, h2, h3, h4, h5, h6] using hk
  exact ritem_bound hl f i d hi hd h1 h2 h3 h4 h5 h6 h7
end
end Hw.Pa
namespace Hw.Pa
open Go Go.Proofs Hw.M

open Classical in
noncomputable def itemZ (l : List Tok) (i j : Nat) (d : Desc) : Desc :=
  if h : ∃ y, FnOK Tryz.prog 83 [pS (toksP l), I (i : Nat), dV 0 d] (dA 0 d) (.tup [dV 7 y, I (j : Nat), Bo false]) (dA 7 y) then h.choose else d
theorem itemZ_ok {l : List Tok} {i j : Nat} {d : Desc} {r : PA Desc} (h : RI l i d r) (hr : r = .no j) : FnOK Tryz.prog 83 [pS (toksP l), I (i : Nat), dV 0 d] (dA 0 d) (.tup [dV 7 (itemZ l i j d), I (j : Nat), Bo false]) (dA 7 (itemZ l i j d)) := by
  have he : ∃ y, FnOK Tryz.prog 83 [pS (toksP l), I (i : Nat), dV 0 d] (dA 0 d) (.tup [dV 7 y, I (j : Nat), Bo false]) (dA 7 y) := by
    obtain ⟨y, _, h2⟩ := h false d j hr
    exact ⟨y, h2⟩
  unfold itemZ
  rw [dif_pos he]
  exact he.choose_spec
noncomputable def itemsZ (l : List Tok) (f : Nat) : Nat → Nat → Desc → Desc
  | 0, _, d => d
  | g + 1, i, d => match itemA l f i d with
    | .ok d2 k => itemsZ l f g k d2
    | .no j => itemZ l i j d
    | .out => d
section
variable {l : List Tok} (hl : GoodL l)
include hl
theorem itemA_rg (f i : Nat) (d : Desc) (hi : i < l.length) : RA l (itemA l f i d) := by rw [← er_item]; exact .er (item_rg hl f i d hi)
theorem itemA_cnt (f i : Nat) (d : Desc) (hi : i < l.length) (hd : cntD d ≤ 2000000) {x : Desc} {j : Nat} (h : itemA l f i d = .ok x j) : cntD x ≤ cntD d + 1 := by
  rw [← er_item] at h
  cases e : itemJ l f i d with
  | none => rw [e] at h; cases h
  | some q =>
    obtain ⟨y, k, b⟩ := q
    rw [e] at h
    cases b with
    | true => cases h
    | false =>
      cases h
      by_cases hk : kwI l i = true
      · exact (pitem_ok hl f i d hi hd e hk).2.1
      · rw [Bool.not_eq_true] at hk
        rw [itemJ_no hk] at e
        cases e
set_option maxHeartbeats 2000000 in
theorem rDesc_ok (F : Nat) (hF : F ≤ 1500000) (h0 : 0 < l.length) : RK 32 [pS (toksP l), I 0] (fun d => aggS (descR d)) (descA l F) := by
  refine .mkd D0 fun bf xf jf hR => ?_
  have hll := hl.len
  unfold descA at hR
  have h0' : (0 : Int) = ((0 : Nat) : Int) := rfl
  by_cases q0 : isA l 0 (⟨#[100, 101, 115, 99]⟩ : ByteArray) = true
  rotate_left
  · rw [show oneA l (⟨#[100, 101, 115, 99]⟩ : ByteArray) 0 = .no 0 from if_neg q0, noB] at hR
    obtain ⟨rfl, rfl⟩ := pab_no hR
    refine ⟨D0, (fun h => by cases h), ?_⟩
    refine fn_ok T Tryz.func32 (by kernel_rfl) rfl rfl rfl rfl fun C hC => ?_
    repeat' first | refine g_go T hC true 400 rfl rfl ?_ | (exfalso; simp at h; done) | refine g_cond rfl (fun h => ?_) (fun h => ?_) | refine g_call hC ((rone_n hl h0 q0)) rfl rfl (LeSs.refl _) rfl rfl rfl ?_ | refine g_retl T (.inl rfl) rfl ?_
    exact g_fin ⟨.inl rfl, id, _, rfl, .tup (.cons (.agg (.cons (.refl _) (.cons (.nil 2) (.cons (.nil 2) (.cons (.nil 5) (.cons (.nil 7) (.cons (.nil 6) (.cons (.nil 5) (.cons (.nil 5) .nil))))))))) (.cons (.refl _) (.cons (.refl _) .nil))), trivial, rfl, rfl⟩
  rw [show oneA l (⟨#[100, 101, 115, 99]⟩ : ByteArray) 0 = .ok () (0 + 1) from if_pos q0, okB] at hR
  rcases RK.at (rname_ok hl (0 + 1) (isA_next hl q0)) hR with ⟨n, k1, e1, hd1, c1⟩ | ⟨_, rfl, z, c1⟩
  rotate_left
  · refine ⟨⟨z, [], [], [], [], [], [], []⟩, (fun h => by cases h), ?_⟩
    refine fn_ok T Tryz.func32 (by kernel_rfl) rfl rfl rfl rfl fun C hC => ?_
    repeat' first | refine g_go T hC true 400 rfl rfl ?_ | (exfalso; simp at h; done) | refine g_cond rfl (fun h => ?_) (fun h => ?_) | refine g_call hC ((rone_y hl q0)) rfl rfl (LeSs.refl _) rfl rfl rfl ?_ | refine g_call hC (c1) rfl rfl (LeSs.refl _) rfl rfl rfl ?_ | refine g_retl T (.inl rfl) rfl ?_
    exact g_fin ⟨.inl rfl, id, _, rfl, .tup (.cons (.agg (.cons (.refl _) (.cons (.nil 2) (.cons (.nil 2) (.cons (.nil 5) (.cons (.nil 7) (.cons (.nil 6) (.cons (.nil 5) (.cons (.nil 5) .nil))))))))) (.cons (.refl _) (.cons (.refl _) .nil))), trivial, rfl, rfl⟩
  have hk1 := name_lt2 hl e1
  by_cases q1 : isA l k1 ⟨#[123]⟩ = true
  rotate_left
  · rw [show oneA l ⟨#[123]⟩ k1 = .no k1 from if_neg q1, noB] at hd1
    obtain ⟨rfl, rfl⟩ := pab_no hd1
    refine ⟨⟨n, [], [], [], [], [], [], []⟩, (fun h => by cases h), ?_⟩
    refine fn_ok T Tryz.func32 (by kernel_rfl) rfl rfl rfl rfl fun C hC => ?_
    repeat' first | refine g_go T hC true 400 rfl rfl ?_ | (exfalso; simp at h; done) | refine g_cond rfl (fun h => ?_) (fun h => ?_) | refine g_call hC ((rone_y hl q0)) rfl rfl (LeSs.refl _) rfl rfl rfl ?_ | refine g_call hC (c1) rfl rfl (LeSs.refl _) rfl rfl rfl ?_ | refine g_call hC ((rone_n hl hk1 q1)) rfl rfl (LeSs.refl _) rfl rfl rfl ?_ | refine g_retl T (.inl rfl) rfl ?_
    exact g_fin ⟨.inl rfl, id, _, rfl, .tup (.cons (.agg (.cons (.refl _) (.cons (.nil 2) (.cons (.nil 2) (.cons (.nil 5) (.cons (.nil 7) (.cons (.nil 6) (.cons (.nil 5) (.cons (.nil 5) .nil))))))))) (.cons (.refl _) (.cons (.refl _) .nil))), trivial, rfl, rfl⟩
  rw [show oneA l ⟨#[123]⟩ k1 = .ok () (k1 + 1) from if_pos q1, okB] at hd1
  have hk2 := isA_next hl q1
  obtain ⟨yf, hy1, hy2⟩ : ∃ yf : Desc, (bf = true → yf = xf) ∧ (bf = false → yf = itemsZ l F F (k1 + 1) ⟨n, [], [], [], [], [], [], []⟩) := by
    cases bf with
    | true => exact ⟨xf, fun _ => rfl, fun h => by cases h⟩
    | false => exact ⟨_, (fun h => by cases h), fun _ => rfl⟩
  refine ⟨yf, hy1, ?_⟩
  · refine fn_ok T Tryz.func32 (by kernel_rfl) rfl rfl rfl rfl fun C hC => ?_
    repeat' first | refine g_go T hC true 400 rfl rfl ?_ | (exfalso; simp at h; done) | refine g_cond rfl (fun h => ?_) (fun h => ?_) | refine g_call hC ((rone_y hl q0)) rfl rfl (LeSs.refl _) rfl rfl rfl ?_ | refine g_call hC (c1) rfl rfl (LeSs.refl _) rfl rfl rfl ?_ | refine g_call hC ((rone_y hl q1)) rfl rfl (LeSs.refl _) rfl rfl rfl ?_
    refine g_adopt hC rfl 101 2 rfl [] trivial [(1007, [.p (ks n), .ar 101, .p (.k (.slice none 0 0)), .p (.k (.slice none 0 0)), .p (.k (.slice none 0 0)), .p (.k (.slice none 0 0)), .p (.k (.slice none 0 0)), .p (.k (.slice none 0 0))])] ⟨⟨_, rfl, by decide, .cons (.refl _) (.cons (.nil) (.cons (.refl _) (.cons (.refl _) (.cons (.refl _) (.cons (.refl _) (.cons (.refl _) (.cons (.refl _) .nil)))))))⟩, trivial⟩ ?_
    refine g_adopt hC rfl 102 2 rfl [] trivial [(1007, [.p (ks n), .ar 101, .ar 102, .p (.k (.slice none 0 0)), .p (.k (.slice none 0 0)), .p (.k (.slice none 0 0)), .p (.k (.slice none 0 0)), .p (.k (.slice none 0 0))])] ⟨⟨_, rfl, by decide, .cons (.refl _) (.cons (.refl _) (.cons (.nil) (.cons (.refl _) (.cons (.refl _) (.cons (.refl _) (.cons (.refl _) (.cons (.refl _) .nil)))))))⟩, trivial⟩ ?_
    refine g_adopt hC rfl 103 5 rfl [] trivial [(1007, [.p (ks n), .ar 101, .ar 102, .ar 103, .p (.k (.slice none 0 0)), .p (.k (.slice none 0 0)), .p (.k (.slice none 0 0)), .p (.k (.slice none 0 0))])] ⟨⟨_, rfl, by decide, .cons (.refl _) (.cons (.refl _) (.cons (.refl _) (.cons (.nil) (.cons (.refl _) (.cons (.refl _) (.cons (.refl _) (.cons (.refl _) .nil)))))))⟩, trivial⟩ ?_
    refine g_adopt hC rfl 104 7 rfl [] trivial [(1007, [.p (ks n), .ar 101, .ar 102, .ar 103, .ar 104, .p (.k (.slice none 0 0)), .p (.k (.slice none 0 0)), .p (.k (.slice none 0 0))])] ⟨⟨_, rfl, by decide, .cons (.refl _) (.cons (.refl _) (.cons (.refl _) (.cons (.refl _) (.cons (.nil) (.cons (.refl _) (.cons (.refl _) (.cons (.refl _) .nil)))))))⟩, trivial⟩ ?_
    refine g_adopt hC rfl 105 6 rfl [] trivial [(1007, [.p (ks n), .ar 101, .ar 102, .ar 103, .ar 104, .ar 105, .p (.k (.slice none 0 0)), .p (.k (.slice none 0 0))])] ⟨⟨_, rfl, by decide, .cons (.refl _) (.cons (.refl _) (.cons (.refl _) (.cons (.refl _) (.cons (.refl _) (.cons (.nil) (.cons (.refl _) (.cons (.refl _) .nil)))))))⟩, trivial⟩ ?_
    refine g_adopt hC rfl 106 5 rfl [] trivial [(1007, [.p (ks n), .ar 101, .ar 102, .ar 103, .ar 104, .ar 105, .ar 106, .p (.k (.slice none 0 0))])] ⟨⟨_, rfl, by decide, .cons (.refl _) (.cons (.refl _) (.cons (.refl _) (.cons (.refl _) (.cons (.refl _) (.cons (.refl _) (.cons (.nil) (.cons (.refl _) .nil)))))))⟩, trivial⟩ ?_
    refine g_adopt hC rfl 107 5 rfl [] trivial [(1007, [.p (ks n), .ar 101, .ar 102, .ar 103, .ar 104, .ar 105, .ar 106, .ar 107])] ⟨⟨_, rfl, by decide, .cons (.refl _) (.cons (.refl _) (.cons (.refl _) (.cons (.refl _) (.cons (.refl _) (.cons (.refl _) (.cons (.refl _) (.cons (.nil) .nil)))))))⟩, trivial⟩ ?_
    refine g_loop (fun q : Desc × Nat × Nat => q.2.1 < l.length ∧ cntD q.1 + q.2.2 ≤ F ∧ itemsA l F q.2.2 q.2.1 q.1 = pab xf jf bf ∧ (bf = false → yf = itemsZ l F q.2.2 q.2.1 q.1))
      (fun q => ([(0, pS (toksP l)), (1, I (q.2.1 : Nat)), (4, .one (.bx 1004 0)), (7, .one (.bx 1007 0))], (1004, some zD) :: (1007, some (Res.box [.p (ks q.1.n), .ar 101, .ar 102, .ar 103, .ar 104, .ar 105, .ar 106, .ar 107])) :: tb (dA 101 q.1))) (fun q => q.2.2) hC
      (⟨n, [], [], [], [], [], [], []⟩, k1 + 1, F) ⟨hk2, Nat.le_of_eq (Nat.zero_add _), hd1, hy2⟩ id ⟨rfl, ⟨rfl, rfl, rfl, rfl, trivial⟩, ⟨rfl, rfl, rfl, rfl, rfl, rfl, rfl, rfl, rfl, trivial⟩, rfl, fun _ _ => rfl⟩ ?_
    clear hy2 hd1 hR c1 e1 q1 hk1 hk2
    rintro ⟨d, k, g⟩ ⟨hk, hcd, hd, hz⟩
    simp only at hk hcd hd hz
    obtain ⟨t, ht⟩ := exists_at hk
    cases g with
    | zero => simp only [itemsA] at hd; exact (pab_out hd).elim
    | succ g =>
    simp only [itemsA] at hd
    by_cases hs : isA l k ⟨#[125]⟩ = true
    · rw [if_pos hs] at hd
      obtain ⟨rfl, rfl, rfl⟩ := pab_ok hd
      rw [hy1 rfl]
      refine g_freeze rfl (id := 101) (e := 2) (rows := xf.types.map nodeTR) rfl [] trivial [(1007, [.p (ks xf.n), .p (.sl 2 (xf.types.map nodeTR)), .ar 102, .ar 103, .ar 104, .ar 105, .ar 106, .ar 107])] ⟨⟨_, rfl, by decide, .cons (.refl _) (.cons (.ar) (.cons (.refl _) (.cons (.refl _) (.cons (.refl _) (.cons (.refl _) (.cons (.refl _) (.cons (.refl _) .nil)))))))⟩, trivial⟩ ?_
      refine g_freeze rfl (id := 102) (e := 2) (rows := xf.globals.map fieldR) rfl [] trivial [(1007, [.p (ks xf.n), .p (.sl 2 (xf.types.map nodeTR)), .p (.sl 2 (xf.globals.map fieldR)), .ar 103, .ar 104, .ar 105, .ar 106, .ar 107])] ⟨⟨_, rfl, by decide, .cons (.refl _) (.cons (.refl _) (.cons (.ar) (.cons (.refl _) (.cons (.refl _) (.cons (.refl _) (.cons (.refl _) (.cons (.refl _) .nil)))))))⟩, trivial⟩ ?_
      refine g_freeze rfl (id := 103) (e := 5) (rows := xf.procs.map procR) rfl [] trivial [(1007, [.p (ks xf.n), .p (.sl 2 (xf.types.map nodeTR)), .p (.sl 2 (xf.globals.map fieldR)), .p (.sl 5 (xf.procs.map procR)), .ar 104, .ar 105, .ar 106, .ar 107])] ⟨⟨_, rfl, by decide, .cons (.refl _) (.cons (.refl _) (.cons (.refl _) (.cons (.ar) (.cons (.refl _) (.cons (.refl _) (.cons (.refl _) (.cons (.refl _) .nil)))))))⟩, trivial⟩ ?_
      refine g_freeze rfl (id := 104) (e := 7) (rows := xf.measures.map measureR) rfl [] trivial [(1007, [.p (ks xf.n), .p (.sl 2 (xf.types.map nodeTR)), .p (.sl 2 (xf.globals.map fieldR)), .p (.sl 5 (xf.procs.map procR)), .p (.sl 7 (xf.measures.map measureR)), .ar 105, .ar 106, .ar 107])] ⟨⟨_, rfl, by decide, .cons (.refl _) (.cons (.refl _) (.cons (.refl _) (.cons (.refl _) (.cons (.ar) (.cons (.refl _) (.cons (.refl _) (.cons (.refl _) .nil)))))))⟩, trivial⟩ ?_
      refine g_freeze rfl (id := 105) (e := 6) (rows := xf.invs.map invR) rfl [] trivial [(1007, [.p (ks xf.n), .p (.sl 2 (xf.types.map nodeTR)), .p (.sl 2 (xf.globals.map fieldR)), .p (.sl 5 (xf.procs.map procR)), .p (.sl 7 (xf.measures.map measureR)), .p (.sl 6 (xf.invs.map invR)), .ar 106, .ar 107])] ⟨⟨_, rfl, by decide, .cons (.refl _) (.cons (.refl _) (.cons (.refl _) (.cons (.refl _) (.cons (.refl _) (.cons (.ar) (.cons (.refl _) (.cons (.refl _) .nil)))))))⟩, trivial⟩ ?_
      refine g_freeze rfl (id := 106) (e := 5) (rows := xf.pots.map potR) rfl [] trivial [(1007, [.p (ks xf.n), .p (.sl 2 (xf.types.map nodeTR)), .p (.sl 2 (xf.globals.map fieldR)), .p (.sl 5 (xf.procs.map procR)), .p (.sl 7 (xf.measures.map measureR)), .p (.sl 6 (xf.invs.map invR)), .p (.sl 5 (xf.pots.map potR)), .ar 107])] ⟨⟨_, rfl, by decide, .cons (.refl _) (.cons (.refl _) (.cons (.refl _) (.cons (.refl _) (.cons (.refl _) (.cons (.refl _) (.cons (.ar) (.cons (.refl _) .nil)))))))⟩, trivial⟩ ?_
      refine g_freeze rfl (id := 107) (e := 5) (rows := xf.bounds.map boundR) rfl [] trivial [(1007, [.p (ks xf.n), .p (.sl 2 (xf.types.map nodeTR)), .p (.sl 2 (xf.globals.map fieldR)), .p (.sl 5 (xf.procs.map procR)), .p (.sl 7 (xf.measures.map measureR)), .p (.sl 6 (xf.invs.map invR)), .p (.sl 5 (xf.pots.map potR)), .p (.sl 5 (xf.bounds.map boundR))])] ⟨⟨_, rfl, by decide, .cons (.refl _) (.cons (.refl _) (.cons (.refl _) (.cons (.refl _) (.cons (.refl _) (.cons (.refl _) (.cons (.refl _) (.cons (.ar) .nil)))))))⟩, trivial⟩ ?_
      repeat' first | refine g_go T hC true 400 rfl rfl ?_ | (exfalso; simp at h; done) | refine g_cond rfl (fun h => ?_) (fun h => ?_) | refine g_idx T hC rfl rfl rfl (Int.natCast_nonneg _) (map_at ht) rfl rfl ?_ | refine g_call hC ((rIs_y ht hs)) rfl rfl (LeSs.refl _) rfl rfl rfl ?_ | refine g_outE ?_ | refine g_retl T (.inl rfl) rfl ?_
      rw [wrapS (i := k) (by omega)]
      exact g_fin ⟨.inl rfl, id, _, rfl, .refl _, trivial, rfl, rfl⟩
    · rw [if_neg hs] at hd
      have hI := ritem_ok hl F k d hk (by omega)
      cases e : itemA l F k d with
      | out => rw [e] at hd; exact (pab_out hd).elim
      | ok d2 j2 =>
        obtain ⟨y, hy, hI⟩ := hI true d2 j2 e
        obtain rfl := hy rfl
        rw [e, okB] at hd
        simp only [itemsZ, e] at hz
        have hj2 := (itemA_rg hl F k d hk).1 _ _ e
        have hc2 := itemA_cnt hl F k d hk (by omega) e
        repeat' first | refine g_go T hC true 400 rfl rfl ?_ | (exfalso; simp at h; done) | refine g_cond rfl (fun h => ?_) (fun h => ?_) | refine g_idx T hC rfl rfl rfl (Int.natCast_nonneg _) (map_at ht) rfl rfl ?_ | refine g_call hC ((rIs_n ht hs)) rfl rfl (LeSs.refl _) rfl rfl rfl ?_ | refine g_callR hC (hI) (nm [101, 102, 103, 104, 105, 106, 107, 201, 202, 203, 204, 205, 206, 207]) rfl rfl (LeSs.refl _) rfl rfl rfl rfl rfl rfl rfl rfl ?_
        exact g_round (y, j2, g) ⟨hj2, by simp only; omega, hd, hz⟩ mv7 (Nat.lt_succ_self _) ⟨rfl, ⟨rfl, rfl, rfl, rfl, trivial⟩, ⟨rfl, rfl, rfl, rfl, rfl, rfl, rfl, rfl, rfl, trivial⟩, rfl, fun i hi => mv7_low hi⟩
      | no j2 =>
        have hI := itemZ_ok hI e
        rw [e, noB] at hd
        obtain ⟨rfl, rfl⟩ := pab_no hd
        simp only [itemsZ, e] at hz
        have hz := hz trivial
        rw [← hz] at hI
        repeat' first | refine g_go T hC true 400 rfl rfl ?_ | (exfalso; simp at h; done) | refine g_cond rfl (fun h => ?_) (fun h => ?_) | refine g_idx T hC rfl rfl rfl (Int.natCast_nonneg _) (map_at ht) rfl rfl ?_ | refine g_call hC ((rIs_n ht hs)) rfl rfl (LeSs.refl _) rfl rfl rfl ?_ | refine g_callR hC (hI) (nm [101, 102, 103, 104, 105, 106, 107, 201, 202, 203, 204, 205, 206, 207]) rfl rfl (LeSs.refl _) rfl rfl rfl rfl rfl rfl rfl rfl ?_ | refine g_retl T (.inl rfl) rfl ?_ | refine g_outR ?_
        refine g_freeze rfl (id := 201) (e := 2) (rows := yf.types.map nodeTR) rfl [] trivial [(1004, [.p (ks yf.n), .p (.sl 2 (yf.types.map nodeTR)), .ar 202, .ar 203, .ar 204, .ar 205, .ar 206, .ar 207])] ⟨⟨_, rfl, by decide, .cons (.refl _) (.cons (.ar) (.cons (.refl _) (.cons (.refl _) (.cons (.refl _) (.cons (.refl _) (.cons (.refl _) (.cons (.refl _) .nil)))))))⟩, trivial⟩ ?_
        refine g_freeze rfl (id := 202) (e := 2) (rows := yf.globals.map fieldR) rfl [] trivial [(1004, [.p (ks yf.n), .p (.sl 2 (yf.types.map nodeTR)), .p (.sl 2 (yf.globals.map fieldR)), .ar 203, .ar 204, .ar 205, .ar 206, .ar 207])] ⟨⟨_, rfl, by decide, .cons (.refl _) (.cons (.refl _) (.cons (.ar) (.cons (.refl _) (.cons (.refl _) (.cons (.refl _) (.cons (.refl _) (.cons (.refl _) .nil)))))))⟩, trivial⟩ ?_
        refine g_freeze rfl (id := 203) (e := 5) (rows := yf.procs.map procR) rfl [] trivial [(1004, [.p (ks yf.n), .p (.sl 2 (yf.types.map nodeTR)), .p (.sl 2 (yf.globals.map fieldR)), .p (.sl 5 (yf.procs.map procR)), .ar 204, .ar 205, .ar 206, .ar 207])] ⟨⟨_, rfl, by decide, .cons (.refl _) (.cons (.refl _) (.cons (.refl _) (.cons (.ar) (.cons (.refl _) (.cons (.refl _) (.cons (.refl _) (.cons (.refl _) .nil)))))))⟩, trivial⟩ ?_
        refine g_freeze rfl (id := 204) (e := 7) (rows := yf.measures.map measureR) rfl [] trivial [(1004, [.p (ks yf.n), .p (.sl 2 (yf.types.map nodeTR)), .p (.sl 2 (yf.globals.map fieldR)), .p (.sl 5 (yf.procs.map procR)), .p (.sl 7 (yf.measures.map measureR)), .ar 205, .ar 206, .ar 207])] ⟨⟨_, rfl, by decide, .cons (.refl _) (.cons (.refl _) (.cons (.refl _) (.cons (.refl _) (.cons (.ar) (.cons (.refl _) (.cons (.refl _) (.cons (.refl _) .nil)))))))⟩, trivial⟩ ?_
        refine g_freeze rfl (id := 205) (e := 6) (rows := yf.invs.map invR) rfl [] trivial [(1004, [.p (ks yf.n), .p (.sl 2 (yf.types.map nodeTR)), .p (.sl 2 (yf.globals.map fieldR)), .p (.sl 5 (yf.procs.map procR)), .p (.sl 7 (yf.measures.map measureR)), .p (.sl 6 (yf.invs.map invR)), .ar 206, .ar 207])] ⟨⟨_, rfl, by decide, .cons (.refl _) (.cons (.refl _) (.cons (.refl _) (.cons (.refl _) (.cons (.refl _) (.cons (.ar) (.cons (.refl _) (.cons (.refl _) .nil)))))))⟩, trivial⟩ ?_
        refine g_freeze rfl (id := 206) (e := 5) (rows := yf.pots.map potR) rfl [] trivial [(1004, [.p (ks yf.n), .p (.sl 2 (yf.types.map nodeTR)), .p (.sl 2 (yf.globals.map fieldR)), .p (.sl 5 (yf.procs.map procR)), .p (.sl 7 (yf.measures.map measureR)), .p (.sl 6 (yf.invs.map invR)), .p (.sl 5 (yf.pots.map potR)), .ar 207])] ⟨⟨_, rfl, by decide, .cons (.refl _) (.cons (.refl _) (.cons (.refl _) (.cons (.refl _) (.cons (.refl _) (.cons (.refl _) (.cons (.ar) (.cons (.refl _) .nil)))))))⟩, trivial⟩ ?_
        refine g_freeze rfl (id := 207) (e := 5) (rows := yf.bounds.map boundR) rfl [] trivial [(1004, [.p (ks yf.n), .p (.sl 2 (yf.types.map nodeTR)), .p (.sl 2 (yf.globals.map fieldR)), .p (.sl 5 (yf.procs.map procR)), .p (.sl 7 (yf.measures.map measureR)), .p (.sl 6 (yf.invs.map invR)), .p (.sl 5 (yf.pots.map potR)), .p (.sl 5 (yf.bounds.map boundR))])] ⟨⟨_, rfl, by decide, .cons (.refl _) (.cons (.refl _) (.cons (.refl _) (.cons (.refl _) (.cons (.refl _) (.cons (.refl _) (.cons (.refl _) (.cons (.ar) .nil)))))))⟩, trivial⟩ ?_
        exact g_fin ⟨.inl rfl, id, _, rfl, .refl _, trivial, rfl, rfl⟩
end
theorem refParse_ok (s : Str) (hs : s.size ≤ 1000000) : FnOK Tryz.prog 10 [Sr s] [] (.tup [aggS (descR (descTop s).1), posS (descTop s).2.1, I (descTop s).2.2]) [] := by
  have hT := rTokens_ok s hs
  unfold descTop
  rcases tokens_good s with ⟨l, he, hl, _⟩ | ⟨⟨q1, q2⟩, e, he, h74⟩
  rotate_left
  · rw [he] at hT ⊢
    simp only at hT ⊢
    have h0 : ¬ e = 0 := by omega
    rw [if_neg h0]
    refine fn_ok T Tryz.func10 (by kernel_rfl) rfl rfl rfl rfl fun C hC => ?_
    repeat' first | refine g_go T hC true 400 rfl rfl ?_ | (exfalso; exact absurd (by simpa using h) h0) | refine g_cond rfl (fun h => ?_) (fun h => ?_) | refine g_end T hC (by kernel_rfl) ?_ | refine g_splitD (fun h => ?_) (fun h => ?_) | refine g_splitG rfl rfl rfl (fun h => ?_) (fun h => ?_) | refine g_splitP rfl rfl (fun h => ?_) (fun h => ?_) | refine g_call hC (hT) rfl rfl (LeSs.refl _) rfl rfl rfl ?_ | refine g_retl T (.inl rfl) rfl ?_
    exact g_fin ⟨.inl rfl, id, _, rfl, parse_bad_le, trivial, rfl, rfl⟩
  rw [he] at hT ⊢
  simp only [if_true] at hT ⊢
  have hll := hl.len
  have h0 : 0 < l.length := by
    obtain ⟨t, ht, _⟩ := hl.fin
    have := (List.getElem?_eq_some_iff.1 ht).1
    omega
  unfold topD
  have hout := desc_out (l := l) (f := 10 * l.length + 13) (by omega)
  have hE0 := rDesc_ok hl (10 * l.length + 13) (by omega) h0
  have hrg : RA l (descA l (10 * l.length + 13)) := by
    rw [← er_desc]
    exact .er (.go (.one hl h0 _) fun _ _ hk => .go (.name hl hk) fun _ _ hk => .go (.one hl hk _) fun _ _ hk => items_rg hl _ _ _ _ hk)
  cases hx : descA l (10 * l.length + 13) with
  | out => exact absurd hx hout
  | no j =>
    have hj := hrg.2 _ hx
    obtain ⟨z, hE⟩ := hE0.2 _ hx
    obtain ⟨t, ht⟩ := exists_at hj
    have hW := rwrong_ok t
    simp only [ht]
    refine fn_ok T Tryz.func10 (by kernel_rfl) rfl rfl rfl rfl fun C hC => ?_
    repeat' first | refine g_go T hC true 400 rfl rfl ?_ | (exfalso; simp at h; done) | refine g_cond rfl (fun h => ?_) (fun h => ?_) | refine g_end T hC (by kernel_rfl) ?_ | refine g_splitD (fun h => ?_) (fun h => ?_) | refine g_splitG rfl rfl rfl (fun h => ?_) (fun h => ?_) | refine g_splitP rfl rfl (fun h => ?_) (fun h => ?_) | refine g_call hC (hT) rfl rfl (LeSs.refl _) rfl rfl rfl ?_ | refine g_call hC (hE) rfl rfl (LeSs.refl _) rfl rfl rfl ?_ | refine g_idx T hC rfl rfl rfl (Int.natCast_nonneg _) (map_at ht) rfl rfl ?_ | refine g_call hC (hW) rfl rfl (LeSs.refl _) rfl rfl rfl ?_ | refine g_retl T (.inl rfl) rfl ?_
    exact g_fin ⟨.inl rfl, id, _, rfl, parse_bad_le, trivial, rfl, rfl⟩
  | ok x j =>
    have hj := hrg.1 _ _ hx
    have hE := hE0.1 _ _ hx
    obtain ⟨t, ht⟩ := exists_at hj
    have hW := rwrong_ok t
    have hV := valid09_ok x
    simp only [ht]
    by_cases h5 : t.k = 5
    · simp only [h5, if_true]
      by_cases hv : validD x = true
      · rw [if_pos hv]
        rw [hv] at hV
        refine fn_ok T Tryz.func10 (by kernel_rfl) rfl rfl rfl rfl fun C hC => ?_
        repeat' first | refine g_go T hC true 400 rfl rfl ?_ | (exfalso; simp at h; contradiction) | (exfalso; simp at h; done) | refine g_cond rfl (fun h => ?_) (fun h => ?_) | refine g_end T hC (by kernel_rfl) ?_ | refine g_splitD (fun h => ?_) (fun h => ?_) | refine g_splitG rfl rfl rfl (fun h => ?_) (fun h => ?_) | refine g_splitP rfl rfl (fun h => ?_) (fun h => ?_) | refine g_call hC (hT) rfl rfl (LeSs.refl _) rfl rfl rfl ?_ | refine g_call hC (hE) rfl rfl (LeSs.refl _) rfl rfl rfl ?_ | refine g_idx T hC rfl rfl rfl (Int.natCast_nonneg _) (map_at ht) rfl rfl ?_ | refine g_call hC (hV) rfl rfl (LeSs.refl _) rfl rfl rfl ?_ | refine g_retl T (.inl rfl) rfl ?_
        exact g_fin ⟨.inl rfl, id, _, rfl, .refl _, trivial, rfl, rfl⟩
      · rw [if_neg hv]
        rw [Bool.not_eq_true] at hv
        rw [hv] at hV
        refine fn_ok T Tryz.func10 (by kernel_rfl) rfl rfl rfl rfl fun C hC => ?_
        repeat' first | refine g_go T hC true 400 rfl rfl ?_ | (exfalso; simp at h; contradiction) | (exfalso; simp at h; done) | refine g_cond rfl (fun h => ?_) (fun h => ?_) | refine g_end T hC (by kernel_rfl) ?_ | refine g_splitD (fun h => ?_) (fun h => ?_) | refine g_splitG rfl rfl rfl (fun h => ?_) (fun h => ?_) | refine g_splitP rfl rfl (fun h => ?_) (fun h => ?_) | refine g_call hC (hT) rfl rfl (LeSs.refl _) rfl rfl rfl ?_ | refine g_call hC (hE) rfl rfl (LeSs.refl _) rfl rfl rfl ?_ | refine g_idx T hC rfl rfl rfl (Int.natCast_nonneg _) (map_at ht) rfl rfl ?_ | refine g_call hC (hV) rfl rfl (LeSs.refl _) rfl rfl rfl ?_ | refine g_retl T (.inl rfl) rfl ?_
        exact g_fin ⟨.inl rfl, id, _, rfl, parse_bad_le, trivial, rfl, rfl⟩
    · simp only [h5, if_false] at hW ⊢
      refine fn_ok T Tryz.func10 (by kernel_rfl) rfl rfl rfl rfl fun C hC => ?_
      repeat' first | refine g_go T hC true 400 rfl rfl ?_ | (exfalso; simp at h; contradiction) | (exfalso; simp at h; done) | refine g_cond rfl (fun h => ?_) (fun h => ?_) | refine g_end T hC (by kernel_rfl) ?_ | refine g_splitD (fun h => ?_) (fun h => ?_) | refine g_splitG rfl rfl rfl (fun h => ?_) (fun h => ?_) | refine g_splitP rfl rfl (fun h => ?_) (fun h => ?_) | refine g_call hC (hT) rfl rfl (LeSs.refl _) rfl rfl rfl ?_ | refine g_call hC (hE) rfl rfl (LeSs.refl _) rfl rfl rfl ?_ | refine g_idx T hC rfl rfl rfl (Int.natCast_nonneg _) (map_at ht) rfl rfl ?_ | refine g_call hC (hW) rfl rfl (LeSs.refl _) rfl rfl rfl ?_ | refine g_retl T (.inl rfl) rfl ?_
      exact g_fin ⟨.inl rfl, id, _, rfl, parse_bad_le, trivial, rfl, rfl⟩
end Hw.Pa
namespace Hw.Pa
open Go Go.Proofs Hw.M

def sameF (a b : Fld) : Bool := decide (a.n = b.n) && decide (a.t = b.t)
theorem sameF_refl (a : Fld) : sameF a a = true := by unfold sameF; rw [decide_eq_true rfl, decide_eq_true rfl]; rfl
theorem rsameFields_ok (a b : List Fld) : FnOK Tryz.prog 42 [pS (fieldsP a), pS (fieldsP b)] [] (.bq (eqL sameF a b)) [] := by
  refine fn_ok T Tryz.func42 (by kernel_rfl) rfl rfl rfl rfl fun C hC => ?_
  refine g_len 0 rfl fun hlen => ?_
  rw [List.length_map] at hlen
  repeat' first | refine g_go T hC true 400 rfl rfl ?_ | refine g_cond rfl (fun h => ?_) (fun h => ?_) | refine g_end T hC (by kernel_rfl) ?_ | refine g_splitD (fun h => ?_) (fun h => ?_) | refine g_retl T (.inl rfl) rfl ?_
  all_goals (try simp only [List.length_map] at *)
  · have : ¬ (a.length : Int) = (b.length : Int) := by simpa using h
    exact (eqL_len fun e => this (by rw [e])).symm
  · have hab : a.length = b.length := by have : (a.length : Int) = (b.length : Int) := by simpa using h
                                         omega
    refine g_loop (fun i : Nat => i ≤ a.length ∧ eqL sameF (a.drop i) (b.drop i) = eqL sameF a b) (fun i => ([(0, pS (fieldsP a)), (1, pS (fieldsP b)), (5, I i)], [])) (fun i => a.length - i) hC
      0 ⟨Nat.zero_le _, rfl⟩ id ⟨rfl, ⟨rfl, rfl, rfl, trivial⟩, trivial, rfl, fun _ _ => rfl⟩ ?_
    rintro i ⟨hi, hn⟩
    refine g_run' T hC true 200 rfl ?_
    refine g_cond rfl (fun h => ?_) (fun h => ?_)
    · have hlt : i < a.length := by have := of_decide_eq_true h; simp only [List.length_map] at this; omega
      clear h
      obtain ⟨x, hx⟩ := exists_at hlt
      obtain ⟨y, hy⟩ := exists_at (hab ▸ hlt)
      rw [drop_at hx, drop_at hy, eqL] at hn
      repeat' first | refine g_go T hC true 400 rfl rfl ?_ | refine g_cond rfl (fun h => ?_) (fun h => ?_) | refine g_end T hC (by kernel_rfl) ?_ | refine g_splitD (fun h => ?_) (fun h => ?_) | refine g_idx T hC rfl rfl rfl (Int.natCast_nonneg _) (map_at hx) rfl rfl ?_ | refine g_idx T hC rfl rfl rfl (Int.natCast_nonneg _) (map_at hy) rfl rfl ?_ | (refine g_neqSS (a := x.n) (b := x.t) (a' := y.n) (b' := y.t) hC rfl rfl (by kernel_rfl) rfl rfl ?_) | refine g_outR ?_ | refine g_retl T (.inl rfl) rfl ?_
      · have hxy : sameF x y = false := by have h' := h; rw [Bool.not_eq_true'] at h'; exact h'
        rw [hxy] at hn; exact hn
      · have hxy : sameF x y = true := by have h' := h; rw [Bool.not_eq_false'] at h'; exact h'
        rw [hxy, Bool.true_and] at hn
        rw [wrap64 (by omega)]
        exact g_round (i + 1) ⟨by omega, hn⟩ id (by omega) ⟨rfl, ⟨rfl, rfl, rfl, trivial⟩, trivial, rfl, fun _ _ => rfl⟩
    · have hge : ¬ i < a.length := by have := of_decide_eq_false h; simp only [List.length_map] at this; omega
      repeat' first | refine g_go T hC true 400 rfl rfl ?_ | refine g_cond rfl (fun h => ?_) (fun h => ?_) | refine g_end T hC (by kernel_rfl) ?_ | refine g_splitD (fun h => ?_) (fun h => ?_) | refine g_outE ?_ | refine g_retl T (.inl rfl) rfl ?_
      rw [List.drop_eq_nil_of_le (by omega), List.drop_eq_nil_of_le (by omega)] at hn
      exact hn

mutual
def sameS : Sm → Sm → Bool
  | .mk o s e l els, .mk o' s' e' l' els' => decide (o = o') && decide (s = s') && eqL sameE e e' && sameSs l l' && sameSs els els'
def sameSs : List Sm → List Sm → Bool
  | [], [] => true
  | x :: a, y :: b => sameS x y && sameSs a b
  | [], _ :: _ => false
  | _ :: _, [] => false
end
theorem sameSs_eq : ∀ a b : List Sm, sameSs a b = eqL sameS a b
  | [], [] => by simp only [sameSs, eqL]
  | x :: a, y :: b => by simp only [sameSs, eqL, sameSs_eq a b]
  | [], _ :: _ => by simp only [sameSs, eqL]
  | _ :: _, [] => by simp only [sameSs, eqL]
theorem sameS_eq (a b : Sm) : sameS a b = (decide (a.op = b.op) && decide (a.s = b.s) && eqL sameE a.e b.e && eqL sameS a.l b.l && eqL sameS a.els b.els) := by
  cases a; cases b; simp only [sameS, sameSs_eq, Sm.op, Sm.s, Sm.e, Sm.l, Sm.els]; rfl
theorem sm_sub (a : Sm) : sizeOf a.l < sizeOf a ∧ sizeOf a.els < sizeOf a := by
  cases a; simp only [Sm.l, Sm.els, Sm.mk.sizeOf_spec]; omega
theorem sameS_refl : ∀ (k : Nat) (a : Sm), sizeOf a < k → sameS a a = true := by
  intro k
  induction k with
  | zero => intro a h; omega
  | succ k ih =>
    intro a h
    have hs := sm_sub a
    rw [sameS_eq, decide_eq_true rfl, decide_eq_true rfl, eqL_refl fun x _ => sameE_refl (SizeOf.sizeOf x + 1) x (by omega), eqL_refl fun x hx => ih x (by have := List.sizeOf_lt_of_mem hx; omega), eqL_refl fun x hx => ih x (by have := List.sizeOf_lt_of_mem hx; omega)]
    rfl
end Hw.Pa
namespace Hw.Pa
open Go Go.Proofs Hw.M

def sameT (a b : NodeT) : Bool := decide (a.n = b.n) && eqL sameF a.f b.f
def sameP (a b : Pr) : Bool := decide (a.n = b.n) && decide (a.res = b.res) && eqL sameF a.params b.params && eqL sameF a.locs b.locs && eqL sameS a.body b.body
def sameM (a b : Ms) : Bool := decide (a.n = b.n) && decide (a.t = b.t) && decide (a.z = b.z) && sameE a.x b.x
def sameI (a b : Iv) : Bool := decide (a.n = b.n) && decide (a.t = b.t) && sameE a.x b.x
def sameO (a b : Pt) : Bool := decide (a.t = b.t) && sameE a.x b.x
def sameB (a b : Bd) : Bool := decide (a.p = b.p) && sameE a.x b.x
def sameD (a b : Desc) : Bool := decide (a.n = b.n) && eqL sameF a.globals b.globals && eqL sameT a.types b.types && eqL sameP a.procs b.procs && eqL sameM a.measures b.measures && eqL sameI a.invs b.invs && eqL sameO a.pots b.pots && eqL sameB a.bounds b.bounds
end Hw.Pa
namespace Hw.Pa
open Go Go.Proofs Hw.M

theorem rsameStmts_ok : ∀ (N : Nat) (a b : List Sm), SizeOf.sizeOf a < N → FnOK Tryz.prog 44 [pS (stmtsP a), pS (stmtsP b)] [] (.bq (eqL sameS a b)) [] := by
  intro N
  induction N with
  | zero => intro a b h; omega
  | succ N ih =>
  intro a b hN
  refine fn_ok T Tryz.func44 (by kernel_rfl) rfl rfl rfl rfl fun C hC => ?_
  refine g_len 0 rfl fun hlen => ?_
  rw [List.length_map] at hlen
  repeat' first | refine g_go T hC true 400 rfl rfl ?_ | refine g_cond rfl (fun h => ?_) (fun h => ?_) | refine g_end T hC (by kernel_rfl) ?_ | refine g_splitD (fun h => ?_) (fun h => ?_) | refine g_retl T (.inl rfl) rfl ?_
  all_goals (try simp only [List.length_map] at *)
  · have : ¬ (a.length : Int) = (b.length : Int) := by simpa using h
    exact (eqL_len fun e => this (by rw [e])).symm
  · have hab : a.length = b.length := by have : (a.length : Int) = (b.length : Int) := by simpa using h
                                         omega
    clear h
    refine g_loop (fun i : Nat => i ≤ a.length ∧ eqL sameS (a.drop i) (b.drop i) = eqL sameS a b) (fun i => ([(0, pS (stmtsP a)), (1, pS (stmtsP b)), (5, I i)], [])) (fun i => a.length - i) hC
      0 ⟨Nat.zero_le _, rfl⟩ id ⟨rfl, ⟨rfl, rfl, rfl, trivial⟩, trivial, rfl, fun _ _ => rfl⟩ ?_
    rintro i ⟨hi, hn⟩
    refine g_run' T hC true 200 rfl ?_
    refine g_cond rfl (fun h => ?_) (fun h => ?_)
    · have hlt : i < a.length := by have := of_decide_eq_true h; simp only [List.length_map] at this; omega
      clear h
      obtain ⟨x, hx⟩ := exists_at hlt
      obtain ⟨y, hy⟩ := exists_at (hab ▸ hlt)
      have hxs := List.sizeOf_lt_of_mem (List.mem_of_getElem? hx)
      have hsub := sm_sub x
      have hL := ih x.l y.l (by omega)
      have hS := ih x.els y.els (by omega)
      have hE := fun (u : Ex) (v : Ex) => rsameExpr_ok (SizeOf.sizeOf u + 1) u v (by omega)
      rw [drop_at hx, drop_at hy, eqL, sameS_eq] at hn
      generalize eqL sameS x.l y.l = q2 at hL hn
      generalize eqL sameS x.els y.els = q3 at hS hn
      repeat' first | refine g_go T hC true 400 rfl rfl ?_ | refine g_cond rfl (fun h => ?_) (fun h => ?_) | refine g_end T hC (by kernel_rfl) ?_ | refine g_splitD (fun h => ?_) (fun h => ?_) | refine g_idx T hC rfl rfl rfl (Int.natCast_nonneg _) (map_atS hx) rfl rfl ?_ | refine g_idx T hC rfl rfl rfl (Int.natCast_nonneg _) (map_atS hy) rfl rfl ?_ | refine g_call hC (hL) rfl rfl (LeSs.refl _) rfl rfl rfl ?_ | refine g_call hC (hS) rfl rfl (LeSs.refl _) rfl rfl rfl ?_ | refine g_outR ?_ | refine g_retl T (.inl rfl) rfl ?_
      all_goals (try simp only [List.length_map] at *)
      all_goals first
        | (rw [← hn]; clear ih hE hL hS hn; simp_all; done)
        | (rw [← hn, eqL_len (a := x.e) (b := y.e) (fun e => by simp [e] at h)]; simp; done)
        | skip
      have hy9 : (decide (x.op = y.op) && decide (x.s = y.s) && q2 && q3) = true ∧ (x.e.length : Int) = y.e.length := by
        clear ih hE hL hS hn; simp_all
      have hel : x.e.length = y.e.length := by have := hy9.2; omega
      have hn2 : (eqL sameE x.e y.e && eqL sameS (a.drop (i + 1)) (b.drop (i + 1))) = eqL sameS a b := by
        rw [← hn]
        have h9 := hy9.1
        simp only [Bool.and_eq_true] at h9
        rw [h9.1.1.1, h9.1.1.2, h9.1.2, h9.2]
        simp
      clear hn hy9
      refine g_len 47 rfl fun hlen2 => ?_
      rw [List.length_map] at hlen2
      refine g_loop (fun j : Nat => j ≤ x.e.length ∧ eqL sameE (x.e.drop j) (y.e.drop j) = eqL sameE x.e y.e) (fun j => ([(0, pS (stmtsP a)), (1, pS (stmtsP b)), (5, I i), (6, I j)], [])) (fun j => x.e.length - j) hC
        0 ⟨Nat.zero_le _, rfl⟩ id ⟨rfl, ⟨rfl, rfl, rfl, rfl, trivial⟩, trivial, rfl, fun _ _ => rfl⟩ ?_
      rintro j ⟨hj, hm⟩
      repeat' first | refine g_go T hC true 400 rfl rfl ?_ | refine g_cond rfl (fun h => ?_) (fun h => ?_) | refine g_end T hC (by kernel_rfl) ?_ | refine g_splitD (fun h => ?_) (fun h => ?_) | refine g_idx T hC rfl rfl rfl (Int.natCast_nonneg _) (map_atS hx) rfl rfl ?_ | refine g_idx T hC rfl rfl rfl (Int.natCast_nonneg _) (map_atS hy) rfl rfl ?_
      · have hjl : j < x.e.length := by have := of_decide_eq_true h; simp only [List.length_map] at this; omega
        obtain ⟨u, hu⟩ := exists_at hjl
        obtain ⟨v, hv⟩ := exists_at (hel ▸ hjl)
        have hEE := hE u v
        rw [drop_at hu, drop_at hv, eqL] at hm
        repeat' first | refine g_go T hC true 400 rfl rfl ?_ | refine g_cond rfl (fun h => ?_) (fun h => ?_) | refine g_end T hC (by kernel_rfl) ?_ | refine g_splitD (fun h => ?_) (fun h => ?_) | refine g_idx T hC rfl rfl rfl (Int.natCast_nonneg _) (map_atS hx) rfl rfl ?_ | refine g_idx T hC rfl rfl rfl (Int.natCast_nonneg _) (map_atS hy) rfl rfl ?_ | refine g_idx T hC rfl rfl rfl (Int.natCast_nonneg _) (map_atE hu) rfl rfl ?_ | refine g_idx T hC rfl rfl rfl (Int.natCast_nonneg _) (map_atE hv) rfl rfl ?_ | refine g_call hC (hEE) rfl rfl (LeSs.refl _) rfl rfl rfl ?_ | refine g_outR ?_ | refine g_retl T (.inl rfl) rfl ?_
        · have huv : sameE u v = false := by simpa using h
          rw [huv] at hm
          rw [← hn2, ← hm]; rfl
        · have huv : sameE u v = true := by simpa using h
          rw [huv, Bool.true_and] at hm
          rw [wrap64 (by omega)]
          exact g_round (j + 1) ⟨by omega, hm⟩ id (by omega) ⟨rfl, ⟨rfl, rfl, rfl, rfl, trivial⟩, trivial, rfl, fun _ _ => rfl⟩
      · have hge : ¬ j < x.e.length := by have := of_decide_eq_false h; simp only [List.length_map] at this; omega
        rw [List.drop_eq_nil_of_le (by omega), List.drop_eq_nil_of_le (by omega)] at hm
        rw [← hm, eqL, Bool.true_and] at hn2
        repeat' first | refine g_go T hC true 400 rfl rfl ?_ | refine g_cond rfl (fun h => ?_) (fun h => ?_) | refine g_end T hC (by kernel_rfl) ?_ | refine g_splitD (fun h => ?_) (fun h => ?_) | refine g_outE ?_
        rw [wrap64 (by omega)]
        exact g_round (i + 1) ⟨by omega, hn2⟩ id (by omega) ⟨rfl, ⟨rfl, rfl, rfl, trivial⟩, trivial, rfl, fun _ _ => rfl⟩
    · have hge : ¬ i < a.length := by have := of_decide_eq_false h; simp only [List.length_map] at this; omega
      repeat' first | refine g_go T hC true 400 rfl rfl ?_ | refine g_cond rfl (fun h => ?_) (fun h => ?_) | refine g_end T hC (by kernel_rfl) ?_ | refine g_splitD (fun h => ?_) (fun h => ?_) | refine g_outE ?_ | refine g_retl T (.inl rfl) rfl ?_
      rw [List.drop_eq_nil_of_le (by omega), List.drop_eq_nil_of_le (by omega)] at hn
      exact hn
end Hw.Pa
namespace Hw.Pa
open Go Go.Proofs Hw.M

def sameFm (a b : Desc) : Bool := eqL sameM a.measures b.measures && eqL sameI a.invs b.invs && eqL sameO a.pots b.pots && eqL sameB a.bounds b.bounds
theorem sameFormulas_ok (a b : Desc) : FnOK Tryz.prog 43 [aggS (descR a), aggS (descR b)] [] (.bq (sameFm a b)) [] := by
  have hno4 : eqL sameM a.measures b.measures = false → sameFm a b = false := fun h => by unfold sameFm; rw [h]; rfl
  have hno5 : eqL sameI a.invs b.invs = false → sameFm a b = false := fun h => by unfold sameFm; rw [h]; simp
  have hno6 : eqL sameO a.pots b.pots = false → sameFm a b = false := fun h => by unfold sameFm; rw [h]; simp
  have hno7 : eqL sameB a.bounds b.bounds = false → sameFm a b = false := fun h => by unfold sameFm; rw [h]; simp
  have hE := fun (u : Ex) (v : Ex) => rsameExpr_ok (SizeOf.sizeOf u + 1) u v (by omega)
  refine fn_ok T Tryz.func43 (by kernel_rfl) rfl rfl rfl rfl fun C hC => ?_
  refine g_lenA rfl 0 4 rfl rfl fun l4 => ?_
  refine g_lenA rfl 0 5 rfl rfl fun l5 => ?_
  refine g_lenA rfl 0 6 rfl rfl fun l6 => ?_
  refine g_lenA rfl 0 7 rfl rfl fun l7 => ?_
  rw [List.length_map] at l4 l5 l6 l7
  repeat' first | refine g_go T hC true 400 rfl rfl ?_ | refine g_cond rfl (fun h => ?_) (fun h => ?_) | refine g_end T hC (by kernel_rfl) ?_ | refine g_splitD (fun h => ?_) (fun h => ?_) | refine g_splitG rfl rfl rfl (fun h => ?_) (fun h => ?_) | refine g_splitP rfl rfl (fun h => ?_) (fun h => ?_) | refine g_retl T (.inl rfl) rfl ?_
  all_goals (try simp only [List.length_map] at *)
  all_goals first
    | (refine (hno4 (eqL_len fun e => ?_)).symm; simp [e] at h; done)
    | (refine (hno5 (eqL_len fun e => ?_)).symm; simp [e] at h; done)
    | (refine (hno6 (eqL_len fun e => ?_)).symm; simp [e] at h; done)
    | (refine (hno7 (eqL_len fun e => ?_)).symm; simp [e] at h; done)
    | skip
  have he : a.measures.length = b.measures.length ∧ a.invs.length = b.invs.length ∧ a.pots.length = b.pots.length ∧ a.bounds.length = b.bounds.length := by
    clear hno4 hno5 hno6 hno7 hE
    simp only [Bool.not_eq_false', decide_eq_true_eq] at *
    omega
  obtain ⟨he4, he5, he6, he7⟩ := he
  clear h
  refine g_loop (fun i : Nat => i ≤ a.measures.length ∧ eqL sameM (a.measures.drop i) (b.measures.drop i) = eqL sameM a.measures b.measures) (fun i => ([(2, .one (.bx 1002 0)), (3, .one (.bx 1003 0)), (5, I i)], [(1002, some (.box ((descR a).map V.p))), (1003, some (.box ((descR b).map V.p)))])) (fun i => a.measures.length - i) hC
    0 ⟨Nat.zero_le _, rfl⟩ id ⟨rfl, ⟨rfl, rfl, rfl, trivial⟩, ⟨rfl, rfl, trivial⟩, rfl, fun _ _ => rfl⟩ ?_
  rintro i ⟨hi, hn⟩
  refine g_run' T hC true 200 rfl ?_
  refine g_cond rfl (fun h => ?_) (fun h => ?_)
  · have hlt : i < a.measures.length := by have := of_decide_eq_true h; simp only [List.length_map] at this; omega
    clear h
    obtain ⟨x, hx⟩ := exists_at hlt
    obtain ⟨y, hy⟩ := exists_at (l := b.measures) (i := i) (by omega)
    rw [drop_at hx, drop_at hy, eqL] at hn
    have hX := hE x.x y.x
    repeat' first | refine g_go T hC true 400 rfl rfl ?_ | refine g_cond rfl (fun h => ?_) (fun h => ?_) | refine g_end T hC (by kernel_rfl) ?_ | refine g_splitD (fun h => ?_) (fun h => ?_) | refine g_splitG rfl rfl rfl (fun h => ?_) (fun h => ?_) | refine g_splitP rfl rfl (fun h => ?_) (fun h => ?_) | refine g_idx T hC rfl rfl rfl (Int.natCast_nonneg _) (map_at hx) rfl rfl ?_ | refine g_idx T hC rfl rfl rfl (Int.natCast_nonneg _) (map_at hy) rfl rfl ?_ | refine g_call hC (hX) rfl rfl (LeSs.refl _) rfl rfl rfl ?_ | refine g_outR ?_ | refine g_retl T (.inl rfl) rfl ?_
    all_goals (try simp only [List.length_map] at *)
    all_goals first
      | (refine (hno4 ?_).symm
         rw [← hn, show sameM x y = false by unfold sameM; clear hn hx hy hno4 hno5 hno6 hno7 hE hX; simp_all]
         rfl)
      | (have hxy : sameM x y = true := by unfold sameM; clear hn hx hy hno4 hno5 hno6 hno7 hE hX; simp_all
         rw [hxy, Bool.true_and] at hn
         rw [wrap64 (by omega)]
         exact g_round (i + 1) ⟨by omega, hn⟩ id (by omega) ⟨rfl, ⟨rfl, rfl, rfl, trivial⟩, ⟨rfl, rfl, trivial⟩, rfl, fun _ _ => rfl⟩)
  have hge : ¬ i < a.measures.length := by have := of_decide_eq_false h; simp only [List.length_map] at this; omega
  rw [List.drop_eq_nil_of_le (by omega), List.drop_eq_nil_of_le (by omega)] at hn
  have hk4 : eqL sameM a.measures b.measures = true := hn.symm
  clear h hge hn hi
  repeat' first | refine g_go T hC true 400 rfl rfl ?_ | refine g_cond rfl (fun h => ?_) (fun h => ?_) | refine g_end T hC (by kernel_rfl) ?_ | refine g_splitD (fun h => ?_) (fun h => ?_) | refine g_splitG rfl rfl rfl (fun h => ?_) (fun h => ?_) | refine g_splitP rfl rfl (fun h => ?_) (fun h => ?_) | refine g_outE ?_
  refine g_loop (fun i : Nat => i ≤ a.invs.length ∧ eqL sameI (a.invs.drop i) (b.invs.drop i) = eqL sameI a.invs b.invs) (fun i => ([(2, .one (.bx 1002 0)), (3, .one (.bx 1003 0)), (8, I i)], [(1002, some (.box ((descR a).map V.p))), (1003, some (.box ((descR b).map V.p)))])) (fun i => a.invs.length - i) hC
    0 ⟨Nat.zero_le _, rfl⟩ id ⟨rfl, ⟨rfl, rfl, rfl, trivial⟩, ⟨rfl, rfl, trivial⟩, rfl, fun _ _ => rfl⟩ ?_
  rintro i ⟨hi, hn⟩
  refine g_run' T hC true 200 rfl ?_
  refine g_cond rfl (fun h => ?_) (fun h => ?_)
  · have hlt : i < a.invs.length := by have := of_decide_eq_true h; simp only [List.length_map] at this; omega
    clear h
    obtain ⟨x, hx⟩ := exists_at hlt
    obtain ⟨y, hy⟩ := exists_at (l := b.invs) (i := i) (by omega)
    rw [drop_at hx, drop_at hy, eqL] at hn
    have hX := hE x.x y.x
    repeat' first | refine g_go T hC true 400 rfl rfl ?_ | refine g_cond rfl (fun h => ?_) (fun h => ?_) | refine g_end T hC (by kernel_rfl) ?_ | refine g_splitD (fun h => ?_) (fun h => ?_) | refine g_splitG rfl rfl rfl (fun h => ?_) (fun h => ?_) | refine g_splitP rfl rfl (fun h => ?_) (fun h => ?_) | refine g_idx T hC rfl rfl rfl (Int.natCast_nonneg _) (map_at hx) rfl rfl ?_ | refine g_idx T hC rfl rfl rfl (Int.natCast_nonneg _) (map_at hy) rfl rfl ?_ | refine g_call hC (hX) rfl rfl (LeSs.refl _) rfl rfl rfl ?_ | refine g_outR ?_ | refine g_retl T (.inl rfl) rfl ?_
    all_goals (try simp only [List.length_map] at *)
    all_goals first
      | (refine (hno5 ?_).symm
         rw [← hn, show sameI x y = false by unfold sameI; clear hn hx hy hno4 hno5 hno6 hno7 hE hX; simp_all]
         rfl)
      | (have hxy : sameI x y = true := by unfold sameI; clear hn hx hy hno4 hno5 hno6 hno7 hE hX; simp_all
         rw [hxy, Bool.true_and] at hn
         rw [wrap64 (by omega)]
         exact g_round (i + 1) ⟨by omega, hn⟩ id (by omega) ⟨rfl, ⟨rfl, rfl, rfl, trivial⟩, ⟨rfl, rfl, trivial⟩, rfl, fun _ _ => rfl⟩)
  have hge : ¬ i < a.invs.length := by have := of_decide_eq_false h; simp only [List.length_map] at this; omega
  rw [List.drop_eq_nil_of_le (by omega), List.drop_eq_nil_of_le (by omega)] at hn
  have hk5 : eqL sameI a.invs b.invs = true := hn.symm
  clear h hge hn hi
  repeat' first | refine g_go T hC true 400 rfl rfl ?_ | refine g_cond rfl (fun h => ?_) (fun h => ?_) | refine g_end T hC (by kernel_rfl) ?_ | refine g_splitD (fun h => ?_) (fun h => ?_) | refine g_splitG rfl rfl rfl (fun h => ?_) (fun h => ?_) | refine g_splitP rfl rfl (fun h => ?_) (fun h => ?_) | refine g_outE ?_
  refine g_loop (fun i : Nat => i ≤ a.pots.length ∧ eqL sameO (a.pots.drop i) (b.pots.drop i) = eqL sameO a.pots b.pots) (fun i => ([(2, .one (.bx 1002 0)), (3, .one (.bx 1003 0)), (11, I i)], [(1002, some (.box ((descR a).map V.p))), (1003, some (.box ((descR b).map V.p)))])) (fun i => a.pots.length - i) hC
    0 ⟨Nat.zero_le _, rfl⟩ id ⟨rfl, ⟨rfl, rfl, rfl, trivial⟩, ⟨rfl, rfl, trivial⟩, rfl, fun _ _ => rfl⟩ ?_
  rintro i ⟨hi, hn⟩
  refine g_run' T hC true 200 rfl ?_
  refine g_cond rfl (fun h => ?_) (fun h => ?_)
  · have hlt : i < a.pots.length := by have := of_decide_eq_true h; simp only [List.length_map] at this; omega
    clear h
    obtain ⟨x, hx⟩ := exists_at hlt
    obtain ⟨y, hy⟩ := exists_at (l := b.pots) (i := i) (by omega)
    rw [drop_at hx, drop_at hy, eqL] at hn
    have hX := hE x.x y.x
    repeat' first | refine g_go T hC true 400 rfl rfl ?_ | refine g_cond rfl (fun h => ?_) (fun h => ?_) | refine g_end T hC (by kernel_rfl) ?_ | refine g_splitD (fun h => ?_) (fun h => ?_) | refine g_splitG rfl rfl rfl (fun h => ?_) (fun h => ?_) | refine g_splitP rfl rfl (fun h => ?_) (fun h => ?_) | refine g_idx T hC rfl rfl rfl (Int.natCast_nonneg _) (map_at hx) rfl rfl ?_ | refine g_idx T hC rfl rfl rfl (Int.natCast_nonneg _) (map_at hy) rfl rfl ?_ | refine g_call hC (hX) rfl rfl (LeSs.refl _) rfl rfl rfl ?_ | refine g_outR ?_ | refine g_retl T (.inl rfl) rfl ?_
    all_goals (try simp only [List.length_map] at *)
    all_goals first
      | (refine (hno6 ?_).symm
         rw [← hn, show sameO x y = false by unfold sameO; clear hn hx hy hno4 hno5 hno6 hno7 hE hX; simp_all]
         rfl)
      | (have hxy : sameO x y = true := by unfold sameO; clear hn hx hy hno4 hno5 hno6 hno7 hE hX; simp_all
         rw [hxy, Bool.true_and] at hn
         rw [wrap64 (by omega)]
         exact g_round (i + 1) ⟨by omega, hn⟩ id (by omega) ⟨rfl, ⟨rfl, rfl, rfl, trivial⟩, ⟨rfl, rfl, trivial⟩, rfl, fun _ _ => rfl⟩)
  have hge : ¬ i < a.pots.length := by have := of_decide_eq_false h; simp only [List.length_map] at this; omega
  rw [List.drop_eq_nil_of_le (by omega), List.drop_eq_nil_of_le (by omega)] at hn
  have hk6 : eqL sameO a.pots b.pots = true := hn.symm
  clear h hge hn hi
  repeat' first | refine g_go T hC true 400 rfl rfl ?_ | refine g_cond rfl (fun h => ?_) (fun h => ?_) | refine g_end T hC (by kernel_rfl) ?_ | refine g_splitD (fun h => ?_) (fun h => ?_) | refine g_splitG rfl rfl rfl (fun h => ?_) (fun h => ?_) | refine g_splitP rfl rfl (fun h => ?_) (fun h => ?_) | refine g_outE ?_
  refine g_loop (fun i : Nat => i ≤ a.bounds.length ∧ eqL sameB (a.bounds.drop i) (b.bounds.drop i) = eqL sameB a.bounds b.bounds) (fun i => ([(2, .one (.bx 1002 0)), (3, .one (.bx 1003 0)), (12, I i)], [(1002, some (.box ((descR a).map V.p))), (1003, some (.box ((descR b).map V.p)))])) (fun i => a.bounds.length - i) hC
    0 ⟨Nat.zero_le _, rfl⟩ id ⟨rfl, ⟨rfl, rfl, rfl, trivial⟩, ⟨rfl, rfl, trivial⟩, rfl, fun _ _ => rfl⟩ ?_
  rintro i ⟨hi, hn⟩
  refine g_run' T hC true 200 rfl ?_
  refine g_cond rfl (fun h => ?_) (fun h => ?_)
  · have hlt : i < a.bounds.length := by have := of_decide_eq_true h; simp only [List.length_map] at this; omega
    clear h
    obtain ⟨x, hx⟩ := exists_at hlt
    obtain ⟨y, hy⟩ := exists_at (l := b.bounds) (i := i) (by omega)
    rw [drop_at hx, drop_at hy, eqL] at hn
    have hX := hE x.x y.x
    repeat' first | refine g_go T hC true 400 rfl rfl ?_ | refine g_cond rfl (fun h => ?_) (fun h => ?_) | refine g_end T hC (by kernel_rfl) ?_ | refine g_splitD (fun h => ?_) (fun h => ?_) | refine g_splitG rfl rfl rfl (fun h => ?_) (fun h => ?_) | refine g_splitP rfl rfl (fun h => ?_) (fun h => ?_) | refine g_idx T hC rfl rfl rfl (Int.natCast_nonneg _) (map_at hx) rfl rfl ?_ | refine g_idx T hC rfl rfl rfl (Int.natCast_nonneg _) (map_at hy) rfl rfl ?_ | refine g_call hC (hX) rfl rfl (LeSs.refl _) rfl rfl rfl ?_ | refine g_outR ?_ | refine g_retl T (.inl rfl) rfl ?_
    all_goals (try simp only [List.length_map] at *)
    all_goals first
      | (refine (hno7 ?_).symm
         rw [← hn, show sameB x y = false by unfold sameB; clear hn hx hy hno4 hno5 hno6 hno7 hE hX; simp_all]
         rfl)
      | (have hxy : sameB x y = true := by unfold sameB; clear hn hx hy hno4 hno5 hno6 hno7 hE hX; simp_all
         rw [hxy, Bool.true_and] at hn
         rw [wrap64 (by omega)]
         exact g_round (i + 1) ⟨by omega, hn⟩ id (by omega) ⟨rfl, ⟨rfl, rfl, rfl, trivial⟩, ⟨rfl, rfl, trivial⟩, rfl, fun _ _ => rfl⟩)
  have hge : ¬ i < a.bounds.length := by have := of_decide_eq_false h; simp only [List.length_map] at this; omega
  rw [List.drop_eq_nil_of_le (by omega), List.drop_eq_nil_of_le (by omega)] at hn
  have hk7 : eqL sameB a.bounds b.bounds = true := hn.symm
  clear h hge hn hi
  repeat' first | refine g_go T hC true 400 rfl rfl ?_ | refine g_cond rfl (fun h => ?_) (fun h => ?_) | refine g_end T hC (by kernel_rfl) ?_ | refine g_splitD (fun h => ?_) (fun h => ?_) | refine g_splitG rfl rfl rfl (fun h => ?_) (fun h => ?_) | refine g_splitP rfl rfl (fun h => ?_) (fun h => ?_) | refine g_outE ?_ | refine g_retl T (.inl rfl) rfl ?_
  unfold sameFm
  rw [hk4, hk5, hk6, hk7]
  rfl
end Hw.Pa
namespace Hw.Pa
open Go Go.Proofs Hw.M

theorem sameD_fm (a b : Desc) : sameD a b = (decide (a.n = b.n) && eqL sameF a.globals b.globals && sameFm a b && eqL sameT a.types b.types && eqL sameP a.procs b.procs) := by
  unfold sameD sameFm
  generalize decide (a.n = b.n) = p1
  generalize eqL sameF a.globals b.globals = p2
  generalize eqL sameT a.types b.types = p3
  generalize eqL sameP a.procs b.procs = p4
  generalize eqL sameM a.measures b.measures = p5
  generalize eqL sameI a.invs b.invs = p6
  generalize eqL sameO a.pots b.pots = p7
  generalize eqL sameB a.bounds b.bounds = p8
  revert p1 p2 p3 p4 p5 p6 p7 p8
  decide
theorem rsame09_ok (a b : Desc) : FnOK Tryz.prog 12 [aggS (descR a), aggS (descR b)] [] (.bq (sameD a b)) [] := by
  rw [sameD_fm]
  have hG := rsameFields_ok a.globals b.globals
  have hFm := sameFormulas_ok a b
  have hS := fun (u v : List Sm) => rsameStmts_ok (SizeOf.sizeOf u + 1) u v (by omega)
  generalize eqL sameF a.globals b.globals = q1 at hG ⊢
  generalize sameFm a b = q2 at hFm ⊢
  generalize hRR : (decide (a.n = b.n) && q1 && q2 && eqL sameT a.types b.types && eqL sameP a.procs b.procs) = RR
  have hno1 : eqL sameT a.types b.types = false → RR = false := fun h => by rw [← hRR, h]; simp
  have hno3 : eqL sameP a.procs b.procs = false → RR = false := fun h => by rw [← hRR, h]; simp
  refine fn_ok T Tryz.func12 (by kernel_rfl) rfl rfl rfl rfl fun C hC => ?_
  refine g_lenA rfl 0 1 rfl rfl fun l1 => ?_
  refine g_lenA rfl 0 3 rfl rfl fun l3 => ?_
  rw [List.length_map] at l1 l3
  repeat' first | refine g_go T hC true 400 rfl rfl ?_ | refine g_cond rfl (fun h => ?_) (fun h => ?_) | refine g_end T hC (by kernel_rfl) ?_ | refine g_splitD (fun h => ?_) (fun h => ?_) | refine g_splitG rfl rfl rfl (fun h => ?_) (fun h => ?_) | refine g_splitP rfl rfl (fun h => ?_) (fun h => ?_) | refine g_call hC (hG) rfl rfl (LeSs.refl _) rfl rfl rfl ?_ | refine g_call hC (hFm) rfl rfl (LeSs.refl _) rfl rfl rfl ?_ | refine g_retl T (.inl rfl) rfl ?_
  all_goals (try simp only [List.length_map] at *)
  all_goals first
    | (refine (hno1 (eqL_len fun e => ?_)).symm; simp [e] at h; done)
    | (refine (hno3 (eqL_len fun e => ?_)).symm; simp [e] at h; done)
    | (rw [← hRR]; clear hG hFm hS hno1 hno3 hRR; simp_all; done)
    | skip
  have he : (decide (a.n = b.n) && q1 && q2) = true ∧ (a.types.length : Int) = b.types.length ∧ (a.procs.length : Int) = b.procs.length := by
    clear hno1 hno3 hS hG hFm hRR
    simp_all
  obtain ⟨he0, he1, he3⟩ := he
  rw [he0, Bool.true_and] at hRR
  clear h
  refine g_loop (fun i : Nat => i ≤ a.types.length ∧ eqL sameT (a.types.drop i) (b.types.drop i) = eqL sameT a.types b.types) (fun i => ([(2, .one (.bx 1002 0)), (3, .one (.bx 1003 0)), (5, I i)], [(1002, some (.box ((descR a).map V.p))), (1003, some (.box ((descR b).map V.p)))])) (fun i => a.types.length - i) hC
    0 ⟨Nat.zero_le _, rfl⟩ id ⟨rfl, ⟨rfl, rfl, rfl, trivial⟩, ⟨rfl, rfl, trivial⟩, rfl, fun _ _ => rfl⟩ ?_
  rintro i ⟨hi, hn⟩
  refine g_run' T hC true 200 rfl ?_
  refine g_cond rfl (fun h => ?_) (fun h => ?_)
  · have hlt : i < a.types.length := by have := of_decide_eq_true h; simp only [List.length_map] at this; omega
    clear h
    obtain ⟨x, hx⟩ := exists_at hlt
    obtain ⟨y, hy⟩ := exists_at (l := b.types) (i := i) (by omega)
    rw [drop_at hx, drop_at hy, eqL] at hn
    have hX := rsameFields_ok x.f y.f
    repeat' first | refine g_go T hC true 400 rfl rfl ?_ | refine g_cond rfl (fun h => ?_) (fun h => ?_) | refine g_end T hC (by kernel_rfl) ?_ | refine g_splitD (fun h => ?_) (fun h => ?_) | refine g_splitG rfl rfl rfl (fun h => ?_) (fun h => ?_) | refine g_splitP rfl rfl (fun h => ?_) (fun h => ?_) | refine g_idx T hC rfl rfl rfl (Int.natCast_nonneg _) (map_at hx) rfl rfl ?_ | refine g_idx T hC rfl rfl rfl (Int.natCast_nonneg _) (map_at hy) rfl rfl ?_ | refine g_call hC (hX) rfl rfl (LeSs.refl _) rfl rfl rfl ?_ | refine g_outR ?_ | refine g_retl T (.inl rfl) rfl ?_
    all_goals (try simp only [List.length_map] at *)
    all_goals first
      | (refine (hno1 ?_).symm
         rw [← hn, show sameT x y = false by unfold sameT; clear hn hx hy hno1 hno3 hS hX hG hFm hRR; simp_all]
         rfl)
      | (have hxy : sameT x y = true := by unfold sameT; clear hn hx hy hno1 hno3 hS hX hG hFm hRR; simp_all
         rw [hxy, Bool.true_and] at hn
         rw [wrap64 (by omega)]
         exact g_round (i + 1) ⟨by omega, hn⟩ id (by omega) ⟨rfl, ⟨rfl, rfl, rfl, trivial⟩, ⟨rfl, rfl, trivial⟩, rfl, fun _ _ => rfl⟩)
  have hge : ¬ i < a.types.length := by have := of_decide_eq_false h; simp only [List.length_map] at this; omega
  rw [List.drop_eq_nil_of_le (by omega), List.drop_eq_nil_of_le (by omega)] at hn
  have hk1 : eqL sameT a.types b.types = true := hn.symm
  clear h hge hn hi
  repeat' first | refine g_go T hC true 400 rfl rfl ?_ | refine g_cond rfl (fun h => ?_) (fun h => ?_) | refine g_end T hC (by kernel_rfl) ?_ | refine g_splitD (fun h => ?_) (fun h => ?_) | refine g_splitG rfl rfl rfl (fun h => ?_) (fun h => ?_) | refine g_splitP rfl rfl (fun h => ?_) (fun h => ?_) | refine g_outE ?_
  refine g_loop (fun i : Nat => i ≤ a.procs.length ∧ eqL sameP (a.procs.drop i) (b.procs.drop i) = eqL sameP a.procs b.procs) (fun i => ([(2, .one (.bx 1002 0)), (3, .one (.bx 1003 0)), (6, I i)], [(1002, some (.box ((descR a).map V.p))), (1003, some (.box ((descR b).map V.p)))])) (fun i => a.procs.length - i) hC
    0 ⟨Nat.zero_le _, rfl⟩ id ⟨rfl, ⟨rfl, rfl, rfl, trivial⟩, ⟨rfl, rfl, trivial⟩, rfl, fun _ _ => rfl⟩ ?_
  rintro i ⟨hi, hn⟩
  refine g_run' T hC true 200 rfl ?_
  refine g_cond rfl (fun h => ?_) (fun h => ?_)
  · have hlt : i < a.procs.length := by have := of_decide_eq_true h; simp only [List.length_map] at this; omega
    clear h
    obtain ⟨x, hx⟩ := exists_at hlt
    obtain ⟨y, hy⟩ := exists_at (l := b.procs) (i := i) (by omega)
    rw [drop_at hx, drop_at hy, eqL] at hn
    have hX := rsameFields_ok x.params y.params
    have hY := rsameFields_ok x.locs y.locs
    have hZ := hS x.body y.body
    repeat' first | refine g_go T hC true 400 rfl rfl ?_ | refine g_cond rfl (fun h => ?_) (fun h => ?_) | refine g_end T hC (by kernel_rfl) ?_ | refine g_splitD (fun h => ?_) (fun h => ?_) | refine g_splitG rfl rfl rfl (fun h => ?_) (fun h => ?_) | refine g_splitP rfl rfl (fun h => ?_) (fun h => ?_) | refine g_idx T hC rfl rfl rfl (Int.natCast_nonneg _) (map_at hx) rfl rfl ?_ | refine g_idx T hC rfl rfl rfl (Int.natCast_nonneg _) (map_at hy) rfl rfl ?_ | refine g_call hC (hX) rfl rfl (LeSs.refl _) rfl rfl rfl ?_ | refine g_call hC (hY) rfl rfl (LeSs.refl _) rfl rfl rfl ?_ | refine g_call hC (hZ) rfl rfl (LeSs.refl _) rfl rfl rfl ?_ | refine g_outR ?_ | refine g_retl T (.inl rfl) rfl ?_
    all_goals (try simp only [List.length_map] at *)
    all_goals first
      | (refine (hno3 ?_).symm
         rw [← hn, show sameP x y = false by unfold sameP; clear hn hx hy hno1 hno3 hS hX hY hZ hG hFm hRR; simp_all]
         rfl)
      | (have hxy : sameP x y = true := by unfold sameP; clear hn hx hy hno1 hno3 hS hX hY hZ hG hFm hRR; simp_all
         rw [hxy, Bool.true_and] at hn
         rw [wrap64 (by omega)]
         exact g_round (i + 1) ⟨by omega, hn⟩ id (by omega) ⟨rfl, ⟨rfl, rfl, rfl, trivial⟩, ⟨rfl, rfl, trivial⟩, rfl, fun _ _ => rfl⟩)
  have hge : ¬ i < a.procs.length := by have := of_decide_eq_false h; simp only [List.length_map] at this; omega
  rw [List.drop_eq_nil_of_le (by omega), List.drop_eq_nil_of_le (by omega)] at hn
  have hk3 : eqL sameP a.procs b.procs = true := hn.symm
  clear h hge hn hi
  repeat' first | refine g_go T hC true 400 rfl rfl ?_ | refine g_cond rfl (fun h => ?_) (fun h => ?_) | refine g_end T hC (by kernel_rfl) ?_ | refine g_splitD (fun h => ?_) (fun h => ?_) | refine g_splitG rfl rfl rfl (fun h => ?_) (fun h => ?_) | refine g_splitP rfl rfl (fun h => ?_) (fun h => ?_) | refine g_outE ?_ | refine g_retl T (.inl rfl) rfl ?_
  rw [← hRR, hk1, hk3]
  rfl
end Hw.Pa
namespace Hw.Pa
open Go Go.Proofs Hw.M

theorem sameD_refl (d : Desc) : sameD d d = true := by
  have hE : ∀ x : Ex, sameE x x = true := fun x => sameE_refl (SizeOf.sizeOf x + 1) x (by omega)
  have hS : ∀ x : Sm, sameS x x = true := fun x => sameS_refl (SizeOf.sizeOf x + 1) x (by omega)
  unfold sameD
  rw [eqL_refl fun x _ => sameF_refl x, eqL_refl fun x _ => (by unfold sameT; rw [eqL_refl fun x _ => sameF_refl x, decide_eq_true rfl]; rfl : sameT x x = true),
    eqL_refl fun x _ => (by unfold sameP; rw [eqL_refl fun x _ => sameF_refl x, eqL_refl fun x _ => sameF_refl x, eqL_refl fun x _ => hS x, decide_eq_true rfl, decide_eq_true rfl]; rfl : sameP x x = true),
    eqL_refl fun x _ => (by unfold sameM; rw [hE, decide_eq_true rfl, decide_eq_true rfl, decide_eq_true rfl]; rfl : sameM x x = true),
    eqL_refl fun x _ => (by unfold sameI; rw [hE, decide_eq_true rfl, decide_eq_true rfl]; rfl : sameI x x = true),
    eqL_refl fun x _ => (by unfold sameO; rw [hE, decide_eq_true rfl]; rfl : sameO x x = true),
    eqL_refl fun x _ => (by unfold sameB; rw [hE, decide_eq_true rfl]; rfl : sameB x x = true), decide_eq_true rfl]
  rfl
section
variable {l : List Tok}
theorem formula_cnt {f i j : Nat} {x : Ex} (h : formulaA l f i = .ok x j) : i + cntE x ≤ j := by
  unfold formulaA at h
  obtain ⟨u, k, h1, h⟩ := bind_ok h
  have := one_fwd h1
  have := (expr_cnt (l := l) f).1 _ _ _ _ h
  omega
theorem proc_cnt {f i j : Nat} {x : Pr} (h : procA l f i = .ok x j) : i + cntSs x.body ≤ j := by
  unfold procA at h
  obtain ⟨n, k1, h1, h⟩ := bind_ok h
  obtain ⟨u, k2, h2, h⟩ := bind_ok h
  obtain ⟨ps, k3, h3, h⟩ := bind_ok h
  obtain ⟨r, k4, h4, h⟩ := bind_ok h
  obtain ⟨u2, k5, h5, h⟩ := bind_ok h
  obtain ⟨ls, k6, h6, h⟩ := bind_ok h
  obtain ⟨b, k7, h7, h⟩ := bind_ok h
  have := name_fwd h1
  have := one_fwd h2
  have := list_fwd _ _ _ _ _ h3
  have : k3 ≤ k4 := by
    rcases ite_ok h4 with ⟨_, h4⟩ | ⟨_, h4⟩
    · cases h4; exact Nat.le_refl _
    · have := typ_fwd h4; omega
  have := one_fwd h5
  have := locs_fwd _ _ _ _ _ h6
  have := (stmt_cnt (l := l) f).1 _ _ _ _ h7
  cases h; simp only [cntSs] at *; omega
theorem measure_cnt {f i j : Nat} {x : Ms} (h : measureA l f i = .ok x j) : i + cntE x.x ≤ j := by
  unfold measureA at h
  obtain ⟨n, k1, h1, h⟩ := bind_ok h
  obtain ⟨u, k2, h2, h⟩ := bind_ok h
  obtain ⟨t, k3, h3, h⟩ := bind_ok h
  obtain ⟨u2, k4, h4, h⟩ := bind_ok h
  obtain ⟨u3, k5, h5, h⟩ := bind_ok h
  obtain ⟨z, k6, h6, h⟩ := bind_ok h
  obtain ⟨y, k7, h7, h⟩ := bind_ok h
  have := name_fwd h1
  have := one_fwd h2
  have := name_fwd h3
  have := one_fwd h4
  have := one_fwd h5
  have e6 := int_fwd h6
  have := formula_cnt h7
  have : k5 ≤ k6 := by rw [e6]; split <;> omega
  cases h
  show i + cntE y ≤ _
  omega
theorem item_tot {f i j : Nat} {d x : Desc} (h : itemA l f i d = .ok x j) : i + totD x ≤ j + totD d := by
  unfold itemA at h
  rcases ite_ok h with ⟨hi, h⟩ | ⟨_, h⟩
  · obtain ⟨n, k1, h1, h⟩ := bind_ok h
    obtain ⟨u, k2, h2, h⟩ := bind_ok h
    obtain ⟨fs, k3, h3, h⟩ := bind_ok h
    have := name_fwd h1
    have := one_fwd h2
    have := list_fwd _ _ _ _ _ h3
    cases h; simp only [totD, sumB_app, sumB, Nat.add_zero] at *; omega
  rcases ite_ok h with ⟨hi, h⟩ | ⟨_, h⟩
  · obtain ⟨n, k1, h1, h⟩ := bind_ok h
    have := field_fwd h1
    cases h; simp only [totD, sumB_app, sumB, Nat.add_zero] at *; omega
  rcases ite_ok h with ⟨hi, h⟩ | ⟨_, h⟩
  · obtain ⟨n, k1, h1, h⟩ := bind_ok h
    have := proc_cnt h1
    cases h; simp only [totD, sumB_app, sumB, Nat.add_zero] at *; omega
  rcases ite_ok h with ⟨hi, h⟩ | ⟨_, h⟩
  · obtain ⟨n, k1, h1, h⟩ := bind_ok h
    have := measure_cnt h1
    cases h; simp only [totD, sumB_app, sumB, Nat.add_zero] at *; omega
  rcases ite_ok h with ⟨hi, h⟩ | ⟨_, h⟩
  · obtain ⟨n, k1, h1, h⟩ := bind_ok h
    obtain ⟨t, k2, h2, h⟩ := bind_ok h
    obtain ⟨y, k3, h3, h⟩ := bind_ok h
    have := name_fwd h1
    have := inv_fwd h2
    have := formula_cnt h3
    cases h; simp only [totD, sumB_app, sumB, Nat.add_zero] at *; omega
  rcases ite_ok h with ⟨hi, h⟩ | ⟨_, h⟩
  · obtain ⟨t, k2, h2, h⟩ := bind_ok h
    obtain ⟨y, k3, h3, h⟩ := bind_ok h
    have : i + 1 ≤ k2 := by
      rcases ite_ok h2 with ⟨_, h2⟩ | ⟨_, h2⟩
      · cases h2; exact Nat.le_refl _
      · have := name_fwd h2; omega
    have := formula_cnt h3
    cases h; simp only [totD, sumB_app, sumB, Nat.add_zero] at *; omega
  rcases ite_ok h with ⟨hi, h⟩ | ⟨_, h⟩
  · obtain ⟨n, k1, h1, h⟩ := bind_ok h
    obtain ⟨y, k3, h3, h⟩ := bind_ok h
    have := name_fwd h1
    have := formula_cnt h3
    cases h; simp only [totD, sumB_app, sumB, Nat.add_zero] at *; omega
  · cases h
theorem items_tot (f : Nat) : ∀ (g i : Nat) (d x : Desc) (j : Nat), itemsA l f g i d = .ok x j → i + totD x ≤ j + totD d
  | 0, i, d, x, j, h => by simp only [itemsA, reduceCtorEq] at h
  | g + 1, i, d, x, j, h => by
    simp only [itemsA] at h
    rcases ite_ok h with ⟨_, h⟩ | ⟨_, h⟩
    · cases h; omega
    · obtain ⟨y, k, h1, h⟩ := bind_ok h
      have := item_tot h1
      have := items_tot f g _ _ _ _ h
      omega
theorem desc_tot {f j : Nat} {x : Desc} (h : descA l f = .ok x j) : totD x ≤ j := by
  unfold descA at h
  obtain ⟨u, k1, h1, h⟩ := bind_ok h
  obtain ⟨n, k2, h2, h⟩ := bind_ok h
  obtain ⟨u2, k3, h3, h⟩ := bind_ok h
  have := items_tot f _ _ _ _ _ h
  simp only [totD, sumB] at *
  omega
end
theorem type_s40 {s : Str} (h : isType s = true) : s.size ≤ 40 := by
  unfold isType at h
  simp only [Bool.or_eq_true, decide_eq_true_eq] at h
  rcases h with (h | h) | h
  · rw [h]; show 3 ≤ 40; decide
  · rw [h]; show 4 ≤ 40; decide
  · exact name_s40 h
theorem open_s40 {s : Str} (h : isOpen s = true) : s.size ≤ 40 := by
  unfold isOpen at h
  simp only [Bool.or_eq_true, decide_eq_true_eq] at h
  rcases h with h | h
  · rw [h]; show 0 ≤ 40; decide
  · exact name_s40 h
theorem fields_wd {l : List Fld} {k : Int} (hk : k ≤ 40) (h : fieldsOk l k = true) : wdF l = false := by
  unfold fieldsOk at h
  simp only [Bool.and_eq_true, decide_eq_true_eq, List.all_eq_true] at h
  obtain ⟨h1, h2⟩ := h
  unfold wdF
  rw [decide_eq_false (by omega), Bool.false_or, Bool.eq_false_iff]
  intro h3
  rw [List.any_eq_true] at h3
  obtain ⟨x, hx, h4⟩ := h3
  have := h2 x hx
  unfold fieldOk at this
  simp only [Bool.and_eq_true] at this
  have a := name_s40 this.1
  have b := type_s40 this.2
  simp only [Bool.or_eq_true, decide_eq_true_eq] at h4
  omega
theorem bg_of {d : Desc} (h : validD d = true) (hc : totD d ≤ 3000) : BG d := by
  unfold validD validPre formulasOk at h
  simp only [Bool.and_eq_true, Bool.not_eq_true', decide_eq_false_iff_not, List.all_eq_true] at h
  obtain ⟨⟨⟨⟨⟨⟨⟨⟨⟨⟨a1, a2⟩, a3⟩, a4⟩, a5⟩, a6⟩, a7⟩, a8⟩, b1⟩, b2⟩, ⟨⟨⟨c1, c2⟩, c3⟩, c4⟩⟩ := h
  have gg : (d.globals.length : Int) ≤ 8 := by unfold fieldsOk at a3; simp only [Bool.and_eq_true, decide_eq_true_eq] at a3; exact a3.1
  refine ⟨by have := name_s40 a1; omega, by omega, by omega, by omega, by omega, by omega, by omega, by omega, fields_wd (by decide) a3, ?_, ?_, ?_, ?_, ?_, ?_, hc⟩
  · rw [Bool.eq_false_iff]
    intro h3
    rw [List.any_eq_true] at h3
    obtain ⟨t, ht, h4⟩ := h3
    have := b1 t ht
    unfold typeOk at this
    simp only [Bool.and_eq_true] at this
    rw [fields_wd (by decide) this.2, Bool.or_false, decide_eq_true_eq] at h4
    have := name_s40 this.1
    omega
  · intro p hp
    have := b2 p hp
    unfold procOk at this
    simp only [Bool.and_eq_true, Bool.or_eq_true, decide_eq_true_eq] at this
    obtain ⟨⟨⟨⟨p1, p2⟩, p3⟩, p4⟩, p5⟩ := this
    refine ⟨by have := name_s40 p1; omega, ?_, fields_wd (by decide) p2, fields_wd (by decide) p3, ?_⟩
    · rcases p4 with p4 | p4
      · rw [p4]; show ((0 : Nat) : Int) ≤ 100; decide
      · have := type_s40 p4; omega
    · exact sts_ok p.body 1 0 (by decide) (by decide) p5
  · intro m hm
    have := c1 m hm
    unfold measOk at this
    simp only [Bool.and_eq_true] at this
    exact ⟨by have := name_s40 this.1.1.1.1; omega, by have := name_s40 this.1.1.1.2; omega, (exprOk_cnt this.2).2⟩
  · intro m hm
    have := c2 m hm
    unfold invOk at this
    simp only [Bool.and_eq_true] at this
    exact ⟨by have := name_s40 this.1.1; omega, by have := open_s40 this.1.2; omega, (exprOk_cnt this.2).2⟩
  · intro m hm
    have := c3 m hm
    unfold potOk at this
    simp only [Bool.and_eq_true] at this
    exact ⟨by have := open_s40 this.1; omega, (exprOk_cnt this.2).2⟩
  · intro m hm
    have := c4 m hm
    unfold boundOk at this
    simp only [Bool.and_eq_true] at this
    exact ⟨by have := name_s40 this.1; omega, (exprOk_cnt this.2).2⟩
theorem bg_d0 : BG D0 := by
  refine ⟨by decide, by decide, by decide, by decide, by decide, by decide, by decide, by decide, by decide, by decide, ?_, ?_, ?_, ?_, ?_, by decide⟩
  all_goals (intro x hx; cases hx)
theorem descTop_bg (s : Str) (hs : s.size ≤ 2000 ∨ 65536 < s.size) : BG (descTop s).1 := by
  unfold descTop
  rcases tokens_good s with ⟨l, he, hl, hlen⟩ | ⟨q, e, he, h74⟩
  · rw [he]
    simp only [if_true]
    rcases hs with hs | hs
    rotate_left
    · exfalso
      unfold tokensS at he
      rw [if_pos hs] at he
      cases he
    have hrg : RA l (descA l (10 * l.length + 13)) := by
      obtain ⟨t, ht, _⟩ := hl.fin
      have h0 : 0 < l.length := by have := (List.getElem?_eq_some_iff.1 ht).1; omega
      rw [← er_desc]
      exact .er (.go (.one hl h0 _) fun _ _ hk => .go (.name hl hk) fun _ _ hk => .go (.one hl hk _) fun _ _ hk => items_rg hl _ _ _ _ hk)
    unfold topD
    split
    · rename_i x j hx
      have hj := hrg.1 _ _ hx
      have ht := desc_tot hx
      split
      · split
        · split
          · rename_i h; exact bg_of (d := x) h (by omega)
          · exact bg_d0
        · exact bg_d0
      · exact bg_d0
    · split
      · exact bg_d0
      · exact bg_d0
    · exact bg_d0
  · rw [he]
    simp only
    rw [if_neg (show ¬ e = 0 by omega)]
    exact bg_d0
theorem parserDescs_ok (s : Str) : FnOK Tryz.prog 3 [Sr s] [] (.bq true) [] := by
  by_cases hs : s.size ≤ 1000000
  · have hE := parserParse_ok s hs
    have hF := refParse_ok s hs
    have hbg := descTop_bg s
    generalize descTop s = R at hE hF hbg
    obtain ⟨x, ⟨p1, p2⟩, e⟩ := R
    simp only at hE hF hbg
    have hS := rsame09_ok x x
    rw [sameD_refl] at hS
    by_cases hsz : s.size ≤ 2000 ∨ 65536 < s.size
    · have hL := big_ok x (hbg hsz)
      refine fn_ok T Tryz.func3 (by kernel_rfl) rfl rfl rfl rfl fun C hC => ?_
      repeat' first | refine g_go T hC true 400 rfl rfl ?_ | (exfalso; simp at h; done) | refine g_cond rfl (fun h => ?_) (fun h => ?_) | refine g_splitG rfl rfl rfl (fun h => ?_) (fun h => ?_) | refine g_splitP rfl rfl (fun h => ?_) (fun h => ?_) | refine g_call hC (awake10_ok) rfl rfl (LeSs.refl _) rfl rfl rfl ?_ | refine g_call hC ((long_ok s)) rfl rfl (LeSs.refl _) rfl rfl rfl ?_ | refine g_call hC (hE) rfl rfl (LeSs.refl _) rfl rfl rfl ?_ | refine g_call hC (hF) rfl rfl (LeSs.refl _) rfl rfl rfl ?_ | refine g_call hC (hL) rfl rfl (LeSs.refl _) rfl rfl rfl ?_ | refine g_call hC (hS) rfl rfl (LeSs.refl _) rfl rfl rfl ?_ | (refine g_eqF hC [.i .i64, .i .i64] [.i .i64 p1, .i .i64 p2] [.i .i64 p1, .i .i64 p2] rfl rfl (by kernel_rfl) (by kernel_rfl) rfl rfl (by kernel_rfl) rfl rfl ?_) | refine g_retq T (.inl rfl) rfl ?_ | refine g_retl T (.inl rfl) rfl ?_
      all_goals first
        | rfl
        | (simp; done)
        | (exfalso; simp_all; done)
        | (simp_all; done)
    · have hL := long_ok s
      rw [decide_eq_true (show (2000 : Int) < s.size by omega), decide_eq_true (show (s.size : Int) ≤ 65536 by omega)] at hL
      refine fn_ok T Tryz.func3 (by kernel_rfl) rfl rfl rfl rfl fun C hC => ?_
      repeat' first | refine g_go T hC true 400 rfl rfl ?_ | (exfalso; simp at h; done) | refine g_cond rfl (fun h => ?_) (fun h => ?_) | refine g_splitG rfl rfl rfl (fun h => ?_) (fun h => ?_) | refine g_splitP rfl rfl (fun h => ?_) (fun h => ?_) | refine g_call hC (awake10_ok) rfl rfl (LeSs.refl _) rfl rfl rfl ?_ | refine g_call hC (hL) rfl rfl (LeSs.refl _) rfl rfl rfl ?_ | refine g_retq T (.inl rfl) rfl ?_ | refine g_retl T (.inl rfl) rfl ?_
      all_goals first
        | rfl
        | (simp; done)
  · have hb : (70000 : Int) < s.size := by omega
    have hL := long_ok s
    rw [decide_eq_true hb, Bool.or_true] at hL
    refine fn_ok T Tryz.func3 (by kernel_rfl) rfl rfl rfl rfl fun C hC => ?_
    repeat' first | refine g_go T hC true 400 rfl rfl ?_ | (exfalso; simp at h; done) | refine g_cond rfl (fun h => ?_) (fun h => ?_) | refine g_splitG rfl rfl rfl (fun h => ?_) (fun h => ?_) | refine g_splitP rfl rfl (fun h => ?_) (fun h => ?_) | refine g_call hC (awake10_ok) rfl rfl (LeSs.refl _) rfl rfl rfl ?_ | refine g_call hC (hL) rfl rfl (LeSs.refl _) rfl rfl rfl ?_ | refine g_retq T (.inl rfl) rfl ?_ | refine g_retl T (.inl rfl) rfl ?_
    all_goals first
      | rfl
      | (simp; done)
end Hw.Pa
/- A laid variable that holds an interface value. -/
namespace Hw
open Go Go.Proofs
theorem iface_cell {P : Program} {W : World} {name nm : String} {d : DataW Unit} {rest : List (String × DataW Unit)} {g : Nat} {t : TypeId} {ms : Array (String × TypeId)}
    (hg : P.globalNamed name = some g) (hty : (P.globals[g]?).map (·.type) = some t) (ht : P.underlying t = some (.interface ms)) (h : laidMet P ((name, .iface nm d) :: rest) W) : ∃ u v, memOf W g 0 = some (.iface u v) := by
  obtain ⟨ps, ⟨g', t', cs, fuel, p, q, hg', ht', hvar, hd, _, _⟩, _⟩ := h
  obtain rfl := Option.some.inj (hg.symm.trans hg')
  obtain rfl := Option.some.inj (hty.symm.trans ht')
  have hc := World.var?_cell hg hvar 0
  unfold memOf
  rw [hc]
  cases fuel with
  | zero => simp [DataW.trod] at hd
  | succ fuel =>
    rw [← Array.getElem?_toList]
    generalize cs.toList = l at hd
    match l, hd with
    | [], hd => simp [DataW.trod, ht] at hd
    | v :: w :: r, hd => simp [DataW.trod, ht] at hd
    | [v], hd =>
      cases v with
      | iface u x => exact ⟨u, x, rfl⟩
      | _ => simp [DataW.trod, ht] at hd
end Hw
