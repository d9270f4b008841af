/- The engine and the contracts. -/
import Derived.Test.YtmnhegkogibipaaGreatDoorC19
import Derived.Test.YtmnhegkogibipaaGreatDoorC17
set_option linter.unusedVariables false
set_option linter.unusedSimpArgs false
namespace Hw.Z
open Go Go.Proofs Go.Shelf Hw.M

/-! The reference's text of a description -/
theorem rfit2_ok (s : Str) : FnOK Tryz.prog 100 [Sr s] [] (.tup [Sr (fitT s), I (fitE s)]) [] := by
  by_cases h0 : s.size ≤ 65536
  · rw [show fitT s = s from if_pos h0, show fitE s = 0 from if_pos h0]
    refine fn_ok T Tryz.func100 (by kernel_rfl) rfl rfl rfl rfl fun C hC => ?_
    repeat' first
      | refine g_go T hC true 400 rfl rfl ?_
      | refine g_cond rfl (fun h => ?_) (fun h => ?_)
      | refine g_end T hC (by kernel_rfl) ?_
      | refine g_splitD (fun h => ?_) (fun h => ?_)
      | refine g_splitG rfl rfl rfl (fun h => ?_) (fun h => ?_)
      | refine g_splitP rfl rfl (fun h => ?_) (fun h => ?_)
    all_goals first
      | (exfalso; have := of_decide_eq_true h; omega)
      | exact g_fin ⟨.inl rfl, id, _, rfl, .refl _, trivial, rfl, rfl⟩
  · rw [show fitT s = (⟨#[]⟩ : ByteArray) from if_neg h0, show fitE s = 4 from if_neg h0]
    refine fn_ok T Tryz.func100 (by kernel_rfl) rfl rfl rfl rfl fun C hC => ?_
    repeat' first
      | refine g_go T hC true 400 rfl rfl ?_
      | refine g_cond rfl (fun h => ?_) (fun h => ?_)
      | refine g_end T hC (by kernel_rfl) ?_
      | refine g_splitD (fun h => ?_) (fun h => ?_)
      | refine g_splitG rfl rfl rfl (fun h => ?_) (fun h => ?_)
      | refine g_splitP rfl rfl (fun h => ?_) (fun h => ?_)
    all_goals first
      | (exfalso; have := of_decide_eq_false h; omega)
      | exact g_fin ⟨.inl rfl, id, _, rfl, .refl _, trivial, rfl, rfl⟩
theorem rproc_ok (p : Pr) (hv : procOk p = true) (hs : (procT p).size ≤ 6000000) : FnOK Tryz.prog 97 [aggS (procR p)] [] (Sr (procT p)) [] := by
  have F := pr_facts hv
  rw [procT_eq] at hs ⊢
  have n1 : ByteArray.size (⟨#[32, 61, 32]⟩ : ByteArray) = 3 := rfl
  have n2 : ByteArray.size scS = 2 := rfl
  have n3 : ByteArray.size (⟨#[46]⟩ : ByteArray) = 1 := rfl
  have n4 : ByteArray.size (⟨#[114, 101, 116, 117, 114, 110]⟩ : ByteArray) = 6 := rfl
  have n5 : ByteArray.size opS = 3 := rfl
  have n6 : ByteArray.size clS = 2 := rfl
  have n7 : ByteArray.size (⟨#[119, 104, 105, 108, 101, 32]⟩ : ByteArray) = 6 := rfl
  have n8 : ByteArray.size (⟨#[105, 102, 32]⟩ : ByteArray) = 3 := rfl
  have n9 : ByteArray.size elS = 9 := rfl
  have n10 : ByteArray.size tbS = 1 := rfl
  have n11 : ByteArray.size (⟨#[32]⟩ : ByteArray) = 1 := rfl
  have n12 : ByteArray.size lpS = 1 := rfl
  have n13 : ByteArray.size rpS = 1 := rfl
  have n14 : ByteArray.size (⟨#[112, 114, 111, 99, 32]⟩ : ByteArray) = 5 := rfl
  have n15 : ByteArray.size (⟨#[40]⟩ : ByteArray) = 1 := rfl
  have n16 : ByteArray.size (⟨#[41, 32]⟩ : ByteArray) = 2 := rfl
  have n17 : ByteArray.size (⟨#[123, 10]⟩ : Str) = 2 := rfl
  have n18 : ByteArray.size (⟨#[9, 108, 111, 99, 97, 108, 32]⟩ : Str) = 7 := rfl
  have n19 : ByteArray.size (⟨#[]⟩ : ByteArray) = 0 := rfl
  have n20 : ByteArray.size (⟨#[41]⟩ : ByteArray) = 1 := rfl
  have n21 : ByteArray.size (⟨#[44, 32]⟩ : ByteArray) = 2 := rfl
  have m1 : ByteArray.size (⟨#[59, 10]⟩ : Str) = 2 := rfl
  have m3 : ByteArray.size (⟨#[125, 10]⟩ : Str) = 2 := rfl
  have m2 : ByteArray.size (⟨#[32, 123, 10]⟩ : Str) = 3 := rfl
  have m8 : ByteArray.size (⟨#[10]⟩ : Str) = 1 := rfl
  have k1 : ByteArray.size (⟨#[100, 101, 115, 99, 32]⟩ : ByteArray) = 5 := rfl
  have k2 : ByteArray.size (⟨#[116, 121, 112, 101, 32]⟩ : ByteArray) = 5 := rfl
  have k3 : ByteArray.size (⟨#[32, 123, 32]⟩ : ByteArray) = 3 := rfl
  have k4 : ByteArray.size (⟨#[59, 32]⟩ : ByteArray) = 2 := rfl
  have k5 : ByteArray.size (⟨#[118, 97, 114, 32]⟩ : ByteArray) = 4 := rfl
  have k6 : ByteArray.size (⟨#[109, 101, 97, 115, 117, 114, 101, 32]⟩ : ByteArray) = 8 := rfl
  have k7 : ByteArray.size (⟨#[41, 32, 110, 105, 108, 32]⟩ : ByteArray) = 6 := rfl
  have k8 : ByteArray.size (⟨#[105, 110, 118, 97, 114, 105, 97, 110, 116, 32]⟩ : ByteArray) = 10 := rfl
  have k9 : ByteArray.size (⟨#[112, 111, 116, 101, 110, 116, 105, 97, 108, 32]⟩ : ByteArray) = 10 := rfl
  have k10 : ByteArray.size (⟨#[98, 111, 117, 110, 100, 32]⟩ : ByteArray) = 6 := rfl
  have m4 : ByteArray.size (⟨#[112, 111, 116, 101, 110, 116, 105, 97, 108]⟩ : ByteArray) = 9 := rfl
  have m7 : ByteArray.size (⟨#[61, 32]⟩ : ByteArray) = 2 := rfl
  have hdz := decls_size (l := p.params) (sep := (⟨#[44, 32]⟩ : ByteArray)) (by omega) F.par.2
  have hpl := F.par.1
  have hL := rdecls_ok p.params (⟨#[44, 32]⟩ : ByteArray) (by omega) F.par.2 (by omega)
  have hhd : headT p = (⟨#[112, 114, 111, 99, 32]⟩ : ByteArray) ++ p.n ++ (⟨#[40]⟩ : ByteArray) ++ declsT p.params (⟨#[44, 32]⟩ : ByteArray) ++ (⟨#[41, 32]⟩ : ByteArray) := rfl
  generalize hBd : headT p ++ resT p ++ (⟨#[123, 10]⟩ : Str) = B
  rw [hBd] at hs
  simp only [size_app] at hs
  have hb := rbody_ok if_longer (SizeOf.sizeOf p.body + 1) p.body 1 (by omega) F.body (by omega) (by rw [tab1]; omega)
  rw [tab1] at hb
  have hloc : ∀ i x, p.locs[i]? = some x → B ++ catB ((p.locs.map locT).take i) ++ (⟨#[9, 108, 111, 99, 97, 108, 32]⟩ : Str) ++ x.n ++ (⟨#[32]⟩ : ByteArray) ++ x.t ++ (⟨#[59, 10]⟩ : Str) = B ++ catB ((p.locs.map locT).take (i + 1)) := fun i x hx => by
    rw [catB_take (l := p.locs.map locT) (x := locT x) (by rw [List.getElem?_map, hx]; rfl)]
    simp only [locT, ByteArray.append_assoc]
  have hll := F.loc.1
  have hpn := F.n
  have hpr := F.res
  have hhs : (headT p).size = 5 + p.n.size + 1 + (declsT p.params (⟨#[44, 32]⟩ : ByteArray)).size + 2 := by rw [hhd]; simp only [size_app]; omega
  have hBs : B.size = (headT p).size + (resT p).size + 2 := by rw [← hBd]; simp only [size_app]; omega
  by_cases hr : p.res = (⟨#[]⟩ : ByteArray)
  · have hB : (⟨#[112, 114, 111, 99, 32]⟩ : ByteArray) ++ p.n ++ (⟨#[40]⟩ : ByteArray) ++ declsT p.params (⟨#[44, 32]⟩ : ByteArray) ++ (⟨#[41, 32]⟩ : ByteArray) ++ (⟨#[123, 10]⟩ : Str) = B := by rw [← hBd, resT, if_pos hr, cat_nil]; rfl
    refine fn_ok T Tryz.func97 (by kernel_rfl) rfl rfl rfl rfl fun C hC => ?_
    repeat' first
      | refine g_go T hC true 400 rfl rfl ?_
      | refine g_cond rfl (fun h => ?_) (fun h => ?_)
      | refine g_end T hC (by kernel_rfl) ?_
      | refine g_splitD (fun h => ?_) (fun h => ?_)
      | refine g_splitG rfl rfl rfl (fun h => ?_) (fun h => ?_)
      | refine g_splitP rfl rfl (fun h => ?_) (fun h => ?_)
      | refine g_call hC (hL) rfl rfl (LeSs.refl _) rfl rfl rfl ?_
      | (refine g_cat hC rfl rfl (by (try simp only [size_app]); omega) rfl rfl ?_)
    all_goals first
      | (exfalso; clear hL hb; simp_all; done)
      | skip
    rw [hB]
    refine g_loop (fun i : Nat => i ≤ p.locs.length) (fun i => ([(1, .one (.bx 1001 0)), (3, Sr (B ++ catB ((p.locs.map locT).take i))), (4, I i)], [(1001, some (Res.box ((procR p).map V.p)))])) (fun i => p.locs.length - i) hC
      0 (Nat.zero_le _) id ⟨rfl, ⟨rfl, by rw [show catB ((p.locs.map locT).take 0) = (⟨#[]⟩ : ByteArray) from rfl, cat_nil]; rfl, rfl, trivial⟩, ⟨rfl, trivial⟩, rfl, fun _ _ => rfl⟩ ?_
    intro i hi
    refine g_run' T hC true 200 rfl ?_
    refine g_cond rfl (fun h => ?_) (fun h => ?_)
    · have hlt : i < p.locs.length := by have := of_decide_eq_true h; simp only [List.length_map] at this; omega
      clear h
      obtain ⟨x, hx⟩ := exists_at hlt
      have hx2 := F.loc.2 x (List.mem_of_getElem? hx)
      have hle := catB_take_le (p.locs.map locT) i
      have hq := hloc i x hx
      generalize catB ((p.locs.map locT).take i) = f at hle hq
      repeat' first
        | refine g_go T hC true 400 rfl rfl ?_
        | refine g_cond rfl (fun h => ?_) (fun h => ?_)
        | refine g_end T hC (by kernel_rfl) ?_
        | refine g_splitD (fun h => ?_) (fun h => ?_)
        | refine g_splitG rfl rfl rfl (fun h => ?_) (fun h => ?_)
        | refine g_splitP rfl rfl (fun h => ?_) (fun h => ?_)
        | (refine g_idx T hC rfl rfl rfl (Int.natCast_nonneg _) (map_at hx) rfl rfl ?_)
        | (refine g_cat hC rfl rfl (by (try simp only [size_app]); omega) rfl rfl ?_)
      rw [wrap64 (by omega), hq]
      exact g_round (i + 1) (by omega) id (by omega) ⟨rfl, ⟨rfl, rfl, rfl, trivial⟩, ⟨rfl, trivial⟩, rfl, fun _ _ => rfl⟩
    · have hge : ¬ i < p.locs.length := by have := of_decide_eq_false h; simp only [List.length_map] at this; omega
      rw [List.take_of_length_le (by rw [List.length_map]; omega)]
      repeat' first
        | refine g_go T hC true 400 rfl rfl ?_
        | refine g_cond rfl (fun h => ?_) (fun h => ?_)
        | refine g_end T hC (by kernel_rfl) ?_
        | refine g_splitD (fun h => ?_) (fun h => ?_)
        | refine g_splitG rfl rfl rfl (fun h => ?_) (fun h => ?_)
        | refine g_splitP rfl rfl (fun h => ?_) (fun h => ?_)
        | refine g_outE ?_
        | refine g_call hC (hb) rfl rfl (LeSs.refl _) rfl rfl rfl ?_
        | (refine g_cat hC rfl rfl (by (try simp only [size_app]); omega) rfl rfl ?_)
      exact g_fin ⟨.inl rfl, id, _, rfl, .refl _, trivial, rfl, rfl⟩
  · have hB : (⟨#[112, 114, 111, 99, 32]⟩ : ByteArray) ++ p.n ++ (⟨#[40]⟩ : ByteArray) ++ declsT p.params (⟨#[44, 32]⟩ : ByteArray) ++ (⟨#[41, 32]⟩ : ByteArray) ++ p.res ++ (⟨#[32]⟩ : ByteArray) ++ (⟨#[123, 10]⟩ : Str) = B := by rw [← hBd, resT, if_neg hr]; simp only [headT, ByteArray.append_assoc]
    refine fn_ok T Tryz.func97 (by kernel_rfl) rfl rfl rfl rfl fun C hC => ?_
    repeat' first
      | refine g_go T hC true 400 rfl rfl ?_
      | refine g_cond rfl (fun h => ?_) (fun h => ?_)
      | refine g_end T hC (by kernel_rfl) ?_
      | refine g_splitD (fun h => ?_) (fun h => ?_)
      | refine g_splitG rfl rfl rfl (fun h => ?_) (fun h => ?_)
      | refine g_splitP rfl rfl (fun h => ?_) (fun h => ?_)
      | refine g_call hC (hL) rfl rfl (LeSs.refl _) rfl rfl rfl ?_
      | (refine g_cat hC rfl rfl (by (try simp only [size_app]); omega) rfl rfl ?_)
    all_goals first
      | (exfalso; clear hL hb; simp_all; done)
      | skip
    rw [hB]
    refine g_loop (fun i : Nat => i ≤ p.locs.length) (fun i => ([(1, .one (.bx 1001 0)), (3, Sr (B ++ catB ((p.locs.map locT).take i))), (4, I i)], [(1001, some (Res.box ((procR p).map V.p)))])) (fun i => p.locs.length - i) hC
      0 (Nat.zero_le _) id ⟨rfl, ⟨rfl, by rw [show catB ((p.locs.map locT).take 0) = (⟨#[]⟩ : ByteArray) from rfl, cat_nil]; rfl, rfl, trivial⟩, ⟨rfl, trivial⟩, rfl, fun _ _ => rfl⟩ ?_
    intro i hi
    refine g_run' T hC true 200 rfl ?_
    refine g_cond rfl (fun h => ?_) (fun h => ?_)
    · have hlt : i < p.locs.length := by have := of_decide_eq_true h; simp only [List.length_map] at this; omega
      clear h
      obtain ⟨x, hx⟩ := exists_at hlt
      have hx2 := F.loc.2 x (List.mem_of_getElem? hx)
      have hle := catB_take_le (p.locs.map locT) i
      have hq := hloc i x hx
      generalize catB ((p.locs.map locT).take i) = f at hle hq
      repeat' first
        | refine g_go T hC true 400 rfl rfl ?_
        | refine g_cond rfl (fun h => ?_) (fun h => ?_)
        | refine g_end T hC (by kernel_rfl) ?_
        | refine g_splitD (fun h => ?_) (fun h => ?_)
        | refine g_splitG rfl rfl rfl (fun h => ?_) (fun h => ?_)
        | refine g_splitP rfl rfl (fun h => ?_) (fun h => ?_)
        | (refine g_idx T hC rfl rfl rfl (Int.natCast_nonneg _) (map_at hx) rfl rfl ?_)
        | (refine g_cat hC rfl rfl (by (try simp only [size_app]); omega) rfl rfl ?_)
      rw [wrap64 (by omega), hq]
      exact g_round (i + 1) (by omega) id (by omega) ⟨rfl, ⟨rfl, rfl, rfl, trivial⟩, ⟨rfl, trivial⟩, rfl, fun _ _ => rfl⟩
    · have hge : ¬ i < p.locs.length := by have := of_decide_eq_false h; simp only [List.length_map] at this; omega
      rw [List.take_of_length_le (by rw [List.length_map]; omega)]
      repeat' first
        | refine g_go T hC true 400 rfl rfl ?_
        | refine g_cond rfl (fun h => ?_) (fun h => ?_)
        | refine g_end T hC (by kernel_rfl) ?_
        | refine g_splitD (fun h => ?_) (fun h => ?_)
        | refine g_splitG rfl rfl rfl (fun h => ?_) (fun h => ?_)
        | refine g_splitP rfl rfl (fun h => ?_) (fun h => ?_)
        | refine g_outE ?_
        | refine g_call hC (hb) rfl rfl (LeSs.refl _) rfl rfl rfl ?_
        | (refine g_cat hC rfl rfl (by (try simp only [size_app]); omega) rfl rfl ?_)
      exact g_fin ⟨.inl rfl, id, _, rfl, .refl _, trivial, rfl, rfl⟩
set_option maxHeartbeats 4000000 in
theorem rText_ok (d : Desc) (hF : validD d = true → DcF d) : FnOK Tryz.prog 46 [aggS (descR d)] [] (.tup [Sr (descTx d), I (descEr d)]) [] := by
  have hV := valid09_ok d
  cases hv : validD d with
  | false =>
    rw [hv] at hV
    rw [show descTx d = (⟨#[]⟩ : ByteArray) by unfold descTx; rw [hv]; rfl, show descEr d = 1 by unfold descEr; rw [hv]; rfl]
    refine fn_ok T Tryz.func46 (by kernel_rfl) rfl rfl rfl rfl fun C hC => ?_
    repeat' first
      | refine g_go T hC true 400 rfl rfl ?_
      | refine g_cond rfl (fun h => ?_) (fun h => ?_)
      | refine g_end T hC (by kernel_rfl) ?_
      | refine g_splitD (fun h => ?_) (fun h => ?_)
      | refine g_splitG rfl rfl rfl (fun h => ?_) (fun h => ?_)
      | refine g_splitP rfl rfl (fun h => ?_) (fun h => ?_)
      | refine g_call hC (hV) rfl rfl (LeSs.refl _) rfl rfl rfl ?_
    all_goals first
      | exact g_fin ⟨.inl rfl, id, _, rfl, .refl _, trivial, rfl, rfl⟩
      | (exfalso; cases h; done)
  | true =>
  have F := hF hv
  rw [hv] at hV
  rw [show descTx d = fitT (descT d) by unfold descTx; rw [hv]; rfl, show descEr d = fitE (descT d) by unfold descEr; rw [hv]; rfl]
  have hZ := rfit2_ok (descT d)
  obtain ⟨z1, z2, z3, z4, z5, z6, z7⟩ := q_sizes F.size
  have hdn := F.n
  have n1 : ByteArray.size (⟨#[32, 61, 32]⟩ : ByteArray) = 3 := rfl
  have n2 : ByteArray.size scS = 2 := rfl
  have n3 : ByteArray.size (⟨#[46]⟩ : ByteArray) = 1 := rfl
  have n4 : ByteArray.size (⟨#[114, 101, 116, 117, 114, 110]⟩ : ByteArray) = 6 := rfl
  have n5 : ByteArray.size opS = 3 := rfl
  have n6 : ByteArray.size clS = 2 := rfl
  have n7 : ByteArray.size (⟨#[119, 104, 105, 108, 101, 32]⟩ : ByteArray) = 6 := rfl
  have n8 : ByteArray.size (⟨#[105, 102, 32]⟩ : ByteArray) = 3 := rfl
  have n9 : ByteArray.size elS = 9 := rfl
  have n10 : ByteArray.size tbS = 1 := rfl
  have n11 : ByteArray.size (⟨#[32]⟩ : ByteArray) = 1 := rfl
  have n12 : ByteArray.size lpS = 1 := rfl
  have n13 : ByteArray.size rpS = 1 := rfl
  have n14 : ByteArray.size (⟨#[112, 114, 111, 99, 32]⟩ : ByteArray) = 5 := rfl
  have n15 : ByteArray.size (⟨#[40]⟩ : ByteArray) = 1 := rfl
  have n16 : ByteArray.size (⟨#[41, 32]⟩ : ByteArray) = 2 := rfl
  have n17 : ByteArray.size (⟨#[123, 10]⟩ : Str) = 2 := rfl
  have n18 : ByteArray.size (⟨#[9, 108, 111, 99, 97, 108, 32]⟩ : Str) = 7 := rfl
  have n19 : ByteArray.size (⟨#[]⟩ : ByteArray) = 0 := rfl
  have n20 : ByteArray.size (⟨#[41]⟩ : ByteArray) = 1 := rfl
  have n21 : ByteArray.size (⟨#[44, 32]⟩ : ByteArray) = 2 := rfl
  have m1 : ByteArray.size (⟨#[59, 10]⟩ : Str) = 2 := rfl
  have m3 : ByteArray.size (⟨#[125, 10]⟩ : Str) = 2 := rfl
  have m2 : ByteArray.size (⟨#[32, 123, 10]⟩ : Str) = 3 := rfl
  have m8 : ByteArray.size (⟨#[10]⟩ : Str) = 1 := rfl
  have k1 : ByteArray.size (⟨#[100, 101, 115, 99, 32]⟩ : ByteArray) = 5 := rfl
  have k2 : ByteArray.size (⟨#[116, 121, 112, 101, 32]⟩ : ByteArray) = 5 := rfl
  have k3 : ByteArray.size (⟨#[32, 123, 32]⟩ : ByteArray) = 3 := rfl
  have k4 : ByteArray.size (⟨#[59, 32]⟩ : ByteArray) = 2 := rfl
  have k5 : ByteArray.size (⟨#[118, 97, 114, 32]⟩ : ByteArray) = 4 := rfl
  have k6 : ByteArray.size (⟨#[109, 101, 97, 115, 117, 114, 101, 32]⟩ : ByteArray) = 8 := rfl
  have k7 : ByteArray.size (⟨#[41, 32, 110, 105, 108, 32]⟩ : ByteArray) = 6 := rfl
  have k8 : ByteArray.size (⟨#[105, 110, 118, 97, 114, 105, 97, 110, 116, 32]⟩ : ByteArray) = 10 := rfl
  have k9 : ByteArray.size (⟨#[112, 111, 116, 101, 110, 116, 105, 97, 108, 32]⟩ : ByteArray) = 10 := rfl
  have k10 : ByteArray.size (⟨#[98, 111, 117, 110, 100, 32]⟩ : ByteArray) = 6 := rfl
  have m4 : ByteArray.size (⟨#[112, 111, 116, 101, 110, 116, 105, 97, 108]⟩ : ByteArray) = 9 := rfl
  have m7 : ByteArray.size (⟨#[61, 32]⟩ : ByteArray) = 2 := rfl
  have hq0 : (⟨#[100, 101, 115, 99, 32]⟩ : ByteArray) ++ d.n ++ (⟨#[32, 123, 10]⟩ : Str) = q0 d := rfl
  refine fn_ok T Tryz.func46 (by kernel_rfl) rfl rfl rfl rfl fun C hC => ?_
  refine g_lenA rfl 0 1 rfl rfl fun hl1 => g_lenA rfl 0 2 rfl rfl fun hl2 => g_lenA rfl 0 3 rfl rfl fun hl3 => g_lenA rfl 0 4 rfl rfl fun hl4 => g_lenA rfl 0 5 rfl rfl fun hl5 => g_lenA rfl 0 6 rfl rfl fun hl6 => g_lenA rfl 0 7 rfl rfl fun hl7 => ?_
  rw [List.length_map] at hl1 hl2 hl3 hl4 hl5 hl6 hl7
  repeat' first
    | refine g_go T hC true 400 rfl rfl ?_
    | refine g_cond rfl (fun h => ?_) (fun h => ?_)
    | refine g_end T hC (by kernel_rfl) ?_
    | refine g_splitD (fun h => ?_) (fun h => ?_)
    | refine g_splitG rfl rfl rfl (fun h => ?_) (fun h => ?_)
    | refine g_splitP rfl rfl (fun h => ?_) (fun h => ?_)
    | refine g_call hC (hV) rfl rfl (LeSs.refl _) rfl rfl rfl ?_
    | (refine g_cat hC rfl rfl (by (try simp only [size_app]); omega) rfl rfl ?_)
  all_goals first
    | (exfalso; cases h; done)
    | skip
  rw [hq0]
  clear hV
  refine g_loop (fun i : Nat => i ≤ d.types.length) (fun i => ([(1, .one (.bx 1001 0)), (4, Sr (q0 d ++ catB ((d.types.map typT).take i))), (5, I i)], [(1001, some (Res.box ((descR d).map V.p)))])) (fun i => d.types.length - i) hC
    0 (Nat.zero_le _) id ⟨rfl, ⟨rfl, by rw [show catB ((d.types.map typT).take 0) = (⟨#[]⟩ : ByteArray) from rfl, cat_nil]; rfl, rfl, trivial⟩, ⟨rfl, trivial⟩, rfl, fun _ _ => rfl⟩ ?_
  intro i hi
  refine g_run' T hC true 200 rfl ?_
  refine g_cond rfl (fun h => ?_) (fun h => ?_)
  · have hlt : i < d.types.length := by have := of_decide_eq_true h; simp only [List.length_map] at this; omega
    clear h
    obtain ⟨x, hx⟩ := exists_at hlt
    have hm := List.mem_of_getElem? hx
    have hst := cat_step (f := typT) hx (q0 d)
    have hsz := cat_size (f := typT) hx
    have hwi : IntKind.i64.wrap ((i : Int) + 1) = ((i + 1 : Nat) : Int) := by rw [wrap64 (by omega)]; rfl
    generalize hg : catB ((d.types.map typT).take i) = g at hst hsz
    have hto := F.types x hm
    unfold typeOk at hto
    simp only [Bool.and_eq_true] at hto
    have FF := fld_facts hto.2
    have hxn := name_le hto.1
    have hds := decls_size (l := x.f) (sep := (⟨#[59, 32]⟩ : ByteArray)) (by omega) FF.2
    have hfl := FF.1
    have hL := rdecls_ok x.f (⟨#[59, 32]⟩ : ByteArray) (by omega) FF.2 (by omega)
    have hty : typT x = (⟨#[116, 121, 112, 101, 32]⟩ : ByteArray) ++ x.n ++ (⟨#[32, 123, 32]⟩ : ByteArray) ++ (match x.f with | [] => (⟨#[]⟩ : ByteArray) | _ :: _ => declsT x.f (⟨#[59, 32]⟩ : ByteArray) ++ (⟨#[32]⟩ : ByteArray)) ++ clS := rfl
    cases hxf : x.f with
    | nil =>
      rw [hxf] at hty
      have hde : declsT x.f (⟨#[59, 32]⟩ : ByteArray) = (⟨#[]⟩ : ByteArray) := by rw [hxf]; rfl
      rw [hde] at hL
      have hq : q0 d ++ g ++ (⟨#[116, 121, 112, 101, 32]⟩ : ByteArray) ++ x.n ++ (⟨#[32, 123, 32]⟩ : ByteArray) ++ (⟨#[]⟩ : ByteArray) ++ (⟨#[125, 10]⟩ : Str) = q0 d ++ catB ((d.types.map typT).take (i + 1)) := by rw [hst, hty]; simp only [cat_nil, ByteArray.append_assoc]
      repeat' first
        | refine g_go T hC true 400 rfl rfl ?_
        | refine g_cond rfl (fun h => ?_) (fun h => ?_)
        | refine g_end T hC (by kernel_rfl) ?_
        | refine g_splitD (fun h => ?_) (fun h => ?_)
        | refine g_splitG rfl rfl rfl (fun h => ?_) (fun h => ?_)
        | refine g_splitP rfl rfl (fun h => ?_) (fun h => ?_)
        | (refine g_idx T hC rfl rfl rfl (Int.natCast_nonneg _) (map_at hx) rfl rfl ?_)
        | refine g_call hC (hL) rfl rfl (LeSs.refl _) rfl rfl rfl ?_
        | (refine g_cat hC rfl rfl (by (try simp only [size_app]); omega) rfl rfl ?_)
      all_goals first
        | (exfalso; have := of_decide_eq_true h; rw [hxf] at this; simp at this; done)
        | skip
      rw [hwi, hq]
      exact g_round (i + 1) (by omega) id (by omega) ⟨rfl, ⟨rfl, rfl, rfl, trivial⟩, ⟨rfl, trivial⟩, rfl, fun _ _ => rfl⟩
    | cons y r =>
      rw [hxf] at hty
      simp only at hty
      rw [← hxf] at hty
      have hq : q0 d ++ g ++ (⟨#[116, 121, 112, 101, 32]⟩ : ByteArray) ++ x.n ++ (⟨#[32, 123, 32]⟩ : ByteArray) ++ declsT x.f (⟨#[59, 32]⟩ : ByteArray) ++ (⟨#[32]⟩ : ByteArray) ++ (⟨#[125, 10]⟩ : Str) = q0 d ++ catB ((d.types.map typT).take (i + 1)) := by rw [hst, hty]; simp only [ByteArray.append_assoc]
      repeat' first
        | refine g_go T hC true 400 rfl rfl ?_
        | refine g_cond rfl (fun h => ?_) (fun h => ?_)
        | refine g_end T hC (by kernel_rfl) ?_
        | refine g_splitD (fun h => ?_) (fun h => ?_)
        | refine g_splitG rfl rfl rfl (fun h => ?_) (fun h => ?_)
        | refine g_splitP rfl rfl (fun h => ?_) (fun h => ?_)
        | (refine g_idx T hC rfl rfl rfl (Int.natCast_nonneg _) (map_at hx) rfl rfl ?_)
        | refine g_call hC (hL) rfl rfl (LeSs.refl _) rfl rfl rfl ?_
        | (refine g_cat hC rfl rfl (by (try simp only [size_app]); omega) rfl rfl ?_)
      all_goals first
        | (exfalso; have := of_decide_eq_false h; rw [hxf] at this; simp only [List.map_cons, List.length_cons] at this; omega)
        | skip
      rw [hwi, hq]
      exact g_round (i + 1) (by omega) id (by omega) ⟨rfl, ⟨rfl, rfl, rfl, trivial⟩, ⟨rfl, trivial⟩, rfl, fun _ _ => rfl⟩
  have hge : ¬ i < d.types.length := by have := of_decide_eq_false h; simp only [List.length_map] at this; omega
  rw [List.take_of_length_le (by rw [List.length_map]; omega), show q0 d ++ catB (d.types.map typT) = q1 d from rfl]
  clear h hge hi
  repeat' first
    | refine g_go T hC true 400 rfl rfl ?_
    | refine g_cond rfl (fun h => ?_) (fun h => ?_)
    | refine g_end T hC (by kernel_rfl) ?_
    | refine g_splitD (fun h => ?_) (fun h => ?_)
    | refine g_splitG rfl rfl rfl (fun h => ?_) (fun h => ?_)
    | refine g_splitP rfl rfl (fun h => ?_) (fun h => ?_)
    | refine g_outE ?_
  refine g_loop (fun i : Nat => i ≤ d.globals.length) (fun i => ([(1, .one (.bx 1001 0)), (4, Sr (q1 d ++ catB ((d.globals.map varT).take i))), (6, I i)], [(1001, some (Res.box ((descR d).map V.p)))])) (fun i => d.globals.length - i) hC
    0 (Nat.zero_le _) id ⟨rfl, ⟨rfl, by rw [show catB ((d.globals.map varT).take 0) = (⟨#[]⟩ : ByteArray) from rfl, cat_nil]; rfl, rfl, trivial⟩, ⟨rfl, trivial⟩, rfl, fun _ _ => rfl⟩ ?_
  intro i hi
  refine g_run' T hC true 200 rfl ?_
  refine g_cond rfl (fun h => ?_) (fun h => ?_)
  · have hlt : i < d.globals.length := by have := of_decide_eq_true h; simp only [List.length_map] at this; omega
    clear h
    obtain ⟨x, hx⟩ := exists_at hlt
    have hm := List.mem_of_getElem? hx
    have hst := cat_step (f := varT) hx (q1 d)
    have hsz := cat_size (f := varT) hx
    have hwi : IntKind.i64.wrap ((i : Int) + 1) = ((i + 1 : Nat) : Int) := by rw [wrap64 (by omega)]; rfl
    generalize hg : catB ((d.globals.map varT).take i) = g at hst hsz
    have FF := F.globals.2 x hm
    have hq : q1 d ++ g ++ (⟨#[118, 97, 114, 32]⟩ : ByteArray) ++ x.n ++ (⟨#[32]⟩ : ByteArray) ++ x.t ++ (⟨#[10]⟩ : Str) = q1 d ++ catB ((d.globals.map varT).take (i + 1)) := by rw [hst]; simp only [varT, ByteArray.append_assoc]
    repeat' first
      | refine g_go T hC true 400 rfl rfl ?_
      | refine g_cond rfl (fun h => ?_) (fun h => ?_)
      | refine g_end T hC (by kernel_rfl) ?_
      | refine g_splitD (fun h => ?_) (fun h => ?_)
      | refine g_splitG rfl rfl rfl (fun h => ?_) (fun h => ?_)
      | refine g_splitP rfl rfl (fun h => ?_) (fun h => ?_)
      | (refine g_idx T hC rfl rfl rfl (Int.natCast_nonneg _) (map_at hx) rfl rfl ?_)
      | (refine g_cat hC rfl rfl (by (try simp only [size_app]); omega) rfl rfl ?_)
    rw [hwi, hq]
    exact g_round (i + 1) (by omega) id (by omega) ⟨rfl, ⟨rfl, rfl, rfl, trivial⟩, ⟨rfl, trivial⟩, rfl, fun _ _ => rfl⟩
  have hge : ¬ i < d.globals.length := by have := of_decide_eq_false h; simp only [List.length_map] at this; omega
  rw [List.take_of_length_le (by rw [List.length_map]; omega), show q1 d ++ catB (d.globals.map varT) = q2 d from rfl]
  clear h hge hi
  repeat' first
    | refine g_go T hC true 400 rfl rfl ?_
    | refine g_cond rfl (fun h => ?_) (fun h => ?_)
    | refine g_end T hC (by kernel_rfl) ?_
    | refine g_splitD (fun h => ?_) (fun h => ?_)
    | refine g_splitG rfl rfl rfl (fun h => ?_) (fun h => ?_)
    | refine g_splitP rfl rfl (fun h => ?_) (fun h => ?_)
    | refine g_outE ?_
  refine g_loop (fun i : Nat => i ≤ d.procs.length) (fun i => ([(1, .one (.bx 1001 0)), (4, Sr (q2 d ++ catB ((d.procs.map procT).take i))), (7, I i)], [(1001, some (Res.box ((descR d).map V.p)))])) (fun i => d.procs.length - i) hC
    0 (Nat.zero_le _) id ⟨rfl, ⟨rfl, by rw [show catB ((d.procs.map procT).take 0) = (⟨#[]⟩ : ByteArray) from rfl, cat_nil]; rfl, rfl, trivial⟩, ⟨rfl, trivial⟩, rfl, fun _ _ => rfl⟩ ?_
  intro i hi
  refine g_run' T hC true 200 rfl ?_
  refine g_cond rfl (fun h => ?_) (fun h => ?_)
  · have hlt : i < d.procs.length := by have := of_decide_eq_true h; simp only [List.length_map] at this; omega
    clear h
    obtain ⟨x, hx⟩ := exists_at hlt
    have hm := List.mem_of_getElem? hx
    have hst := cat_step (f := procT) hx (q2 d)
    have hsz := cat_size (f := procT) hx
    have hwi : IntKind.i64.wrap ((i : Int) + 1) = ((i + 1 : Nat) : Int) := by rw [wrap64 (by omega)]; rfl
    generalize hg : catB ((d.procs.map procT).take i) = g at hst hsz
    have hP := rproc_ok x (F.procs x hm) (by omega)
    have hq : q2 d ++ g ++ procT x = q2 d ++ catB ((d.procs.map procT).take (i + 1)) := hst.symm
    repeat' first
      | refine g_go T hC true 400 rfl rfl ?_
      | refine g_cond rfl (fun h => ?_) (fun h => ?_)
      | refine g_end T hC (by kernel_rfl) ?_
      | refine g_splitD (fun h => ?_) (fun h => ?_)
      | refine g_splitG rfl rfl rfl (fun h => ?_) (fun h => ?_)
      | refine g_splitP rfl rfl (fun h => ?_) (fun h => ?_)
      | (refine g_idx T hC rfl rfl rfl (Int.natCast_nonneg _) (map_at hx) rfl rfl ?_)
      | refine g_call hC (hP) rfl rfl (LeSs.refl _) rfl rfl rfl ?_
      | (refine g_cat hC rfl rfl (by (try simp only [size_app]); omega) rfl rfl ?_)
    rw [hwi, hq]
    exact g_round (i + 1) (by omega) id (by omega) ⟨rfl, ⟨rfl, rfl, rfl, trivial⟩, ⟨rfl, trivial⟩, rfl, fun _ _ => rfl⟩
  have hge : ¬ i < d.procs.length := by have := of_decide_eq_false h; simp only [List.length_map] at this; omega
  rw [List.take_of_length_le (by rw [List.length_map]; omega), show q2 d ++ catB (d.procs.map procT) = q3 d from rfl]
  clear h hge hi
  repeat' first
    | refine g_go T hC true 400 rfl rfl ?_
    | refine g_cond rfl (fun h => ?_) (fun h => ?_)
    | refine g_end T hC (by kernel_rfl) ?_
    | refine g_splitD (fun h => ?_) (fun h => ?_)
    | refine g_splitG rfl rfl rfl (fun h => ?_) (fun h => ?_)
    | refine g_splitP rfl rfl (fun h => ?_) (fun h => ?_)
    | refine g_outE ?_
  refine g_loop (fun i : Nat => i ≤ d.measures.length) (fun i => ([(1, .one (.bx 1001 0)), (4, Sr (q3 d ++ catB ((d.measures.map measT).take i))), (8, I i)], [(1001, some (Res.box ((descR d).map V.p)))])) (fun i => d.measures.length - i) hC
    0 (Nat.zero_le _) id ⟨rfl, ⟨rfl, by rw [show catB ((d.measures.map measT).take 0) = (⟨#[]⟩ : ByteArray) from rfl, cat_nil]; rfl, rfl, trivial⟩, ⟨rfl, trivial⟩, rfl, fun _ _ => rfl⟩ ?_
  intro i hi
  refine g_run' T hC true 200 rfl ?_
  refine g_cond rfl (fun h => ?_) (fun h => ?_)
  · have hlt : i < d.measures.length := by have := of_decide_eq_true h; simp only [List.length_map] at this; omega
    clear h
    obtain ⟨x, hx⟩ := exists_at hlt
    have hm := List.mem_of_getElem? hx
    have hst := cat_step (f := measT) hx (q3 d)
    have hsz := cat_size (f := measT) hx
    have hwi : IntKind.i64.wrap ((i : Int) + 1) = ((i + 1 : Nat) : Int) := by rw [wrap64 (by omega)]; rfl
    generalize hg : catB ((d.measures.map measT).take i) = g at hst hsz
    have hmo := F.meas x hm
    unfold measOk at hmo
    simp only [Bool.and_eq_true, Bool.not_eq_true', decide_eq_false_iff_not] at hmo
    obtain ⟨⟨⟨⟨o1, o2⟩, o3⟩, o4⟩, o5⟩ := hmo
    have a1 := name_le o1
    have a2 := name_le o2
    have a3 := itoaB_size (n := x.z) (by omega) (by omega)
    have a4 := at_le o5 1
    have hI := rint_ok x.z (by omega) (by omega)
    have hP := rat_of o5 1
    have hq : q3 d ++ g ++ (⟨#[109, 101, 97, 115, 117, 114, 101, 32]⟩ : ByteArray) ++ x.n ++ (⟨#[40]⟩ : ByteArray) ++ x.t ++ (⟨#[41, 32, 110, 105, 108, 32]⟩ : ByteArray) ++ itoaB x.z ++ (⟨#[32, 61, 32]⟩ : ByteArray) ++ atT (txOf x.x) 1 ++ (⟨#[10]⟩ : Str) = q3 d ++ catB ((d.measures.map measT).take (i + 1)) := by rw [hst]; simp only [measT, formT, ByteArray.append_assoc]
    repeat' first
      | refine g_go T hC true 400 rfl rfl ?_
      | refine g_cond rfl (fun h => ?_) (fun h => ?_)
      | refine g_end T hC (by kernel_rfl) ?_
      | refine g_splitD (fun h => ?_) (fun h => ?_)
      | refine g_splitG rfl rfl rfl (fun h => ?_) (fun h => ?_)
      | refine g_splitP rfl rfl (fun h => ?_) (fun h => ?_)
      | (refine g_idx T hC rfl rfl rfl (Int.natCast_nonneg _) (map_at hx) rfl rfl ?_)
      | refine g_call hC (hI) rfl rfl (LeSs.refl _) rfl rfl rfl ?_
      | refine g_call hC (hP) rfl rfl (LeSs.refl _) rfl rfl rfl ?_
      | (refine g_cat hC rfl rfl (by (try simp only [size_app]); omega) rfl rfl ?_)
    rw [hwi, hq]
    exact g_round (i + 1) (by omega) id (by omega) ⟨rfl, ⟨rfl, rfl, rfl, trivial⟩, ⟨rfl, trivial⟩, rfl, fun _ _ => rfl⟩
  have hge : ¬ i < d.measures.length := by have := of_decide_eq_false h; simp only [List.length_map] at this; omega
  rw [List.take_of_length_le (by rw [List.length_map]; omega), show q3 d ++ catB (d.measures.map measT) = q4 d from rfl]
  clear h hge hi
  repeat' first
    | refine g_go T hC true 400 rfl rfl ?_
    | refine g_cond rfl (fun h => ?_) (fun h => ?_)
    | refine g_end T hC (by kernel_rfl) ?_
    | refine g_splitD (fun h => ?_) (fun h => ?_)
    | refine g_splitG rfl rfl rfl (fun h => ?_) (fun h => ?_)
    | refine g_splitP rfl rfl (fun h => ?_) (fun h => ?_)
    | refine g_outE ?_
  refine g_loop (fun i : Nat => i ≤ d.invs.length) (fun i => ([(1, .one (.bx 1001 0)), (4, Sr (q4 d ++ catB ((d.invs.map invT).take i))), (10, I i)], [(1001, some (Res.box ((descR d).map V.p)))])) (fun i => d.invs.length - i) hC
    0 (Nat.zero_le _) id ⟨rfl, ⟨rfl, by rw [show catB ((d.invs.map invT).take 0) = (⟨#[]⟩ : ByteArray) from rfl, cat_nil]; rfl, rfl, trivial⟩, ⟨rfl, trivial⟩, rfl, fun _ _ => rfl⟩ ?_
  intro i hi
  refine g_run' T hC true 200 rfl ?_
  refine g_cond rfl (fun h => ?_) (fun h => ?_)
  · have hlt : i < d.invs.length := by have := of_decide_eq_true h; simp only [List.length_map] at this; omega
    clear h
    obtain ⟨x, hx⟩ := exists_at hlt
    have hm := List.mem_of_getElem? hx
    have hst := cat_step (f := invT) hx (q4 d)
    have hsz := cat_size (f := invT) hx
    have hwi : IntKind.i64.wrap ((i : Int) + 1) = ((i + 1 : Nat) : Int) := by rw [wrap64 (by omega)]; rfl
    generalize hg : catB ((d.invs.map invT).take i) = g at hst hsz
    have hmo := F.invs x hm
    unfold invOk at hmo
    simp only [Bool.and_eq_true] at hmo
    obtain ⟨⟨o1, o2⟩, o5⟩ := hmo
    have a1 := name_le o1
    have a2 := isOpen_size o2
    have a4 := at_le o5 1
    have hP := rat_of o5 1
    have hiv : invT x = formT ((⟨#[105, 110, 118, 97, 114, 105, 97, 110, 116, 32]⟩ : ByteArray) ++ x.n ++ (if x.t = (⟨#[]⟩ : ByteArray) then (⟨#[]⟩ : ByteArray) else (⟨#[40]⟩ : ByteArray) ++ x.t ++ (⟨#[41]⟩ : ByteArray))) x.x := rfl
    by_cases ht0 : x.t = (⟨#[]⟩ : ByteArray)
    · rw [if_pos ht0, cat_nil] at hiv
      have hq : q4 d ++ g ++ (⟨#[105, 110, 118, 97, 114, 105, 97, 110, 116, 32]⟩ : ByteArray) ++ x.n ++ (⟨#[32, 61, 32]⟩ : ByteArray) ++ atT (txOf x.x) 1 ++ (⟨#[10]⟩ : Str) = q4 d ++ catB ((d.invs.map invT).take (i + 1)) := by rw [hst, hiv]; simp only [formT, ByteArray.append_assoc]
      repeat' first
        | refine g_go T hC true 400 rfl rfl ?_
        | refine g_cond rfl (fun h => ?_) (fun h => ?_)
        | refine g_end T hC (by kernel_rfl) ?_
        | refine g_splitD (fun h => ?_) (fun h => ?_)
        | refine g_splitG rfl rfl rfl (fun h => ?_) (fun h => ?_)
        | refine g_splitP rfl rfl (fun h => ?_) (fun h => ?_)
        | (refine g_idx T hC rfl rfl rfl (Int.natCast_nonneg _) (map_at hx) rfl rfl ?_)
        | refine g_call hC (hP) rfl rfl (LeSs.refl _) rfl rfl rfl ?_
        | (refine g_cat hC rfl rfl (by (try simp only [size_app]); omega) rfl rfl ?_)
      all_goals first
        | (exfalso; clear hP; simp_all; done)
        | skip
      rw [hwi, hq]
      exact g_round (i + 1) (by omega) id (by omega) ⟨rfl, ⟨rfl, rfl, rfl, trivial⟩, ⟨rfl, trivial⟩, rfl, fun _ _ => rfl⟩
    · rw [if_neg ht0] at hiv
      have hq : q4 d ++ g ++ (⟨#[105, 110, 118, 97, 114, 105, 97, 110, 116, 32]⟩ : ByteArray) ++ x.n ++ (⟨#[40]⟩ : ByteArray) ++ x.t ++ (⟨#[41]⟩ : ByteArray) ++ (⟨#[32, 61, 32]⟩ : ByteArray) ++ atT (txOf x.x) 1 ++ (⟨#[10]⟩ : Str) = q4 d ++ catB ((d.invs.map invT).take (i + 1)) := by rw [hst, hiv]; simp only [formT, ByteArray.append_assoc]
      repeat' first
        | refine g_go T hC true 400 rfl rfl ?_
        | refine g_cond rfl (fun h => ?_) (fun h => ?_)
        | refine g_end T hC (by kernel_rfl) ?_
        | refine g_splitD (fun h => ?_) (fun h => ?_)
        | refine g_splitG rfl rfl rfl (fun h => ?_) (fun h => ?_)
        | refine g_splitP rfl rfl (fun h => ?_) (fun h => ?_)
        | (refine g_idx T hC rfl rfl rfl (Int.natCast_nonneg _) (map_at hx) rfl rfl ?_)
        | refine g_call hC (hP) rfl rfl (LeSs.refl _) rfl rfl rfl ?_
        | (refine g_cat hC rfl rfl (by (try simp only [size_app]); omega) rfl rfl ?_)
      all_goals first
        | (exfalso; clear hP; simp_all; done)
        | skip
      rw [hwi, hq]
      exact g_round (i + 1) (by omega) id (by omega) ⟨rfl, ⟨rfl, rfl, rfl, trivial⟩, ⟨rfl, trivial⟩, rfl, fun _ _ => rfl⟩
  have hge : ¬ i < d.invs.length := by have := of_decide_eq_false h; simp only [List.length_map] at this; omega
  rw [List.take_of_length_le (by rw [List.length_map]; omega), show q4 d ++ catB (d.invs.map invT) = q5 d from rfl]
  clear h hge hi
  repeat' first
    | refine g_go T hC true 400 rfl rfl ?_
    | refine g_cond rfl (fun h => ?_) (fun h => ?_)
    | refine g_end T hC (by kernel_rfl) ?_
    | refine g_splitD (fun h => ?_) (fun h => ?_)
    | refine g_splitG rfl rfl rfl (fun h => ?_) (fun h => ?_)
    | refine g_splitP rfl rfl (fun h => ?_) (fun h => ?_)
    | refine g_outE ?_
  refine g_loop (fun i : Nat => i ≤ d.pots.length) (fun i => ([(1, .one (.bx 1001 0)), (4, Sr (q5 d ++ catB ((d.pots.map potT).take i))), (11, I i)], [(1001, some (Res.box ((descR d).map V.p)))])) (fun i => d.pots.length - i) hC
    0 (Nat.zero_le _) id ⟨rfl, ⟨rfl, by rw [show catB ((d.pots.map potT).take 0) = (⟨#[]⟩ : ByteArray) from rfl, cat_nil]; rfl, rfl, trivial⟩, ⟨rfl, trivial⟩, rfl, fun _ _ => rfl⟩ ?_
  intro i hi
  refine g_run' T hC true 200 rfl ?_
  refine g_cond rfl (fun h => ?_) (fun h => ?_)
  · have hlt : i < d.pots.length := by have := of_decide_eq_true h; simp only [List.length_map] at this; omega
    clear h
    obtain ⟨x, hx⟩ := exists_at hlt
    have hm := List.mem_of_getElem? hx
    have hst := cat_step (f := potT) hx (q5 d)
    have hsz := cat_size (f := potT) hx
    have hwi : IntKind.i64.wrap ((i : Int) + 1) = ((i + 1 : Nat) : Int) := by rw [wrap64 (by omega)]; rfl
    generalize hg : catB ((d.pots.map potT).take i) = g at hst hsz
    have hmo := F.pots x hm
    unfold potOk at hmo
    simp only [Bool.and_eq_true] at hmo
    obtain ⟨o2, o5⟩ := hmo
    have a2 := isOpen_size o2
    have a4 := at_le o5 1
    have hP := rat_of o5 1
    have hiv : potT x = formT ((⟨#[112, 111, 116, 101, 110, 116, 105, 97, 108]⟩ : ByteArray) ++ (if x.t = (⟨#[]⟩ : ByteArray) then (⟨#[]⟩ : ByteArray) else (⟨#[32]⟩ : ByteArray) ++ x.t)) x.x := rfl
    have hpp : (⟨#[112, 111, 116, 101, 110, 116, 105, 97, 108, 32]⟩ : ByteArray) = (⟨#[112, 111, 116, 101, 110, 116, 105, 97, 108]⟩ : ByteArray) ++ (⟨#[32]⟩ : ByteArray) := by kernel_rfl
    have hee : (⟨#[32, 61, 32]⟩ : ByteArray) = (⟨#[32]⟩ : ByteArray) ++ (⟨#[61, 32]⟩ : ByteArray) := by kernel_rfl
    by_cases ht0 : x.t = (⟨#[]⟩ : ByteArray)
    · rw [if_pos ht0, cat_nil] at hiv
      have hq : q5 d ++ g ++ (⟨#[112, 111, 116, 101, 110, 116, 105, 97, 108, 32]⟩ : ByteArray) ++ (⟨#[61, 32]⟩ : ByteArray) ++ atT (txOf x.x) 1 ++ (⟨#[10]⟩ : Str) = q5 d ++ catB ((d.pots.map potT).take (i + 1)) := by rw [hst, hiv, formT, hpp, hee]; simp only [ByteArray.append_assoc]
      repeat' first
        | refine g_go T hC true 400 rfl rfl ?_
        | refine g_cond rfl (fun h => ?_) (fun h => ?_)
        | refine g_end T hC (by kernel_rfl) ?_
        | refine g_splitD (fun h => ?_) (fun h => ?_)
        | refine g_splitG rfl rfl rfl (fun h => ?_) (fun h => ?_)
        | refine g_splitP rfl rfl (fun h => ?_) (fun h => ?_)
        | (refine g_idx T hC rfl rfl rfl (Int.natCast_nonneg _) (map_at hx) rfl rfl ?_)
        | refine g_call hC (hP) rfl rfl (LeSs.refl _) rfl rfl rfl ?_
        | (refine g_cat hC rfl rfl (by (try simp only [size_app]); omega) rfl rfl ?_)
      all_goals first
        | (exfalso; clear hP; simp_all; done)
        | skip
      rw [hwi, hq]
      exact g_round (i + 1) (by omega) id (by omega) ⟨rfl, ⟨rfl, rfl, rfl, trivial⟩, ⟨rfl, trivial⟩, rfl, fun _ _ => rfl⟩
    · rw [if_neg ht0] at hiv
      have hq : q5 d ++ g ++ (⟨#[112, 111, 116, 101, 110, 116, 105, 97, 108, 32]⟩ : ByteArray) ++ x.t ++ (⟨#[32]⟩ : ByteArray) ++ (⟨#[61, 32]⟩ : ByteArray) ++ atT (txOf x.x) 1 ++ (⟨#[10]⟩ : Str) = q5 d ++ catB ((d.pots.map potT).take (i + 1)) := by rw [hst, hiv, formT, hpp, hee]; simp only [ByteArray.append_assoc]
      repeat' first
        | refine g_go T hC true 400 rfl rfl ?_
        | refine g_cond rfl (fun h => ?_) (fun h => ?_)
        | refine g_end T hC (by kernel_rfl) ?_
        | refine g_splitD (fun h => ?_) (fun h => ?_)
        | refine g_splitG rfl rfl rfl (fun h => ?_) (fun h => ?_)
        | refine g_splitP rfl rfl (fun h => ?_) (fun h => ?_)
        | (refine g_idx T hC rfl rfl rfl (Int.natCast_nonneg _) (map_at hx) rfl rfl ?_)
        | refine g_call hC (hP) rfl rfl (LeSs.refl _) rfl rfl rfl ?_
        | (refine g_cat hC rfl rfl (by (try simp only [size_app]); omega) rfl rfl ?_)
      all_goals first
        | (exfalso; clear hP; simp_all; done)
        | skip
      rw [hwi, hq]
      exact g_round (i + 1) (by omega) id (by omega) ⟨rfl, ⟨rfl, rfl, rfl, trivial⟩, ⟨rfl, trivial⟩, rfl, fun _ _ => rfl⟩
  have hge : ¬ i < d.pots.length := by have := of_decide_eq_false h; simp only [List.length_map] at this; omega
  rw [List.take_of_length_le (by rw [List.length_map]; omega), show q5 d ++ catB (d.pots.map potT) = q6 d from rfl]
  clear h hge hi
  repeat' first
    | refine g_go T hC true 400 rfl rfl ?_
    | refine g_cond rfl (fun h => ?_) (fun h => ?_)
    | refine g_end T hC (by kernel_rfl) ?_
    | refine g_splitD (fun h => ?_) (fun h => ?_)
    | refine g_splitG rfl rfl rfl (fun h => ?_) (fun h => ?_)
    | refine g_splitP rfl rfl (fun h => ?_) (fun h => ?_)
    | refine g_outE ?_
  refine g_loop (fun i : Nat => i ≤ d.bounds.length) (fun i => ([(1, .one (.bx 1001 0)), (4, Sr (q6 d ++ catB ((d.bounds.map boundT).take i))), (12, I i)], [(1001, some (Res.box ((descR d).map V.p)))])) (fun i => d.bounds.length - i) hC
    0 (Nat.zero_le _) id ⟨rfl, ⟨rfl, by rw [show catB ((d.bounds.map boundT).take 0) = (⟨#[]⟩ : ByteArray) from rfl, cat_nil]; rfl, rfl, trivial⟩, ⟨rfl, trivial⟩, rfl, fun _ _ => rfl⟩ ?_
  intro i hi
  refine g_run' T hC true 200 rfl ?_
  refine g_cond rfl (fun h => ?_) (fun h => ?_)
  · have hlt : i < d.bounds.length := by have := of_decide_eq_true h; simp only [List.length_map] at this; omega
    clear h
    obtain ⟨x, hx⟩ := exists_at hlt
    have hm := List.mem_of_getElem? hx
    have hst := cat_step (f := boundT) hx (q6 d)
    have hsz := cat_size (f := boundT) hx
    have hwi : IntKind.i64.wrap ((i : Int) + 1) = ((i + 1 : Nat) : Int) := by rw [wrap64 (by omega)]; rfl
    generalize hg : catB ((d.bounds.map boundT).take i) = g at hst hsz
    have hmo := F.bounds x hm
    unfold boundOk at hmo
    simp only [Bool.and_eq_true] at hmo
    obtain ⟨o1, o5⟩ := hmo
    have a1 := name_le o1
    have a4 := at_le o5 1
    have hP := rat_of o5 1
    have hq : q6 d ++ g ++ (⟨#[98, 111, 117, 110, 100, 32]⟩ : ByteArray) ++ x.p ++ (⟨#[32, 61, 32]⟩ : ByteArray) ++ atT (txOf x.x) 1 ++ (⟨#[10]⟩ : Str) = q6 d ++ catB ((d.bounds.map boundT).take (i + 1)) := by rw [hst]; simp only [boundT, formT, ByteArray.append_assoc]
    repeat' first
      | refine g_go T hC true 400 rfl rfl ?_
      | refine g_cond rfl (fun h => ?_) (fun h => ?_)
      | refine g_end T hC (by kernel_rfl) ?_
      | refine g_splitD (fun h => ?_) (fun h => ?_)
      | refine g_splitG rfl rfl rfl (fun h => ?_) (fun h => ?_)
      | refine g_splitP rfl rfl (fun h => ?_) (fun h => ?_)
      | (refine g_idx T hC rfl rfl rfl (Int.natCast_nonneg _) (map_at hx) rfl rfl ?_)
      | refine g_call hC (hP) rfl rfl (LeSs.refl _) rfl rfl rfl ?_
      | (refine g_cat hC rfl rfl (by (try simp only [size_app]); omega) rfl rfl ?_)
    rw [hwi, hq]
    exact g_round (i + 1) (by omega) id (by omega) ⟨rfl, ⟨rfl, rfl, rfl, trivial⟩, ⟨rfl, trivial⟩, rfl, fun _ _ => rfl⟩
  have hge : ¬ i < d.bounds.length := by have := of_decide_eq_false h; simp only [List.length_map] at this; omega
  rw [List.take_of_length_le (by rw [List.length_map]; omega), show q6 d ++ catB (d.bounds.map boundT) = q7 d from rfl]
  clear h hge hi
  have hz7 : (q7 d).size ≤ 2000000 := by have := F.size; rw [descT_eq, size_app] at this; omega
  repeat' first
    | refine g_go T hC true 400 rfl rfl ?_
    | refine g_cond rfl (fun h => ?_) (fun h => ?_)
    | refine g_end T hC (by kernel_rfl) ?_
    | refine g_splitD (fun h => ?_) (fun h => ?_)
    | refine g_splitG rfl rfl rfl (fun h => ?_) (fun h => ?_)
    | refine g_splitP rfl rfl (fun h => ?_) (fun h => ?_)
    | refine g_outE ?_
    | refine g_call hC (hZ) rfl rfl (LeSs.refl _) rfl rfl rfl ?_
    | (refine g_cat hC rfl rfl (by (try simp only [size_app]); omega) rfl rfl ?_)
  exact g_fin ⟨.inl rfl, id, _, rfl, .refl _, trivial, rfl, rfl⟩
theorem astTexts_ok (d : Desc) : FnOK Tryz.prog 10 [aggS (descR d)] [] (.bq true) [] := by
  have hS := small09_ok d
  cases hs : smallF d with
  | false =>
    rw [hs] at hS
    refine fn_ok T Tryz.func10 (by kernel_rfl) rfl rfl rfl rfl fun C hC => ?_
    repeat' first
      | refine g_go T hC true 400 rfl rfl ?_
      | refine g_cond rfl (fun h => ?_) (fun h => ?_)
      | refine g_end T hC (by kernel_rfl) ?_
      | refine g_splitD (fun h => ?_) (fun h => ?_)
      | refine g_splitG rfl rfl rfl (fun h => ?_) (fun h => ?_)
      | refine g_splitP rfl rfl (fun h => ?_) (fun h => ?_)
      | refine g_call hC (awake09_ok) rfl rfl (LeSs.refl _) rfl rfl rfl ?_
      | refine g_call hC (hS) rfl rfl (LeSs.refl _) rfl rfl rfl ?_
      | refine g_retq T (.inl rfl) rfl ?_
      | refine g_retl T (.inl rfl) rfl ?_
    all_goals first
      | rfl
      | (exfalso; clear hS; simp_all; done)
  | true =>
    rw [hs] at hS
    have hA := aText_ok d fun hv => desc_facts hv hs
    have hR := rText_ok d fun hv => desc_facts hv hs
    have hV := astValid_ok d
    have hW := valid09_ok d
    refine fn_ok T Tryz.func10 (by kernel_rfl) rfl rfl rfl rfl fun C hC => ?_
    repeat' first
      | refine g_go T hC true 400 rfl rfl ?_
      | refine g_boolsE hC rfl rfl (by kernel_rfl) rfl rfl ?_
      | refine g_cond rfl (fun h => ?_) (fun h => ?_)
      | refine g_end T hC (by kernel_rfl) ?_
      | refine g_splitD (fun h => ?_) (fun h => ?_)
      | refine g_splitG rfl rfl rfl (fun h => ?_) (fun h => ?_)
      | refine g_splitP rfl rfl (fun h => ?_) (fun h => ?_)
      | refine g_call hC (awake09_ok) rfl rfl (LeSs.refl _) rfl rfl rfl ?_
      | refine g_call hC (hS) rfl rfl (LeSs.refl _) rfl rfl rfl ?_
      | refine g_call hC (hA) rfl rfl (LeSs.refl _) rfl rfl rfl ?_
      | refine g_call hC (hR) rfl rfl (LeSs.refl _) rfl rfl rfl ?_
      | refine g_call hC (hV) rfl rfl (LeSs.refl _) rfl rfl rfl ?_
      | refine g_call hC (hW) rfl rfl (LeSs.refl _) rfl rfl rfl ?_
      | refine g_retq T (.inl rfl) rfl ?_
      | refine g_retl T (.inl rfl) rfl ?_
    all_goals clear hS hA hR hV hW
    all_goals first
      | rfl
      | (simp; done)
      | (exfalso; simp_all; done)
      | (simp_all; done)
end Hw.Z
