/- The engine and the contracts. -/
import Derived.Test.YtmnhegkogibipaaGreatDoorC15
set_option linter.unusedVariables false
set_option linter.unusedSimpArgs false
namespace Hw.Z
open Go Go.Proofs Go.Shelf Hw.M

theorem lev_ge0 (op : Int) : 1 ≤ levS op := by
  unfold levS
  cases hg : sgn op with
  | some x => exact (sgn_size hg).2.1
  | none => dsimp only; repeat' split <;> omega
theorem okSm_mk {x : Sm} {d : Int} (h : okSm x d) : shapeS x = true ∧ d ≤ 60 ∧ okSms x.l (d + 1) ∧ okSms x.els (d + 1) := by
  cases x; simp only [okSm, Sm.l, Sm.els] at h ⊢; exact h
theorem wr_of {e : Ex} (h : exprOk e = true) : POK e := part_ok (write_ok (SizeOf.sizeOf e + 1) e 1 (by omega) (of_decide_eq_true h))
theorem wk_of {e : Ex} (h : exprOk e = true) : WOK e := write_ok (SizeOf.sizeOf e + 1) e 1 (by omega) (of_decide_eq_true h)
def blkC (d : Nat) (l : List Sm) (i : Nat) : Str := catB ((l.map fun x => stT x (tabS d)).take i)
set_option maxHeartbeats 4000000 in
theorem block_ok : ∀ (N : Nat) (l : List Sm) (d : Nat) (s : Str), SizeOf.sizeOf l < N → okSms l d → d ≤ 61 → s.size + (stsT l (tabS d)).size ≤ 6000000 →
    FnOK Tryz.prog 153 [.one (.ar 0), pS (stmtsP l), I d] (bA 0 s) (.one (.ar 1)) (bA 1 (s ++ stsT l (tabS d))) := by
  intro N
  induction N with
  | zero => intro l d s h; omega
  | succ N ih =>
  intro l d s hN ho hd hs
  have htz := tabS_size d
  rw [stsT_cat] at hs ⊢
  have n1 : ByteArray.size (⟨#[32, 61, 32]⟩ : ByteArray) = 3 := rfl
  have n2 : ByteArray.size scS = 2 := rfl
  have n3 : ByteArray.size (⟨#[46]⟩ : ByteArray) = 1 := rfl
  have n4 : ByteArray.size (⟨#[114, 101, 116, 117, 114, 110]⟩ : ByteArray) = 6 := rfl
  have n5 : ByteArray.size opS = 3 := rfl
  have n6 : ByteArray.size clS = 2 := rfl
  have n7 : ByteArray.size (⟨#[119, 104, 105, 108, 101, 32]⟩ : ByteArray) = 6 := rfl
  have n8 : ByteArray.size (⟨#[105, 102, 32]⟩ : ByteArray) = 3 := rfl
  have n9 : ByteArray.size elS = 9 := rfl
  have n10 : ByteArray.size tbS = 1 := rfl
  have n11 : ByteArray.size (⟨#[32]⟩ : ByteArray) = 1 := rfl
  have n12 : ByteArray.size lpS = 1 := rfl
  have n13 : ByteArray.size rpS = 1 := rfl
  have m1 : ByteArray.size (⟨#[59, 10]⟩ : Str) = 2 := rfl
  have m2 : ByteArray.size (⟨#[32, 123, 10]⟩ : Str) = 3 := rfl
  have m3 : ByteArray.size (⟨#[125, 10]⟩ : Str) = 2 := rfl
  have m4 : ByteArray.size (⟨#[125, 32, 101, 108, 115, 101, 32, 123, 10]⟩ : Str) = 9 := rfl
  have m5 : ByteArray.size (⟨#[40]⟩ : Str) = 1 := rfl
  have m6 : ByteArray.size (⟨#[41]⟩ : Str) = 1 := rfl
  have hw1 : IntKind.i64.wrap ((d : Int) + 1) = (d : Int) + 1 := wrap64 (by omega)
  refine fn_ok T Tryz.func153 (by kernel_rfl) rfl rfl rfl rfl fun C hC => ?_
  refine g_len 1 rfl fun hlen => ?_
  rw [List.length_map] at hlen
  repeat' first
    | refine g_go T hC true 400 rfl rfl ?_
    | refine g_cond rfl (fun h => ?_) (fun h => ?_)
    | refine g_end T hC (by kernel_rfl) ?_
    | refine g_splitD (fun h => ?_) (fun h => ?_)
    | refine g_splitG rfl rfl rfl (fun h => ?_) (fun h => ?_)
    | refine g_splitP rfl rfl (fun h => ?_) (fun h => ?_)
  rw [List.length_map]
  refine g_loop (fun i : Nat => i ≤ l.length) (fun i => ([(3, .one (.bx 1003 0)), (5, .one (.bx 1005 0)), (7, .one (.cl 198 [] [.bx 1003 0, .bx 1005 0])), (15, pS (stmtsP l)), (16, I l.length), (17, I i)],
      [(1003, some (Res.box [.ar 101])), (1005, some (Res.box [.p (ki d)])), (101, some (Res.arr 1 (bytesR (s ++ blkC d l i))))])) (fun i => l.length - i) hC
    0 (Nat.zero_le _) (mvo 101 0) ⟨rfl, ⟨rfl, rfl, rfl, rfl, rfl, rfl, trivial⟩, ⟨rfl, rfl, by rw [show blkC d l 0 = (⟨#[]⟩ : ByteArray) from rfl, cat_nil]; rfl, trivial⟩, rfl, fun q hq => mvo_low (by omega) hq⟩ ?_
  intro i hi
  refine g_run' T hC true 200 rfl ?_
  refine g_cond rfl (fun h => ?_) (fun h => ?_)
  · have hlt : i < l.length := by have := of_decide_eq_true h; omega
    clear h
    obtain ⟨x, hx⟩ := exists_at hlt
    have hox := okSm_mk (okSms_mem ho x (List.mem_of_getElem? hx))
    have hsz := List.sizeOf_lt_of_mem (List.mem_of_getElem? hx)
    have hstep : blkC d l (i + 1) = blkC d l i ++ stT x (tabS d) := catB_take (by rw [List.getElem?_map, hx]; rfl)
    have hle : (blkC d l (i + 1)).size ≤ (catB (l.map fun x => stT x (tabS d))).size := catB_take_le _ _
    rw [hstep, size_app] at hle
    generalize hf : blkC d l i = f at hstep hle
    have hI := block1_ok (s ++ f) d (by omega) (by rw [size_app]; omega)
    have hwi : IntKind.i64.wrap ((i : Int) + 1) = ((i + 1 : Nat) : Int) := by rw [wrap64 (by omega)]; rfl
    obtain ⟨op, sn, e, ls, els⟩ := x
    have hv := viewS hox.1
    obtain ⟨_, hd60, hol, hoe⟩ := hox
    simp only [Sm.l, Sm.els] at hol hoe
    cases hv with
    | st sn y hs1 hy =>
      have hix : (l.map stmtR)[((i : Nat) : Int).toNat]? = some [ki 1, ks sn, exprsP [y], stmtsP [], stmtsP []] := map_atS hx
      have := name_le hs1
      rw [stT_1] at hstep hle
      rw [show ptAt (wLs [y]) 0 1 = atT (txOf y) 1 from rfl] at hstep hle
      simp only [size_app] at hle
      have hP := wr_of hy (s ++ f ++ tabS d ++ (sn ++ (⟨#[32, 61, 32]⟩ : ByteArray))) 1 (by simp only [size_app]; omega)
      have hfin : s ++ f ++ tabS d ++ (sn ++ (⟨#[32, 61, 32]⟩ : ByteArray)) ++ atT (txOf y) 1 ++ scS = s ++ blkC d l (i + 1) := by rw [hstep]; simp only [ByteArray.append_assoc]
      repeat' first
        | refine g_go T hC true 400 rfl rfl ?_
        | refine g_cond rfl (fun h => ?_) (fun h => ?_)
        | refine g_end T hC (by kernel_rfl) ?_
        | refine g_splitD (fun h => ?_) (fun h => ?_)
        | refine g_splitG rfl rfl rfl (fun h => ?_) (fun h => ?_)
        | refine g_splitP rfl rfl (fun h => ?_) (fun h => ?_)
        | (refine g_idx T hC rfl rfl rfl (Int.natCast_nonneg _) hix rfl rfl ?_)
        | refine g_callR hC (hI) (nm [1003, 1005, 101, 150]) rfl rfl (LeSs.refl _) rfl rfl rfl rfl rfl rfl rfl rfl ?_
        | (refine g_cat hC rfl rfl (by (try simp only [size_app]); omega) rfl rfl ?_)
        | (refine g_append T 151 hC (rows := bytesR _) (rows2 := bytesR _) (rows3 := bytesR (_ ++ _)) (bytes := 1) rfl rfl rfl rfl (SrcS.str (by kernel_rfl)) (app_rows rfl) rfl rfl rfl (by kernel_rfl) (by (try simp only [bytesR_len, size_app]); omega) (by (try simp only [bytesR_len, size_app]); omega) rfl rfl rfl ?_)
        | (refine g_idx T hC rfl rfl rfl (by decide) (map_atE0 (l := [y]) rfl) rfl rfl ?_)
        | refine g_callR hC (hP) (nm [151, 152]) rfl rfl (LeSs.refl _) rfl rfl rfl rfl rfl rfl rfl rfl ?_
        | (refine g_append T 153 hC (rows := bytesR _) (rows2 := bytesR _) (rows3 := bytesR (_ ++ _)) (bytes := 1) rfl rfl rfl rfl (SrcS.str (by kernel_rfl)) (app_rows rfl) rfl rfl rfl (by kernel_rfl) (by (try simp only [bytesR_len, size_app]); omega) (by (try simp only [bytesR_len, size_app]); omega) rfl rfl rfl ?_)
      all_goals first
        | (exfalso; clear hI; simp_all; done)
        | skip
      rw [hwi]
      rw [hfin]
      exact g_round (i + 1) (by omega) (mvo 101 153) (by omega) ⟨rfl, ⟨rfl, rfl, rfl, rfl, rfl, rfl, trivial⟩, ⟨rfl, rfl, rfl, trivial⟩, rfl, fun q hq => mvo_low (by omega) hq⟩
    | pt sn y z hs1 hy hz =>
      have hix : (l.map stmtR)[((i : Nat) : Int).toNat]? = some [ki 2, ks sn, exprsP [y, z], stmtsP [], stmtsP []] := map_atS hx
      have := name_le hs1
      rw [stT_2] at hstep hle
      rw [show ptAt (wLs [y, z]) 1 1 = atT (txOf z) 1 from rfl] at hstep hle
      have hto : toT [y, z] = if Lib.hasPrefix (atT (txOf y) 8).data.toList ((⟨#[105, 102, 40]⟩ : ByteArray) : Str).data.toList = true then lpS ++ atT (txOf y) 8 ++ rpS else atT (txOf y) 8 := rfl
      simp only [size_app] at hle
      have hty : (atT (txOf y) 8).size ≤ (toT [y, z]).size := by rw [hto]; split <;> (try simp only [size_app]) <;> omega
      have hP := FnOK.nil0 (e := 1) (wr_of hy (⟨#[]⟩ : ByteArray) 8 (by have : ByteArray.size (⟨#[]⟩ : ByteArray) = 0 := rfl; omega)) rfl
      rw [nil_cat] at hP
      have hH := hasPrefix_ok (atT (txOf y) 8) (⟨#[105, 102, 40]⟩ : ByteArray)
      have hQ := wr_of hz (s ++ f ++ tabS d ++ (toT [y, z] ++ (⟨#[46]⟩ : ByteArray) ++ sn ++ (⟨#[32, 61, 32]⟩ : ByteArray))) 1 (by simp only [size_app]; omega)
      have hfin : s ++ f ++ tabS d ++ (toT [y, z] ++ (⟨#[46]⟩ : ByteArray) ++ sn ++ (⟨#[32, 61, 32]⟩ : ByteArray)) ++ atT (txOf z) 1 ++ scS = s ++ blkC d l (i + 1) := by rw [hstep]; simp only [ByteArray.append_assoc]
      cases hb : Lib.hasPrefix (atT (txOf y) 8).data.toList ((⟨#[105, 102, 40]⟩ : ByteArray) : Str).data.toList with
      | true =>
        rw [hb] at hto hH
        rw [if_pos rfl] at hto
        rw [hto] at hQ hfin hty hle
        simp only [size_app] at hle hty
        repeat' first
          | refine g_go T hC true 400 rfl rfl ?_
          | refine g_cond rfl (fun h => ?_) (fun h => ?_)
          | refine g_end T hC (by kernel_rfl) ?_
          | refine g_splitD (fun h => ?_) (fun h => ?_)
          | refine g_splitG rfl rfl rfl (fun h => ?_) (fun h => ?_)
          | refine g_splitP rfl rfl (fun h => ?_) (fun h => ?_)
          | (refine g_idx T hC rfl rfl rfl (Int.natCast_nonneg _) hix rfl rfl ?_)
          | refine g_callR hC (hI) (nm [1003, 1005, 101, 150]) rfl rfl (LeSs.refl _) rfl rfl rfl rfl rfl rfl rfl rfl ?_
          | (refine g_idx T hC rfl rfl rfl (by decide) (map_atE0 (l := [y, z]) rfl) rfl rfl ?_)
          | refine g_callR hC (hP) (nm [160, 161]) rfl rfl (LeSs.refl _) rfl rfl rfl rfl rfl rfl rfl rfl ?_
          | (refine g_b2s (s := atT (txOf y) 8) (e := 5) hC rfl rfl (by kernel_rfl) (by kernel_rfl) (by kernel_rfl) rfl rfl ?_)
          | refine g_call hC (hH) rfl rfl (LeSs.refl _) rfl rfl rfl ?_
          | (refine g_cat hC rfl rfl (by (try simp only [size_app]); omega) rfl rfl ?_)
          | (refine g_append T 151 hC (rows := bytesR _) (rows2 := bytesR _) (rows3 := bytesR (_ ++ _)) (bytes := 1) rfl rfl rfl rfl (SrcS.str (by kernel_rfl)) (app_rows rfl) rfl rfl rfl (by kernel_rfl) (by (try simp only [bytesR_len, size_app]); omega) (by (try simp only [bytesR_len, size_app]); omega) rfl rfl rfl ?_)
          | (refine g_idx T hC rfl rfl rfl (by decide) (map_atE (l := [y, z]) (i := 1) rfl) rfl rfl ?_)
          | refine g_callR hC (hQ) (nm [151, 152]) rfl rfl (LeSs.refl _) rfl rfl rfl rfl rfl rfl rfl rfl ?_
          | (refine g_append T 153 hC (rows := bytesR _) (rows2 := bytesR _) (rows3 := bytesR (_ ++ _)) (bytes := 1) rfl rfl rfl rfl (SrcS.str (by kernel_rfl)) (app_rows rfl) rfl rfl rfl (by kernel_rfl) (by (try simp only [bytesR_len, size_app]); omega) (by (try simp only [bytesR_len, size_app]); omega) rfl rfl rfl ?_)
        all_goals first
          | (exfalso; clear hI hP hQ hH; simp_all; done)
          | skip
        rw [hwi]
        rw [hfin]
        exact g_round (i + 1) (by omega) (mvo 101 153) (by omega) ⟨rfl, ⟨rfl, rfl, rfl, rfl, rfl, rfl, trivial⟩, ⟨rfl, rfl, rfl, trivial⟩, rfl, fun q hq => mvo_low (by omega) hq⟩
      | false =>
        rw [hb] at hto hH
        rw [if_neg (by decide)] at hto
        rw [hto] at hQ hfin hty hle
        repeat' first
          | refine g_go T hC true 400 rfl rfl ?_
          | refine g_cond rfl (fun h => ?_) (fun h => ?_)
          | refine g_end T hC (by kernel_rfl) ?_
          | refine g_splitD (fun h => ?_) (fun h => ?_)
          | refine g_splitG rfl rfl rfl (fun h => ?_) (fun h => ?_)
          | refine g_splitP rfl rfl (fun h => ?_) (fun h => ?_)
          | (refine g_idx T hC rfl rfl rfl (Int.natCast_nonneg _) hix rfl rfl ?_)
          | refine g_callR hC (hI) (nm [1003, 1005, 101, 150]) rfl rfl (LeSs.refl _) rfl rfl rfl rfl rfl rfl rfl rfl ?_
          | (refine g_idx T hC rfl rfl rfl (by decide) (map_atE0 (l := [y, z]) rfl) rfl rfl ?_)
          | refine g_callR hC (hP) (nm [160, 161]) rfl rfl (LeSs.refl _) rfl rfl rfl rfl rfl rfl rfl rfl ?_
          | (refine g_b2s (s := atT (txOf y) 8) (e := 5) hC rfl rfl (by kernel_rfl) (by kernel_rfl) (by kernel_rfl) rfl rfl ?_)
          | refine g_call hC (hH) rfl rfl (LeSs.refl _) rfl rfl rfl ?_
          | (refine g_cat hC rfl rfl (by (try simp only [size_app]); omega) rfl rfl ?_)
          | (refine g_append T 151 hC (rows := bytesR _) (rows2 := bytesR _) (rows3 := bytesR (_ ++ _)) (bytes := 1) rfl rfl rfl rfl (SrcS.str (by kernel_rfl)) (app_rows rfl) rfl rfl rfl (by kernel_rfl) (by (try simp only [bytesR_len, size_app]); omega) (by (try simp only [bytesR_len, size_app]); omega) rfl rfl rfl ?_)
          | (refine g_idx T hC rfl rfl rfl (by decide) (map_atE (l := [y, z]) (i := 1) rfl) rfl rfl ?_)
          | refine g_callR hC (hQ) (nm [151, 152]) rfl rfl (LeSs.refl _) rfl rfl rfl rfl rfl rfl rfl rfl ?_
          | (refine g_append T 153 hC (rows := bytesR _) (rows2 := bytesR _) (rows3 := bytesR (_ ++ _)) (bytes := 1) rfl rfl rfl rfl (SrcS.str (by kernel_rfl)) (app_rows rfl) rfl rfl rfl (by kernel_rfl) (by (try simp only [bytesR_len, size_app]); omega) (by (try simp only [bytesR_len, size_app]); omega) rfl rfl rfl ?_)
        all_goals first
          | (exfalso; clear hI hP hQ hH; simp_all; done)
          | skip
        rw [hwi]
        rw [hfin]
        exact g_round (i + 1) (by omega) (mvo 101 153) (by omega) ⟨rfl, ⟨rfl, rfl, rfl, rfl, rfl, rfl, trivial⟩, ⟨rfl, rfl, rfl, trivial⟩, rfl, fun q hq => mvo_low (by omega) hq⟩
    | ca y hy ho7 =>
      have hix : (l.map stmtR)[((i : Nat) : Int).toNat]? = some [ki 6, ks (⟨#[]⟩ : ByteArray), exprsP [y], stmtsP [], stmtsP []] := map_atS hx
      rw [stT_6] at hstep hle
      have hat : ptAt (wLs [y]) 0 0 = wT y := by
        show atT (txOf y) 0 = wT y
        unfold atT txOf; exact if_neg (by have := lev_ge0 y.op; simp only; omega)
      rw [hat] at hstep hle
      simp only [size_app] at hle
      have hP := wk_of hy (s ++ f ++ tabS d) (by simp only [size_app]; omega)
      have hfin : s ++ f ++ tabS d ++ wT y ++ scS = s ++ blkC d l (i + 1) := by rw [hstep]; simp only [ByteArray.append_assoc]
      repeat' first
        | refine g_go T hC true 400 rfl rfl ?_
        | refine g_cond rfl (fun h => ?_) (fun h => ?_)
        | refine g_end T hC (by kernel_rfl) ?_
        | refine g_splitD (fun h => ?_) (fun h => ?_)
        | refine g_splitG rfl rfl rfl (fun h => ?_) (fun h => ?_)
        | refine g_splitP rfl rfl (fun h => ?_) (fun h => ?_)
        | (refine g_idx T hC rfl rfl rfl (Int.natCast_nonneg _) hix rfl rfl ?_)
        | refine g_callR hC (hI) (nm [1003, 1005, 101, 150]) rfl rfl (LeSs.refl _) rfl rfl rfl rfl rfl rfl rfl rfl ?_
        | (refine g_idx T hC rfl rfl rfl (by decide) (map_atE0 (l := [y]) rfl) rfl rfl ?_)
        | refine g_callR hC (hP) (nm [150, 152]) rfl rfl (LeSs.refl _) rfl rfl rfl rfl rfl rfl rfl rfl ?_
        | (refine g_append T 153 hC (rows := bytesR _) (rows2 := bytesR _) (rows3 := bytesR (_ ++ _)) (bytes := 1) rfl rfl rfl rfl (SrcS.str (by kernel_rfl)) (app_rows rfl) rfl rfl rfl (by kernel_rfl) (by (try simp only [bytesR_len, size_app]); omega) (by (try simp only [bytesR_len, size_app]); omega) rfl rfl rfl ?_)
      all_goals first
        | (exfalso; clear hI; simp_all; done)
        | skip
      rw [hwi]
      rw [hfin]
      exact g_round (i + 1) (by omega) (mvo 101 153) (by omega) ⟨rfl, ⟨rfl, rfl, rfl, rfl, rfl, rfl, trivial⟩, ⟨rfl, rfl, rfl, trivial⟩, rfl, fun q hq => mvo_low (by omega) hq⟩
    | r0 =>
      have hix : (l.map stmtR)[((i : Nat) : Int).toNat]? = some [ki 5, ks (⟨#[]⟩ : ByteArray), exprsP [], stmtsP [], stmtsP []] := map_atS hx
      rw [stT_5] at hstep hle
      rw [show retE [] = (⟨#[]⟩ : ByteArray) from rfl, cat_nil] at hstep hle
      simp only [size_app] at hle
      have hfin : s ++ f ++ tabS d ++ (⟨#[114, 101, 116, 117, 114, 110]⟩ : ByteArray) ++ scS = s ++ blkC d l (i + 1) := by rw [hstep]; simp only [ByteArray.append_assoc]
      repeat' first
        | refine g_go T hC true 400 rfl rfl ?_
        | refine g_cond rfl (fun h => ?_) (fun h => ?_)
        | refine g_end T hC (by kernel_rfl) ?_
        | refine g_splitD (fun h => ?_) (fun h => ?_)
        | refine g_splitG rfl rfl rfl (fun h => ?_) (fun h => ?_)
        | refine g_splitP rfl rfl (fun h => ?_) (fun h => ?_)
        | (refine g_idx T hC rfl rfl rfl (Int.natCast_nonneg _) hix rfl rfl ?_)
        | refine g_callR hC (hI) (nm [1003, 1005, 101, 150]) rfl rfl (LeSs.refl _) rfl rfl rfl rfl rfl rfl rfl rfl ?_
        | (refine g_append T 151 hC (rows := bytesR _) (rows2 := bytesR _) (rows3 := bytesR (_ ++ _)) (bytes := 1) rfl rfl rfl rfl (SrcS.str (by kernel_rfl)) (app_rows rfl) rfl rfl rfl (by kernel_rfl) (by (try simp only [bytesR_len, size_app]); omega) (by (try simp only [bytesR_len, size_app]); omega) rfl rfl rfl ?_)
      all_goals first
        | (exfalso; clear hI; simp_all; done)
        | skip
      refine g_loop (fun j : Nat => j = 0) (fun j => ([(3, .one (.bx 1003 0)), (5, .one (.bx 1005 0)), (7, .one (.cl 198 [] [.bx 1003 0, .bx 1005 0])), (15, pS (stmtsP l)), (16, I l.length), (17, I i), (115, pS (exprsP [])), (116, I 0), (117, I j)],
          [(1003, some (Res.box [.ar 102])), (1005, some (Res.box [.p (ki d)])), (102, some (Res.arr 1 (bytesR (s ++ f ++ tabS d ++ (⟨#[114, 101, 116, 117, 114, 110]⟩ : ByteArray)))))])) (fun j => j) hC
        0 rfl (mvo 102 151) ⟨rfl, ⟨rfl, rfl, rfl, rfl, rfl, rfl, rfl, rfl, rfl, trivial⟩, ⟨rfl, rfl, rfl, trivial⟩, rfl, fun q hq => mvo_low (by omega) hq⟩ ?_
      rintro j rfl
      refine g_run' T hC true 200 rfl ?_
      refine g_cond rfl (fun h => ?_) (fun h => ?_)
      · exfalso; have := of_decide_eq_true h; omega
      repeat' first
        | refine g_go T hC true 400 rfl rfl ?_
        | refine g_cond rfl (fun h => ?_) (fun h => ?_)
        | refine g_end T hC (by kernel_rfl) ?_
        | refine g_splitD (fun h => ?_) (fun h => ?_)
        | refine g_splitG rfl rfl rfl (fun h => ?_) (fun h => ?_)
        | refine g_splitP rfl rfl (fun h => ?_) (fun h => ?_)
        | refine g_outE ?_
        | (refine g_append T 153 hC (rows := bytesR _) (rows2 := bytesR _) (rows3 := bytesR (_ ++ _)) (bytes := 1) rfl rfl rfl rfl (SrcS.str (by kernel_rfl)) (app_rows rfl) rfl rfl rfl (by kernel_rfl) (by (try simp only [bytesR_len, size_app]); omega) (by (try simp only [bytesR_len, size_app]); omega) rfl rfl rfl ?_)
      rw [hwi]
      rw [hfin]
      exact g_round (i + 1) (by omega) (mvo 101 153) (by omega) ⟨rfl, ⟨rfl, rfl, rfl, rfl, rfl, rfl, trivial⟩, ⟨rfl, rfl, rfl, trivial⟩, rfl, fun q hq => mvo_low (by omega) hq⟩
    | r1 y hy =>
      have hix : (l.map stmtR)[((i : Nat) : Int).toNat]? = some [ki 5, ks (⟨#[]⟩ : ByteArray), exprsP [y], stmtsP [], stmtsP []] := map_atS hx
      rw [stT_5] at hstep hle
      rw [show retE [y] = (⟨#[32]⟩ : ByteArray) ++ atT (txOf y) 1 from rfl] at hstep hle
      simp only [size_app] at hle
      have hP := wr_of hy (s ++ f ++ tabS d ++ (⟨#[114, 101, 116, 117, 114, 110]⟩ : ByteArray) ++ (⟨#[32]⟩ : ByteArray)) 1 (by simp only [size_app]; omega)
      have hfin : s ++ f ++ tabS d ++ (⟨#[114, 101, 116, 117, 114, 110]⟩ : ByteArray) ++ (⟨#[32]⟩ : ByteArray) ++ atT (txOf y) 1 ++ scS = s ++ blkC d l (i + 1) := by rw [hstep]; simp only [ByteArray.append_assoc]
      repeat' first
        | refine g_go T hC true 400 rfl rfl ?_
        | refine g_cond rfl (fun h => ?_) (fun h => ?_)
        | refine g_end T hC (by kernel_rfl) ?_
        | refine g_splitD (fun h => ?_) (fun h => ?_)
        | refine g_splitG rfl rfl rfl (fun h => ?_) (fun h => ?_)
        | refine g_splitP rfl rfl (fun h => ?_) (fun h => ?_)
        | (refine g_idx T hC rfl rfl rfl (Int.natCast_nonneg _) hix rfl rfl ?_)
        | refine g_callR hC (hI) (nm [1003, 1005, 101, 150]) rfl rfl (LeSs.refl _) rfl rfl rfl rfl rfl rfl rfl rfl ?_
        | (refine g_append T 151 hC (rows := bytesR _) (rows2 := bytesR _) (rows3 := bytesR (_ ++ _)) (bytes := 1) rfl rfl rfl rfl (SrcS.str (by kernel_rfl)) (app_rows rfl) rfl rfl rfl (by kernel_rfl) (by (try simp only [bytesR_len, size_app]); omega) (by (try simp only [bytesR_len, size_app]); omega) rfl rfl rfl ?_)
      all_goals first
        | (exfalso; clear hI; simp_all; done)
        | skip
      refine g_loop (fun j : Nat => j ≤ 1) (fun j => ([(3, .one (.bx 1003 0)), (5, .one (.bx 1005 0)), (7, .one (.cl 198 [] [.bx 1003 0, .bx 1005 0])), (15, pS (stmtsP l)), (16, I l.length), (17, I i), (115, pS (exprsP [y])), (116, I 1), (117, I j)],
          [(1003, some (Res.box [.ar 102])), (1005, some (Res.box [.p (ki d)])), (102, some (Res.arr 1 (bytesR (if j = 0 then s ++ f ++ tabS d ++ (⟨#[114, 101, 116, 117, 114, 110]⟩ : ByteArray) else s ++ f ++ tabS d ++ (⟨#[114, 101, 116, 117, 114, 110]⟩ : ByteArray) ++ (⟨#[32]⟩ : ByteArray) ++ atT (txOf y) 1))))])) (fun j => 1 - j) hC
        0 (Nat.zero_le _) (mvo 102 151) ⟨rfl, ⟨rfl, rfl, rfl, rfl, rfl, rfl, rfl, rfl, rfl, trivial⟩, ⟨rfl, rfl, rfl, trivial⟩, rfl, fun q hq => mvo_low (by omega) hq⟩ ?_
      intro j hj
      refine g_run' T hC true 200 rfl ?_
      refine g_cond rfl (fun h => ?_) (fun h => ?_)
      · have hj0 : j = 0 := by have := of_decide_eq_true h; omega
        subst hj0
        clear h
        rw [if_pos rfl]
        repeat' first
          | refine g_go T hC true 400 rfl rfl ?_
          | refine g_cond rfl (fun h => ?_) (fun h => ?_)
          | refine g_end T hC (by kernel_rfl) ?_
          | refine g_splitD (fun h => ?_) (fun h => ?_)
          | refine g_splitG rfl rfl rfl (fun h => ?_) (fun h => ?_)
          | refine g_splitP rfl rfl (fun h => ?_) (fun h => ?_)
          | (refine g_idx T hC rfl rfl rfl (Int.natCast_nonneg _) (map_atE (l := [y]) (i := 0) rfl) rfl rfl ?_)
          | refine g_lit T hC rfl rfl rfl rfl rfl rfl rfl rfl rfl ?_
          | (refine g_append T 155 hC (rows := bytesR _) (rows2 := bytesR (⟨#[32]⟩ : Str)) (rows3 := bytesR (_ ++ (⟨#[32]⟩ : Str))) (bytes := 1) rfl rfl rfl rfl (SrcS.sl (T.es_ok _ _ rfl)) (app_rows rfl) rfl rfl rfl (by kernel_rfl) (by (try simp only [bytesR_len, size_app]); omega) (by (try simp only [bytesR_len, size_app]); omega) rfl rfl rfl ?_)
          | refine g_callR hC (hP) (nm [155, 156]) rfl rfl (LeSs.refl _) rfl rfl rfl rfl rfl rfl rfl rfl ?_
        exact g_round 1 (Nat.le_refl _) (mvo 102 156) (by omega) ⟨rfl, ⟨rfl, rfl, rfl, rfl, rfl, rfl, rfl, rfl, rfl, trivial⟩, ⟨rfl, rfl, rfl, trivial⟩, rfl, fun q hq => mvo_low (by omega) hq⟩
      have hj1 : j = 1 := by have := of_decide_eq_false h; omega
      subst hj1
      rw [if_neg (by decide)]
      repeat' first
        | refine g_go T hC true 400 rfl rfl ?_
        | refine g_cond rfl (fun h => ?_) (fun h => ?_)
        | refine g_end T hC (by kernel_rfl) ?_
        | refine g_splitD (fun h => ?_) (fun h => ?_)
        | refine g_splitG rfl rfl rfl (fun h => ?_) (fun h => ?_)
        | refine g_splitP rfl rfl (fun h => ?_) (fun h => ?_)
        | refine g_outE ?_
        | (refine g_append T 153 hC (rows := bytesR _) (rows2 := bytesR _) (rows3 := bytesR (_ ++ _)) (bytes := 1) rfl rfl rfl rfl (SrcS.str (by kernel_rfl)) (app_rows rfl) rfl rfl rfl (by kernel_rfl) (by (try simp only [bytesR_len, size_app]); omega) (by (try simp only [bytesR_len, size_app]); omega) rfl rfl rfl ?_)
      rw [hwi]
      rw [hfin]
      exact g_round (i + 1) (by omega) (mvo 101 153) (by omega) ⟨rfl, ⟨rfl, rfl, rfl, rfl, rfl, rfl, trivial⟩, ⟨rfl, rfl, rfl, trivial⟩, rfl, fun q hq => mvo_low (by omega) hq⟩
    | wh y ls hy =>
      have hix : (l.map stmtR)[((i : Nat) : Int).toNat]? = some [ki 4, ks (⟨#[]⟩ : ByteArray), exprsP [y], stmtsP ls, stmtsP []] := map_atS hx
      rw [stT_4] at hstep hle
      rw [show ptAt (wLs [y]) 0 1 = atT (txOf y) 1 from rfl] at hstep hle
      rw [show tabS d ++ tbS = tabS (d + 1) from rfl] at hstep hle
      simp only [size_app] at hle
      have hP := wr_of hy (s ++ f ++ tabS d ++ (⟨#[119, 104, 105, 108, 101, 32]⟩ : ByteArray)) 1 (by simp only [size_app]; omega)
      have hB := ih ls (d + 1) (s ++ f ++ tabS d ++ (⟨#[119, 104, 105, 108, 101, 32]⟩ : ByteArray) ++ atT (txOf y) 1 ++ opS) (by simp only [Sm.mk.sizeOf_spec] at hsz; omega) (by rw [show ((d + 1 : Nat) : Int) = (d : Int) + 1 by omega]; exact hol) (by omega) (by simp only [size_app]; omega)
      rw [show ((d + 1 : Nat) : Int) = (d : Int) + 1 by omega] at hB
      have hI2 := block1_ok (s ++ f ++ tabS d ++ (⟨#[119, 104, 105, 108, 101, 32]⟩ : ByteArray) ++ atT (txOf y) 1 ++ opS ++ stsT ls (tabS (d + 1))) d (by omega) (by simp only [size_app]; omega)
      have hfin : s ++ f ++ tabS d ++ (⟨#[119, 104, 105, 108, 101, 32]⟩ : ByteArray) ++ atT (txOf y) 1 ++ opS ++ stsT ls (tabS (d + 1)) ++ tabS d ++ clS = s ++ blkC d l (i + 1) := by rw [hstep]; simp only [ByteArray.append_assoc]
      repeat' first
        | refine g_go T hC true 400 rfl rfl ?_
        | refine g_cond rfl (fun h => ?_) (fun h => ?_)
        | refine g_end T hC (by kernel_rfl) ?_
        | refine g_splitD (fun h => ?_) (fun h => ?_)
        | refine g_splitG rfl rfl rfl (fun h => ?_) (fun h => ?_)
        | refine g_splitP rfl rfl (fun h => ?_) (fun h => ?_)
        | (refine g_idx T hC rfl rfl rfl (Int.natCast_nonneg _) hix rfl rfl ?_)
        | refine g_callR hC (hI) (nm [1003, 1005, 101, 150]) rfl rfl (LeSs.refl _) rfl rfl rfl rfl rfl rfl rfl rfl ?_
        | (refine g_append T 151 hC (rows := bytesR _) (rows2 := bytesR _) (rows3 := bytesR (_ ++ _)) (bytes := 1) rfl rfl rfl rfl (SrcS.str (by kernel_rfl)) (app_rows rfl) rfl rfl rfl (by kernel_rfl) (by (try simp only [bytesR_len, size_app]); omega) (by (try simp only [bytesR_len, size_app]); omega) rfl rfl rfl ?_)
        | (refine g_idx T hC rfl rfl rfl (by decide) (map_atE0 (l := [y]) rfl) rfl rfl ?_)
        | refine g_callR hC (hP) (nm [151, 152]) rfl rfl (LeSs.refl _) rfl rfl rfl rfl rfl rfl rfl rfl ?_
        | (refine g_append T 153 hC (rows := bytesR _) (rows2 := bytesR _) (rows3 := bytesR (_ ++ _)) (bytes := 1) rfl rfl rfl rfl (SrcS.str (by kernel_rfl)) (app_rows rfl) rfl rfl rfl (by kernel_rfl) (by (try simp only [bytesR_len, size_app]); omega) (by (try simp only [bytesR_len, size_app]); omega) rfl rfl rfl ?_)
        | rw [hw1]
        | refine g_callR hC (hB) (nm [153, 154]) rfl rfl (LeSs.refl _) rfl rfl rfl rfl rfl rfl rfl rfl ?_
        | refine g_callR hC (hI2) (nm [1003, 1005, 154, 155]) rfl rfl (LeSs.refl _) rfl rfl rfl rfl rfl rfl rfl rfl ?_
        | (refine g_append T 156 hC (rows := bytesR _) (rows2 := bytesR _) (rows3 := bytesR (_ ++ _)) (bytes := 1) rfl rfl rfl rfl (SrcS.str (by kernel_rfl)) (app_rows rfl) rfl rfl rfl (by kernel_rfl) (by (try simp only [bytesR_len, size_app]); omega) (by (try simp only [bytesR_len, size_app]); omega) rfl rfl rfl ?_)
      all_goals first
        | (exfalso; clear hI hI2 hP hB; simp_all; done)
        | skip
      rw [hwi]
      rw [hfin]
      exact g_round (i + 1) (by omega) (mvo 101 156) (by omega) ⟨rfl, ⟨rfl, rfl, rfl, rfl, rfl, rfl, trivial⟩, ⟨rfl, rfl, rfl, trivial⟩, rfl, fun q hq => mvo_low (by omega) hq⟩
    | fi y ls els hy =>
      cases els with
      | nil =>
        have hix : (l.map stmtR)[((i : Nat) : Int).toNat]? = some [ki 3, ks (⟨#[]⟩ : ByteArray), exprsP [y], stmtsP ls, stmtsP []] := map_atS hx
        rw [stT_3n] at hstep hle
        rw [show ptAt (wLs [y]) 0 1 = atT (txOf y) 1 from rfl] at hstep hle
        rw [show tabS d ++ tbS = tabS (d + 1) from rfl] at hstep hle
        simp only [size_app] at hle
        have hP := wr_of hy (s ++ f ++ tabS d ++ (⟨#[105, 102, 32]⟩ : ByteArray)) 1 (by simp only [size_app]; omega)
        have hB := ih ls (d + 1) (s ++ f ++ tabS d ++ (⟨#[105, 102, 32]⟩ : ByteArray) ++ atT (txOf y) 1 ++ opS) (by simp only [Sm.mk.sizeOf_spec] at hsz; omega) (by rw [show ((d + 1 : Nat) : Int) = (d : Int) + 1 by omega]; exact hol) (by omega) (by simp only [size_app]; omega)
        rw [show ((d + 1 : Nat) : Int) = (d : Int) + 1 by omega] at hB
        have hI2 := block1_ok (s ++ f ++ tabS d ++ (⟨#[105, 102, 32]⟩ : ByteArray) ++ atT (txOf y) 1 ++ opS ++ stsT ls (tabS (d + 1))) d (by omega) (by simp only [size_app]; omega)
        have hfin : s ++ f ++ tabS d ++ (⟨#[105, 102, 32]⟩ : ByteArray) ++ atT (txOf y) 1 ++ opS ++ stsT ls (tabS (d + 1)) ++ tabS d ++ clS = s ++ blkC d l (i + 1) := by rw [hstep]; simp only [ByteArray.append_assoc]
        repeat' first
          | refine g_go T hC true 400 rfl rfl ?_
          | refine g_cond rfl (fun h => ?_) (fun h => ?_)
          | refine g_end T hC (by kernel_rfl) ?_
          | refine g_splitD (fun h => ?_) (fun h => ?_)
          | refine g_splitG rfl rfl rfl (fun h => ?_) (fun h => ?_)
          | refine g_splitP rfl rfl (fun h => ?_) (fun h => ?_)
          | (refine g_idx T hC rfl rfl rfl (Int.natCast_nonneg _) hix rfl rfl ?_)
          | refine g_callR hC (hI) (nm [1003, 1005, 101, 150]) rfl rfl (LeSs.refl _) rfl rfl rfl rfl rfl rfl rfl rfl ?_
          | (refine g_append T 151 hC (rows := bytesR _) (rows2 := bytesR _) (rows3 := bytesR (_ ++ _)) (bytes := 1) rfl rfl rfl rfl (SrcS.str (by kernel_rfl)) (app_rows rfl) rfl rfl rfl (by kernel_rfl) (by (try simp only [bytesR_len, size_app]); omega) (by (try simp only [bytesR_len, size_app]); omega) rfl rfl rfl ?_)
          | (refine g_idx T hC rfl rfl rfl (by decide) (map_atE0 (l := [y]) rfl) rfl rfl ?_)
          | refine g_callR hC (hP) (nm [151, 152]) rfl rfl (LeSs.refl _) rfl rfl rfl rfl rfl rfl rfl rfl ?_
          | (refine g_append T 153 hC (rows := bytesR _) (rows2 := bytesR _) (rows3 := bytesR (_ ++ _)) (bytes := 1) rfl rfl rfl rfl (SrcS.str (by kernel_rfl)) (app_rows rfl) rfl rfl rfl (by kernel_rfl) (by (try simp only [bytesR_len, size_app]); omega) (by (try simp only [bytesR_len, size_app]); omega) rfl rfl rfl ?_)
          | rw [hw1]
          | refine g_callR hC (hB) (nm [153, 154]) rfl rfl (LeSs.refl _) rfl rfl rfl rfl rfl rfl rfl rfl ?_
          | refine g_callR hC (hI2) (nm [1003, 1005, 154, 155]) rfl rfl (LeSs.refl _) rfl rfl rfl rfl rfl rfl rfl rfl ?_
          | (refine g_append T 156 hC (rows := bytesR _) (rows2 := bytesR _) (rows3 := bytesR (_ ++ _)) (bytes := 1) rfl rfl rfl rfl (SrcS.str (by kernel_rfl)) (app_rows rfl) rfl rfl rfl (by kernel_rfl) (by (try simp only [bytesR_len, size_app]); omega) (by (try simp only [bytesR_len, size_app]); omega) rfl rfl rfl ?_)
        all_goals first
          | (exfalso; clear hI hI2 hP hB; simp_all; done)
          | skip
        rw [hwi]
        rw [hfin]
        exact g_round (i + 1) (by omega) (mvo 101 156) (by omega) ⟨rfl, ⟨rfl, rfl, rfl, rfl, rfl, rfl, trivial⟩, ⟨rfl, rfl, rfl, trivial⟩, rfl, fun q hq => mvo_low (by omega) hq⟩
      | cons z els =>
        have hix : (l.map stmtR)[((i : Nat) : Int).toNat]? = some [ki 3, ks (⟨#[]⟩ : ByteArray), exprsP [y], stmtsP ls, stmtsP (z :: els)] := map_atS hx
        rw [stT_3c] at hstep hle
        rw [show ptAt (wLs [y]) 0 1 = atT (txOf y) 1 from rfl] at hstep hle
        rw [show tabS d ++ tbS = tabS (d + 1) from rfl] at hstep hle
        simp only [size_app] at hle
        have hP := wr_of hy (s ++ f ++ tabS d ++ (⟨#[105, 102, 32]⟩ : ByteArray)) 1 (by simp only [size_app]; omega)
        have hB := ih ls (d + 1) (s ++ f ++ tabS d ++ (⟨#[105, 102, 32]⟩ : ByteArray) ++ atT (txOf y) 1 ++ opS) (by simp only [Sm.mk.sizeOf_spec] at hsz; omega) (by rw [show ((d + 1 : Nat) : Int) = (d : Int) + 1 by omega]; exact hol) (by omega) (by simp only [size_app]; omega)
        rw [show ((d + 1 : Nat) : Int) = (d : Int) + 1 by omega] at hB
        have hI2 := block1_ok (s ++ f ++ tabS d ++ (⟨#[105, 102, 32]⟩ : ByteArray) ++ atT (txOf y) 1 ++ opS ++ stsT ls (tabS (d + 1))) d (by omega) (by simp only [size_app]; omega)
        have hB2 := ih (z :: els) (d + 1) (s ++ f ++ tabS d ++ (⟨#[105, 102, 32]⟩ : ByteArray) ++ atT (txOf y) 1 ++ opS ++ stsT ls (tabS (d + 1)) ++ tabS d ++ elS) (by simp only [Sm.mk.sizeOf_spec] at hsz; omega) (by rw [show ((d + 1 : Nat) : Int) = (d : Int) + 1 by omega]; exact hoe) (by omega) (by simp only [size_app]; omega)
        rw [show ((d + 1 : Nat) : Int) = (d : Int) + 1 by omega] at hB2
        have hI3 := block1_ok (s ++ f ++ tabS d ++ (⟨#[105, 102, 32]⟩ : ByteArray) ++ atT (txOf y) 1 ++ opS ++ stsT ls (tabS (d + 1)) ++ tabS d ++ elS ++ stsT (z :: els) (tabS (d + 1))) d (by omega) (by simp only [size_app]; omega)
        have hfin : s ++ f ++ tabS d ++ (⟨#[105, 102, 32]⟩ : ByteArray) ++ atT (txOf y) 1 ++ opS ++ stsT ls (tabS (d + 1)) ++ tabS d ++ elS ++ stsT (z :: els) (tabS (d + 1)) ++ tabS d ++ clS = s ++ blkC d l (i + 1) := by rw [hstep]; simp only [ByteArray.append_assoc]
        repeat' first
          | refine g_go T hC true 400 rfl rfl ?_
          | refine g_cond rfl (fun h => ?_) (fun h => ?_)
          | refine g_end T hC (by kernel_rfl) ?_
          | refine g_splitD (fun h => ?_) (fun h => ?_)
          | refine g_splitG rfl rfl rfl (fun h => ?_) (fun h => ?_)
          | refine g_splitP rfl rfl (fun h => ?_) (fun h => ?_)
          | (refine g_idx T hC rfl rfl rfl (Int.natCast_nonneg _) hix rfl rfl ?_)
          | refine g_callR hC (hI) (nm [1003, 1005, 101, 150]) rfl rfl (LeSs.refl _) rfl rfl rfl rfl rfl rfl rfl rfl ?_
          | (refine g_append T 151 hC (rows := bytesR _) (rows2 := bytesR _) (rows3 := bytesR (_ ++ _)) (bytes := 1) rfl rfl rfl rfl (SrcS.str (by kernel_rfl)) (app_rows rfl) rfl rfl rfl (by kernel_rfl) (by (try simp only [bytesR_len, size_app]); omega) (by (try simp only [bytesR_len, size_app]); omega) rfl rfl rfl ?_)
          | (refine g_idx T hC rfl rfl rfl (by decide) (map_atE0 (l := [y]) rfl) rfl rfl ?_)
          | refine g_callR hC (hP) (nm [151, 152]) rfl rfl (LeSs.refl _) rfl rfl rfl rfl rfl rfl rfl rfl ?_
          | (refine g_append T 153 hC (rows := bytesR _) (rows2 := bytesR _) (rows3 := bytesR (_ ++ _)) (bytes := 1) rfl rfl rfl rfl (SrcS.str (by kernel_rfl)) (app_rows rfl) rfl rfl rfl (by kernel_rfl) (by (try simp only [bytesR_len, size_app]); omega) (by (try simp only [bytesR_len, size_app]); omega) rfl rfl rfl ?_)
          | rw [hw1]
          | refine g_callR hC (hB) (nm [153, 154]) rfl rfl (LeSs.refl _) rfl rfl rfl rfl rfl rfl rfl rfl ?_
          | refine g_callR hC (hI2) (nm [1003, 1005, 154, 155]) rfl rfl (LeSs.refl _) rfl rfl rfl rfl rfl rfl rfl rfl ?_
          | (refine g_append T 157 hC (rows := bytesR _) (rows2 := bytesR _) (rows3 := bytesR (_ ++ _)) (bytes := 1) rfl rfl rfl rfl (SrcS.str (by kernel_rfl)) (app_rows rfl) rfl rfl rfl (by kernel_rfl) (by (try simp only [bytesR_len, size_app]); omega) (by (try simp only [bytesR_len, size_app]); omega) rfl rfl rfl ?_)
          | refine g_callR hC (hB2) (nm [157, 158]) rfl rfl (LeSs.refl _) rfl rfl rfl rfl rfl rfl rfl rfl ?_
          | refine g_callR hC (hI3) (nm [1003, 1005, 158, 159]) rfl rfl (LeSs.refl _) rfl rfl rfl rfl rfl rfl rfl rfl ?_
          | (refine g_append T 170 hC (rows := bytesR _) (rows2 := bytesR _) (rows3 := bytesR (_ ++ _)) (bytes := 1) rfl rfl rfl rfl (SrcS.str (by kernel_rfl)) (app_rows rfl) rfl rfl rfl (by kernel_rfl) (by (try simp only [bytesR_len, size_app]); omega) (by (try simp only [bytesR_len, size_app]); omega) rfl rfl rfl ?_)
        all_goals first
          | (exfalso; clear hI hI2 hI3 hP hB hB2; simp_all; done)
          | (exfalso; have := of_decide_eq_false h; simp only [List.length_map, List.length_cons] at this; omega)
          | skip
        rw [hwi]
        rw [hfin]
        exact g_round (i + 1) (by omega) (mvo 101 170) (by omega) ⟨rfl, ⟨rfl, rfl, rfl, rfl, rfl, rfl, trivial⟩, ⟨rfl, rfl, rfl, trivial⟩, rfl, fun q hq => mvo_low (by omega) hq⟩
  · have hge : ¬ i < l.length := by have := of_decide_eq_false h; omega
    have hF : blkC d l i = catB (l.map fun x => stT x (tabS d)) := by unfold blkC; rw [List.take_of_length_le (by rw [List.length_map]; omega)]
    rw [hF]
    repeat' first
      | refine g_go T hC true 400 rfl rfl ?_
      | refine g_cond rfl (fun h => ?_) (fun h => ?_)
      | refine g_end T hC (by kernel_rfl) ?_
      | refine g_splitD (fun h => ?_) (fun h => ?_)
      | refine g_splitG rfl rfl rfl (fun h => ?_) (fun h => ?_)
      | refine g_splitP rfl rfl (fun h => ?_) (fun h => ?_)
      | refine g_outE ?_
    exact g_fin ⟨.inl rfl, nm [0, 101], _, rfl, .refl _, ⟨rfl, trivial⟩, rfl, rfl⟩
end Hw.Z
