/- The engine and the contracts. -/
import Derived.Test.YtmnhegkogibipaaGreatDoorC13
import Derived.Test.YtmnhegkogibipaaGreatDoorC10
set_option linter.unusedVariables false
set_option linter.unusedSimpArgs false
namespace Hw.Z
open Go Go.Proofs Hw.M

theorem rtext_ok {d : Desc} {m : Hp} (hval : validM d m = true) (hn60 : m.n.length ≤ 60) : FnOK Tryz.prog 41 [aggS (descR d), aggS (memR m)] [] (Sr (memText d m)) [] := by
  have hw := wg_of hval
  have hgl := hw.glen
  have hs := sizesM hval
  have hg8 := hs.glen
  have hszT := memText_size hs hn60
  generalize hRES : memText d m = RES at hszT
  have e1 : ByteArray.size (⟨#[32, 61, 32]⟩ : ByteArray) = 3 := rfl
  have e2 : ByteArray.size (⟨#[32]⟩ : ByteArray) = 1 := rfl
  have e3 : ByteArray.size (⟨#[59]⟩ : ByteArray) = 1 := rfl
  have e4 : ByteArray.size (⟨#[10]⟩ : Str) = 1 := rfl
  have e5 : ByteArray.size (⟨#[32, 125, 10]⟩ : Str) = 3 := rfl
  have e6 : ByteArray.size (⟨#[35]⟩ : ByteArray) = 1 := rfl
  have e7 : ByteArray.size (⟨#[32, 123]⟩ : ByteArray) = 2 := rfl
  refine fn_ok T Tryz.func41 (by kernel_rfl) rfl rfl rfl rfl fun C hC => ?_
  repeat' first
    | refine g_go T hC true 400 rfl rfl ?_
    | refine g_cond rfl (fun h => ?_) (fun h => ?_)
    | refine g_end T hC (by kernel_rfl) ?_
    | refine g_splitD (fun h => ?_) (fun h => ?_)
    | refine g_splitG rfl rfl rfl (fun h => ?_) (fun h => ?_)
    | refine g_splitP rfl rfl (fun h => ?_) (fun h => ?_)
  refine g_loop (fun i : Nat => i ≤ m.g.length) (fun i => ([(2, .one (.bx 1002 0)), (3, .one (.bx 1003 0)), (5, Sr (catB (((d.globals.zip m.g).map gLine).take i))), (6, I i)],
      [(1002, some (Res.box ((descR d).map V.p))), (1003, some (Res.box ((memR m).map V.p)))])) (fun i => m.g.length - i) hC
    0 (Nat.zero_le _) id ⟨rfl, ⟨rfl, rfl, rfl, rfl, trivial⟩, ⟨rfl, rfl, trivial⟩, rfl, fun _ _ => rfl⟩ ?_
  intro i hi
  refine g_run' T hC true 200 rfl ?_
  refine g_cond rfl (fun h => ?_) (fun h => ?_)
  · have hlt : i < m.g.length := by simpa using h
    clear h
    obtain ⟨x, hx⟩ := exists_at (l := d.globals.zip m.g) (i := i) (by rw [List.length_zip]; omega)
    obtain ⟨hx1, hx2⟩ := zip_at hx
    obtain ⟨hxn, hxv⟩ := hs.glob x (List.mem_of_getElem? hx)
    have hsz := gT_size hs i
    have hstep : catB (((d.globals.zip m.g).map gLine).take (i + 1)) = catB (((d.globals.zip m.g).map gLine).take i) ++ gLine x := catB_take (by rw [List.getElem?_map, hx]; rfl)
    generalize catB (((d.globals.zip m.g).map gLine).take i) = b at hsz hstep
    have hss := showB_size x.1.t hxv
    have hS := show_ok x.1.t x.2 hxv
    have hfin : b ++ x.1.n ++ (⟨#[32, 61, 32]⟩ : ByteArray) ++ showB x.1.t x.2 ++ (⟨#[10]⟩ : Str) = catB (((d.globals.zip m.g).map gLine).take (i + 1)) := by
      rw [hstep, gLine]; simp only [ByteArray.append_assoc]
    repeat' first
      | refine g_go T hC true 400 rfl rfl ?_
      | refine g_cond rfl (fun h => ?_) (fun h => ?_)
      | refine g_end T hC (by kernel_rfl) ?_
      | refine g_splitD (fun h => ?_) (fun h => ?_)
      | refine g_splitG rfl rfl rfl (fun h => ?_) (fun h => ?_)
      | refine g_splitP rfl rfl (fun h => ?_) (fun h => ?_)
      | refine g_idx T hC rfl rfl rfl (Int.natCast_nonneg _) (map_at (by assumption)) rfl rfl ?_
      | (refine g_cat hC rfl rfl (by (try simp only [size_app]); omega) rfl rfl ?_)
      | refine g_call hC (hS) rfl rfl (LeSs.refl _) rfl rfl rfl ?_
    rw [wrap64 (by omega), hfin]
    exact g_round (i + 1) (by omega) id (by omega) ⟨rfl, ⟨rfl, rfl, rfl, rfl, trivial⟩, ⟨rfl, rfl, trivial⟩, rfl, fun _ _ => rfl⟩
  have hge : ¬ i < m.g.length := by simpa using h
  have hG : catB (((d.globals.zip m.g).map gLine).take i) = gT d m := by
    rw [List.take_of_length_le (by rw [List.length_map, List.length_zip]; omega)]; rfl
  have hGs := gT_size hs i
  rw [hG] at hGs
  rw [hG]
  clear h hge hG hi
  repeat' first
    | refine g_go T hC true 400 rfl rfl ?_
    | refine g_cond rfl (fun h => ?_) (fun h => ?_)
    | refine g_end T hC (by kernel_rfl) ?_
    | refine g_splitD (fun h => ?_) (fun h => ?_)
    | refine g_splitG rfl rfl rfl (fun h => ?_) (fun h => ?_)
    | refine g_splitP rfl rfl (fun h => ?_) (fun h => ?_)
    | refine g_outE ?_
  refine g_loop (fun i : Nat => i ≤ m.n.length) (fun i => ([(2, .one (.bx 1002 0)), (3, .one (.bx 1003 0)), (5, Sr (gT d m ++ nodesT d m i)), (7, I i)],
      [(1002, some (Res.box ((descR d).map V.p))), (1003, some (Res.box ((memR m).map V.p)))])) (fun i => m.n.length - i) hC
    0 (Nat.zero_le _) id ⟨rfl, ⟨rfl, rfl, by rw [show nodesT d m 0 = (⟨#[]⟩ : ByteArray) from rfl, cat_nil]; rfl, rfl, trivial⟩, ⟨rfl, rfl, trivial⟩, rfl, fun _ _ => rfl⟩ ?_
  intro i hi
  refine g_run' T hC true 200 rfl ?_
  refine g_cond rfl (fun h => ?_) (fun h => ?_)
  · have hlt : i < m.n.length := by simpa using h
    clear h
    obtain ⟨x, hx⟩ := exists_at (l := m.n) (i := i) hlt
    obtain ⟨ht0, ty, hty, htyl, _⟩ := hw.node x (List.mem_of_getElem? hx)
    obtain ⟨hs1, hs2, hs3⟩ := hs.node x (List.mem_of_getElem? hx) ty hty
    have hnt : ntx d m i = nText i ty x.f := by unfold ntx; rw [hx]; simp only [hty]
    have hns := nodesT_succ d m i
    have hsz := nodesT_size hs hn60 (i := i) (by omega)
    have hib := itoaB_size (n := (i : Int) + 1) (by omega) (by omega)
    generalize hB : gT d m ++ nodesT d m i = b
    have hbs : b.size ≤ 52848 := by rw [← hB, size_app]; omega
    have hD := decimal_ok (i + 2) ((i : Int) + 1) (by omega) (by omega) (by omega)
    have hfin : b ++ (⟨#[35]⟩ : ByteArray) ++ itoaB ((i : Int) + 1) ++ (⟨#[32]⟩ : ByteArray) ++ ty.n ++ (⟨#[32, 123]⟩ : ByteArray) = b ++ nHead i ty := by
      rw [nHead]; simp only [ByteArray.append_assoc]
    repeat' first
      | refine g_go T hC true 400 rfl rfl ?_
      | refine g_cond rfl (fun h => ?_) (fun h => ?_)
      | refine g_end T hC (by kernel_rfl) ?_
      | refine g_splitD (fun h => ?_) (fun h => ?_)
      | refine g_splitG rfl rfl rfl (fun h => ?_) (fun h => ?_)
      | refine g_splitP rfl rfl (fun h => ?_) (fun h => ?_)
      | refine g_idx T hC rfl rfl rfl (Int.natCast_nonneg _) (map_at hx) rfl rfl ?_
      | refine g_idx T hC rfl rfl rfl ht0 (map_atI hty) rfl rfl ?_
      | (refine g_cat hC rfl rfl (by (try simp only [size_app]); omega) rfl rfl ?_)
      | (rw [wrap64 (by omega)]; refine g_call hC hD rfl rfl (LeSs.refl _) rfl rfl rfl ?_)
    rw [hfin]
    refine g_loop (fun j : Nat => j ≤ ty.f.length) (fun j => ([(2, .one (.bx 1002 0)), (3, .one (.bx 1003 0)), (5, Sr (b ++ nHead i ty ++ catB (((ty.f.zip x.f).map fLine).take j))), (7, I i), (8, .one (.bx 1008 0)), (9, I j)],
        [(1002, some (Res.box ((descR d).map V.p))), (1003, some (Res.box ((memR m).map V.p))), (1008, some (Res.box ((nodeTR ty).map V.p)))])) (fun j => ty.f.length - j) hC
      0 (Nat.zero_le _) id ⟨rfl, ⟨rfl, rfl, by rw [show catB (((ty.f.zip x.f).map fLine).take 0) = (⟨#[]⟩ : ByteArray) from rfl, cat_nil]; rfl, rfl, rfl, rfl, trivial⟩, ⟨rfl, rfl, rfl, trivial⟩, rfl, fun _ _ => rfl⟩ ?_
    intro j hj
    refine g_run' T hC true 200 rfl ?_
    refine g_cond rfl (fun h => ?_) (fun h => ?_)
    · have hjl : j < ty.f.length := by simpa using h
      clear h
      obtain ⟨y, hy⟩ := exists_at (l := ty.f.zip x.f) (i := j) (by rw [List.length_zip]; omega)
      obtain ⟨hy1, hy2⟩ := zip_at hy
      obtain ⟨hyn, hyv⟩ := hs3 y (List.mem_of_getElem? hy)
      have hfs := fT_size hs3 (by rw [List.length_zip]; omega) j
      have hnh := nHead_size (k := i) (by omega) hs1
      have hstep : catB (((ty.f.zip x.f).map fLine).take (j + 1)) = catB (((ty.f.zip x.f).map fLine).take j) ++ fLine y := catB_take (by rw [List.getElem?_map, hy]; rfl)
      generalize catB (((ty.f.zip x.f).map fLine).take j) = f at hfs hstep
      have hss := showB_size y.1.t hyv
      have hS := show_ok y.1.t y.2 hyv
      have hfin2 : b ++ nHead i ty ++ f ++ (⟨#[32]⟩ : ByteArray) ++ y.1.n ++ (⟨#[32, 61, 32]⟩ : ByteArray) ++ showB y.1.t y.2 ++ (⟨#[59]⟩ : ByteArray) = b ++ nHead i ty ++ catB (((ty.f.zip x.f).map fLine).take (j + 1)) := by
        rw [hstep, fLine]; simp only [ByteArray.append_assoc]
      repeat' first
        | refine g_go T hC true 400 rfl rfl ?_
        | refine g_cond rfl (fun h => ?_) (fun h => ?_)
        | refine g_end T hC (by kernel_rfl) ?_
        | refine g_splitD (fun h => ?_) (fun h => ?_)
        | refine g_splitG rfl rfl rfl (fun h => ?_) (fun h => ?_)
        | refine g_splitP rfl rfl (fun h => ?_) (fun h => ?_)
        | refine g_idx T hC rfl rfl rfl (Int.natCast_nonneg _) (map_at (by assumption)) rfl rfl ?_
        | (refine g_cat hC rfl rfl (by (try simp only [size_app]); omega) rfl rfl ?_)
        | refine g_call hC (hS) rfl rfl (LeSs.refl _) rfl rfl rfl ?_
      rw [wrap64 (by omega), hfin2]
      exact g_round (j + 1) (by omega) id (by omega) ⟨rfl, ⟨rfl, rfl, rfl, rfl, rfl, rfl, trivial⟩, ⟨rfl, rfl, rfl, trivial⟩, rfl, fun q hq => rfl⟩
    have hge : ¬ j < ty.f.length := by simpa using h
    have hF : catB (((ty.f.zip x.f).map fLine).take j) = catB ((ty.f.zip x.f).map fLine) := by
      rw [List.take_of_length_le (by rw [List.length_map, List.length_zip]; omega)]
    have hfs := fT_size hs3 (by rw [List.length_zip]; omega) j
    have hnh := nHead_size (k := i) (by omega) hs1
    rw [hF] at hfs
    rw [hF]
    clear h hge hF hj
    have hfin3 : b ++ nHead i ty ++ catB ((ty.f.zip x.f).map fLine) ++ (⟨#[32, 125, 10]⟩ : Str) = gT d m ++ nodesT d m (i + 1) := by
      rw [hns, hnt, nText, ← hB]; simp only [ByteArray.append_assoc]
    generalize catB ((ty.f.zip x.f).map fLine) = f at hfs hfin3
    repeat' first
      | refine g_go T hC true 400 rfl rfl ?_
      | refine g_cond rfl (fun h => ?_) (fun h => ?_)
      | refine g_end T hC (by kernel_rfl) ?_
      | refine g_splitD (fun h => ?_) (fun h => ?_)
      | refine g_splitG rfl rfl rfl (fun h => ?_) (fun h => ?_)
      | refine g_splitP rfl rfl (fun h => ?_) (fun h => ?_)
      | refine g_outE ?_
      | (refine g_cat hC rfl rfl (by (try simp only [size_app]); omega) rfl rfl ?_)
    rw [wrap64 (by omega), hfin3]
    exact g_round (i + 1) (by omega) id (by omega) ⟨rfl, ⟨rfl, rfl, rfl, rfl, trivial⟩, ⟨rfl, rfl, trivial⟩, rfl, fun q hq => rfl⟩
  have hge : ¬ i < m.n.length := by simpa using h
  have hi2 : i = m.n.length := by omega
  subst hi2
  clear h hge hi
  have hRR : gT d m ++ nodesT d m m.n.length = RES := hRES
  rw [hRR]
  repeat' first
    | refine g_go T hC true 400 rfl rfl ?_
    | refine g_cond rfl (fun h => ?_) (fun h => ?_)
    | refine g_end T hC (by kernel_rfl) ?_
    | refine g_splitD (fun h => ?_) (fun h => ?_)
    | refine g_splitG rfl rfl rfl (fun h => ?_) (fun h => ?_)
    | refine g_splitP rfl rfl (fun h => ?_) (fun h => ?_)
    | refine g_outE ?_
  exact g_fin ⟨.inl rfl, id, _, rfl, .refl _, trivial, rfl, rfl⟩
theorem rsame_ok {d : Desc} {a b : Hp} (ha : validM d a = true) (hb : validM d b = true) : FnOK Tryz.prog 42 [aggS (descR d), aggS (memR a), aggS (memR b)] [] (.bq (decide (canonS d a (searchS d a) = canonS d b (searchS d b)))) [] := by
  have hA := rcanon_ok ha
  have hB := rcanon_ok hb
  generalize canonS d a (searchS d a) = x at *
  generalize canonS d b (searchS d b) = y at *
  have hE := equal_ok x y
  refine fn_ok T Tryz.func42 (by kernel_rfl) rfl rfl rfl rfl fun C hC => ?_
  repeat' first
    | refine g_go T hC true 400 rfl rfl ?_
    | refine g_cond rfl (fun h => ?_) (fun h => ?_)
    | refine g_end T hC (by kernel_rfl) ?_
    | refine g_splitD (fun h => ?_) (fun h => ?_)
    | refine g_splitG rfl rfl rfl (fun h => ?_) (fun h => ?_)
    | refine g_splitP rfl rfl (fun h => ?_) (fun h => ?_)
    | refine g_call hC (hA) rfl rfl (LeSs.refl _) rfl rfl rfl ?_
    | refine g_call hC (hB) rfl rfl (LeSs.refl _) rfl rfl rfl ?_
    | refine g_call hC (hE) rfl rfl (LeSs.refl _) rfl rfl rfl ?_
    | refine g_retq T (.inl rfl) rfl ?_
  all_goals rfl
theorem same_no {d : Desc} {a b : Hp} (h : (validM d a && validM d b) = false) : FnOK Tryz.prog 39 [aggS (descR d), aggS (memR a), aggS (memR b)] [] (.tup [Bo false, I 1]) [] := by
  have hVa := heapValid_ok d a
  have hVb := heapValid_ok d b
  generalize validM d a = p at *
  generalize validM d b = q at *
  refine fn_ok T Tryz.func39 (by kernel_rfl) rfl rfl rfl rfl fun C hC => ?_
  repeat' first
    | refine g_go T hC true 400 rfl rfl ?_
    | refine g_cond rfl (fun h => ?_) (fun h => ?_)
    | refine g_end T hC (by kernel_rfl) ?_
    | refine g_splitD (fun h => ?_) (fun h => ?_)
    | refine g_splitG rfl rfl rfl (fun h => ?_) (fun h => ?_)
    | refine g_splitP rfl rfl (fun h => ?_) (fun h => ?_)
    | refine g_call hC (hVa) rfl rfl (LeSs.refl _) rfl rfl rfl ?_
    | refine g_call hC (hVb) rfl rfl (LeSs.refl _) rfl rfl rfl ?_
  all_goals first
    | exact g_fin ⟨.inl rfl, id, _, rfl, .refl _, trivial, rfl, rfl⟩
    | (exfalso; simp_all; done)
end Hw.Z
namespace Hw.Z
open Go Go.Proofs Hw.M

theorem few_of {d : Desc} {a b : Hp} (hg : (greatS d || [a, b].any manyS) = false) : a.n.length ≤ 60 := by
  simp only [List.any_cons, List.any_nil, Bool.or_false, Bool.or_eq_false_iff] at hg
  have := hg.2.1
  simp only [manyS, Bool.or_eq_false_iff, decide_eq_false_iff_not] at this
  omega
set_option maxHeartbeats 4000000 in
theorem heapTexts_ok (d : Desc) (a b : Hp) : FnOK Tryz.prog 9 [aggS (descR d), aggS (memR a), aggS (memR b)] [] (.bq true) [] := by
  have hL := large_ok d [a, b]
  have hVa := valid12_ok d a
  have hVb := valid12_ok d b
  cases hg : (greatS d || [a, b].any manyS) with
  | true =>
    rw [hg] at hL
    refine fn_ok T Tryz.func9 (by kernel_rfl) rfl rfl rfl rfl fun C hC => ?_
    repeat' first
      | refine g_go T hC true 400 rfl rfl ?_
      | refine g_cond rfl (fun h => ?_) (fun h => ?_)
      | refine g_end T hC (by kernel_rfl) ?_
      | refine g_splitD (fun h => ?_) (fun h => ?_)
      | refine g_splitG rfl rfl rfl (fun h => ?_) (fun h => ?_)
      | refine g_splitP rfl rfl (fun h => ?_) (fun h => ?_)
      | refine g_call hC (awake_ok) rfl rfl (LeSs.refl _) rfl rfl rfl ?_
      | refine g_lit T hC rfl rfl rfl rfl rfl rfl rfl rfl rfl ?_
      | refine g_call hC (hL) rfl rfl (LeSs.refl _) rfl rfl rfl ?_
      | refine g_retq T (.inl rfl) rfl ?_
      | refine g_retl T (.inl rfl) rfl ?_
    all_goals clear hL
    all_goals first | rfl | (exfalso; simp_all; done)
  | false =>
  rw [hg] at hL
  have h60 := few_of hg
  cases ha : validM d a with
  | false =>
    have hT := text_no ha
    have hS := same_no (d := d) (a := a) (b := b) (by rw [ha]; rfl)
    rw [ha] at hVa
    clear hVb
    refine fn_ok T Tryz.func9 (by kernel_rfl) rfl rfl rfl rfl fun C hC => ?_
    repeat' first
      | refine g_go T hC true 400 rfl rfl ?_
      | refine g_cond rfl (fun h => ?_) (fun h => ?_)
      | refine g_end T hC (by kernel_rfl) ?_
      | refine g_splitD (fun h => ?_) (fun h => ?_)
      | refine g_splitG rfl rfl rfl (fun h => ?_) (fun h => ?_)
      | refine g_splitP rfl rfl (fun h => ?_) (fun h => ?_)
      | refine g_call hC (awake_ok) rfl rfl (LeSs.refl _) rfl rfl rfl ?_
      | refine g_lit T hC rfl rfl rfl rfl rfl rfl rfl rfl rfl ?_
      | refine g_call hC (hL) rfl rfl (LeSs.refl _) rfl rfl rfl ?_
      | refine g_call hC (hT) rfl rfl (LeSs.refl _) rfl rfl rfl ?_
      | refine g_call hC (hS) rfl rfl (LeSs.refl _) rfl rfl rfl ?_
      | refine g_call hC (hVa) rfl rfl (LeSs.refl _) rfl rfl rfl ?_
      | refine g_retq T (.inl rfl) rfl ?_
      | refine g_retl T (.inl rfl) rfl ?_
    all_goals clear hL hT hS hVa
    all_goals first | rfl | (exfalso; simp_all; done)
  | true =>
  have hT := text_ok ha h60
  have hR := rtext_ok ha h60
  have hsz := memText_size (sizesM ha) h60
  rw [ha] at hVa
  generalize memText d a = t at hT hR hsz
  cases hb : validM d b with
  | false =>
    have hS := same_no (d := d) (a := a) (b := b) (by rw [ha, hb]; rfl)
    rw [hb] at hVb
    refine fn_ok T Tryz.func9 (by kernel_rfl) rfl rfl rfl rfl fun C hC => ?_
    repeat' first
      | refine g_go T hC true 400 rfl rfl ?_
      | refine g_cond rfl (fun h => ?_) (fun h => ?_)
      | refine g_end T hC (by kernel_rfl) ?_
      | refine g_splitD (fun h => ?_) (fun h => ?_)
      | refine g_splitG rfl rfl rfl (fun h => ?_) (fun h => ?_)
      | refine g_splitP rfl rfl (fun h => ?_) (fun h => ?_)
      | refine g_call hC (awake_ok) rfl rfl (LeSs.refl _) rfl rfl rfl ?_
      | refine g_lit T hC rfl rfl rfl rfl rfl rfl rfl rfl rfl ?_
      | refine g_call hC (hL) rfl rfl (LeSs.refl _) rfl rfl rfl ?_
      | refine g_call hC (hT) rfl rfl (LeSs.refl _) rfl rfl rfl ?_
      | refine g_call hC (hS) rfl rfl (LeSs.refl _) rfl rfl rfl ?_
      | refine g_call hC (hVa) rfl rfl (LeSs.refl _) rfl rfl rfl ?_
      | refine g_call hC (hR) rfl rfl (LeSs.refl _) rfl rfl rfl ?_
      | refine g_call hC (hVb) rfl rfl (LeSs.refl _) rfl rfl rfl ?_
      | refine g_retq T (.inl rfl) rfl ?_
      | refine g_retl T (.inl rfl) rfl ?_
    all_goals clear hL hT hS hVa hVb hR
    all_goals first | rfl | (exfalso; simp_all; done) | (exfalso; simp only [decide_eq_true_eq] at *; omega)
  | true =>
    have hS := same_ok ha hb
    have hS2 := rsame_ok ha hb
    generalize decide (canonS d a (searchS d a) = canonS d b (searchS d b)) = q at hS hS2
    rw [hb] at hVb
    refine fn_ok T Tryz.func9 (by kernel_rfl) rfl rfl rfl rfl fun C hC => ?_
    repeat' first
      | refine g_go T hC true 400 rfl rfl ?_
      | refine g_boolsE hC rfl rfl (by kernel_rfl) rfl rfl ?_
      | refine g_cond rfl (fun h => ?_) (fun h => ?_)
      | refine g_end T hC (by kernel_rfl) ?_
      | refine g_splitD (fun h => ?_) (fun h => ?_)
      | refine g_splitG rfl rfl rfl (fun h => ?_) (fun h => ?_)
      | refine g_splitP rfl rfl (fun h => ?_) (fun h => ?_)
      | refine g_call hC (awake_ok) rfl rfl (LeSs.refl _) rfl rfl rfl ?_
      | refine g_lit T hC rfl rfl rfl rfl rfl rfl rfl rfl rfl ?_
      | refine g_call hC (hL) rfl rfl (LeSs.refl _) rfl rfl rfl ?_
      | refine g_call hC (hT) rfl rfl (LeSs.refl _) rfl rfl rfl ?_
      | refine g_call hC (hS) rfl rfl (LeSs.refl _) rfl rfl rfl ?_
      | refine g_call hC (hVa) rfl rfl (LeSs.refl _) rfl rfl rfl ?_
      | refine g_call hC (hR) rfl rfl (LeSs.refl _) rfl rfl rfl ?_
      | refine g_call hC (hVb) rfl rfl (LeSs.refl _) rfl rfl rfl ?_
      | refine g_call hC (hS2) rfl rfl (LeSs.refl _) rfl rfl rfl ?_
      | refine g_retq T (.inl rfl) rfl ?_
      | refine g_retl T (.inl rfl) rfl ?_
    all_goals clear hL hT hS hVa hVb hR hS2
    all_goals first | rfl | (exfalso; simp_all; done) | (exfalso; simp only [decide_eq_true_eq] at *; omega) | simp
end Hw.Z
