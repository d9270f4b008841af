/- The library's functions at this program: their numbers. -/
import Derived.Test.YtmnhegkogibipaaDoorProg
import Derived.KernelRfl
import Derived.Shelf.Strings.Search3
import Derived.Test.YtmnhegkogibipaaDoorC12
import Derived.Test.YtmnhegkogibipaaDoorC9
set_option linter.unusedVariables false
set_option linter.unusedSimpArgs false
namespace Hw.D
open Go Go.Proofs Go.Shelf
def laysCt_ren : Go.Shelf.Ren := ⟨fun | 144 => 19 | 143 => 52 | 219 => 71 | 217 => 83 | 225 => 84 | 224 => 85 | 267 => 86 | 266 => 91 | 314 => 92 | n => n, fun | 9 => 9 | 4 => 4 | 3 => 3 | 5 => 5 | 46 => 125 | 146 => 130 | 51 => 129 | n => n, fun | 1 => 0 | n => n⟩
theorem laysCt : Go.Proofs.Lays.n144 Tryd.prog laysCt_ren where
  mixed := by kernel_rfl
  f143 := Tryd.func52.trans (congrArg some (by kernel_rfl))
  f144 := Tryd.func19.trans (congrArg some (by kernel_rfl))
  f217 := Tryd.func83.trans (congrArg some (by kernel_rfl))
  f219 := Tryd.func71.trans (congrArg some (by kernel_rfl))
  f224 := Tryd.func85.trans (congrArg some (by kernel_rfl))
  f225 := Tryd.func84.trans (congrArg some (by kernel_rfl))
  f266 := Tryd.func91.trans (congrArg some (by kernel_rfl))
  f267 := Tryd.func86.trans (congrArg some (by kernel_rfl))
  f314 := Tryd.func92.trans (congrArg some (by kernel_rfl))
  t3 := Tryd.underlying3
  a3 := Tryd.isAgg3
  z3 := Tryd.sizeOf3
  v3 := Tryd.zeroValue3
  t4 := Tryd.underlying4
  a4 := Tryd.isAgg4
  z4 := Tryd.sizeOf4
  v4 := Tryd.zeroValue4
  t5 := Tryd.underlying5
  a5 := Tryd.isAgg5
  z5 := Tryd.sizeOf5
  v5 := Tryd.zeroValue5
  t9 := Tryd.underlying9
  a9 := Tryd.isAgg9
  z9 := Tryd.sizeOf9
  v9 := Tryd.zeroValue9
  t46 := Tryd.underlying125
  a46 := Tryd.isAgg125
  z46 := Tryd.sizeOf125
  v46 := Tryd.zeroValue125
  t51 := Tryd.underlying129
  a51 := Tryd.isAgg129
  z51 := Tryd.sizeOf129
  v51 := Tryd.zeroValue129
  t146 := Tryd.underlying130
  a146 := Tryd.isAgg130
  z146 := Tryd.sizeOf130
  v146 := Tryd.zeroValue130
  g1 := by kernel_rfl
end Hw.D
namespace Hw.D
open Go Go.Proofs Hw.M

/-! The parts of a valid expression -/
mutual
theorem countS_dep : ∀ (e : Ex) (d : Int), countS e (d + 1) ≤ 1000 → countS e d = countS e (d + 1)
  | .mk op n s l, d, h => by
    simp only [countS] at h ⊢
    split at h
    · omega
    · rename_i hb
      simp only [Bool.or_eq_true, decide_eq_true_eq, not_or] at hb
      rw [if_neg (by simp only [Bool.or_eq_true, decide_eq_true_eq, not_or]; exact ⟨by omega, hb.2⟩), if_neg (by simp only [Bool.or_eq_true, decide_eq_true_eq, not_or]; exact hb)]
      exact countL_dep l d 1 (by omega) h
theorem countL_dep : ∀ (l : List Ex) (d n : Int), 0 ≤ n → countL l (d + 1) n ≤ 1000 → countL l d n = countL l (d + 1) n
  | [], d, n, _, _ => rfl
  | e :: es, d, n, h0, h => by
    simp only [countL] at h ⊢
    split at h
    · omega
    · rename_i hb
      have h1 := countS_dep e (d + 1) (by omega)
      have h2 := (countS_bound e (d + 1 + 1)).1
      rw [h1, if_neg hb, if_neg hb]
      exact countL_dep es d _ (by omega) h
end
def restS : List Ex → Int
  | [] => 0
  | x :: r => countS x 1 + restS r
theorem restS_nonneg : ∀ l : List Ex, 0 ≤ restS l
  | [] => Int.le_refl _
  | x :: r => by have := restS_nonneg r; have := (countS_bound x 1).1; simp only [restS]; omega
theorem countL_rest : ∀ (l : List Ex) (n : Int), 0 ≤ n → countL l 1 n ≤ 1000 → countL l 1 n = n + restS l
  | [], n, _, _ => by simp only [countL, restS]; omega
  | e :: es, n, h0, h => by
    simp only [countL] at h ⊢
    split at h
    · omega
    · rename_i hb
      have h2 := (countS_bound e (1 + 1)).1
      rw [if_neg hb, countL_rest es _ (by omega) h]
      simp only [restS]
      rw [show countS e 1 = countS e (1 + 1) from countS_dep e 1 (by omega)]; omega
theorem ok_count {e : Ex} (h : exprOk e = true) : countS e 1 = 1 + restS e.l := by
  have hc : countS e 1 ≤ 1000 := of_decide_eq_true h
  obtain ⟨_, _, h2⟩ := good_parts hc
  rw [← h2]
  exact countL_rest e.l 1 (by omega) (by rw [h2]; exact hc)
theorem ok_part {e x : Ex} (h : exprOk e = true) (hx : x ∈ e.l) : exprOk x = true := by
  have hc : countS e 1 ≤ 1000 := of_decide_eq_true h
  obtain ⟨_, _, h2⟩ := good_parts hc
  have := good_list (n := 1) (by rw [h2]; exact hc) x hx
  exact decide_eq_true (by rw [countS_dep x 1 (by omega)]; omega)
theorem ok_okE {e : Ex} (h : exprOk e = true) : okE e := ⟨1, of_decide_eq_true h⟩
/-- A part's text stands in the whole's. -/
def Sub (s u : By) : Prop := ∃ p q, s = p ++ (u ++ q)
theorem Sub.l {s u p : By} (h : Sub s u) : Sub (p ++ s) u := by
  obtain ⟨a, b, rfl⟩ := h; exact ⟨p ++ a, b, by simp⟩
theorem Sub.r {s u p : By} (h : Sub s u) : Sub (s ++ p) u := by
  obtain ⟨a, b, rfl⟩ := h; exact ⟨a, b ++ p, by simp⟩
theorem Sub.c {s u : By} {c : UInt8} (h : Sub s u) : Sub (c :: s) u := by
  obtain ⟨a, b, rfl⟩ := h; exact ⟨c :: a, b, by simp⟩
theorem Sub.rfl' (s : By) : Sub s s := ⟨[], [], by simp⟩
theorem sub_tk (k : Int) (x : Ex) : Sub (tk k x) (tl x) := by
  unfold tk; split
  · exact ((Sub.rfl' _).r).c
  · exact Sub.rfl' _
theorem sub_flatC : ∀ {l : List Ex} {x : Ex}, x ∈ l → Sub (flatC l) (tl x)
  | a :: l, x, h => by
    rw [show flatC (a :: l) = 44 :: 32 :: (tk 1 a ++ flatC l) by simp [flatC]]
    rcases List.mem_cons.1 h with rfl | h
    · exact ((sub_tk 1 x).r).c.c
    · exact ((sub_flatC h).l).c.c
theorem sub_sepL {l : List Ex} {x : Ex} (h : x ∈ l) : Sub (sepL l) (tl x) := by
  match l, h with
  | a :: l, h =>
    simp only [sepL]
    rcases List.mem_cons.1 h with rfl | h
    · exact (sub_tk 1 x).r
    · exact (sub_flatC h).l
theorem sub_list {l : List Ex} {x : Ex} (h : x ∈ l) : Sub (lb (listT (wLs l))) (tl x) := by
  rw [wLs_map, lb_list]
  exact ((sub_sepL h).r).c
theorem sub_part {e x : Ex} (h : okE e) (hx : x ∈ e.l) : Sub (tl e) (tl x) := by
  have hv := ok_vw h
  cases hv with
  | bin y a b hy =>
    simp only [Ex.l, List.mem_cons, List.not_mem_nil, or_false] at hx
    rw [tl_bin hy]
    rcases hx with rfl | rfl
    · exact (sub_tk _ _).r
    · exact ((sub_tk _ _).l).l
  | nt a =>
    simp only [Ex.l, List.mem_cons, List.not_mem_nil, or_false] at hx
    subst hx; rw [tl_not]; exact (sub_tk _ _).l
  | ng a =>
    simp only [Ex.l, List.mem_cons, List.not_mem_nil, or_false] at hx
    subst hx; rw [tl_neg]; exact (sub_tk _ _).c
  | fd a s hs =>
    simp only [Ex.l, List.mem_cons, List.not_mem_nil, or_false] at hx
    subst hx; rw [tl_fd]; exact (sub_tk _ _).r
  | cl s l hs =>
    rw [tl, show wT (.mk 7 0 s l) = s ++ listT (wLs l) from rfl, lb_app]; exact (sub_list hx).l
  | fn op l hq =>
    rcases hq with rfl | rfl | rfl | rfl
    · rw [tl, show wT (.mk 21 0 e0S l) = (⟨#[105, 102]⟩ : ByteArray) ++ listT (wLs l) from rfl, lb_app]; exact (sub_list hx).l
    · rw [tl, show wT (.mk 22 0 e0S l) = (⟨#[109, 97, 120]⟩ : ByteArray) ++ listT (wLs l) from rfl, lb_app]; exact (sub_list hx).l
    · rw [tl, show wT (.mk 23 0 e0S l) = (⟨#[109, 105, 110]⟩ : ByteArray) ++ listT (wLs l) from rfl, lb_app]; exact (sub_list hx).l
    · rw [tl, show wT (.mk 24 0 e0S l) = (⟨#[108, 111, 103]⟩ : ByteArray) ++ listT (wLs l) from rfl, lb_app]; exact (sub_list hx).l
  | _ => exact (List.not_mem_nil hx).elim
theorem contains_of {s u : By} (h : Sub s u) : Lib.contains s u = true := by
  obtain ⟨p, q, rfl⟩ := h
  refine decide_eq_true ?_
  rcases Lib.index_spec (p ++ (u ++ q)) u with ⟨_, h2⟩ | ⟨i, h1, _⟩
  · have := h2 p.length (by simp)
    rw [Lib.occAt, List.drop_left, List.isPrefixOf_iff_prefix.2 (List.prefix_append u q)] at this
    cases this
  · rw [h1]; omega
end Hw.D
namespace Hw.D
open Go Go.Proofs Go.Shelf Hw.M

theorem contains_ok (s u : Str) (h : s.size < 4294967281) (hs : Lib.contains s.data.toList u.data.toList = true) : FnOK Tryd.prog 19 [Sr s, Sr u] [] (Bo true) [] :=
  @fn_pureL _ _ [.string s, .string u] _ (callOK Tryd.func19 (by kernel_rfl) (by kernel_rfl)) (fun w hw => by
    obtain ⟨m, hm⟩ := hw.2 0 (by simp [G1])
    have := Any.strings_Contains laysCt s u m w h hm
    rw [hs] at this
    exact this) rfl
theorem exprTx_of {e : Ex} (h : exprOk e = true) : exprTx e = wT e ∧ exprEr e = 0 := by
  unfold exprTx exprEr; rw [h]; exact ⟨rfl, rfl⟩
theorem exprTx_no {e : Ex} (h : exprOk e = false) : exprTx e = (⟨#[]⟩ : ByteArray) ∧ exprEr e = 1 := by
  unfold exprTx exprEr; rw [h]; exact ⟨rfl, rfl⟩
theorem sizeS_of {e : Ex} (h : exprOk e = true) : sizeS e = countS e 1 := by
  unfold sizeS; rw [h]; rfl
theorem len_rest : ∀ l : List Ex, (l.length : Int) ≤ restS l
  | [] => Int.le_refl _
  | x :: r => by have := len_rest r; have := (countS_bound x 1).1; simp only [restS, List.length_cons]; omega
theorem lawParts_ok (a b : Ex) : FnOK Tryd.prog 5 [aggS (exprC a), aggS (exprC b)] [] (.bq true) [] := by
  have hF := fits_ok [a, b]
  generalize (fewL [a, b] 400).1 = q at hF
  rw [show pS (exprsP [a, b]) = .one (.p (.sl 4 [exprC a, exprC b])) by simp only [exprsP, List.map_cons, List.map_nil, exprR_eq]; rfl] at hF
  have hA := textExpr_ok a
  have hB := textExpr_ok b
  cases ha : exprOk a with
  | false =>
    rw [(exprTx_no ha).1, (exprTx_no ha).2] at hA
    refine fn_ok T Tryd.func5 (by kernel_rfl) rfl rfl rfl rfl fun C hC => ?_
    repeat' first
      | refine g_go T hC true 400 rfl rfl ?_
      | refine g_cond rfl (fun h => ?_) (fun h => ?_)
      | refine g_end T hC (by kernel_rfl) ?_
      | refine g_splitD (fun h => ?_) (fun h => ?_)
      | refine g_splitG rfl rfl rfl (fun h => ?_) (fun h => ?_)
      | refine g_splitP rfl rfl (fun h => ?_) (fun h => ?_)
      | refine g_call hC (awake09_ok) rfl rfl (LeSs.refl _) rfl rfl rfl ?_
      | refine g_lit T hC rfl rfl rfl rfl rfl rfl rfl rfl rfl ?_
      | refine g_call hC (hF) rfl rfl (LeSs.refl _) rfl rfl rfl ?_
      | refine g_call hC (hA) rfl rfl (LeSs.refl _) rfl rfl rfl ?_
      | refine g_call hC (hB) rfl rfl (LeSs.refl _) rfl rfl rfl ?_
      | refine g_retq T (.inl rfl) rfl ?_
      | refine g_retl T (.inl rfl) rfl ?_
    all_goals clear hF hA hB
    all_goals first
      | rfl
      | (simp; done)
      | (exfalso; simp_all; done)
      | (simp_all; done)
  | true =>
  cases hb : exprOk b with
  | false =>
    rw [(exprTx_no hb).1, (exprTx_no hb).2] at hB
    rw [(exprTx_of ha).1, (exprTx_of ha).2] at hA
    refine fn_ok T Tryd.func5 (by kernel_rfl) rfl rfl rfl rfl fun C hC => ?_
    repeat' first
      | refine g_go T hC true 400 rfl rfl ?_
      | refine g_cond rfl (fun h => ?_) (fun h => ?_)
      | refine g_end T hC (by kernel_rfl) ?_
      | refine g_splitD (fun h => ?_) (fun h => ?_)
      | refine g_splitG rfl rfl rfl (fun h => ?_) (fun h => ?_)
      | refine g_splitP rfl rfl (fun h => ?_) (fun h => ?_)
      | refine g_call hC (awake09_ok) rfl rfl (LeSs.refl _) rfl rfl rfl ?_
      | refine g_lit T hC rfl rfl rfl rfl rfl rfl rfl rfl rfl ?_
      | refine g_call hC (hF) rfl rfl (LeSs.refl _) rfl rfl rfl ?_
      | refine g_call hC (hA) rfl rfl (LeSs.refl _) rfl rfl rfl ?_
      | refine g_call hC (hB) rfl rfl (LeSs.refl _) rfl rfl rfl ?_
      | refine g_retq T (.inl rfl) rfl ?_
      | refine g_retl T (.inl rfl) rfl ?_
    all_goals clear hF hA hB
    all_goals first
      | rfl
      | (simp; done)
      | (exfalso; simp_all; done)
      | (simp_all; done)
  | true =>
  rw [(exprTx_of ha).1, (exprTx_of ha).2] at hA
  rw [(exprTx_of hb).1, (exprTx_of hb).2] at hB
  have oa := ok_okE ha
  have ob := ok_okE hb
  have hsz : (wT a).size ≤ 60000 := by
    have h1 : countS a 1 ≤ 1000 := of_decide_eq_true ha
    have := wT_size a 1 h1
    omega
  have hX := sameExpr_ok (SizeOf.sizeOf a + 1) a b (by omega)
  have hST := same_text oa ob
  have hZ := size_ok a
  rw [sizeS_of ha] at hZ
  have hcnt := ok_count ha
  have hca : countS a 1 ≤ 1000 := of_decide_eq_true ha
  refine fn_ok T Tryd.func5 (by kernel_rfl) rfl rfl rfl rfl fun C hC => ?_
  repeat' first
    | refine g_go T hC true 400 rfl rfl ?_
    | refine g_cond rfl (fun h => ?_) (fun h => ?_)
    | refine g_end T hC (by kernel_rfl) ?_
    | refine g_splitD (fun h => ?_) (fun h => ?_)
    | refine g_splitG rfl rfl rfl (fun h => ?_) (fun h => ?_)
    | refine g_splitP rfl rfl (fun h => ?_) (fun h => ?_)
    | refine g_call hC (awake09_ok) rfl rfl (LeSs.refl _) rfl rfl rfl ?_
    | refine g_lit T hC rfl rfl rfl rfl rfl rfl rfl rfl rfl ?_
    | refine g_call hC (hF) rfl rfl (LeSs.refl _) rfl rfl rfl ?_
    | refine g_call hC (hA) rfl rfl (LeSs.refl _) rfl rfl rfl ?_
    | refine g_call hC (hB) rfl rfl (LeSs.refl _) rfl rfl rfl ?_
    | refine g_retq T (.inl rfl) rfl ?_
    | refine g_retl T (.inl rfl) rfl ?_
  all_goals first
    | rfl
    | (exfalso; clear hF hA hB hX hZ; simp_all; done)
    | skip
  clear hF hA hB
  rw [List.length_map]
  have hlen := len_rest a.l
  refine g_loop (fun p : Nat × Int => p.1 ≤ a.l.length ∧ 1 ≤ p.2 ∧ p.2 + restS (a.l.drop p.1) = countS a 1) (fun p => ([(2, .one (.bx 1002 0)), (3, .one (.bx 1003 0)), (5, Sr (wT a)), (7, Sr (wT b)), (9, I p.2), (52, pS (exprsP a.l)), (53, I a.l.length), (54, I p.1)],
      [(1002, some (Res.box ((exprC a).map V.p))), (1003, some (Res.box ((exprC b).map V.p)))])) (fun p => a.l.length - p.1) hC
    (0, 1) ⟨Nat.zero_le _, Int.le_refl _, by simp only [List.drop_zero]; omega⟩ id ⟨rfl, ⟨rfl, rfl, rfl, rfl, rfl, rfl, rfl, rfl, trivial⟩, ⟨rfl, rfl, trivial⟩, rfl, fun _ _ => rfl⟩ ?_
  rintro ⟨i, n⟩ ⟨hi, hn0, hn⟩
  simp only at hi hn0 hn
  refine g_run' T hC true 200 rfl ?_
  refine g_cond rfl (fun h => ?_) (fun h => ?_)
  · have hlt : i < a.l.length := by have := of_decide_eq_true h; omega
    clear h
    obtain ⟨x, hx⟩ := exists_at hlt
    have hm := List.mem_of_getElem? hx
    have hv := ok_part ha hm
    have hT := textExpr_ok x
    rw [(exprTx_of hv).1, (exprTx_of hv).2] at hT
    have hV := validExpr_ok x
    rw [hv] at hV
    have hS := size_ok x
    rw [sizeS_of hv] at hS
    have hK := contains_ok (wT a) (wT x) (by omega) (contains_of (sub_part oa hm))
    rw [drop_at hx, restS] at hn
    have hr := restS_nonneg (a.l.drop (i + 1))
    have hc1 := (countS_bound x 1).1
    repeat' first
      | refine g_go T hC true 400 rfl rfl ?_
      | refine g_cond rfl (fun h => ?_) (fun h => ?_)
      | refine g_end T hC (by kernel_rfl) ?_
      | refine g_splitD (fun h => ?_) (fun h => ?_)
      | refine g_splitG rfl rfl rfl (fun h => ?_) (fun h => ?_)
      | refine g_splitP rfl rfl (fun h => ?_) (fun h => ?_)
      | refine g_idx T hC rfl rfl rfl (Int.natCast_nonneg _) (map_atE (by assumption)) rfl rfl ?_
      | refine g_call hC (hT) rfl rfl (LeSs.refl _) rfl rfl rfl ?_
      | refine g_call hC (hV) rfl rfl (LeSs.refl _) rfl rfl rfl ?_
      | refine g_call hC (hK) rfl rfl (LeSs.refl _) rfl rfl rfl ?_
      | refine g_call hC (hS) rfl rfl (LeSs.refl _) rfl rfl rfl ?_
      | refine g_outR ?_
      | refine g_retl T (.inl rfl) rfl ?_
    all_goals first
      | (exfalso; clear hT hV hS hK hX hZ; simp_all; done)
      | skip
    rw [wrap64 (n := n + countS x 1) (by omega), wrap64 (by omega)]
    exact g_round (i + 1, n + countS x 1) ⟨by simp only; omega, by simp only; omega, by simp only; omega⟩ id (by simp only; omega) ⟨rfl, ⟨rfl, rfl, rfl, rfl, rfl, rfl, rfl, rfl, trivial⟩, ⟨rfl, rfl, trivial⟩, rfl, fun _ _ => rfl⟩
  · have hge : ¬ i < a.l.length := by have := of_decide_eq_false h; omega
    rw [List.drop_eq_nil_of_le (by omega), restS] at hn
    obtain rfl : n = countS a 1 := by omega
    rw [← hST] at hX
    repeat' first
      | refine g_go T hC true 400 rfl rfl ?_
      | refine g_boolsE hC rfl rfl (by kernel_rfl) rfl rfl ?_
      | refine g_cond rfl (fun h => ?_) (fun h => ?_)
      | refine g_end T hC (by kernel_rfl) ?_
      | refine g_splitD (fun h => ?_) (fun h => ?_)
      | refine g_splitG rfl rfl rfl (fun h => ?_) (fun h => ?_)
      | refine g_splitP rfl rfl (fun h => ?_) (fun h => ?_)
      | refine g_outE ?_
      | refine g_call hC (hZ) rfl rfl (LeSs.refl _) rfl rfl rfl ?_
      | refine g_call hC (hX) rfl rfl (LeSs.refl _) rfl rfl rfl ?_
      | refine g_retq T (.inl rfl) rfl ?_
      | refine g_retl T (.inl rfl) rfl ?_
    all_goals first
      | rfl
      | (clear hX hZ; simp; done)
      | (exfalso; clear hX hZ; simp_all; done)
      | (clear hX hZ; simp_all; done)
end Hw.D
