/- The engine and the contracts. -/
import Derived.Test.YtfefngngejlmhaaDoorC9
import Derived.Test.YtfefngngejlmhaaDoorE3
import Derived.Test.YtfefngngejlmhaaDoorC3
import Derived.Test.YtfefngngejlmhaaDoorC8
set_option linter.unusedVariables false
set_option linter.unusedSimpArgs false
namespace Hw.L
open Go Go.Proofs Go.Shelf Hw.M

/-! slices.Clone of tokens -/
theorem cloneT_ok (v : List Tok) (hv : v.length ≤ 1000000) : FnOK Tryd.prog 24 [pS (toksP v)] [] (.one (.ar 0)) [(0, .arr 5 (v.map tokR))] := by
  refine fn_ok T Tryd.func24 (by kernel_rfl) rfl rfl rfl rfl fun C hC => ?_
  have hl : (v.map tokR).length = v.length := List.length_map _
  repeat' first
    | refine g_go T hC true 400 rfl rfl ?_
    | refine g_cond rfl (fun h => ?_) (fun h => ?_)
    | refine g_end T hC (by kernel_rfl) ?_
    | refine g_splitD (fun h => ?_) (fun h => ?_)
    | refine g_splitG rfl rfl rfl (fun h => ?_) (fun h => ?_)
    | refine g_splitP rfl rfl (fun h => ?_) (fun h => ?_)
  refine g_slnil (rows := v.map tokR) (e := 5) (et := 33) rfl (by kernel_rfl) rfl (fun b hb => ?_)
  repeat' first
    | refine g_go T hC true 400 rfl rfl ?_
    | refine g_cond rfl (fun h => ?_) (fun h => ?_)
    | refine g_end T hC (by kernel_rfl) ?_
    | refine g_splitD (fun h => ?_) (fun h => ?_)
    | refine g_splitG rfl rfl rfl (fun h => ?_) (fun h => ?_)
    | refine g_splitP rfl rfl (fun h => ?_) (fun h => ?_)
  · have hv0 : v = [] := List.map_eq_nil_iff.1 (hb h)
    subst hv0
    refine g_adopt hC rfl 101 5 rfl [(2, .one (.ar 101))] ⟨⟨_, rfl, .nil⟩, trivial⟩ [] trivial ?_
    exact g_fin ⟨.inl rfl, nm [101], _, rfl, .refl _, ⟨rfl, trivial⟩, rfl, rfl⟩
  · refine g_litO T hC rfl rfl rfl rfl rfl ?_
    repeat' first
      | refine g_go T hC true 400 rfl rfl ?_
      | refine g_cond rfl (fun h => ?_) (fun h => ?_)
      | refine g_end T hC (by kernel_rfl) ?_
      | refine g_splitD (fun h => ?_) (fun h => ?_)
      | refine g_splitG rfl rfl rfl (fun h => ?_) (fun h => ?_)
      | refine g_splitP rfl rfl (fun h => ?_) (fun h => ?_)
      | refine g_append T 102 hC (rows := []) (rows2 := v.map tokR) (rows3 := v.map tokR) (bytes := 48) rfl rfl rfl rfl (SrcS.sl (T.es_ok _ _ rfl)) rfl rfl rfl rfl (by kernel_rfl) (by simp only [List.length_nil, hl]; omega) (by simp only [List.length_nil, hl]; omega) rfl rfl rfl ?_
    exact g_fin ⟨.inl rfl, nm [102], _, rfl, .refl _, ⟨rfl, trivial⟩, rfl, rfl⟩
end Hw.L
namespace Hw.L
open Go Go.Proofs Go.Shelf Hw.M

/-! strings.Builder -/
def bldR : Go.Shelf.Ren := ⟨fun | 166 => 19 | 167 => 38 | 169 => 20 | 170 => 40 | 240 => 41 | n => n, fun | 75 => 44 | 0 => 0 | 3 => 3 | 4 => 4 | 5 => 5 | 9 => 9 | 37 => 37 | 70 => 38 | 72 => 40 | 127 => 68 | 164 => 76 | n => n, fun n => n⟩
theorem bldX : Builder.Extra Tryd.prog bldR where
  sizeBuilder := by kernel_rfl
  liesBuilder := by kernel_rfl
  t5 := Tryd.underlying5
  a5 := Tryd.isAgg5
  z5 := Tryd.sizeOf5
  v5 := Tryd.zeroValue5
  infoByte := by kernel_rfl
  cellsByte := by kernel_rfl
  sizeByte := by kernel_rfl
  neB5 := by decide
set_option maxHeartbeats 1000000 in
set_option maxRecDepth 100000 in
theorem bld_chk {b : Nat} {p v : Value} {s : ByteArray} {w : World} (hp : p = .pointer none ∨ p = .pointer (some ⟨b, 0, none⟩)) (h : BldAt (bldR.t 72) (bldR.t 5) b p v s w) :
    Calls Tryd.prog (bldR.f 240) #[.pointer (some ⟨b, 0, none⟩)] w fun e w' => e = .returned (.tuple #[]) ∧ BldAt (bldR.t 72) (bldR.t 5) b (.pointer (some ⟨b, 0, none⟩)) v s w' ∧ Kp b v v w w' := by
  obtain ⟨j, hj, hjs⟩ := Option.map_eq_some_iff.1 bldX.sizeBuilder
  rcases hp with rfl | rfl
  · have h0 := h.atF.cell0
    have hsh := h.atF.shape
    have hfz := h.atF.frozen0
    refine Calls.mono (R := fun e w' => e = .returned (.tuple #[]) ∧ w' = w.setCell ⟨b, 0, none⟩ (.pointer (some ⟨b, 0, none⟩))) ?_ ?_
    · go_enter Tryd.func41, Tryd.ntmps41
      go_wp2
      rw [Lib.run_to_unsafe w ⟨b, 0, none⟩ Tryd.underlying38 Tryd.underlying76 hj (by rw [hjs]; decide) hsh (Nat.zero_lt_succ 1)]
      simp only [Result.andThen]
      rw [Oper.upon_value]
      go_wp2
      rw [run_callFunc_extern Tryd.func54 (by kernel_rfl) (by kernel_rfl) (by kernel_rfl) (e := Extern.AbiNoEscape.same) (by kernel_rfl)]
      rw [Lib.run_noEscape]
      simp only [Result.andThen]
      rw [Oper.upon_value]
      go_wp2
      rw [Lib.run_from_unsafe w ⟨b, 0, none⟩ Tryd.underlying76 Tryd.underlying38 hj hsh bldX.liesBuilder]
      simp only [Result.andThen]
      rw [Oper.upon_value]
      go_wp2
      go_end0
      exact ⟨rfl, rfl⟩
    · rintro e w' ⟨rfl, rfl⟩
      exact ⟨rfl, h.used _, Kp.set _ _ _ _⟩
  · have h0 := h.atF.cell0
    refine Calls.mono (R := fun e w' => e = .returned (.tuple #[]) ∧ w' = w) ?_ ?_
    · go_enter Tryd.func41, Tryd.ntmps41
      go_wp2
      rw [Lib.run_neq_ptr_same w _ Tryd.underlying38 hj]
      go_wp2
      go_end0
      exact ⟨rfl, rfl⟩
    · rintro e w' ⟨rfl, rfl⟩
      exact ⟨rfl, h, Kp.refl _ _ _⟩
theorem bldL : BldL Tryd.prog bldR where
  mixed := by kernel_rfl
  f169 := Tryd.func20.trans (congrArg some (by kernel_rfl))
  f166 := Tryd.func19.trans (congrArg some (by kernel_rfl))
  f167 := Tryd.func38.trans (congrArg some (by kernel_rfl))
  e240 := enters_of Tryd.func41 (by kernel_rfl) rfl
  chk := bld_chk
  t0 := Tryd.underlying0
  a0 := Tryd.isAgg0
  z0 := Tryd.sizeOf0
  v0 := Tryd.zeroValue0
  t3 := Tryd.underlying3
  a3 := Tryd.isAgg3
  z3 := Tryd.sizeOf3
  v3 := Tryd.zeroValue3
  t4 := Tryd.underlying4
  a4 := Tryd.isAgg4
  z4 := Tryd.sizeOf4
  v4 := Tryd.zeroValue4
  t9 := Tryd.underlying9
  a9 := Tryd.isAgg9
  z9 := Tryd.sizeOf9
  v9 := Tryd.zeroValue9
  t37 := Tryd.underlying37
  a37 := Tryd.isAgg37
  z37 := Tryd.sizeOf37
  v37 := Tryd.zeroValue37
  t70 := Tryd.underlying38
  a70 := Tryd.isAgg38
  z70 := Tryd.sizeOf38
  v70 := Tryd.zeroValue38
  t72 := Tryd.underlying40
  a72 := Tryd.isAgg40
  z72 := Tryd.sizeOf40
  v72 := Tryd.zeroValue40
  t127 := Tryd.underlying68
  a127 := Tryd.isAgg68
  z127 := Tryd.sizeOf68
  v127 := Tryd.zeroValue68
  t164 := Tryd.underlying76
  a164 := Tryd.isAgg76
  z164 := Tryd.sizeOf76
  v164 := Tryd.zeroValue76
  l170 := {
    mixed := by kernel_rfl
    f170 := Tryd.func40.trans (congrArg some (by kernel_rfl))
    t0 := Tryd.underlying0
    a0 := Tryd.isAgg0
    z0 := Tryd.sizeOf0
    v0 := Tryd.zeroValue0
    t3 := Tryd.underlying3
    a3 := Tryd.isAgg3
    z3 := Tryd.sizeOf3
    v3 := Tryd.zeroValue3
    t37 := Tryd.underlying37
    a37 := Tryd.isAgg37
    z37 := Tryd.sizeOf37
    v37 := Tryd.zeroValue37
    t70 := Tryd.underlying38
    a70 := Tryd.isAgg38
    z70 := Tryd.sizeOf38
    v70 := Tryd.zeroValue38
    t72 := Tryd.underlying40
    a72 := Tryd.isAgg40
    z72 := Tryd.sizeOf40
    v72 := Tryd.zeroValue40
  }
abbrev Bd (b : Nat) (s : ByteArray) : Res := .bld 40 5 b s
theorem ws_ok (b : Nat) (s t : Str) (h : s.size + t.size ≤ 140737488355328) : FnOK Tryd.prog 19 [Bp b, Sr t] [(0, Bd b s)] (.tup [I t.size, .one (.p (.k .nilIface))]) [(1, Bd b (s ++ t))] :=
  fn_bld (av := [.string t]) (callOKL Tryd.func19 (by kernel_rfl) (by kernel_rfl)) (fun p v w _ hp hb => (bld_ws bldL bldX hp hb t h).mono fun e w' ⟨he, v', h1, h2⟩ => ⟨he, _, v', .inr rfl, h1, h2⟩)
    fun M ρ => by simp only [RepS]; exact ⟨_, rfl, by simp only [RepSs, RepS, RepV, RepPV]; exact ⟨⟨trivial, rfl⟩, ⟨trivial, rfl⟩, trivial⟩⟩
theorem wb_ok (b : Nat) (s : Str) (c : UInt8) (h : s.size + 1 ≤ 140737488355328) : FnOK Tryd.prog 38 [Bp b, Kk .u8 c.toNat] [(0, Bd b s)] (.one (.p (.k .nilIface))) [(1, Bd b (s ++ ⟨#[c]⟩))] :=
  fn_bld (av := [.int .u8 c.toNat]) (callOKL Tryd.func38 (by kernel_rfl) (by kernel_rfl)) (fun p v w _ hp hb => (bld_wb bldL bldX hp hb c h).mono fun e w' ⟨he, v', h1, h2⟩ => ⟨he, _, v', .inr rfl, h1, h2⟩)
    fun M ρ => by simp only [RepS, RepV, RepPV]; exact ⟨trivial, rfl⟩
theorem bl_ok (b : Nat) (s : ByteArray) : FnOK Tryd.prog 40 [Bp b] [(0, Bd b s)] (I s.size) [(1, Bd b s)] :=
  fn_bld (av := []) (callOKL Tryd.func40 (by kernel_rfl) (by kernel_rfl)) (fun p v w _ hp hb => (bld_len bldL hp hb).mono fun e w' ⟨he, h1⟩ => ⟨he, p, v, hp, by rw [h1]; exact hb, by rw [h1]; exact Kp.refl _ _ _⟩)
    fun M ρ => by simp only [RepS, RepV, RepPV]; exact ⟨trivial, rfl⟩
theorem bs_ok (b : Nat) (s : ByteArray) : FnOK Tryd.prog 20 [Bp b] [(0, Bd b s)] (Sr s) [] :=
  fn_bldX (callOKL Tryd.func20 (by kernel_rfl) (by kernel_rfl)) (fun p v w _ _ hb => bld_str bldL bldX hb)
    fun M ρ => by simp only [RepS, RepV, RepPV]; exact ⟨trivial, rfl⟩
end Hw.L
namespace Hw.L
open Go Go.Proofs Go.Shelf Hw.M

/-! lex.Join -/
theorem lJoin_no (l : List Tok) (hl : l.length ≤ 1000000) {i : Nat} {t : Tok} (ht : l[i]? = some t) (hb : okAt l.length i t = false) (hf : ∀ j u, j < i → l[j]? = some u → okAt l.length j u = true) : FnOK Tryd.prog 18 [pS (toksP l)] [] (.tup [Sr (⟨#[]⟩ : ByteArray), I 1]) [] := by
  have hil := (List.getElem?_eq_some_iff.1 ht).1
  refine fn_ok T Tryd.func18 (by kernel_rfl) rfl rfl rfl rfl fun C hC => ?_
  repeat' first
    | refine g_go T hC true 400 rfl rfl ?_
    | refine g_cond rfl (fun h => ?_) (fun h => ?_)
    | refine g_end T hC (by kernel_rfl) ?_
    | refine g_splitD (fun h => ?_) (fun h => ?_)
    | refine g_splitG rfl rfl rfl (fun h => ?_) (fun h => ?_)
    | refine g_splitP rfl rfl (fun h => ?_) (fun h => ?_)
  rw [List.length_map]
  refine g_loop (fun j : Nat => j ≤ i) (fun j => ([(0, pS (toksP l)), (9, pS (toksP l)), (10, I l.length), (11, I j)], [])) (fun j => l.length - j) hC
    0 (Nat.zero_le _) id ⟨rfl, ⟨rfl, rfl, rfl, rfl, trivial⟩, trivial, rfl, fun _ _ => rfl⟩ ?_
  intro j hj
  refine g_run' T hC true 200 rfl ?_
  refine g_cond rfl (fun h => ?_) (fun h => ?_)
  rotate_left
  · exfalso; have := of_decide_eq_false h; omega
  clear h
  obtain ⟨u, hu⟩ := exists_at (l := l) (i := j) (by omega)
  have hV := lexValid_ok u
  have hok : j < i → okAt l.length j u = true := fun h => hf j u h hu
  have hno : j = i → okAt l.length j u = false := fun h => by subst h; rw [ht] at hu; obtain rfl := Option.some.inj hu; exact hb
  unfold okAt at hok hno
  have w1 : IntKind.i64.wrap ((l.length : Int) - 1) = (l.length : Int) - 1 := wrap64 (by omega)
  generalize validF u = v at hV hok hno
  repeat' first
    | refine g_go T hC true 400 rfl rfl ?_
    | refine g_cond rfl (fun h => ?_) (fun h => ?_)
    | refine g_end T hC (by kernel_rfl) ?_
    | refine g_splitD (fun h => ?_) (fun h => ?_)
    | refine g_splitG rfl rfl rfl (fun h => ?_) (fun h => ?_)
    | refine g_splitP rfl rfl (fun h => ?_) (fun h => ?_)
    | refine g_idx T hC rfl rfl rfl (Int.natCast_nonneg _) (map_at (by assumption)) rfl rfl ?_
    | refine g_call hC (hV) rfl rfl (LeSs.refl _) rfl rfl rfl ?_
    | refine g_outR ?_
  all_goals (try simp only [List.length_map] at *)
  all_goals (try rw [w1] at *)
  all_goals first
    | exact g_fin ⟨.inl rfl, id, _, rfl, .refl _, trivial, rfl, rfl⟩
    | (have hlt : j < i := by
         rcases Nat.lt_or_ge j i with hlt | hge
         · exact hlt
         · have := hno (by omega); first | (simp_all; done) | (simp_all; omega)
       rw [wrapS (by omega)]
       exact g_round (j + 1) hlt id (by omega) ⟨rfl, ⟨rfl, rfl, rfl, rfl, trivial⟩, trivial, rfl, fun _ _ => rfl⟩)
theorem lJoin_yes (l : List Tok) (hl : l.length ≤ 1000000) (hok : okJ l) (hsz : (accJ l 0 (⟨#[]⟩ : ByteArray)).size ≤ 65536) : FnOK Tryd.prog 18 [pS (toksP l)] [] (.tup [Sr (accJ l 0 (⟨#[]⟩ : ByteArray)), I 0]) [] := by
  refine fn_ok T Tryd.func18 (by kernel_rfl) rfl rfl rfl rfl fun C hC => ?_
  repeat' first
    | refine g_go T hC true 400 rfl rfl ?_
    | refine g_cond rfl (fun h => ?_) (fun h => ?_)
    | refine g_end T hC (by kernel_rfl) ?_
    | refine g_splitD (fun h => ?_) (fun h => ?_)
    | refine g_splitG rfl rfl rfl (fun h => ?_) (fun h => ?_)
    | refine g_splitP rfl rfl (fun h => ?_) (fun h => ?_)
  rw [List.length_map]
  refine g_loop (fun j : Nat => j ≤ l.length) (fun j => ([(0, pS (toksP l)), (9, pS (toksP l)), (10, I l.length), (11, I j)], [])) (fun j => l.length - j) hC
    0 (Nat.zero_le _) id ⟨rfl, ⟨rfl, rfl, rfl, rfl, trivial⟩, trivial, rfl, fun _ _ => rfl⟩ ?_
  intro j hj
  refine g_run' T hC true 200 rfl ?_
  refine g_cond rfl (fun h => ?_) (fun h => ?_)
  · have hlt : j < l.length := by have := of_decide_eq_true h; omega
    clear h
    obtain ⟨u, hu⟩ := exists_at hlt
    have hV := lexValid_ok u
    have hok' := hok j u hu
    have w1 : IntKind.i64.wrap ((l.length : Int) - 1) = (l.length : Int) - 1 := wrap64 (by omega)
    unfold okAt at hok'
    generalize validF u = v at hV hok'
    repeat' first
      | refine g_go T hC true 400 rfl rfl ?_
      | refine g_cond rfl (fun h => ?_) (fun h => ?_)
      | refine g_end T hC (by kernel_rfl) ?_
      | refine g_splitD (fun h => ?_) (fun h => ?_)
      | refine g_splitG rfl rfl rfl (fun h => ?_) (fun h => ?_)
      | refine g_splitP rfl rfl (fun h => ?_) (fun h => ?_)
      | refine g_idx T hC rfl rfl rfl (Int.natCast_nonneg _) (map_at (by assumption)) rfl rfl ?_
      | refine g_call hC (hV) rfl rfl (LeSs.refl _) rfl rfl rfl ?_
      | refine g_outR ?_
    all_goals (try simp only [List.length_map] at *)
    all_goals (try rw [w1] at *)
    all_goals first
      | (rw [wrapS (by omega)]
         exact g_round (j + 1) hlt id (by omega) ⟨rfl, ⟨rfl, rfl, rfl, rfl, trivial⟩, trivial, rfl, fun _ _ => rfl⟩)
      | (exfalso; simp_all; done)
      | (exfalso; simp_all; omega)
  · repeat' first
      | refine g_go T hC true 400 rfl rfl ?_
      | refine g_cond rfl (fun h => ?_) (fun h => ?_)
      | refine g_end T hC (by kernel_rfl) ?_
      | refine g_splitD (fun h => ?_) (fun h => ?_)
      | refine g_splitG rfl rfl rfl (fun h => ?_) (fun h => ?_)
      | refine g_splitP rfl rfl (fun h => ?_) (fun h => ?_)
      | refine g_outE ?_
      | (refine g_newBld hC 5 (by kernel_rfl) rfl rfl (fun b => ?_))
    rw [List.length_map]
    refine g_loop (fun q : Nat × Str => q.1 ≤ l.length ∧ accJ (l.drop q.1) q.1 q.2 = accJ l 0 (⟨#[]⟩ : ByteArray)) (fun q => ([(32, pS (toksP l)), (33, I l.length), (34, I q.1), (6, Bp b)], [(101, some (Bd b q.2))])) (fun q => l.length - q.1) hC
      (0, (⟨#[]⟩ : ByteArray)) ⟨Nat.zero_le _, rfl⟩ (mvU 101 1006) ⟨rfl, ⟨rfl, rfl, rfl, rfl, trivial⟩, ⟨rfl, trivial⟩, rfl, fun i hi => mvU_low (by omega) hi⟩ ?_
    clear h hj
    rintro ⟨j, a⟩ ⟨hj, ha⟩
    simp only at hj ha
    refine g_run' T hC true 200 rfl ?_
    refine g_cond rfl (fun h => ?_) (fun h => ?_)
    rotate_left
    · have hge : ¬ j < l.length := by have := of_decide_eq_false h; omega
      rw [List.drop_of_length_le (by omega)] at ha
      rw [← ha]
      have hS := bs_ok b a
      repeat' first
        | refine g_go T hC true 400 rfl rfl ?_
        | refine g_cond rfl (fun h => ?_) (fun h => ?_)
        | refine g_end T hC (by kernel_rfl) ?_
        | refine g_splitD (fun h => ?_) (fun h => ?_)
        | refine g_splitG rfl rfl rfl (fun h => ?_) (fun h => ?_)
        | refine g_splitP rfl rfl (fun h => ?_) (fun h => ?_)
        | refine g_outE ?_
        | refine g_callR hC (hS) (nm [101]) rfl rfl (LeSs.refl _) rfl rfl rfl rfl rfl rfl rfl rfl ?_
      exact g_fin ⟨.inl rfl, id, _, rfl, .refl _, trivial, rfl, rfl⟩
    have hlt : j < l.length := by have := of_decide_eq_true h; omega
    clear h
    obtain ⟨u, hu⟩ := exists_at hlt
    rw [drop_at hu, accJ_cons] at ha
    by_cases h5 : u.k = 5
    · rw [if_pos h5] at ha
      rw [← ha]
      have hS := bs_ok b a
      repeat' first
        | refine g_go T hC true 400 rfl rfl ?_
        | (exfalso; exact absurd h5 (of_decide_eq_false h))
        | refine g_cond rfl (fun h => ?_) (fun h => ?_)
        | refine g_end T hC (by kernel_rfl) ?_
        | refine g_splitD (fun h => ?_) (fun h => ?_)
        | refine g_splitG rfl rfl rfl (fun h => ?_) (fun h => ?_)
        | refine g_splitP rfl rfl (fun h => ?_) (fun h => ?_)
        | refine g_idx T hC rfl rfl rfl (Int.natCast_nonneg _) (map_at (by assumption)) rfl rfl ?_
        | refine g_outE ?_
        | refine g_callR hC (hS) (nm [101]) rfl rfl (LeSs.refl _) rfl rfl rfl rfl rfl rfl rfl rfl ?_
      exact g_fin ⟨.inl rfl, id, _, rfl, .refl _, trivial, rfl, rfl⟩
    rw [if_neg h5] at ha
    have hz := accJ_size (l.drop (j + 1)) (j + 1) (a ++ (if 0 < j then (⟨#[32]⟩ : ByteArray) else (⟨#[]⟩ : ByteArray)) ++ txtS u)
    rw [ha, size_app, size_app] at hz
    unfold txtS at hz ha
    have hv := hok j u hu
    unfold okAt validF at hv
    have hb1 : ((⟨#[32]⟩ : ByteArray) : Str).size = 1 := rfl
    have hb0 : ((⟨#[]⟩ : ByteArray) : Str).size = 0 := rfl
    by_cases hk2 : u.k = 2
    · rw [if_pos hk2] at hz ha
      have hn : 0 ≤ u.n ∧ u.n ≤ 1099511627776 := by
        rw [hk2] at hv
        simp at hv
        omega
      have hD := itoa_ok u.n (by omega) (by omega)
      clear hv
      by_cases hj0 : 0 < j
      · rw [if_pos hj0] at hz ha
        rw [hb1] at hz
        have hB := wb_ok b a 32 (by omega)
        have hW := ws_ok b (a ++ (⟨#[32]⟩ : ByteArray)) (itoaB u.n) (by rw [size_app, hb1]; omega)
        have hN := bl_ok b ((a ++ (⟨#[32]⟩ : ByteArray)) ++ itoaB u.n)
        repeat' first
          | refine g_go T hC true 400 rfl rfl ?_
          | (exfalso; have h2 := of_decide_eq_false h; omega)
          | (exfalso; have h2 := of_decide_eq_true h; omega)
          | refine g_cond rfl (fun h => ?_) (fun h => ?_)
          | refine g_end T hC (by kernel_rfl) ?_
          | refine g_splitD (fun h => ?_) (fun h => ?_)
          | refine g_splitG rfl rfl rfl (fun h => ?_) (fun h => ?_)
          | refine g_splitP rfl rfl (fun h => ?_) (fun h => ?_)
          | refine g_idx T hC rfl rfl rfl (Int.natCast_nonneg _) (map_at (by assumption)) rfl rfl ?_
          | refine g_callR hC (hB) (nm [101, 102]) rfl rfl (LeSs.refl _) rfl rfl rfl rfl rfl rfl rfl rfl ?_
          | refine g_call hC (hD) rfl rfl (LeSs.refl _) rfl rfl rfl ?_
          | refine g_callR hC (hW) (nm [102, 103]) rfl rfl (LeSs.refl _) rfl rfl rfl rfl rfl rfl rfl rfl ?_
          | refine g_callR hC (hN) (nm [103, 104]) rfl rfl (LeSs.refl _) rfl rfl rfl rfl rfl rfl rfl rfl ?_
          | refine g_outR ?_
        all_goals first
          | (exfalso; have h2 := of_decide_eq_true h; rw [size_app] at h2; (try rw [size_app] at h2); omega)
          | (rw [wrapS (by omega)]
             exact g_round (j + 1, (a ++ (⟨#[32]⟩ : ByteArray)) ++ itoaB u.n) ⟨by simp only; omega, by simpa using ha⟩ (mvU 101 104) (by simp only; omega) ⟨rfl, ⟨rfl, rfl, rfl, rfl, trivial⟩, ⟨rfl, trivial⟩, rfl, fun i hi => mvU_low (by omega) hi⟩)
      · rw [if_neg hj0] at hz ha
        rw [app_nil a] at ha
        have hW := ws_ok b a (itoaB u.n) (by omega)
        have hN := bl_ok b (a ++ itoaB u.n)
        repeat' first
          | refine g_go T hC true 400 rfl rfl ?_
          | (exfalso; have h2 := of_decide_eq_false h; omega)
          | (exfalso; have h2 := of_decide_eq_true h; omega)
          | refine g_cond rfl (fun h => ?_) (fun h => ?_)
          | refine g_end T hC (by kernel_rfl) ?_
          | refine g_splitD (fun h => ?_) (fun h => ?_)
          | refine g_splitG rfl rfl rfl (fun h => ?_) (fun h => ?_)
          | refine g_splitP rfl rfl (fun h => ?_) (fun h => ?_)
          | refine g_idx T hC rfl rfl rfl (Int.natCast_nonneg _) (map_at (by assumption)) rfl rfl ?_
          | refine g_call hC (hD) rfl rfl (LeSs.refl _) rfl rfl rfl ?_
          | refine g_callR hC (hW) (nm [101, 102]) rfl rfl (LeSs.refl _) rfl rfl rfl rfl rfl rfl rfl rfl ?_
          | refine g_callR hC (hN) (nm [102, 103]) rfl rfl (LeSs.refl _) rfl rfl rfl rfl rfl rfl rfl rfl ?_
          | refine g_outR ?_
        all_goals first
          | (exfalso; have h2 := of_decide_eq_true h; rw [size_app] at h2; (try rw [size_app] at h2); omega)
          | (rw [wrapS (by omega)]
             exact g_round (j + 1, a ++ itoaB u.n) ⟨by simp only; omega, by simpa using ha⟩ (mvU 101 103) (by simp only; omega) ⟨rfl, ⟨rfl, rfl, rfl, rfl, trivial⟩, ⟨rfl, trivial⟩, rfl, fun i hi => mvU_low (by omega) hi⟩)
    · rw [if_neg hk2] at hz ha
      clear hv
      by_cases hj0 : 0 < j
      · rw [if_pos hj0] at hz ha
        rw [hb1] at hz
        have hB := wb_ok b a 32 (by omega)
        have hW := ws_ok b (a ++ (⟨#[32]⟩ : ByteArray)) (u.t) (by rw [size_app, hb1]; omega)
        have hN := bl_ok b ((a ++ (⟨#[32]⟩ : ByteArray)) ++ u.t)
        repeat' first
          | refine g_go T hC true 400 rfl rfl ?_
          | (exfalso; have h2 := of_decide_eq_false h; omega)
          | (exfalso; have h2 := of_decide_eq_true h; omega)
          | refine g_cond rfl (fun h => ?_) (fun h => ?_)
          | refine g_end T hC (by kernel_rfl) ?_
          | refine g_splitD (fun h => ?_) (fun h => ?_)
          | refine g_splitG rfl rfl rfl (fun h => ?_) (fun h => ?_)
          | refine g_splitP rfl rfl (fun h => ?_) (fun h => ?_)
          | refine g_idx T hC rfl rfl rfl (Int.natCast_nonneg _) (map_at (by assumption)) rfl rfl ?_
          | refine g_callR hC (hB) (nm [101, 102]) rfl rfl (LeSs.refl _) rfl rfl rfl rfl rfl rfl rfl rfl ?_
          | refine g_callR hC (hW) (nm [102, 103]) rfl rfl (LeSs.refl _) rfl rfl rfl rfl rfl rfl rfl rfl ?_
          | refine g_callR hC (hN) (nm [103, 104]) rfl rfl (LeSs.refl _) rfl rfl rfl rfl rfl rfl rfl rfl ?_
          | refine g_outR ?_
        all_goals first
          | (exfalso; have h2 := of_decide_eq_true h; rw [size_app] at h2; (try rw [size_app] at h2); omega)
          | (rw [wrapS (by omega)]
             exact g_round (j + 1, (a ++ (⟨#[32]⟩ : ByteArray)) ++ u.t) ⟨by simp only; omega, by simpa using ha⟩ (mvU 101 104) (by simp only; omega) ⟨rfl, ⟨rfl, rfl, rfl, rfl, trivial⟩, ⟨rfl, trivial⟩, rfl, fun i hi => mvU_low (by omega) hi⟩)
      · rw [if_neg hj0] at hz ha
        rw [app_nil a] at ha
        have hW := ws_ok b a (u.t) (by omega)
        have hN := bl_ok b (a ++ u.t)
        repeat' first
          | refine g_go T hC true 400 rfl rfl ?_
          | (exfalso; have h2 := of_decide_eq_false h; omega)
          | (exfalso; have h2 := of_decide_eq_true h; omega)
          | refine g_cond rfl (fun h => ?_) (fun h => ?_)
          | refine g_end T hC (by kernel_rfl) ?_
          | refine g_splitD (fun h => ?_) (fun h => ?_)
          | refine g_splitG rfl rfl rfl (fun h => ?_) (fun h => ?_)
          | refine g_splitP rfl rfl (fun h => ?_) (fun h => ?_)
          | refine g_idx T hC rfl rfl rfl (Int.natCast_nonneg _) (map_at (by assumption)) rfl rfl ?_
          | refine g_callR hC (hW) (nm [101, 102]) rfl rfl (LeSs.refl _) rfl rfl rfl rfl rfl rfl rfl rfl ?_
          | refine g_callR hC (hN) (nm [102, 103]) rfl rfl (LeSs.refl _) rfl rfl rfl rfl rfl rfl rfl rfl ?_
          | refine g_outR ?_
        all_goals first
          | (exfalso; have h2 := of_decide_eq_true h; rw [size_app] at h2; (try rw [size_app] at h2); omega)
          | (rw [wrapS (by omega)]
             exact g_round (j + 1, a ++ u.t) ⟨by simp only; omega, by simpa using ha⟩ (mvU 101 103) (by simp only; omega) ⟨rfl, ⟨rfl, rfl, rfl, rfl, trivial⟩, ⟨rfl, trivial⟩, rfl, fun i hi => mvU_low (by omega) hi⟩)
end Hw.L
namespace Hw.L
open Go Go.Proofs Go.Shelf Hw.M

/-! LexJoins -/
theorem okJ_upto (l : List Tok) : ∀ k, (∀ j u, j < k → l[j]? = some u → okAt l.length j u = true) ∨ ∃ i t, l[i]? = some t ∧ okAt l.length i t = false ∧ ∀ j u, j < i → l[j]? = some u → okAt l.length j u = true
  | 0 => .inl fun j u h => absurd h (Nat.not_lt_zero _)
  | k + 1 => by
    rcases okJ_upto l k with h | h
    · cases e : l[k]? with
      | none =>
        refine .inl fun j u hj hu => ?_
        rcases Nat.lt_or_ge j k with h1 | h1
        · exact h j u h1 hu
        · obtain rfl : j = k := by omega
          rw [e] at hu; cases hu
      | some t =>
        cases hb : okAt l.length k t with
        | true =>
          refine .inl fun j u hj hu => ?_
          rcases Nat.lt_or_ge j k with h1 | h1
          · exact h j u h1 hu
          · obtain rfl : j = k := by omega
            rw [e] at hu; obtain rfl := Option.some.inj hu; exact hb
        | false => exact .inr ⟨k, t, e, hb, h⟩
    · exact .inr h
theorem okJ_or (l : List Tok) : okJ l ∨ ∃ i t, l[i]? = some t ∧ okAt l.length i t = false ∧ ∀ j u, j < i → l[j]? = some u → okAt l.length j u = true := by
  rcases okJ_upto l l.length with h | h
  · exact .inl fun i t ht => h i t (List.getElem?_eq_some_iff.1 ht).1 ht
  · exact .inr h
theorem valid_txt {t : Tok} (h : validF t = true) (hs : t.t.size ≤ 60) : (txtS t).size ≤ 60 := by
  unfold txtS
  split
  · rename_i h2
    unfold validF at h
    rw [h2] at h
    simp at h
    have := itoaB_size (n := t.n) (by omega) (by omega)
    omega
  · exact hs
theorem accJ_bound : ∀ (l : List Tok) (i : Nat) (a : Str), (∀ t ∈ l, (txtS t).size ≤ 60) → (accJ l i a).size ≤ a.size + 61 * l.length
  | [], _, a, _ => Nat.le_add_right _ _
  | t :: r, i, a, h => by
    rw [accJ_cons]
    split
    · exact Nat.le_add_right _ _
    · refine Nat.le_trans (accJ_bound r (i + 1) _ fun u hu => h u (List.mem_cons_of_mem _ hu)) ?_
      have h1 := h t (List.mem_cons_self ..)
      have h2 : (if 0 < i then (⟨#[32]⟩ : ByteArray) else (⟨#[]⟩ : ByteArray) : Str).size ≤ 1 := by split <;> decide
      rw [size_app, size_app, List.length_cons]
      omega
theorem small_of {l : List Tok} (h : smallT l = true) : l.length ≤ 60 ∧ ∀ t ∈ l, t.t.size ≤ 60 := by
  unfold smallT at h
  simp only [Bool.and_eq_true, Bool.not_eq_true', decide_eq_true_eq] at h
  refine ⟨by omega, fun t ht => ?_⟩
  have h2 := List.any_eq_false.1 h.2 t ht
  unfold longT at h2
  have := of_decide_eq_false (Bool.eq_false_iff.2 h2)
  omega
theorem join_size {l : List Tok} (h : smallT l = true) (ho : okJ l) : (accJ l 0 (⟨#[]⟩ : ByteArray)).size ≤ 65536 := by
  obtain ⟨h1, h2⟩ := small_of h
  have := accJ_bound l 0 (⟨#[]⟩ : ByteArray) fun t ht => by
    obtain ⟨i, hi⟩ := List.mem_iff_getElem?.1 ht
    have := ho i t hi
    unfold okAt at this
    simp only [Bool.and_eq_true] at this
    exact valid_txt this.1 (h2 t ht)
  have h0 : ((⟨#[]⟩ : ByteArray) : Str).size = 0 := rfl
  omega
theorem lexJoinsLaw_ok (l : List Tok) : FnOK Tryd.prog 6 [pS (toksP l)] [] (.bq true) [] := by
  have hS := small01_ok l
  cases hs : smallT l with
  | false =>
    rw [hs] at hS
    refine fn_ok T Tryd.func6 (by kernel_rfl) rfl rfl rfl rfl fun C hC => ?_
    repeat' first
      | refine g_go T hC true 400 rfl rfl ?_
      | (exfalso; simp at h; done)
      | refine g_cond rfl (fun h => ?_) (fun h => ?_)
      | refine g_end T hC (by kernel_rfl) ?_
      | refine g_splitD (fun h => ?_) (fun h => ?_)
      | refine g_splitG rfl rfl rfl (fun h => ?_) (fun h => ?_)
      | refine g_splitP rfl rfl (fun h => ?_) (fun h => ?_)
      | refine g_call hC (awake01_ok) rfl rfl (LeSs.refl _) rfl rfl rfl ?_
      | refine g_call hC (hS) rfl rfl (LeSs.refl _) rfl rfl rfl ?_
      | refine g_retq T (.inl rfl) rfl ?_
      | refine g_retl T (.inl rfl) rfl ?_
    all_goals rfl
  | true =>
    rw [hs] at hS
    have hl := (small_of hs).1
    rcases okJ_or l with ho | ⟨i, t, h1, h2, h3⟩
    · have hz := join_size hs ho
      have hA := lJoin_yes l (by omega) ho hz
      have hB := rJoin_yes l (by omega) ho hz
      generalize accJ l 0 (⟨#[]⟩ : ByteArray) = z at hA hB
      refine fn_ok T Tryd.func6 (by kernel_rfl) rfl rfl rfl rfl fun C hC => ?_
      repeat' first
        | refine g_go T hC true 400 rfl rfl ?_
        | (exfalso; simp at h; done)
        | refine g_cond rfl (fun h => ?_) (fun h => ?_)
        | refine g_end T hC (by kernel_rfl) ?_
        | refine g_splitD (fun h => ?_) (fun h => ?_)
        | refine g_splitG rfl rfl rfl (fun h => ?_) (fun h => ?_)
        | refine g_splitP rfl rfl (fun h => ?_) (fun h => ?_)
        | refine g_call hC (awake01_ok) rfl rfl (LeSs.refl _) rfl rfl rfl ?_
        | refine g_call hC (hS) rfl rfl (LeSs.refl _) rfl rfl rfl ?_
        | refine g_call hC (hA) rfl rfl (LeSs.refl _) rfl rfl rfl ?_
        | refine g_call hC (hB) rfl rfl (LeSs.refl _) rfl rfl rfl ?_
        | refine g_retq T (.inl rfl) rfl ?_
        | refine g_retl T (.inl rfl) rfl ?_
      all_goals first | rfl | (simp; done) | (exfalso; simp_all; done)
    · have hA := lJoin_no l (by omega) h1 h2 h3
      have hB := rJoin_no l (by omega) h1 h2 h3
      refine fn_ok T Tryd.func6 (by kernel_rfl) rfl rfl rfl rfl fun C hC => ?_
      repeat' first
        | refine g_go T hC true 400 rfl rfl ?_
        | (exfalso; simp at h; done)
        | refine g_cond rfl (fun h => ?_) (fun h => ?_)
        | refine g_end T hC (by kernel_rfl) ?_
        | refine g_splitD (fun h => ?_) (fun h => ?_)
        | refine g_splitG rfl rfl rfl (fun h => ?_) (fun h => ?_)
        | refine g_splitP rfl rfl (fun h => ?_) (fun h => ?_)
        | refine g_call hC (awake01_ok) rfl rfl (LeSs.refl _) rfl rfl rfl ?_
        | refine g_call hC (hS) rfl rfl (LeSs.refl _) rfl rfl rfl ?_
        | refine g_call hC (hA) rfl rfl (LeSs.refl _) rfl rfl rfl ?_
        | refine g_call hC (hB) rfl rfl (LeSs.refl _) rfl rfl rfl ?_
        | refine g_retq T (.inl rfl) rfl ?_
        | refine g_retl T (.inl rfl) rfl ?_
      all_goals first | rfl | (simp; done) | (exfalso; simp_all; done)
end Hw.L
namespace Hw.L
open Go Go.Proofs Go.Shelf Hw.M

/-! written tokens are read again: plain -/
theorem valid_eq (t : Tok) : validT t = validF t := by
  unfold validT validF symIn
  by_cases k1 : t.k = 1
  · rw [if_pos k1, if_pos k1]
  rw [if_neg k1, if_neg k1]
  by_cases k3 : t.k = 3
  · rw [if_pos k3, if_pos k3]
  rw [if_neg k3, if_neg k3]
  by_cases k4 : t.k = 4
  · rw [if_pos k4, if_pos k4]
  rw [if_neg k4, if_neg k4]
  by_cases k2 : t.k = 2
  · rw [if_pos k2, if_pos k2, Bool.and_assoc]
  rw [if_neg k2, if_neg k2]
  by_cases k5 : t.k = 5
  · rw [if_pos k5, decide_eq_true k5, Bool.true_and]
  · rw [if_neg k5, decide_eq_false k5, Bool.false_and, Bool.false_and]
theorem lst_app (a b : Str) : lst (a ++ b) = lst a ++ lst b := by simp [lst, ByteArray.data_append]
theorem txt_lst (t : Tok) : lst (txtS t) = txtT t := by unfold txtS txtT; split <;> rfl
/-- A token's text, and what may follow. -/
theorem lxx_tok {t : Tok} (hv : validF t = true) (h5 : t.k ≠ 5) {r : By} (hr : Sep r) (p : Int × Int) (out : List Tok) : ∃ u p', keyT u = keyT t ∧ lxx (txtT t ++ r) p out = lxx r p' (out ++ [u]) := by
  obtain ⟨h1, _, _⟩ := tk_tok (by rw [valid_eq]; exact hv) h5 hr
  refine ⟨tokAt p (bare t), ((txtT t ++ r).take (txtT t).length).foldl mv p, rfl, ?_⟩
  rw [lxx_step p out h1, List.drop_left]
  rfl
theorem lxx_blank {c : UInt8} (hb : blB c = true) (r : By) (p : Int × Int) (out : List Tok) : lxx (c :: r) p out = lxx r (mv p c) out := by
  have := step_blank (l := c :: r) (i := 0) p out rfl hb
  simpa using this
/-- What stands between tokens. -/
def Gap (g : By) : Prop := ∀ r p out, ∃ p', lxx (g ++ r) p out = lxx r p' out
theorem Gap.nil : Gap [] := fun r p _ => ⟨p, rfl⟩
theorem Gap.blank {c : UInt8} {g : By} (hb : blB c = true) (h : Gap g) : Gap (c :: g) := fun r p out => by
  obtain ⟨p', e⟩ := h r (mv p c) out
  exact ⟨p', by rw [List.cons_append, lxx_blank hb, e]⟩
theorem Gap.com {u g : By} (hu : u.all (fun b => decide (b ≠ 10)) = true) (h : Gap g) : Gap (35 :: u ++ 10 :: g) := fun r p out => by
  have e : 35 :: u ++ 10 :: g ++ r = (35 :: u) ++ (10 :: (g ++ r)) := by simp
  have hw : ((35 :: u) ++ (10 :: (g ++ r))).takeWhile (fun b => decide (b ≠ 10)) = 35 :: u := by
    refine takeWhile_all (by rw [List.all_cons, hu]; rfl) (.inr ⟨10, _, rfl, rfl⟩)
  have := step_com (l := (35 :: u) ++ (10 :: (g ++ r))) (i := 0) p out rfl rfl
  rw [List.drop_zero, hw, Nat.zero_add, List.drop_left] at this
  rw [e, this, lxx_blank (by decide)]
  exact h r _ out
/-- Of Join. -/
def okL : List Tok → Prop
  | [] => True
  | t :: r => validF t = true ∧ (t.k = 5 → r = []) ∧ okL r
theorem okL_of : ∀ (l : List Tok) (n k : Nat), n = k + l.length → (∀ i t, l[i]? = some t → okAt n (k + i) t = true) → okL l
  | [], _, _, _, _ => trivial
  | t :: r, n, k, hn, h => by
    rw [List.length_cons] at hn
    refine ⟨?_, fun h5 => ?_, okL_of r n (k + 1) (by omega) fun i u hi => ?_⟩
    · have := h 0 t rfl
      unfold okAt at this
      simp only [Bool.and_eq_true] at this
      exact this.1
    · have := h 0 t rfl
      unfold okAt at this
      rw [h5] at this
      simp only [Bool.and_eq_true, Bool.not_eq_true', Bool.and_eq_false_iff, decide_eq_false_iff_not] at this
      cases r with
      | nil => rfl
      | cons a b => exfalso; rcases this.2 with h2 | h2
                    · exact absurd h2 (by simp)
                    · rw [List.length_cons] at hn; omega
    · have := h (i + 1) u (by simpa using hi)
      rwa [show k + (i + 1) = k + 1 + i by omega] at this
theorem okL_J {l : List Tok} (h : okJ l) : okL l := okL_of l l.length 0 (by omega) fun i t hi => by rw [Nat.zero_add]; exact h i t hi
def joinL : List Tok → Nat → By
  | [], _ => []
  | t :: r, i => if t.k = 5 then [] else (if 0 < i then [32] else []) ++ txtT t ++ joinL r (i + 1)
theorem accJ_lst : ∀ (l : List Tok) (i : Nat) (a : Str), lst (accJ l i a) = lst a ++ joinL l i
  | [], i, a => by simp [accJ, joinL]
  | t :: r, i, a => by
    rw [accJ_cons, joinL]
    by_cases h5 : t.k = 5
    · rw [if_pos h5, if_pos h5, List.append_nil]
    · rw [if_neg h5, if_neg h5, accJ_lst r (i + 1), lst_app, lst_app, txt_lst]
      have : lst (if 0 < i then (⟨#[32]⟩ : ByteArray) else (⟨#[]⟩ : ByteArray) : Str) = (if 0 < i then [32] else []) := by split <;> rfl
      rw [this]
      simp only [List.append_assoc]
theorem joinL_sep : ∀ (l : List Tok) (i : Nat), 0 < i → Sep (joinL l i)
  | [], _, _ => .inl rfl
  | t :: r, i, h => by
    rw [joinL]
    by_cases h5 : t.k = 5
    · rw [if_pos h5]; exact .inl rfl
    · rw [if_neg h5, if_pos h]; exact .inr ⟨32, _, rfl, by decide⟩
def endT : Tok := ⟨5, (⟨#[]⟩ : ByteArray), 0, 0, 0⟩
def withEnd (l : List Tok) : List Tok := if l.getLast?.map Tok.k = some 5 then l else l ++ [endT]
theorem withEnd_cons {t : Tok} {r : List Tok} (h : t.k = 5 → r = []) (h5 : t.k ≠ 5) : withEnd (t :: r) = t :: withEnd r := by
  unfold withEnd
  cases r with
  | nil => simp [h5]
  | cons a b =>
    rw [List.getLast?_cons_cons]
    split <;> rfl
theorem valid_end {t : Tok} (h : validF t = true) (h5 : t.k = 5) : keyT t = keyT endT := by
  unfold validF at h
  rw [h5] at h
  simp at h
  unfold keyT endT
  rw [h5, h.1, h.2]
theorem back : ∀ (l : List Tok) (i : Nat) (p : Int × Int) (out : List Tok), okL l → ∃ o, lxx (joinL l i) p out = (o, (0, 0), 0) ∧ o.map keyT = out.map keyT ++ (withEnd l).map keyT
  | [], i, p, out, _ => ⟨_, lxx_nil p out, by simp [withEnd, keyT, endT]⟩
  | t :: r, i, p, out, h => by
    obtain ⟨h1, h2, h3⟩ := h
    rw [joinL]
    by_cases h5 : t.k = 5
    · rw [if_pos h5]
      refine ⟨_, lxx_nil p out, ?_⟩
      have hr := h2 h5
      subst hr
      have e : withEnd [t] = [t] := by simp [withEnd, h5]
      rw [e, List.map_append, List.map_singleton, List.map_singleton, valid_end h1 h5]
      rfl
    · rw [if_neg h5, withEnd_cons h2 h5]
      have hs := joinL_sep r (i + 1) (Nat.succ_pos i)
      have main : ∀ p, ∃ o, lxx (txtT t ++ joinL r (i + 1)) p out = (o, (0, 0), 0) ∧ o.map keyT = out.map keyT ++ (t :: withEnd r).map keyT := fun p => by
        obtain ⟨u, p', hk, e⟩ := lxx_tok h1 h5 hs p out
        obtain ⟨o, e2, e3⟩ := back r (i + 1) p' (out ++ [u]) h3
        exact ⟨o, e.trans e2, by rw [e3]; simp [hk]⟩
      by_cases hi : 0 < i
      · rw [if_pos hi, List.append_assoc, List.singleton_append, lxx_blank (by decide)]
        exact main _
      · rw [if_neg hi, List.nil_append]
        exact main p
theorem join_back {l : List Tok} (ho : okJ l) (hz : (accJ l 0 (⟨#[]⟩ : ByteArray)).size ≤ 65536) : ∃ o, tokensS (accJ l 0 (⟨#[]⟩ : ByteArray)) = (o, (0, 0), 0) ∧ o.map keyT = (withEnd l).map keyT := by
  unfold tokensS
  rw [if_neg (by omega), accJ_lst]
  obtain ⟨o, e1, e2⟩ := back l 0 (1, 1) [] (okL_J ho)
  exact ⟨o, e1, by simpa using e2⟩
end Hw.L
