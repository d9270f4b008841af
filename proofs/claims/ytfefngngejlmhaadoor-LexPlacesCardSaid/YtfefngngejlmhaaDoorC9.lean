/- The library's functions at this program: their numbers. -/
import Derived.Test.YtfefngngejlmhaaDoorProg
import Derived.KernelRfl
import Derived.Shelf.Strconv.Itoa3
import Derived.Test.YtfefngngejlmhaaDoorC8
import Derived.Test.YtfefngngejlmhaaDoorC2
set_option linter.unusedVariables false
set_option linter.unusedSimpArgs false
namespace Hw.L
open Go Go.Proofs Go.Shelf
def laysItoa_ren : Go.Shelf.Ren := ⟨fun | 171 => 39 | 243 => 53 | 246 => 62 | 283 => 67 | 284 => 68 | 285 => 69 | 286 => 70 | 129 => 79 | 317 => 78 | 318 => 80 | 319 => 81 | 320 => 82 | 337 => 86 | 338 => 87 | n => n, fun | 3 => 3 | 9 => 9 | 2 => 2 | 4 => 4 | 171 => 90 | 0 => 0 | 53 => 91 | 37 => 37 | 5 => 5 | 173 => 94 | 212 => 115 | 51 => 87 | 20 => 20 | 213 => 116 | 46 => 74 | 232 => 131 | 233 => 132 | n => n, fun | 17 => 3 | 18 => 6 | 19 => 7 | n => n⟩
theorem laysItoa : Go.Proofs.LaysM.n171 Tryd.prog laysItoa_ren where
  mixed := by kernel_rfl
  f129 := Tryd.func79.trans (congrArg some (by kernel_rfl))
  f171 := Tryd.func39.trans (congrArg some (by kernel_rfl))
  f243 := Tryd.func53.trans (congrArg some (by kernel_rfl))
  f246 := Tryd.func62.trans (congrArg some (by kernel_rfl))
  f283 := Tryd.func67.trans (congrArg some (by kernel_rfl))
  f284 := Tryd.func68.trans (congrArg some (by kernel_rfl))
  f285 := Tryd.func69.trans (congrArg some (by kernel_rfl))
  f286 := Tryd.func70.trans (congrArg some (by kernel_rfl))
  f317 := Tryd.func78.trans (congrArg some (by kernel_rfl))
  f318 := Tryd.func80.trans (congrArg some (by kernel_rfl))
  f319 := Tryd.func81.trans (congrArg some (by kernel_rfl))
  f320 := Tryd.func82.trans (congrArg some (by kernel_rfl))
  f337 := Tryd.func86.trans (congrArg some (by kernel_rfl))
  f338 := Tryd.func87.trans (congrArg some (by kernel_rfl))
  t0 := Tryd.underlying0
  a0 := Tryd.isAgg0
  z0 := Tryd.sizeOf0
  v0 := Tryd.zeroValue0
  t2 := Tryd.underlying2
  a2 := Tryd.isAgg2
  z2 := Tryd.sizeOf2
  v2 := Tryd.zeroValue2
  t3 := Tryd.underlying3
  a3 := Tryd.isAgg3
  z3 := Tryd.sizeOf3
  v3 := Tryd.zeroValue3
  t4 := Tryd.underlying4
  a4 := Tryd.isAgg4
  z4 := Tryd.sizeOf4
  v4 := Tryd.zeroValue4
  t5 := Tryd.underlying5
  a5 := Tryd.isAgg5
  z5 := Tryd.sizeOf5
  v5 := Tryd.zeroValue5
  t9 := Tryd.underlying9
  a9 := Tryd.isAgg9
  z9 := Tryd.sizeOf9
  v9 := Tryd.zeroValue9
  t20 := Tryd.underlying20
  a20 := Tryd.isAgg20
  z20 := Tryd.sizeOf20
  v20 := Tryd.zeroValue20
  t37 := Tryd.underlying37
  a37 := Tryd.isAgg37
  z37 := Tryd.sizeOf37
  v37 := Tryd.zeroValue37
  t46 := Tryd.underlying74
  a46 := Tryd.isAgg74
  z46 := Tryd.sizeOf74
  v46 := Tryd.zeroValue74
  t51 := Tryd.underlying87
  a51 := Tryd.isAgg87
  z51 := Tryd.sizeOf87
  v51 := Tryd.zeroValue87
  t53 := Tryd.underlying91
  a53 := Tryd.isAgg91
  z53 := Tryd.sizeOf91
  v53 := Tryd.zeroValue91
  t171 := Tryd.underlying90
  a171 := Tryd.isAgg90
  z171 := Tryd.sizeOf90
  v171 := Tryd.zeroValue90
  t173 := Tryd.underlying94
  a173 := Tryd.isAgg94
  z173 := Tryd.sizeOf94
  v173 := Tryd.zeroValue94
  t212 := Tryd.underlying115
  a212 := Tryd.isAgg115
  z212 := Tryd.sizeOf115
  v212 := Tryd.zeroValue115
  t213 := Tryd.underlying116
  a213 := Tryd.isAgg116
  z213 := Tryd.sizeOf116
  t232 := Tryd.underlying131
  a232 := Tryd.isAgg131
  z232 := Tryd.sizeOf131
  v232 := Tryd.zeroValue131
  t233 := Tryd.underlying132
  a233 := Tryd.isAgg132
  z233 := Tryd.sizeOf132
  v233 := Tryd.zeroValue132
  g17 := by kernel_rfl
  g18 := by kernel_rfl
  g19 := by kernel_rfl
  i0 := by kernel_rfl
  i2 := by kernel_rfl
  i3 := by kernel_rfl
  i4 := by kernel_rfl
  i5 := by kernel_rfl
  i9 := by kernel_rfl
  i20 := by kernel_rfl
  i37 := by kernel_rfl
  i46 := by kernel_rfl
  i51 := by kernel_rfl
  i53 := by kernel_rfl
  i171 := by kernel_rfl
  i173 := by kernel_rfl
  i212 := by kernel_rfl
  i232 := by kernel_rfl
  i233 := by kernel_rfl
  m17 := by kernel_rfl
  m18 := by kernel_rfl
  m19 := by kernel_rfl
end Hw.L
namespace Hw.L
open Go Go.Proofs Go.Shelf Hw.M

/-! strconv.Itoa -/
theorem itoa_ok (n : Int) (h0 : -9223372036854775808 ≤ n) (h1 : n ≤ 9223372036854775807) : FnOK Tryd.prog 39 [I n] [] (Sr (itoaB n)) [] :=
  @fn_belowL _ _ [.int .i64 n] _ (callOK Tryd.func39 (by kernel_rfl) (by kernel_rfl)) (fun w hw => by
    obtain ⟨el, fz, hb⟩ := hw.2.2 _ (List.mem_cons_self ..)
    have htab : Lib.TabIs Tryd.prog w "internal/strconv.uint64pow10" .u64 Lib.pow10Tab := by
      unfold Lib.TabIs World.var?
      rw [show (Tryd.prog).globalNamed "internal/strconv.uint64pow10" = some 3 by kernel_rfl]
      simp only [Option.bind_some]
      rw [hb]
      rfl
    refine (Any.strconv_Itoa laysItoa n h0 h1 w htab).mono ?_
    rintro e w' ⟨he, k, os, rfl⟩
    exact ⟨he, ⟨rfl, rfl, rfl, by show w.heap.size ≤ (w.heap ++ os).size; simp, fun b hb => by show (w.heap ++ os)[b]? = _; rw [Array.getElem?_append_left hb]⟩⟩) rfl
end Hw.L
namespace Hw.L
open Go Go.Proofs Go.Shelf Hw.M

/-! Join: what it writes -/
def okAt (n i : Nat) (t : Tok) : Bool := validF t && !(decide (t.k = 5) && decide ((i : Int) < (n : Int) - 1))
def okJ (l : List Tok) : Prop := ∀ i t, l[i]? = some t → okAt l.length i t = true
def txtS (t : Tok) : Str := if t.k = 2 then itoaB t.n else t.t
def accJ : List Tok → Nat → Str → Str
  | [], _, a => a
  | t :: r, i, a => if t.k = 5 then a else accJ r (i + 1) (a ++ (if 0 < i then (⟨#[32]⟩ : ByteArray) else (⟨#[]⟩ : ByteArray)) ++ txtS t)
theorem rJoin_no (l : List Tok) (hl : l.length ≤ 1000000) {i : Nat} {t : Tok} (ht : l[i]? = some t) (hb : okAt l.length i t = false) (hf : ∀ j u, j < i → l[j]? = some u → okAt l.length j u = true) : FnOK Tryd.prog 23 [pS (toksP l)] [] (.tup [Sr (⟨#[]⟩ : ByteArray), I 1]) [] := by
  have hil := (List.getElem?_eq_some_iff.1 ht).1
  refine fn_ok T Tryd.func23 (by kernel_rfl) rfl rfl rfl rfl fun C hC => ?_
  repeat' first
    | refine g_go T hC true 400 rfl rfl ?_
    | refine g_cond rfl (fun h => ?_) (fun h => ?_)
    | refine g_end T hC (by kernel_rfl) ?_
    | refine g_splitD (fun h => ?_) (fun h => ?_)
    | refine g_splitG rfl rfl rfl (fun h => ?_) (fun h => ?_)
    | refine g_splitP rfl rfl (fun h => ?_) (fun h => ?_)
  refine g_loop (fun j : Nat => j ≤ i) (fun j => ([(0, pS (toksP l)), (4, I j)], [])) (fun j => l.length - j) hC
    0 (Nat.zero_le _) id ⟨rfl, ⟨rfl, rfl, trivial⟩, trivial, rfl, fun _ _ => rfl⟩ ?_
  intro j hj
  refine g_run' T hC true 200 rfl ?_
  refine g_cond rfl (fun h => ?_) (fun h => ?_)
  rotate_left
  · exfalso; have := of_decide_eq_false h; simp only [List.length_map] at this; omega
  clear h
  obtain ⟨u, hu⟩ := exists_at (l := l) (i := j) (by omega)
  have hV := rValid_ok u
  have hok : j < i → okAt l.length j u = true := fun h => hf j u h hu
  have hno : j = i → okAt l.length j u = false := fun h => by subst h; rw [ht] at hu; obtain rfl := Option.some.inj hu; exact hb
  unfold okAt at hok hno
  have w1 : IntKind.i64.wrap ((l.length : Int) - 1) = (l.length : Int) - 1 := wrap64 (by omega)
  generalize validF u = v at hV hok hno
  repeat' first
    | refine g_go T hC true 400 rfl rfl ?_
    | refine g_cond rfl (fun h => ?_) (fun h => ?_)
    | refine g_end T hC (by kernel_rfl) ?_
    | refine g_splitD (fun h => ?_) (fun h => ?_)
    | refine g_splitG rfl rfl rfl (fun h => ?_) (fun h => ?_)
    | refine g_splitP rfl rfl (fun h => ?_) (fun h => ?_)
    | refine g_idx T hC rfl rfl rfl (Int.natCast_nonneg _) (map_at (by assumption)) rfl rfl ?_
    | refine g_call hC (hV) rfl rfl (LeSs.refl _) rfl rfl rfl ?_
    | refine g_outR ?_
  all_goals (try simp only [List.length_map] at *)
  all_goals (try rw [w1] at *)
  all_goals first
    | exact g_fin ⟨.inl rfl, id, _, rfl, .refl _, trivial, rfl, rfl⟩
    | (have hlt : j < i := by
         rcases Nat.lt_or_ge j i with hlt | hge
         · exact hlt
         · have := hno (by omega); first | (simp_all; done) | (simp_all; omega)
       rw [wrapS (by omega)]
       exact g_round (j + 1) hlt id (by omega) ⟨rfl, ⟨rfl, rfl, trivial⟩, trivial, rfl, fun _ _ => rfl⟩)
/-- A written token: the text before it, and what is behind it. -/
def preJ (i : Nat) (a : Str) : Str := a ++ (if 0 < i then (⟨#[32]⟩ : ByteArray) else (⟨#[]⟩ : ByteArray))
theorem app_nil (a : Str) : a ++ ((⟨#[]⟩ : ByteArray) : Str) = a := by
  apply ByteArray.ext
  rw [ByteArray.data_append]
  simp
theorem accJ_cons (t : Tok) (r : List Tok) (i : Nat) (a : Str) : accJ (t :: r) i a = if t.k = 5 then a else accJ r (i + 1) (a ++ (if 0 < i then (⟨#[32]⟩ : ByteArray) else (⟨#[]⟩ : ByteArray)) ++ txtS t) := rfl
theorem accJ_size : ∀ (l : List Tok) (i : Nat) (a : Str), a.size ≤ (accJ l i a).size
  | [], _, a => Nat.le_refl _
  | t :: r, i, a => by
    unfold accJ
    split
    · exact Nat.le_refl _
    · refine Nat.le_trans ?_ (accJ_size r (i + 1) _)
      rw [size_app, size_app]; omega
theorem rJoin_yes (l : List Tok) (hl : l.length ≤ 1000000) (hok : okJ l) (hsz : (accJ l 0 (⟨#[]⟩ : ByteArray)).size ≤ 65536) : FnOK Tryd.prog 23 [pS (toksP l)] [] (.tup [Sr (accJ l 0 (⟨#[]⟩ : ByteArray)), I 0]) [] := by
  refine fn_ok T Tryd.func23 (by kernel_rfl) rfl rfl rfl rfl fun C hC => ?_
  repeat' first
    | refine g_go T hC true 400 rfl rfl ?_
    | refine g_cond rfl (fun h => ?_) (fun h => ?_)
    | refine g_end T hC (by kernel_rfl) ?_
    | refine g_splitD (fun h => ?_) (fun h => ?_)
    | refine g_splitG rfl rfl rfl (fun h => ?_) (fun h => ?_)
    | refine g_splitP rfl rfl (fun h => ?_) (fun h => ?_)
  refine g_loop (fun j : Nat => j ≤ l.length) (fun j => ([(0, pS (toksP l)), (4, I j)], [])) (fun j => l.length - j) hC
    0 (Nat.zero_le _) id ⟨rfl, ⟨rfl, rfl, trivial⟩, trivial, rfl, fun _ _ => rfl⟩ ?_
  intro j hj
  refine g_run' T hC true 200 rfl ?_
  refine g_cond rfl (fun h => ?_) (fun h => ?_)
  · have hlt : j < l.length := by have := of_decide_eq_true h; simp only [List.length_map] at this; omega
    clear h
    obtain ⟨u, hu⟩ := exists_at hlt
    have hV := rValid_ok u
    have hok' := hok j u hu
    have w1 : IntKind.i64.wrap ((l.length : Int) - 1) = (l.length : Int) - 1 := wrap64 (by omega)
    unfold okAt at hok'
    generalize validF u = v at hV hok'
    repeat' first
      | refine g_go T hC true 400 rfl rfl ?_
      | refine g_cond rfl (fun h => ?_) (fun h => ?_)
      | refine g_end T hC (by kernel_rfl) ?_
      | refine g_splitD (fun h => ?_) (fun h => ?_)
      | refine g_splitG rfl rfl rfl (fun h => ?_) (fun h => ?_)
      | refine g_splitP rfl rfl (fun h => ?_) (fun h => ?_)
      | refine g_idx T hC rfl rfl rfl (Int.natCast_nonneg _) (map_at (by assumption)) rfl rfl ?_
      | refine g_call hC (hV) rfl rfl (LeSs.refl _) rfl rfl rfl ?_
      | refine g_outR ?_
    all_goals (try simp only [List.length_map] at *)
    all_goals (try rw [w1] at *)
    all_goals first
      | (rw [wrapS (by omega)]
         exact g_round (j + 1) hlt id (by omega) ⟨rfl, ⟨rfl, rfl, trivial⟩, trivial, rfl, fun _ _ => rfl⟩)
      | (exfalso; simp_all; done)
      | (exfalso; simp_all; omega)
  · repeat' first
      | refine g_go T hC true 400 rfl rfl ?_
      | refine g_cond rfl (fun h => ?_) (fun h => ?_)
      | refine g_end T hC (by kernel_rfl) ?_
      | refine g_splitD (fun h => ?_) (fun h => ?_)
      | refine g_splitG rfl rfl rfl (fun h => ?_) (fun h => ?_)
      | refine g_splitP rfl rfl (fun h => ?_) (fun h => ?_)
      | refine g_outE ?_
    refine g_adopt hC rfl 101 1 rfl [(5, .one (.ar 101))] ⟨⟨_, rfl, AdS.nil⟩, trivial⟩ [] trivial ?_
    refine g_loop (fun q : Nat × Str => q.1 ≤ l.length ∧ accJ (l.drop q.1) q.1 q.2 = accJ l 0 (⟨#[]⟩ : ByteArray)) (fun q => ([(0, pS (toksP l)), (5, .one (.ar 101)), (6, I q.1)], [(101, some (Res.arr 1 (bytesR q.2)))])) (fun q => l.length - q.1) hC
      (0, (⟨#[]⟩ : ByteArray)) ⟨Nat.zero_le _, rfl⟩ id ⟨rfl, ⟨rfl, rfl, rfl, trivial⟩, ⟨rfl, trivial⟩, rfl, fun _ _ => rfl⟩ ?_
    clear h hj
    rintro ⟨j, a⟩ ⟨hj, ha⟩
    simp only at hj ha
    refine g_run' T hC true 200 rfl ?_
    refine g_cond rfl (fun h => ?_) (fun h => ?_)
    rotate_left
    · have hge : ¬ j < l.length := by have := of_decide_eq_false h; simp only [List.length_map] at this; omega
      rw [List.drop_of_length_le (by omega)] at ha
      rw [← ha]
      repeat' first
        | refine g_go T hC true 400 rfl rfl ?_
        | refine g_cond rfl (fun h => ?_) (fun h => ?_)
        | refine g_end T hC (by kernel_rfl) ?_
        | refine g_splitD (fun h => ?_) (fun h => ?_)
        | refine g_splitG rfl rfl rfl (fun h => ?_) (fun h => ?_)
        | refine g_splitP rfl rfl (fun h => ?_) (fun h => ?_)
        | refine g_outE ?_
        | (refine g_b2s (s := a) (e := 5) hC rfl rfl (by kernel_rfl) (by kernel_rfl) (by kernel_rfl) rfl rfl ?_)
      exact g_fin ⟨.inl rfl, id, _, rfl, .refl _, trivial, rfl, rfl⟩
    have hlt : j < l.length := by have := of_decide_eq_true h; simp only [List.length_map] at this; omega
    clear h
    obtain ⟨u, hu⟩ := exists_at hlt
    rw [drop_at hu, accJ_cons] at ha
    by_cases h5 : u.k = 5
    · rw [if_pos h5] at ha
      rw [← ha]
      repeat' first
        | refine g_go T hC true 400 rfl rfl ?_
        | (exfalso; exact absurd h5 (of_decide_eq_false h))
        | refine g_cond rfl (fun h => ?_) (fun h => ?_)
        | refine g_end T hC (by kernel_rfl) ?_
        | refine g_splitD (fun h => ?_) (fun h => ?_)
        | refine g_splitG rfl rfl rfl (fun h => ?_) (fun h => ?_)
        | refine g_splitP rfl rfl (fun h => ?_) (fun h => ?_)
        | refine g_idx T hC rfl rfl rfl (Int.natCast_nonneg _) (map_at (by assumption)) rfl rfl ?_
        | refine g_outE ?_
        | (refine g_b2s (s := a) (e := 5) hC rfl rfl (by kernel_rfl) (by kernel_rfl) (by kernel_rfl) rfl rfl ?_)
      exact g_fin ⟨.inl rfl, id, _, rfl, .refl _, trivial, rfl, rfl⟩
    rw [if_neg h5] at ha
    have hz := accJ_size (l.drop (j + 1)) (j + 1) (a ++ (if 0 < j then (⟨#[32]⟩ : ByteArray) else (⟨#[]⟩ : ByteArray)) ++ txtS u)
    rw [ha, size_app, size_app] at hz
    unfold txtS at hz ha
    have hv := hok j u hu
    unfold okAt validF at hv
    have hb1 : ((⟨#[32]⟩ : ByteArray) : Str).size = 1 := rfl
    have hb0 : ((⟨#[]⟩ : ByteArray) : Str).size = 0 := rfl
    by_cases hk2 : u.k = 2
    · rw [if_pos hk2] at hz ha
      have hn : 0 ≤ u.n ∧ u.n ≤ 1099511627776 := by
        rw [hk2] at hv
        simp at hv
        omega
      have hD := dec01_ok (u.n.natAbs + 1) u.n (by omega) hn.1 (by omega)
      clear hv
      by_cases hj0 : 0 < j
      · rw [if_pos hj0] at hz ha
        rw [hb1] at hz
        repeat' first
          | refine g_go T hC true 400 rfl rfl ?_
          | (exfalso; have h2 := of_decide_eq_false h; omega)
          | (exfalso; have h2 := of_decide_eq_true h; omega)
          | refine g_cond rfl (fun h => ?_) (fun h => ?_)
          | refine g_end T hC (by kernel_rfl) ?_
          | refine g_splitD (fun h => ?_) (fun h => ?_)
          | refine g_splitG rfl rfl rfl (fun h => ?_) (fun h => ?_)
          | refine g_splitP rfl rfl (fun h => ?_) (fun h => ?_)
          | refine g_idx T hC rfl rfl rfl (Int.natCast_nonneg _) (map_at (by assumption)) rfl rfl ?_
          | refine g_lit T hC rfl rfl rfl rfl rfl rfl rfl rfl rfl ?_
          | (refine g_append T 103 hC (rows := bytesR (a)) (rows2 := bytesR ((⟨#[32]⟩ : ByteArray))) (rows3 := bytesR (a ++ (⟨#[32]⟩ : ByteArray))) (bytes := 1) rfl rfl rfl rfl (SrcS.sl (T.es_ok _ _ rfl)) (bytesR_append _ _).symm rfl rfl rfl (by kernel_rfl) (by rw [bytesR_len, bytesR_len]; (try rw [size_app]); omega) (by rw [bytesR_len, bytesR_len]; (try rw [size_app]); omega) rfl rfl rfl ?_)
          | refine g_call hC (hD) rfl rfl (LeSs.refl _) rfl rfl rfl ?_
          | (refine g_append T 102 hC (rows := bytesR ((a ++ (⟨#[32]⟩ : ByteArray)))) (rows2 := bytesR (itoaB u.n)) (rows3 := bytesR ((a ++ (⟨#[32]⟩ : ByteArray)) ++ itoaB u.n)) (bytes := 1) rfl rfl rfl rfl (SrcS.str (by kernel_rfl)) (bytesR_append _ _).symm rfl rfl rfl (by kernel_rfl) (by rw [bytesR_len, bytesR_len]; (try rw [size_app]); omega) (by rw [bytesR_len, bytesR_len]; (try rw [size_app]); omega) rfl rfl rfl ?_)
        all_goals first
          | (exfalso; have h2 := of_decide_eq_true h; rw [bytesR_len, size_app] at h2; (try rw [size_app] at h2); omega)
          | (rw [wrapS (by omega)]
             exact g_round (j + 1, (a ++ (⟨#[32]⟩ : ByteArray)) ++ itoaB u.n) ⟨by simp only; omega, by simpa using ha⟩ (mvU 101 102) (by simp only; omega) ⟨rfl, ⟨rfl, rfl, rfl, trivial⟩, ⟨rfl, trivial⟩, rfl, fun i hi => mvU_low (by omega) hi⟩)
      · rw [if_neg hj0] at hz ha
        rw [app_nil a] at ha
        repeat' first
          | refine g_go T hC true 400 rfl rfl ?_
          | (exfalso; have h2 := of_decide_eq_false h; omega)
          | (exfalso; have h2 := of_decide_eq_true h; omega)
          | refine g_cond rfl (fun h => ?_) (fun h => ?_)
          | refine g_end T hC (by kernel_rfl) ?_
          | refine g_splitD (fun h => ?_) (fun h => ?_)
          | refine g_splitG rfl rfl rfl (fun h => ?_) (fun h => ?_)
          | refine g_splitP rfl rfl (fun h => ?_) (fun h => ?_)
          | refine g_idx T hC rfl rfl rfl (Int.natCast_nonneg _) (map_at (by assumption)) rfl rfl ?_
          | refine g_lit T hC rfl rfl rfl rfl rfl rfl rfl rfl rfl ?_
          | refine g_call hC (hD) rfl rfl (LeSs.refl _) rfl rfl rfl ?_
          | (refine g_append T 102 hC (rows := bytesR (a)) (rows2 := bytesR (itoaB u.n)) (rows3 := bytesR (a ++ itoaB u.n)) (bytes := 1) rfl rfl rfl rfl (SrcS.str (by kernel_rfl)) (bytesR_append _ _).symm rfl rfl rfl (by kernel_rfl) (by rw [bytesR_len, bytesR_len]; (try rw [size_app]); omega) (by rw [bytesR_len, bytesR_len]; (try rw [size_app]); omega) rfl rfl rfl ?_)
        all_goals first
          | (exfalso; have h2 := of_decide_eq_true h; rw [bytesR_len, size_app] at h2; (try rw [size_app] at h2); omega)
          | (rw [wrapS (by omega)]
             exact g_round (j + 1, a ++ itoaB u.n) ⟨by simp only; omega, by simpa using ha⟩ (mvU 101 102) (by simp only; omega) ⟨rfl, ⟨rfl, rfl, rfl, trivial⟩, ⟨rfl, trivial⟩, rfl, fun i hi => mvU_low (by omega) hi⟩)
    · rw [if_neg hk2] at hz ha
      clear hv
      by_cases hj0 : 0 < j
      · rw [if_pos hj0] at hz ha
        rw [hb1] at hz
        repeat' first
          | refine g_go T hC true 400 rfl rfl ?_
          | (exfalso; have h2 := of_decide_eq_false h; omega)
          | (exfalso; have h2 := of_decide_eq_true h; omega)
          | refine g_cond rfl (fun h => ?_) (fun h => ?_)
          | refine g_end T hC (by kernel_rfl) ?_
          | refine g_splitD (fun h => ?_) (fun h => ?_)
          | refine g_splitG rfl rfl rfl (fun h => ?_) (fun h => ?_)
          | refine g_splitP rfl rfl (fun h => ?_) (fun h => ?_)
          | refine g_idx T hC rfl rfl rfl (Int.natCast_nonneg _) (map_at (by assumption)) rfl rfl ?_
          | refine g_lit T hC rfl rfl rfl rfl rfl rfl rfl rfl rfl ?_
          | (refine g_append T 103 hC (rows := bytesR (a)) (rows2 := bytesR ((⟨#[32]⟩ : ByteArray))) (rows3 := bytesR (a ++ (⟨#[32]⟩ : ByteArray))) (bytes := 1) rfl rfl rfl rfl (SrcS.sl (T.es_ok _ _ rfl)) (bytesR_append _ _).symm rfl rfl rfl (by kernel_rfl) (by rw [bytesR_len, bytesR_len]; (try rw [size_app]); omega) (by rw [bytesR_len, bytesR_len]; (try rw [size_app]); omega) rfl rfl rfl ?_)
          | (refine g_append T 102 hC (rows := bytesR ((a ++ (⟨#[32]⟩ : ByteArray)))) (rows2 := bytesR (u.t)) (rows3 := bytesR ((a ++ (⟨#[32]⟩ : ByteArray)) ++ u.t)) (bytes := 1) rfl rfl rfl rfl (SrcS.str (by kernel_rfl)) (bytesR_append _ _).symm rfl rfl rfl (by kernel_rfl) (by rw [bytesR_len, bytesR_len]; (try rw [size_app]); omega) (by rw [bytesR_len, bytesR_len]; (try rw [size_app]); omega) rfl rfl rfl ?_)
        all_goals first
          | (exfalso; have h2 := of_decide_eq_true h; rw [bytesR_len, size_app] at h2; (try rw [size_app] at h2); omega)
          | (rw [wrapS (by omega)]
             exact g_round (j + 1, (a ++ (⟨#[32]⟩ : ByteArray)) ++ u.t) ⟨by simp only; omega, by simpa using ha⟩ (mvU 101 102) (by simp only; omega) ⟨rfl, ⟨rfl, rfl, rfl, trivial⟩, ⟨rfl, trivial⟩, rfl, fun i hi => mvU_low (by omega) hi⟩)
      · rw [if_neg hj0] at hz ha
        rw [app_nil a] at ha
        repeat' first
          | refine g_go T hC true 400 rfl rfl ?_
          | (exfalso; have h2 := of_decide_eq_false h; omega)
          | (exfalso; have h2 := of_decide_eq_true h; omega)
          | refine g_cond rfl (fun h => ?_) (fun h => ?_)
          | refine g_end T hC (by kernel_rfl) ?_
          | refine g_splitD (fun h => ?_) (fun h => ?_)
          | refine g_splitG rfl rfl rfl (fun h => ?_) (fun h => ?_)
          | refine g_splitP rfl rfl (fun h => ?_) (fun h => ?_)
          | refine g_idx T hC rfl rfl rfl (Int.natCast_nonneg _) (map_at (by assumption)) rfl rfl ?_
          | refine g_lit T hC rfl rfl rfl rfl rfl rfl rfl rfl rfl ?_
          | (refine g_append T 102 hC (rows := bytesR (a)) (rows2 := bytesR (u.t)) (rows3 := bytesR (a ++ u.t)) (bytes := 1) rfl rfl rfl rfl (SrcS.str (by kernel_rfl)) (bytesR_append _ _).symm rfl rfl rfl (by kernel_rfl) (by rw [bytesR_len, bytesR_len]; (try rw [size_app]); omega) (by rw [bytesR_len, bytesR_len]; (try rw [size_app]); omega) rfl rfl rfl ?_)
        all_goals first
          | (exfalso; have h2 := of_decide_eq_true h; rw [bytesR_len, size_app] at h2; (try rw [size_app] at h2); omega)
          | (rw [wrapS (by omega)]
             exact g_round (j + 1, a ++ u.t) ⟨by simp only; omega, by simpa using ha⟩ (mvU 101 102) (by simp only; omega) ⟨rfl, ⟨rfl, rfl, rfl, trivial⟩, ⟨rfl, trivial⟩, rfl, fun i hi => mvU_low (by omega) hi⟩)
end Hw.L
