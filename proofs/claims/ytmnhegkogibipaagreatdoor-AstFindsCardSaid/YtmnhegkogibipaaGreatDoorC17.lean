/- The engine and the contracts. -/
import Derived.Test.YtmnhegkogibipaaGreatDoorC16
import Derived.Test.YtmnhegkogibipaaGreatDoorC4
set_option linter.unusedVariables false
set_option linter.unusedSimpArgs false
namespace Hw.Z
open Go Go.Proofs Hw.M

/-! AstFinds: the names of calls -/
mutual
def clsX : Ex → List (Str × PV) → List (Str × PV)
  | .mk op _ s l, m => clsXs l (if op = 7 then putK m s (.k (.bool true)) else m)
def clsXs : List Ex → List (Str × PV) → List (Str × PV)
  | [], m => m
  | x :: r, m => clsXs r (clsX x m)
end
mutual
def clsS : Sm → List (Str × PV) → List (Str × PV)
  | .mk _ _ e l els, m => clsSs els (clsSs l (clsXs e m))
def clsSs : List Sm → List (Str × PV) → List (Str × PV)
  | [], m => m
  | x :: r, m => clsSs r (clsS x m)
end
theorem clsX_eq (x : Ex) (m : List (Str × PV)) : clsX x m = clsXs x.l (if x.op = 7 then putK m x.s (.k (.bool true)) else m) := by cases x; simp only [clsX, Ex.l, Ex.op, Ex.s]; rfl
theorem clsS_eq (x : Sm) (m : List (Str × PV)) : clsS x m = clsSs x.els (clsSs x.l (clsXs x.e m)) := by cases x; simp only [clsS, Sm.l, Sm.els, Sm.e]
theorem calls_ok : ∀ (k : Nat) (l : List Ex) (m : List (Str × PV)), SizeOf.sizeOf l ≤ k → FnOK Tryz.prog 177 [.one (.mp 0), pS (exprsP l)] [(0, .map (encE strKey m))] (.tup []) [(0, .map (encE strKey (clsXs l m)))] := by
  intro k
  induction k with
  | zero => intro l m h; cases l <;> simp at h
  | succ k ih =>
  intro l m hk
  generalize hR : clsXs l m = RES
  refine fn_ok T Tryz.func177 (by kernel_rfl) rfl rfl rfl rfl fun C hC => ?_
  refine g_len 1 rfl fun hlen => ?_
  rw [List.length_map] at hlen
  repeat' first
    | refine g_go T hC true 400 rfl rfl ?_
    | refine g_cond rfl (fun h => ?_) (fun h => ?_)
    | refine g_end T hC (by kernel_rfl) ?_
    | refine g_splitD (fun h => ?_) (fun h => ?_)
    | refine g_splitG rfl rfl rfl (fun h => ?_) (fun h => ?_)
    | refine g_splitP rfl rfl (fun h => ?_) (fun h => ?_)
  rw [List.length_map]
  refine g_loop (fun q : Nat × List (Str × PV) => q.1 ≤ l.length ∧ clsXs (l.drop q.1) q.2 = RES) (fun q => ([(0, .one (.mp 0)), (6, pS (exprsP l)), (7, I l.length), (8, I q.1)], [(0, some (Res.map (encE strKey q.2)))])) (fun q => l.length - q.1) hC
    (0, m) ⟨Nat.zero_le _, hR⟩ id ⟨rfl, ⟨rfl, rfl, rfl, rfl, trivial⟩, ⟨rfl, trivial⟩, rfl, fun _ _ => rfl⟩ ?_
  rintro ⟨i, m1⟩ ⟨hi, hn⟩
  simp only at hi hn
  refine g_run' T hC true 200 rfl ?_
  refine g_cond rfl (fun h => ?_) (fun h => ?_)
  rotate_left
  · have hge : ¬ i < l.length := by simpa using h
    rw [List.drop_eq_nil_of_le (by omega)] at hn
    simp only [clsXs] at hn
    subst hn
    repeat' first
      | refine g_go T hC true 400 rfl rfl ?_
      | refine g_cond rfl (fun h => ?_) (fun h => ?_)
      | refine g_end T hC (by kernel_rfl) ?_
      | refine g_splitD (fun h => ?_) (fun h => ?_)
      | refine g_splitG rfl rfl rfl (fun h => ?_) (fun h => ?_)
      | refine g_splitP rfl rfl (fun h => ?_) (fun h => ?_)
      | refine g_outE ?_
    exact g_fin ⟨.inr rfl, id, _, rfl, .refl _, ⟨rfl, trivial⟩, rfl, rfl⟩
  have hlt : i < l.length := by simpa using h
  clear h
  obtain ⟨x, hx⟩ := exists_at hlt
  rw [drop_at hx] at hn
  simp only [clsXs] at hn
  have hxm := List.mem_of_getElem? hx
  have hsz := List.sizeOf_lt_of_mem hxm
  have hC1 := ih x.l (if x.op = 7 then putK m1 x.s (.k (.bool true)) else m1) (by
    have : SizeOf.sizeOf x.l < SizeOf.sizeOf x := by cases x; simp only [Ex.l, Ex.mk.sizeOf_spec]; omega
    omega)
  rw [← clsX_eq] at hC1
  by_cases h7 : x.op = 7
  · rw [if_pos h7] at hC1
    repeat' first
      | refine g_go T hC true 400 rfl rfl ?_
      | refine g_cond rfl (fun h => ?_) (fun h => ?_)
      | refine g_end T hC (by kernel_rfl) ?_
      | refine g_splitD (fun h => ?_) (fun h => ?_)
      | refine g_splitG rfl rfl rfl (fun h => ?_) (fun h => ?_)
      | refine g_splitP rfl rfl (fun h => ?_) (fun h => ?_)
      | refine g_idx T hC rfl rfl rfl (Int.natCast_nonneg _) (map_atE hx) rfl rfl ?_
      | (refine g_mapSet strKey hC (kt := 9) (et := 4) (l := m1) (l' := putK m1 x.s (.k (.bool true))) rfl rfl rfl rfl (by kernel_rfl) (by kernel_rfl) rfl rfl ?_)
      | refine g_callR hC (hC1) (nm [0]) rfl rfl (LeSs.refl _) rfl rfl rfl rfl rfl rfl rfl rfl ?_
    all_goals first
      | (exfalso; simp_all; done)
      | (rw [wrapS (by omega)]
         exact g_round (i + 1, clsX x m1) ⟨by simp only; omega, hn⟩ id (by simp only; omega) ⟨rfl, ⟨rfl, rfl, rfl, rfl, trivial⟩, ⟨rfl, trivial⟩, rfl, fun _ _ => rfl⟩)
  · rw [if_neg h7] at hC1
    repeat' first
      | refine g_go T hC true 400 rfl rfl ?_
      | refine g_cond rfl (fun h => ?_) (fun h => ?_)
      | refine g_end T hC (by kernel_rfl) ?_
      | refine g_splitD (fun h => ?_) (fun h => ?_)
      | refine g_splitG rfl rfl rfl (fun h => ?_) (fun h => ?_)
      | refine g_splitP rfl rfl (fun h => ?_) (fun h => ?_)
      | refine g_idx T hC rfl rfl rfl (Int.natCast_nonneg _) (map_atE hx) rfl rfl ?_
      | (refine g_mapSet strKey hC (kt := 9) (et := 4) (l := m1) (l' := putK m1 x.s (.k (.bool true))) rfl rfl rfl rfl (by kernel_rfl) (by kernel_rfl) rfl rfl ?_)
      | refine g_callR hC (hC1) (nm [0]) rfl rfl (LeSs.refl _) rfl rfl rfl rfl rfl rfl rfl rfl ?_
    all_goals first
      | (rw [wrapS (by omega)]
         exact g_round (i + 1, clsX x m1) ⟨by simp only; omega, hn⟩ id (by simp only; omega) ⟨rfl, ⟨rfl, rfl, rfl, rfl, trivial⟩, ⟨rfl, trivial⟩, rfl, fun _ _ => rfl⟩)
      | (exfalso; simp_all; done)
theorem stmtCalls_ok : ∀ (k : Nat) (l : List Sm) (m : List (Str × PV)), SizeOf.sizeOf l ≤ k → FnOK Tryz.prog 120 [.one (.mp 0), pS (stmtsP l)] [(0, .map (encE strKey m))] (.tup []) [(0, .map (encE strKey (clsSs l m)))] := by
  intro k
  induction k with
  | zero => intro l m h; cases l <;> simp at h
  | succ k ih =>
  intro l m hk
  generalize hR : clsSs l m = RES
  refine fn_ok T Tryz.func120 (by kernel_rfl) rfl rfl rfl rfl fun C hC => ?_
  refine g_len 1 rfl fun hlen => ?_
  rw [List.length_map] at hlen
  repeat' first
    | refine g_go T hC true 400 rfl rfl ?_
    | refine g_cond rfl (fun h => ?_) (fun h => ?_)
    | refine g_end T hC (by kernel_rfl) ?_
    | refine g_splitD (fun h => ?_) (fun h => ?_)
    | refine g_splitG rfl rfl rfl (fun h => ?_) (fun h => ?_)
    | refine g_splitP rfl rfl (fun h => ?_) (fun h => ?_)
  rw [List.length_map]
  refine g_loop (fun q : Nat × List (Str × PV) => q.1 ≤ l.length ∧ clsSs (l.drop q.1) q.2 = RES) (fun q => ([(0, .one (.mp 0)), (6, pS (stmtsP l)), (7, I l.length), (8, I q.1)], [(0, some (Res.map (encE strKey q.2)))])) (fun q => l.length - q.1) hC
    (0, m) ⟨Nat.zero_le _, hR⟩ id ⟨rfl, ⟨rfl, rfl, rfl, rfl, trivial⟩, ⟨rfl, trivial⟩, rfl, fun _ _ => rfl⟩ ?_
  rintro ⟨i, m1⟩ ⟨hi, hn⟩
  simp only at hi hn
  refine g_run' T hC true 200 rfl ?_
  refine g_cond rfl (fun h => ?_) (fun h => ?_)
  rotate_left
  · have hge : ¬ i < l.length := by simpa using h
    rw [List.drop_eq_nil_of_le (by omega)] at hn
    simp only [clsSs] at hn
    subst hn
    repeat' first
      | refine g_go T hC true 400 rfl rfl ?_
      | refine g_cond rfl (fun h => ?_) (fun h => ?_)
      | refine g_end T hC (by kernel_rfl) ?_
      | refine g_splitD (fun h => ?_) (fun h => ?_)
      | refine g_splitG rfl rfl rfl (fun h => ?_) (fun h => ?_)
      | refine g_splitP rfl rfl (fun h => ?_) (fun h => ?_)
      | refine g_outE ?_
    exact g_fin ⟨.inr rfl, id, _, rfl, .refl _, ⟨rfl, trivial⟩, rfl, rfl⟩
  have hlt : i < l.length := by simpa using h
  clear h
  obtain ⟨x, hx⟩ := exists_at hlt
  rw [drop_at hx] at hn
  simp only [clsSs, clsS_eq] at hn
  have hxm := List.mem_of_getElem? hx
  have hsz := List.sizeOf_lt_of_mem hxm
  have hE := calls_ok _ x.e m1 (Nat.le_refl _)
  have hL := ih x.l (clsXs x.e m1) (by
    have : SizeOf.sizeOf x.l < SizeOf.sizeOf x := by cases x; simp only [Sm.l, Sm.mk.sizeOf_spec]; omega
    omega)
  have hS := ih x.els (clsSs x.l (clsXs x.e m1)) (by
    have : SizeOf.sizeOf x.els < SizeOf.sizeOf x := by cases x; simp only [Sm.els, Sm.mk.sizeOf_spec]; omega
    omega)
  repeat' first
    | refine g_go T hC true 400 rfl rfl ?_
    | refine g_cond rfl (fun h => ?_) (fun h => ?_)
    | refine g_end T hC (by kernel_rfl) ?_
    | refine g_splitD (fun h => ?_) (fun h => ?_)
    | refine g_splitG rfl rfl rfl (fun h => ?_) (fun h => ?_)
    | refine g_splitP rfl rfl (fun h => ?_) (fun h => ?_)
    | refine g_idx T hC rfl rfl rfl (Int.natCast_nonneg _) (map_atS hx) rfl rfl ?_
    | refine g_callR hC (hE) (nm [0]) rfl rfl (LeSs.refl _) rfl rfl rfl rfl rfl rfl rfl rfl ?_
    | refine g_callR hC (hL) (nm [0]) rfl rfl (LeSs.refl _) rfl rfl rfl rfl rfl rfl rfl rfl ?_
    | refine g_callR hC (hS) (nm [0]) rfl rfl (LeSs.refl _) rfl rfl rfl rfl rfl rfl rfl rfl ?_
  rw [wrapS (by omega)]
  exact g_round (i + 1, clsSs x.els (clsSs x.l (clsXs x.e m1))) ⟨by simp only; omega, hn⟩ id (by simp only; omega) ⟨rfl, ⟨rfl, rfl, rfl, rfl, trivial⟩, ⟨rfl, trivial⟩, rfl, fun _ _ => rfl⟩
end Hw.Z
namespace Hw.Z
open Go Go.Proofs Hw.M

/-! AstFinds: the reference's names of calls -/
def insF (s : Str) : List Str → List Str × Bool → List Str × Bool
  | [], q => q
  | x :: r, q => insF s r (if q.2 = false ∧ lessS s x = true then (q.1 ++ [s, x], true) else (q.1 ++ [x], q.2))
def insE (s : Str) (q : List Str × Bool) : List Str := if q.2 = true then q.1 else q.1 ++ [s]
def insS (l : List Str) (s : Str) : List Str := if (l.any fun x => decide (x = s)) = true then l else insE s (insF s l ([], false))
theorem insE_len (s : Str) (q : List Str × Bool) : (insE s q).length ≤ q.1.length + 1 := by
  unfold insE
  by_cases h : q.2 = true
  · rw [if_pos h]; omega
  · rw [if_neg h, List.length_append, List.length_singleton]; omega
theorem insF_true (s : Str) : ∀ (r o : List Str), insF s r (o, true) = (o ++ r, true)
  | [], o => by simp [insF]
  | y :: t, o => by
    simp only [insF]
    rw [if_neg (by simp), insF_true s t]; simp
theorem insF_len (s : Str) : ∀ (l : List Str) (q : List Str × Bool), (insE s (insF s l q)).length ≤ q.1.length + l.length + 1
  | [], q => by simp only [insF, List.length_nil]; exact insE_len s q
  | x :: r, q => by
    simp only [insF]
    by_cases h : q.2 = false ∧ lessS s x = true
    · rw [if_pos h, insF_true]
      simp [insE]; omega
    · rw [if_neg h]
      have h1 := insF_len s r (q.1 ++ [x], q.2)
      have h2 : (q.1 ++ [x], q.2).1.length = q.1.length + 1 := by simp
      rw [h2] at h1
      rw [List.length_cons]; omega
theorem insS_len (l : List Str) (s : Str) : (insS l s).length ≤ l.length + 1 := by
  unfold insS; split
  · omega
  · have := insF_len s l ([], false); simp only [List.length_nil] at this; omega
theorem strR_app (a b : List Str) : a.map strR ++ b.map strR = (a ++ b).map strR := by rw [List.map_append]
theorem insert_ok (l : List Str) (s : Str) (hl : l.length ≤ 1000000) : FnOK Tryz.prog 181 [pS (strsP l), Sr s] [] (pS (strsP (insS l s))) [] := by
  generalize hR : insS l s = RES
  refine fn_ok T Tryz.func181 (by kernel_rfl) rfl rfl rfl rfl fun C hC => ?_
  repeat' first
    | refine g_go T hC true 400 rfl rfl ?_
    | refine g_cond rfl (fun h => ?_) (fun h => ?_)
    | refine g_end T hC (by kernel_rfl) ?_
    | refine g_splitD (fun h => ?_) (fun h => ?_)
    | refine g_splitG rfl rfl rfl (fun h => ?_) (fun h => ?_)
    | refine g_splitP rfl rfl (fun h => ?_) (fun h => ?_)
  refine g_adopt hC rfl 101 1 rfl [(5, .one (.ar 101))] ⟨⟨_, rfl, AdS.nil⟩, trivial⟩ [] trivial ?_
  refine g_loop (fun q : Nat × (List Str × Bool) => q.1 ≤ l.length ∧ (l.take q.1).any (fun x => decide (x = s)) = false ∧ q.2.1.length ≤ q.1 + q.2.2.toNat ∧ insF s (l.drop q.1) q.2 = insF s l ([], false)) (fun q => ([(0, pS (strsP l)), (1, Sr s), (5, .one (.ar 101)), (6, Bo q.2.2), (7, I q.1)], [(101, some (Res.arr 1 (q.2.1.map strR)))])) (fun q => l.length - q.1) hC
    (0, ([], false)) ⟨Nat.zero_le _, by simp, by simp, rfl⟩ id ⟨rfl, ⟨rfl, rfl, rfl, rfl, rfl, trivial⟩, ⟨rfl, trivial⟩, rfl, fun _ _ => rfl⟩ ?_
  rintro ⟨i, out, done⟩ ⟨hi, hn, hol, hf⟩
  simp only at hi hn hol hf
  have hom : (out.map strR).length = out.length := List.length_map _
  have hol1 : out.length ≤ i + 1 := by cases done <;> simp at hol <;> omega
  refine g_run' T hC true 200 rfl ?_
  refine g_cond rfl (fun h => ?_) (fun h => ?_)
  · have hlt : i < l.length := by simpa using h
    clear h
    obtain ⟨x, hx⟩ := exists_at hlt
    rw [drop_at hx] at hf
    simp only [insF] at hf
    have hr1 : out.map strR ++ [strR x] = (out ++ [x]).map strR := by rw [List.map_append]; rfl
    have hr2 : out.map strR ++ [strR s] = (out ++ [s]).map strR := by rw [List.map_append]; rfl
    have hr3 : (out ++ [s]).map strR ++ [strR x] = (out ++ [s, x]).map strR := by rw [show out ++ [s, x] = (out ++ [s]) ++ [x] by simp, List.map_append (l₁ := out ++ [s])]; rfl
    have hom2 : ((out ++ [s]).map strR).length = out.length + 1 := by simp
    have hret : decide (x = s) = true → RES = l := fun e => by
      rw [← hR]; unfold insS
      rw [if_pos]
      exact List.any_eq_true.2 ⟨x, List.mem_of_getElem? hx, e⟩
    have hnx : decide (x = s) = false → ((l.take (i + 1)).any fun x => decide (x = s)) = false := fun e => by rw [any_take hx, hn, Bool.false_or]; exact e
    cases done with
    | true =>
      rw [if_neg (by simp)] at hf
      repeat' first
        | refine g_go T hC true 400 rfl rfl ?_
        | refine g_cond rfl (fun h => ?_) (fun h => ?_)
        | refine g_end T hC (by kernel_rfl) ?_
        | refine g_splitD (fun h => ?_) (fun h => ?_)
        | refine g_splitG rfl rfl rfl (fun h => ?_) (fun h => ?_)
        | refine g_splitP rfl rfl (fun h => ?_) (fun h => ?_)
        | refine g_idx T hC rfl rfl rfl (Int.natCast_nonneg _) (map_at (by assumption)) rfl rfl ?_
        | refine g_lit T hC rfl rfl rfl rfl rfl rfl rfl rfl rfl ?_
        | (refine g_append T 102 hC (rows := out.map strR) (rows2 := [strR x]) (rows3 := (out ++ [x]).map strR) (bytes := 16) rfl rfl rfl rfl (SrcS.sl (T.es_ok _ _ rfl)) hr1 rfl rfl rfl (by kernel_rfl) (by rw [hom, List.length_singleton]; omega) (by rw [hom, List.length_singleton]; omega) rfl rfl rfl ?_)
        | refine g_outR ?_
      · rw [hret (by assumption)]
        exact g_fin ⟨.inl rfl, id, _, rfl, .refl _, trivial, rfl, rfl⟩
      · rw [wrapS (by simp only; omega)]
        exact g_round (i + 1, (out ++ [x], true)) ⟨by simp only; omega, hnx (by assumption), by simp only [List.length_append, List.length_singleton]; simp only [Bool.toNat, cond_true, cond_false] at hol ⊢; omega, hf⟩ (mvU 101 102) (by simp only; omega) ⟨rfl, ⟨rfl, rfl, rfl, rfl, rfl, trivial⟩, ⟨rfl, trivial⟩, rfl, fun i hi => mvU_low (by omega) hi⟩
    | false =>
      repeat' first
        | refine g_go T hC true 400 rfl rfl ?_
        | refine g_cond rfl (fun h => ?_) (fun h => ?_)
        | refine g_end T hC (by kernel_rfl) ?_
        | refine g_splitD (fun h => ?_) (fun h => ?_)
        | refine g_splitG rfl rfl rfl (fun h => ?_) (fun h => ?_)
        | refine g_splitP rfl rfl (fun h => ?_) (fun h => ?_)
        | refine g_idx T hC rfl rfl rfl (Int.natCast_nonneg _) (map_at (by assumption)) rfl rfl ?_
        | refine g_lit T hC rfl rfl rfl rfl rfl rfl rfl rfl rfl ?_
        | refine g_outR ?_
      · rw [hret (by assumption)]
        exact g_fin ⟨.inl rfl, id, _, rfl, .refl _, trivial, rfl, rfl⟩
      · rename_i e1
        have hc : false = false ∧ lessS s x = true := ⟨rfl, h⟩
        rw [if_pos hc] at hf
        refine g_append T 102 hC (rows := out.map strR) (rows2 := [strR s]) (rows3 := (out ++ [s]).map strR) (bytes := 16) rfl rfl rfl rfl (SrcS.sl (T.es_ok _ _ rfl)) hr2 rfl rfl rfl (by kernel_rfl) (by rw [hom, List.length_singleton]; omega) (by rw [hom, List.length_singleton]; omega) rfl rfl rfl ?_
        repeat' first
          | refine g_go T hC true 400 rfl rfl ?_
          | refine g_cond rfl (fun h => ?_) (fun h => ?_)
          | refine g_end T hC (by kernel_rfl) ?_
          | refine g_splitD (fun h => ?_) (fun h => ?_)
          | refine g_splitG rfl rfl rfl (fun h => ?_) (fun h => ?_)
          | refine g_splitP rfl rfl (fun h => ?_) (fun h => ?_)
          | refine g_idx T hC rfl rfl rfl (Int.natCast_nonneg _) (map_at (by assumption)) rfl rfl ?_
          | refine g_lit T hC rfl rfl rfl rfl rfl rfl rfl rfl rfl ?_
        refine g_append T 103 hC (rows := (out ++ [s]).map strR) (rows2 := [strR x]) (rows3 := (out ++ [s, x]).map strR) (bytes := 16) rfl rfl rfl rfl (SrcS.sl (T.es_ok _ _ rfl)) hr3 rfl rfl rfl (by kernel_rfl) (by rw [hom2, List.length_singleton]; omega) (by rw [hom2, List.length_singleton]; omega) rfl rfl rfl ?_
        repeat' first
          | refine g_go T hC true 400 rfl rfl ?_
          | refine g_cond rfl (fun h => ?_) (fun h => ?_)
          | refine g_end T hC (by kernel_rfl) ?_
          | refine g_splitD (fun h => ?_) (fun h => ?_)
          | refine g_splitG rfl rfl rfl (fun h => ?_) (fun h => ?_)
          | refine g_splitP rfl rfl (fun h => ?_) (fun h => ?_)
        rw [wrapS (by simp only; omega)]
        exact g_round (i + 1, (out ++ [s, x], true)) ⟨by simp only; omega, hnx (by assumption), by simp only [List.length_append, List.length_cons, List.length_nil]; simp only [Bool.toNat, cond_true, cond_false] at hol ⊢; omega, hf⟩ (mvU 101 103) (by simp only; omega) ⟨rfl, ⟨rfl, rfl, rfl, rfl, rfl, trivial⟩, ⟨rfl, trivial⟩, rfl, fun i hi => mvU_low (by omega) hi⟩
      · rename_i e1
        have hc : ¬ (false = false ∧ lessS s x = true) := fun e => by
          have h' : lessS s x = false := h
          rw [h'] at e; cases e.2
        rw [if_neg hc] at hf
        refine g_append T 102 hC (rows := out.map strR) (rows2 := [strR x]) (rows3 := (out ++ [x]).map strR) (bytes := 16) rfl rfl rfl rfl (SrcS.sl (T.es_ok _ _ rfl)) hr1 rfl rfl rfl (by kernel_rfl) (by rw [hom, List.length_singleton]; omega) (by rw [hom, List.length_singleton]; omega) rfl rfl rfl ?_
        repeat' first
          | refine g_go T hC true 400 rfl rfl ?_
          | refine g_cond rfl (fun h => ?_) (fun h => ?_)
          | refine g_end T hC (by kernel_rfl) ?_
          | refine g_splitD (fun h => ?_) (fun h => ?_)
          | refine g_splitG rfl rfl rfl (fun h => ?_) (fun h => ?_)
          | refine g_splitP rfl rfl (fun h => ?_) (fun h => ?_)
        rw [wrapS (by simp only; omega)]
        exact g_round (i + 1, (out ++ [x], false)) ⟨by simp only; omega, hnx (by assumption), by simp only [List.length_append, List.length_singleton]; simp only [Bool.toNat, cond_true, cond_false] at hol ⊢; omega, hf⟩ (mvU 101 102) (by simp only; omega) ⟨rfl, ⟨rfl, rfl, rfl, rfl, rfl, trivial⟩, ⟨rfl, trivial⟩, rfl, fun i hi => mvU_low (by omega) hi⟩
  · have hge : ¬ i < l.length := by simpa using h
    clear h
    rw [List.take_of_length_le (by omega)] at hn
    rw [List.drop_eq_nil_of_le (by omega)] at hf
    simp only [insF] at hf
    have hRE : RES = insE s (out, done) := by
      rw [← hR]; unfold insS
      rw [if_neg (by rw [hn]; simp), ← hf]
    have hr2 : out.map strR ++ [strR s] = (out ++ [s]).map strR := by rw [List.map_append]; rfl
    cases done with
    | true =>
      rw [show insE s (out, true) = out from rfl] at hRE
      subst hRE
      repeat' first
        | refine g_go T hC true 400 rfl rfl ?_
        | refine g_cond rfl (fun h => ?_) (fun h => ?_)
        | refine g_end T hC (by kernel_rfl) ?_
        | refine g_splitD (fun h => ?_) (fun h => ?_)
        | refine g_splitG rfl rfl rfl (fun h => ?_) (fun h => ?_)
        | refine g_splitP rfl rfl (fun h => ?_) (fun h => ?_)
        | refine g_outE ?_
      refine g_freeze rfl (id := 101) (e := 1) (rows := RES.map strR) rfl [(4, pS (strsP RES))] ⟨⟨_, rfl, FrS.ar⟩, trivial⟩ [] trivial ?_
      exact g_fin ⟨.inl rfl, id, _, rfl, .refl _, trivial, rfl, rfl⟩
    | false =>
      rw [show insE s (out, false) = out ++ [s] from rfl] at hRE
      subst hRE
      repeat' first
        | refine g_go T hC true 400 rfl rfl ?_
        | refine g_cond rfl (fun h => ?_) (fun h => ?_)
        | refine g_end T hC (by kernel_rfl) ?_
        | refine g_splitD (fun h => ?_) (fun h => ?_)
        | refine g_splitG rfl rfl rfl (fun h => ?_) (fun h => ?_)
        | refine g_splitP rfl rfl (fun h => ?_) (fun h => ?_)
        | refine g_outE ?_
        | refine g_lit T hC rfl rfl rfl rfl rfl rfl rfl rfl rfl ?_
      refine g_append T 102 hC (rows := out.map strR) (rows2 := [strR s]) (rows3 := (out ++ [s]).map strR) (bytes := 16) rfl rfl rfl rfl (SrcS.sl (T.es_ok _ _ rfl)) hr2 rfl rfl rfl (by kernel_rfl) (by rw [hom, List.length_singleton]; omega) (by rw [hom, List.length_singleton]; omega) rfl rfl rfl ?_
      repeat' first
        | refine g_go T hC true 400 rfl rfl ?_
        | refine g_cond rfl (fun h => ?_) (fun h => ?_)
        | refine g_end T hC (by kernel_rfl) ?_
        | refine g_splitD (fun h => ?_) (fun h => ?_)
        | refine g_splitG rfl rfl rfl (fun h => ?_) (fun h => ?_)
        | refine g_splitP rfl rfl (fun h => ?_) (fun h => ?_)
      refine g_freeze rfl (id := 102) (e := 1) (rows := (out ++ [s]).map strR) rfl [(4, pS (strsP (out ++ [s])))] ⟨⟨_, rfl, FrS.ar⟩, trivial⟩ [] trivial ?_
      exact g_fin ⟨.inl rfl, id, _, rfl, .refl _, trivial, rfl, rfl⟩
end Hw.Z
namespace Hw.Z
open Go Go.Proofs Hw.M

/-! AstFinds: the reference's calls -/
mutual
def cntX : Ex → Nat
  | .mk _ _ _ l => 1 + cntXs l
def cntXs : List Ex → Nat
  | [] => 0
  | x :: r => cntX x + cntXs r
end
mutual
def cntS : Sm → Nat
  | .mk _ _ e l els => 1 + cntXs e + cntSs l + cntSs els
def cntSs : List Sm → Nat
  | [] => 0
  | x :: r => cntS x + cntSs r
end
mutual
def nmX : Ex → List Str → List Str
  | .mk op _ s l, a => nmXs l (if op = 7 then insS a s else a)
def nmXs : List Ex → List Str → List Str
  | [], a => a
  | x :: r, a => nmXs r (nmX x a)
end
mutual
def nmS : Sm → List Str → List Str
  | .mk _ _ e l els, a => nmSs els (nmSs l (nmXs e a))
def nmSs : List Sm → List Str → List Str
  | [], a => a
  | x :: r, a => nmSs r (nmS x a)
end
theorem cntX_eq (x : Ex) : cntX x = 1 + cntXs x.l := by cases x; simp only [cntX, Ex.l]
theorem cntS_eq (x : Sm) : cntS x = 1 + cntXs x.e + cntSs x.l + cntSs x.els := by cases x; simp only [cntS, Sm.e, Sm.l, Sm.els]
theorem nmX_eq (x : Ex) (a : List Str) : nmX x a = nmXs x.l (if x.op = 7 then insS a x.s else a) := by cases x; simp only [nmX, Ex.l, Ex.op, Ex.s]; rfl
theorem nmS_eq (x : Sm) (a : List Str) : nmS x a = nmSs x.els (nmSs x.l (nmXs x.e a)) := by cases x; simp only [nmS, Sm.l, Sm.els, Sm.e]
mutual
theorem nmX_len : ∀ (x : Ex) (a : List Str), (nmX x a).length ≤ a.length + cntX x
  | .mk op _ s l, a => by
    simp only [nmX, cntX]
    have h1 := nmXs_len l (if op = 7 then insS a s else a)
    have h2 := insS_len a s
    by_cases h : op = 7
    · rw [if_pos h] at h1 ⊢; omega
    · rw [if_neg h] at h1 ⊢; omega
theorem nmXs_len : ∀ (l : List Ex) (a : List Str), (nmXs l a).length ≤ a.length + cntXs l
  | [], a => by simp [nmXs, cntXs]
  | x :: r, a => by
    simp only [nmXs, cntXs]
    have h1 := nmX_len x a
    have h2 := nmXs_len r (nmX x a)
    omega
end
mutual
theorem nmS_len : ∀ (x : Sm) (a : List Str), (nmS x a).length ≤ a.length + cntS x
  | .mk _ _ e l els, a => by
    simp only [nmS, cntS]
    have h1 := nmXs_len e a
    have h2 := nmSs_len l (nmXs e a)
    have h3 := nmSs_len els (nmSs l (nmXs e a))
    omega
theorem nmSs_len : ∀ (l : List Sm) (a : List Str), (nmSs l a).length ≤ a.length + cntSs l
  | [], a => by simp [nmSs, cntSs]
  | x :: r, a => by
    simp only [nmSs, cntSs]
    have h1 := nmS_len x a
    have h2 := nmSs_len r (nmS x a)
    omega
end
theorem cntX_pos (x : Ex) : 1 ≤ cntX x := by rw [cntX_eq]; omega
theorem len_cntXs : ∀ l : List Ex, l.length ≤ cntXs l
  | [] => by simp [cntXs]
  | x :: r => by
    simp only [cntXs, List.length_cons]
    have := cntX_pos x
    have := len_cntXs r
    omega
theorem len_cntSs : ∀ l : List Sm, l.length ≤ cntSs l
  | [] => by simp [cntSs]
  | x :: r => by
    simp only [cntSs, List.length_cons]
    have : 1 ≤ cntS x := by rw [cntS_eq]; omega
    have := len_cntSs r
    omega
theorem cntXs_drop : ∀ (l : List Ex) (i : Nat) (x : Ex), l[i]? = some x → cntXs (l.drop i) = cntX x + cntXs (l.drop (i + 1)) := fun l i x h => by
  rw [drop_at h]; simp only [cntXs]
theorem cntSs_drop : ∀ (l : List Sm) (i : Nat) (x : Sm), l[i]? = some x → cntSs (l.drop i) = cntS x + cntSs (l.drop (i + 1)) := fun l i x h => by
  rw [drop_at h]; simp only [cntSs]
theorem exprCalls_ok : ∀ (k : Nat) (x : Ex) (a : List Str), SizeOf.sizeOf x ≤ k → a.length + cntX x ≤ 1000000 → FnOK Tryz.prog 124 [aggS (exprC x), pS (strsP a)] [] (pS (strsP (nmX x a))) [] := by
  intro k
  induction k with
  | zero => intro x a h; cases x; simp at h
  | succ k ih =>
  intro x a hk ha
  rw [cntX_eq] at ha
  generalize hR : nmX x a = RES
  rw [nmX_eq] at hR
  have hI := insert_ok a x.s (by omega)
  have hIl := insS_len a x.s
  refine fn_ok T Tryz.func124 (by kernel_rfl) rfl rfl rfl rfl fun C hC => ?_
  refine g_lenA rfl 0 3 rfl rfl fun hlen => ?_
  rw [List.length_map] at hlen
  repeat' first
    | refine g_go T hC true 400 rfl rfl ?_
    | refine g_cond rfl (fun h => ?_) (fun h => ?_)
    | refine g_end T hC (by kernel_rfl) ?_
    | refine g_splitD (fun h => ?_) (fun h => ?_)
    | refine g_splitG rfl rfl rfl (fun h => ?_) (fun h => ?_)
    | refine g_splitP rfl rfl (fun h => ?_) (fun h => ?_)
    | refine g_call hC (hI) rfl rfl (LeSs.refl _) rfl rfl rfl ?_
  · have h7 : x.op = 7 := by simpa using h
    clear h
    rw [if_pos h7] at hR
    refine g_loop (fun q : Nat × List Str => q.1 ≤ x.l.length ∧ q.2.length + cntXs (x.l.drop q.1) ≤ 1000000 ∧ nmXs (x.l.drop q.1) q.2 = RES) (fun q => ([(1, pS (strsP q.2)), (2, .one (.bx 1002 0)), (5, I q.1)], [(1002, some (.box ((exprC x).map V.p)))])) (fun q => x.l.length - q.1) hC
      (0, insS a x.s) ⟨Nat.zero_le _, by simp only [List.drop_zero]; omega, hR⟩ id ⟨rfl, ⟨rfl, rfl, rfl, trivial⟩, ⟨rfl, trivial⟩, rfl, fun _ _ => rfl⟩ ?_
    rintro ⟨i, b⟩ ⟨hi, hb, hn⟩
    simp only at hi hb hn
    refine g_run' T hC true 200 rfl ?_
    refine g_cond rfl (fun h => ?_) (fun h => ?_)
    · have hlt : i < x.l.length := by simpa using h
      clear h
      obtain ⟨y, hy⟩ := exists_at hlt
      have hsz := List.sizeOf_lt_of_mem (List.mem_of_getElem? hy)
      rw [cntXs_drop _ _ _ hy] at hb
      rw [drop_at hy] at hn
      simp only [nmXs] at hn
      have hln := nmX_len y b
      have hE := ih y b (by
        have : SizeOf.sizeOf x.l < SizeOf.sizeOf x := by cases x; simp only [Ex.l, Ex.mk.sizeOf_spec]; omega
        omega) (by omega)
      repeat' first
        | refine g_go T hC true 400 rfl rfl ?_
        | refine g_cond rfl (fun h => ?_) (fun h => ?_)
        | refine g_end T hC (by kernel_rfl) ?_
        | refine g_splitD (fun h => ?_) (fun h => ?_)
        | refine g_splitG rfl rfl rfl (fun h => ?_) (fun h => ?_)
        | refine g_splitP rfl rfl (fun h => ?_) (fun h => ?_)
        | refine g_idx T hC rfl rfl rfl (Int.natCast_nonneg _) (map_atE hy) rfl rfl ?_
        | refine g_call hC (hE) rfl rfl (LeSs.refl _) rfl rfl rfl ?_
      rw [wrapS (by simp only; omega)]
      exact g_round (i + 1, nmX y b) ⟨by simp only; omega, by simp only; omega, hn⟩ id (by simp only; omega) ⟨rfl, ⟨rfl, rfl, rfl, trivial⟩, ⟨rfl, trivial⟩, rfl, fun _ _ => rfl⟩
    · have hge : ¬ i < x.l.length := by simpa using h
      rw [List.drop_eq_nil_of_le (by omega)] at hn
      simp only [nmXs] at hn
      subst hn
      repeat' first
        | refine g_go T hC true 400 rfl rfl ?_
        | refine g_cond rfl (fun h => ?_) (fun h => ?_)
        | refine g_end T hC (by kernel_rfl) ?_
        | refine g_splitD (fun h => ?_) (fun h => ?_)
        | refine g_splitG rfl rfl rfl (fun h => ?_) (fun h => ?_)
        | refine g_splitP rfl rfl (fun h => ?_) (fun h => ?_)
        | refine g_outE ?_
      exact g_fin ⟨.inl rfl, id, _, rfl, .refl _, trivial, rfl, rfl⟩
  · have h7 : ¬ x.op = 7 := by simpa using h
    clear h
    rw [if_neg h7] at hR
    refine g_loop (fun q : Nat × List Str => q.1 ≤ x.l.length ∧ q.2.length + cntXs (x.l.drop q.1) ≤ 1000000 ∧ nmXs (x.l.drop q.1) q.2 = RES) (fun q => ([(1, pS (strsP q.2)), (2, .one (.bx 1002 0)), (5, I q.1)], [(1002, some (.box ((exprC x).map V.p)))])) (fun q => x.l.length - q.1) hC
      (0, a) ⟨Nat.zero_le _, by simp only [List.drop_zero]; omega, hR⟩ id ⟨rfl, ⟨rfl, rfl, rfl, trivial⟩, ⟨rfl, trivial⟩, rfl, fun _ _ => rfl⟩ ?_
    rintro ⟨i, b⟩ ⟨hi, hb, hn⟩
    simp only at hi hb hn
    refine g_run' T hC true 200 rfl ?_
    refine g_cond rfl (fun h => ?_) (fun h => ?_)
    · have hlt : i < x.l.length := by simpa using h
      clear h
      obtain ⟨y, hy⟩ := exists_at hlt
      have hsz := List.sizeOf_lt_of_mem (List.mem_of_getElem? hy)
      rw [cntXs_drop _ _ _ hy] at hb
      rw [drop_at hy] at hn
      simp only [nmXs] at hn
      have hln := nmX_len y b
      have hE := ih y b (by
        have : SizeOf.sizeOf x.l < SizeOf.sizeOf x := by cases x; simp only [Ex.l, Ex.mk.sizeOf_spec]; omega
        omega) (by omega)
      repeat' first
        | refine g_go T hC true 400 rfl rfl ?_
        | refine g_cond rfl (fun h => ?_) (fun h => ?_)
        | refine g_end T hC (by kernel_rfl) ?_
        | refine g_splitD (fun h => ?_) (fun h => ?_)
        | refine g_splitG rfl rfl rfl (fun h => ?_) (fun h => ?_)
        | refine g_splitP rfl rfl (fun h => ?_) (fun h => ?_)
        | refine g_idx T hC rfl rfl rfl (Int.natCast_nonneg _) (map_atE hy) rfl rfl ?_
        | refine g_call hC (hE) rfl rfl (LeSs.refl _) rfl rfl rfl ?_
      rw [wrapS (by simp only; omega)]
      exact g_round (i + 1, nmX y b) ⟨by simp only; omega, by simp only; omega, hn⟩ id (by simp only; omega) ⟨rfl, ⟨rfl, rfl, rfl, trivial⟩, ⟨rfl, trivial⟩, rfl, fun _ _ => rfl⟩
    · have hge : ¬ i < x.l.length := by simpa using h
      rw [List.drop_eq_nil_of_le (by omega)] at hn
      simp only [nmXs] at hn
      subst hn
      repeat' first
        | refine g_go T hC true 400 rfl rfl ?_
        | refine g_cond rfl (fun h => ?_) (fun h => ?_)
        | refine g_end T hC (by kernel_rfl) ?_
        | refine g_splitD (fun h => ?_) (fun h => ?_)
        | refine g_splitG rfl rfl rfl (fun h => ?_) (fun h => ?_)
        | refine g_splitP rfl rfl (fun h => ?_) (fun h => ?_)
        | refine g_outE ?_
      exact g_fin ⟨.inl rfl, id, _, rfl, .refl _, trivial, rfl, rfl⟩
theorem callsR_ok : ∀ (k : Nat) (l : List Sm) (a : List Str), SizeOf.sizeOf l ≤ k → a.length + cntSs l ≤ 1000000 → FnOK Tryz.prog 57 [pS (stmtsP l), pS (strsP a)] [] (pS (strsP (nmSs l a))) [] := by
  intro k
  induction k with
  | zero => intro l a h; cases l <;> simp at h
  | succ k ih =>
  intro l a hk ha
  generalize hR : nmSs l a = RES
  refine fn_ok T Tryz.func57 (by kernel_rfl) rfl rfl rfl rfl fun C hC => ?_
  refine g_len 0 rfl fun hlen => ?_
  rw [List.length_map] at hlen
  repeat' first
    | refine g_go T hC true 400 rfl rfl ?_
    | refine g_cond rfl (fun h => ?_) (fun h => ?_)
    | refine g_end T hC (by kernel_rfl) ?_
    | refine g_splitD (fun h => ?_) (fun h => ?_)
    | refine g_splitG rfl rfl rfl (fun h => ?_) (fun h => ?_)
    | refine g_splitP rfl rfl (fun h => ?_) (fun h => ?_)
  refine g_loop (fun q : Nat × List Str => q.1 ≤ l.length ∧ q.2.length + cntSs (l.drop q.1) ≤ 1000000 ∧ nmSs (l.drop q.1) q.2 = RES) (fun q => ([(0, pS (stmtsP l)), (1, pS (strsP q.2)), (5, I q.1)], [])) (fun q => l.length - q.1) hC
    (0, a) ⟨Nat.zero_le _, by simp only [List.drop_zero]; omega, hR⟩ id ⟨rfl, ⟨rfl, rfl, rfl, trivial⟩, trivial, rfl, fun _ _ => rfl⟩ ?_
  rintro ⟨i, b⟩ ⟨hi, hb, hn⟩
  simp only at hi hb hn
  refine g_run' T hC true 200 rfl ?_
  refine g_cond rfl (fun h => ?_) (fun h => ?_)
  rotate_left
  · have hge : ¬ i < l.length := by simpa using h
    rw [List.drop_eq_nil_of_le (by omega)] at hn
    simp only [nmSs] at hn
    subst hn
    repeat' first
      | refine g_go T hC true 400 rfl rfl ?_
      | refine g_cond rfl (fun h => ?_) (fun h => ?_)
      | refine g_end T hC (by kernel_rfl) ?_
      | refine g_splitD (fun h => ?_) (fun h => ?_)
      | refine g_splitG rfl rfl rfl (fun h => ?_) (fun h => ?_)
      | refine g_splitP rfl rfl (fun h => ?_) (fun h => ?_)
      | refine g_outE ?_
    exact g_fin ⟨.inl rfl, id, _, rfl, .refl _, trivial, rfl, rfl⟩
  have hlt : i < l.length := by simpa using h
  clear h
  obtain ⟨x, hx⟩ := exists_at hlt
  have hsz := List.sizeOf_lt_of_mem (List.mem_of_getElem? hx)
  rw [cntSs_drop _ _ _ hx, cntS_eq] at hb
  rw [drop_at hx] at hn
  simp only [nmSs, nmS_eq] at hn
  repeat' first
    | refine g_go T hC true 400 rfl rfl ?_
    | refine g_cond rfl (fun h => ?_) (fun h => ?_)
    | refine g_end T hC (by kernel_rfl) ?_
    | refine g_splitD (fun h => ?_) (fun h => ?_)
    | refine g_splitG rfl rfl rfl (fun h => ?_) (fun h => ?_)
    | refine g_splitP rfl rfl (fun h => ?_) (fun h => ?_)
  refine g_loop (fun q : Nat × List Str => q.1 ≤ x.e.length ∧ q.2.length + cntXs (x.e.drop q.1) ≤ b.length + cntXs x.e ∧ nmXs (x.e.drop q.1) q.2 = nmXs x.e b) (fun q => ([(0, pS (stmtsP l)), (1, pS (strsP q.2)), (5, I i), (6, I q.1)], [])) (fun q => x.e.length - q.1) hC
    (0, b) ⟨Nat.zero_le _, by simp only [List.drop_zero]; omega, rfl⟩ id ⟨rfl, ⟨rfl, rfl, rfl, rfl, trivial⟩, trivial, rfl, fun _ _ => rfl⟩ ?_
  rintro ⟨j, c⟩ ⟨hj, hc, hm⟩
  simp only at hj hc hm
  have hel := len_cntXs x.e
  by_cases hlt2 : j < x.e.length
  · obtain ⟨y, hy⟩ := exists_at hlt2
    rw [cntXs_drop _ _ _ hy] at hc
    rw [drop_at hy] at hm
    simp only [nmXs] at hm
    have hln := nmX_len y c
    have hE := exprCalls_ok _ y c (Nat.le_refl _) (by omega)
    repeat' first
      | refine g_go T hC true 400 rfl rfl ?_
      | refine g_cond rfl (fun h => ?_) (fun h => ?_)
      | refine g_end T hC (by kernel_rfl) ?_
      | refine g_splitD (fun h => ?_) (fun h => ?_)
      | refine g_splitG rfl rfl rfl (fun h => ?_) (fun h => ?_)
      | refine g_splitP rfl rfl (fun h => ?_) (fun h => ?_)
      | refine g_idx T hC rfl rfl rfl (Int.natCast_nonneg _) (map_atS hx) rfl rfl ?_
      | refine g_idx T hC rfl rfl rfl (Int.natCast_nonneg _) (map_atE hy) rfl rfl ?_
      | refine g_call hC (hE) rfl rfl (LeSs.refl _) rfl rfl rfl ?_
      | refine g_outE ?_
    all_goals first
      | (exfalso; simp only [List.length_map, decide_eq_false_iff_not] at *; omega)
      | (rw [wrapS (by simp only; omega)]
         exact g_round (j + 1, nmX y c) ⟨by simp only; omega, by simp only; omega, hm⟩ id (by simp only; omega) ⟨rfl, ⟨rfl, rfl, rfl, rfl, trivial⟩, trivial, rfl, fun _ _ => rfl⟩)
  · rw [List.drop_eq_nil_of_le (by omega)] at hm hc
    simp only [nmXs] at hm
    subst hm
    have h1 := nmXs_len x.e b
    have h2 := nmSs_len x.l (nmXs x.e b)
    have h3 := nmSs_len x.els (nmSs x.l (nmXs x.e b))
    have hL := ih x.l (nmXs x.e b) (by
      have : SizeOf.sizeOf x.l < SizeOf.sizeOf x := by cases x; simp only [Sm.l, Sm.mk.sizeOf_spec]; omega
      omega) (by omega)
    have hS := ih x.els (nmSs x.l (nmXs x.e b)) (by
      have : SizeOf.sizeOf x.els < SizeOf.sizeOf x := by cases x; simp only [Sm.els, Sm.mk.sizeOf_spec]; omega
      omega) (by omega)
    repeat' first
      | refine g_go T hC true 400 rfl rfl ?_
      | refine g_cond rfl (fun h => ?_) (fun h => ?_)
      | refine g_end T hC (by kernel_rfl) ?_
      | refine g_splitD (fun h => ?_) (fun h => ?_)
      | refine g_splitG rfl rfl rfl (fun h => ?_) (fun h => ?_)
      | refine g_splitP rfl rfl (fun h => ?_) (fun h => ?_)
      | refine g_idx T hC rfl rfl rfl (Int.natCast_nonneg _) (map_atS hx) rfl rfl ?_
      | refine g_outE ?_
      | refine g_call hC (hL) rfl rfl (LeSs.refl _) rfl rfl rfl ?_
      | refine g_call hC (hS) rfl rfl (LeSs.refl _) rfl rfl rfl ?_
    all_goals first
      | (exfalso; simp only [List.length_map, decide_eq_true_eq] at *; omega)
      | (rw [wrapS (by omega)]
         exact g_round (i + 1, nmSs x.els (nmSs x.l (nmXs x.e b))) ⟨by simp only; omega, by simp only; omega, hn⟩ id (by simp only; omega) ⟨rfl, ⟨rfl, rfl, rfl, trivial⟩, trivial, rfl, fun _ _ => rfl⟩)
end Hw.Z
