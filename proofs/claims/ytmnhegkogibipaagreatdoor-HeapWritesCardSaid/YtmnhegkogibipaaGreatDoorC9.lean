/- The engine and the contracts. -/
import Derived.Test.YtmnhegkogibipaaGreatDoorC8
import Derived.Test.YtmnhegkogibipaaGreatDoorE3
set_option linter.unusedVariables false
set_option linter.unusedSimpArgs false
namespace Hw.Z
open Go Go.Proofs Hw.M

/-! The reference's search -/
abbrev inI (l : List Int) (v : Int) : Int := idxOf (fun x => decide (x = v)) l
theorem in_ok (l : List Int) (v : Int) : FnOK Tryz.prog 141 [pS (intsP l), I v] [] (I (inI l v)) [] := by
  refine fn_ok T Tryz.func141 (by kernel_rfl) rfl rfl rfl rfl fun C hC => ?_
  refine g_len 0 rfl fun hlen => ?_
  rw [List.length_map] at hlen
  repeat' first
    | refine g_go T hC true 400 rfl rfl ?_
    | refine g_cond rfl (fun h => ?_) (fun h => ?_)
    | refine g_end T hC (by kernel_rfl) ?_
    | refine g_splitD (fun h => ?_) (fun h => ?_)
    | refine g_splitG rfl rfl rfl (fun h => ?_) (fun h => ?_)
    | refine g_splitP rfl rfl (fun h => ?_) (fun h => ?_)
  refine g_loop (fun i : Nat => i ≤ l.length ∧ (l.take i).any (fun x => decide (x = v)) = false) (fun i => ([(0, pS (intsP l)), (1, I v), (5, I i)], [])) (fun i => l.length - i) hC
    0 ⟨Nat.zero_le _, by simp⟩ id ⟨rfl, ⟨rfl, rfl, rfl, trivial⟩, trivial, rfl, fun _ _ => rfl⟩ ?_
  rintro i ⟨hi, hn⟩
  refine g_run' T hC true 200 rfl ?_
  refine g_cond rfl (fun h => ?_) (fun h => ?_)
  · have hlt : i < l.length := by simpa using h
    obtain ⟨x, hx⟩ := exists_at hlt
    repeat' first
      | refine g_go T hC true 400 rfl rfl ?_
      | refine g_cond rfl (fun h => ?_) (fun h => ?_)
      | refine g_end T hC (by kernel_rfl) ?_
      | refine g_splitD (fun h => ?_) (fun h => ?_)
      | refine g_splitG rfl rfl rfl (fun h => ?_) (fun h => ?_)
      | refine g_splitP rfl rfl (fun h => ?_) (fun h => ?_)
      | refine g_idx T hC rfl rfl rfl (Int.natCast_nonneg _) (map_at (by assumption)) rfl rfl ?_
      | refine g_outR ?_
      | refine g_reti T (.inl rfl) rfl ?_
    · exact (idxOf_at hx (by simpa using h) hn).symm
    · rw [wrap64 (by omega)]
      refine g_round (i + 1) ⟨by omega, ?_⟩ id (by omega) ⟨rfl, ⟨rfl, rfl, rfl, trivial⟩, trivial, rfl, fun _ _ => rfl⟩
      rw [any_take hx, hn, Bool.false_or]; simpa using h
  · have hge : ¬ i < l.length := by simpa using h
    repeat' first
      | refine g_go T hC true 400 rfl rfl ?_
      | refine g_cond rfl (fun h => ?_) (fun h => ?_)
      | refine g_end T hC (by kernel_rfl) ?_
      | refine g_splitD (fun h => ?_) (fun h => ?_)
      | refine g_splitG rfl rfl rfl (fun h => ?_) (fun h => ?_)
      | refine g_splitP rfl rfl (fun h => ?_) (fun h => ?_)
      | refine g_outE ?_
      | refine g_reti T (.inl rfl) rfl ?_
    exact (idxOf_no (any_end (by omega) hn)).symm

theorem inA_ok (l : List Int) (v : Int) (hll : l.length ≤ 1000000) : FnOK Tryz.prog 141 [.one (.ar 0), I v] [(0, .arr 1 (l.map intR))] (I (inI l v)) [(0, .arr 1 (l.map intR))] := by
  have hlm : (l.map intR).length = l.length := List.length_map _
  generalize hr : inI l v = r
  refine fn_ok T Tryz.func141 (by kernel_rfl) rfl rfl rfl rfl fun C hC => ?_
  repeat' first
    | refine g_go T hC true 400 rfl rfl ?_
    | refine g_cond rfl (fun h => ?_) (fun h => ?_)
    | refine g_end T hC (by kernel_rfl) ?_
    | refine g_splitD (fun h => ?_) (fun h => ?_)
    | refine g_splitG rfl rfl rfl (fun h => ?_) (fun h => ?_)
    | refine g_splitP rfl rfl (fun h => ?_) (fun h => ?_)
  refine g_loop (fun i : Nat => i ≤ l.length ∧ (l.take i).any (fun x => decide (x = v)) = false) (fun i => ([(0, .one (.ar 0)), (1, I v), (5, I i)], [(0, some (Res.arr 1 (l.map intR)))])) (fun i => l.length - i) hC
    0 ⟨Nat.zero_le _, by simp⟩ id ⟨rfl, ⟨rfl, rfl, rfl, trivial⟩, ⟨rfl, trivial⟩, rfl, fun _ _ => rfl⟩ ?_
  rintro i ⟨hi, hn⟩
  refine g_run' T hC true 200 rfl ?_
  refine g_cond rfl (fun h => ?_) (fun h => ?_)
  · have hlt : i < l.length := by simpa [hlm] using h
    obtain ⟨x, hx⟩ := exists_at hlt
    repeat' first
      | refine g_go T hC true 400 rfl rfl ?_
      | refine g_cond rfl (fun h => ?_) (fun h => ?_)
      | refine g_end T hC (by kernel_rfl) ?_
      | refine g_splitD (fun h => ?_) (fun h => ?_)
      | refine g_splitG rfl rfl rfl (fun h => ?_) (fun h => ?_)
      | refine g_splitP rfl rfl (fun h => ?_) (fun h => ?_)
      | refine g_idxA T hC (rows := l.map intR) rfl rfl rfl rfl (Int.natCast_nonneg _) (by rw [hlm]; omega) rfl rfl ?_
      | refine g_loadE T hC i 0 (rows := l.map intR) (row := intR x) rfl rfl rfl (by simp) (sGet hx) rfl rfl rfl ?_
      | refine g_outR ?_
    · have e := idxOf_at hx (by simpa using h) hn
      rw [show idxOf (fun x => decide (x = v)) l = r from hr] at e
      subst e
      exact g_fin ⟨.inl rfl, id, _, rfl, .refl _, ⟨rfl, trivial⟩, rfl, rfl⟩
    · rw [wrap64 (by omega)]
      refine g_round (i + 1) ⟨by omega, ?_⟩ id (by omega) ⟨rfl, ⟨rfl, rfl, rfl, trivial⟩, ⟨rfl, trivial⟩, rfl, fun _ _ => rfl⟩
      rw [any_take hx, hn, Bool.false_or]; simpa using h
  · have hge : ¬ i < l.length := by simpa [hlm] using h
    have e := idxOf_no (any_end (by omega) hn)
    rw [show idxOf (fun x => decide (x = v)) l = r from hr] at e
    subst e
    repeat' first
      | refine g_go T hC true 400 rfl rfl ?_
      | refine g_cond rfl (fun h => ?_) (fun h => ?_)
      | refine g_end T hC (by kernel_rfl) ?_
      | refine g_splitD (fun h => ?_) (fun h => ?_)
      | refine g_splitG rfl rfl rfl (fun h => ?_) (fun h => ?_)
      | refine g_splitP rfl rfl (fun h => ?_) (fun h => ?_)
      | refine g_outE ?_
    exact g_fin ⟨.inl rfl, id, _, rfl, .refl _, ⟨rfl, trivial⟩, rfl, rfl⟩

theorem lookS_keep {d : Desc} {m : Hp} (hw : WF d m) (k : Nat) : ∀ (ps : List (Fld × Int)) (s : SS), (∀ p ∈ ps, RefOK m p) → StOK m s → StOK m (lookS k d m ps s) ∧ s.order.length ≤ (lookS k d m ps s).order.length
  | [], s, _, h => ⟨h, Nat.le_refl _⟩
  | p :: ps, s, hp, h => by
    rw [lookS_cons]
    by_cases hr : isRef p = true
    · rw [if_pos hr]
      have hv := hp p (by simp) hr
      have e := enterS_keep hw k p.2 s hv.1 hv.2 h
      have f := lookS_keep hw k ps _ (fun q hq => hp q (by simp [hq])) e.1
      exact ⟨f.1, Nat.le_trans e.2 f.2⟩
    · rw [if_neg hr]; exact lookS_keep hw k ps s (fun q hq => hp q (by simp [hq])) h
def rTab (d : Desc) (m : Hp) (s : SS) (a : Nat) : Tab := [(1005, some (.box ((descR d).map V.p))), (1006, some (.box ((memR m).map V.p))), (1007, some (.box [.ar a, .p (ki s.again)])), (1010, some (.box [.p (.k (.slice none 0 0)), .p (ki 0)])), (a, some (.arr 1 (s.order.map intR)))]
theorem rlook_ok {d : Desc} {m : Hp} (hw : WF d m) : ∀ (k : Nat) (l : List Fld) (v : List Int) (s : SS), l.length = v.length → (∀ p ∈ l.zip v, RefOK m p) → StOK m s → m.n.length - s.order.length < k →
    FnOK Tryz.prog 72 [aggS (descR d), aggS (memR m), .agg [.ar 0, .p (ki s.again)], pS (fieldsP l), pS (intsP v)] [(0, .arr 1 (s.order.map intR))]
      (.agg [.ar 3, .p (ki (lookS k d m (l.zip v) s).again)]) [(3, .arr 1 ((lookS k d m (l.zip v) s).order.map intR))] := by
  intro k
  induction k with
  | zero => intro l v s _ _ _ h; omega
  | succ k ih =>
  intro l v s hlv hp hs hk
  have hsm := hw.small
  generalize hR : lookS (k + 1) d m (l.zip v) s = RES
  refine fn_ok T Tryz.func72 (by kernel_rfl) rfl rfl rfl rfl fun C hC => ?_
  refine g_len 3 rfl fun hlen => ?_
  rw [List.length_map] at hlen
  repeat' first
    | refine g_go T hC true 400 rfl rfl ?_
    | refine g_cond rfl (fun h => ?_) (fun h => ?_)
    | refine g_end T hC (by kernel_rfl) ?_
    | refine g_splitD (fun h => ?_) (fun h => ?_)
    | refine g_splitG rfl rfl rfl (fun h => ?_) (fun h => ?_)
    | refine g_splitP rfl rfl (fun h => ?_) (fun h => ?_)
  refine g_loop (fun q : Nat × SS => q.1 ≤ l.length ∧ StOK m q.2 ∧ m.n.length - q.2.order.length < k + 1 ∧ lookS (k + 1) d m ((l.zip v).drop q.1) q.2 = RES)
    (fun q => ([(3, pS (fieldsP l)), (4, pS (intsP v)), (5, .one (.bx 1005 0)), (6, .one (.bx 1006 0)), (7, .one (.bx 1007 0)), (10, .one (.bx 1010 0)), (11, I q.1)], rTab d m q.2 150)) (fun q => l.length - q.1) hC
    (0, s) ⟨Nat.zero_le _, hs, hk, hR⟩ (mv 150 0) ⟨rfl, ⟨rfl, rfl, rfl, rfl, rfl, rfl, rfl, trivial⟩, ⟨rfl, rfl, rfl, rfl, rfl, trivial⟩, rfl, fun i hi => mv_low (by omega) hi⟩ ?_
  clear hR hs hk
  rintro ⟨i, s⟩ ⟨hi, hs, hk, hn⟩
  simp only at hi hs hk hn
  refine g_run' T hC true 200 rfl ?_
  refine g_cond rfl (fun h => ?_) (fun h => ?_)
  rotate_left
  · have hge : ¬ i < l.length := by simpa using h
    rw [List.drop_eq_nil_of_le (by rw [List.length_zip]; omega)] at hn
    have hn' : s = RES := hn
    subst hn'
    repeat' first
      | refine g_go T hC true 400 rfl rfl ?_
      | refine g_cond rfl (fun h => ?_) (fun h => ?_)
      | refine g_end T hC (by kernel_rfl) ?_
      | refine g_splitD (fun h => ?_) (fun h => ?_)
      | refine g_splitG rfl rfl rfl (fun h => ?_) (fun h => ?_)
      | refine g_splitP rfl rfl (fun h => ?_) (fun h => ?_)
      | refine g_outE ?_
    exact g_fin ⟨.inl rfl, mv 3 150, _, rfl, .refl _, ⟨rfl, trivial⟩, rfl, rfl⟩
  have hlt : i < l.length := by simpa using h
  clear h
  obtain ⟨x, hx⟩ := exists_at (l := l.zip v) (i := i) (by rw [List.length_zip]; omega)
  obtain ⟨hx1, hx2⟩ := zip_at hx
  rw [drop_at hx, lookS_cons] at hn
  have hrx := hp x (List.mem_of_getElem? hx)
  have hle := hs.le
  have hIn := inA_ok s.order x.2 (by omega)
  have hany : decide (inI s.order x.2 < 0) = !(s.order.any fun y => decide (y = x.2)) := idxOf_any (fun y : Int => decide (y = x.2)) s.order
  repeat' first
    | refine g_go T hC true 400 rfl rfl ?_
    | refine g_cond rfl (fun h => ?_) (fun h => ?_)
    | refine g_end T hC (by kernel_rfl) ?_
    | refine g_splitD (fun h => ?_) (fun h => ?_)
    | refine g_splitG rfl rfl rfl (fun h => ?_) (fun h => ?_)
    | refine g_splitP rfl rfl (fun h => ?_) (fun h => ?_)
    | refine g_idx T hC rfl rfl rfl (Int.natCast_nonneg _) (map_at (by assumption)) rfl rfl ?_
    | refine g_callR hC (hIn) (nm [150]) rfl rfl (LeSs.refl _) rfl rfl rfl rfl rfl rfl rfl rfl ?_
  · have hr : isRef x = false := by simp only [isRef, isPlain, h, Bool.true_or, Bool.not_true, Bool.false_and, Bool.or_true, Bool.and_false]
    rw [hr] at hn
    simp only [Bool.false_eq_true, if_false] at hn
    simp only
    rw [wrapS (by omega)]
    exact g_round (i + 1, s) ⟨by simp only; omega, hs, hk, hn⟩ id (by simp only; omega) ⟨rfl, ⟨rfl, rfl, rfl, rfl, rfl, rfl, rfl, trivial⟩, ⟨rfl, rfl, rfl, rfl, rfl, trivial⟩, rfl, fun _ _ => rfl⟩
  · have hr : isRef x = false := by simp only [isRef, isPlain, h, Bool.true_or, Bool.not_true, Bool.false_and, Bool.or_true, Bool.and_false]
    rw [hr] at hn
    simp only [Bool.false_eq_true, if_false] at hn
    simp only
    rw [wrapS (by omega)]
    exact g_round (i + 1, s) ⟨by simp only; omega, hs, hk, hn⟩ id (by simp only; omega) ⟨rfl, ⟨rfl, rfl, rfl, rfl, rfl, rfl, rfl, trivial⟩, ⟨rfl, rfl, rfl, rfl, rfl, trivial⟩, rfl, fun _ _ => rfl⟩
  · have hr : isRef x = false := by simp only [isRef, isPlain, h, Bool.true_or, Bool.not_true, Bool.false_and, Bool.or_true, Bool.and_false]
    rw [hr] at hn
    simp only [Bool.false_eq_true, if_false] at hn
    simp only
    rw [wrapS (by omega)]
    exact g_round (i + 1, s) ⟨by simp only; omega, hs, hk, hn⟩ id (by simp only; omega) ⟨rfl, ⟨rfl, rfl, rfl, rfl, rfl, rfl, rfl, trivial⟩, ⟨rfl, rfl, rfl, rfl, rfl, trivial⟩, rfl, fun _ _ => rfl⟩
  · rename_i k1 k2 k3 k4
    have hr : isRef x = true := by simp only [isRef, isPlain, k1, k2, k3, Bool.or_self, Bool.not_false, Bool.and_self]
    have ho : (s.order.any fun y => decide (y = x.2)) = true := by
      rw [decide_eq_false (by have := of_decide_eq_true k4; omega)] at hany; simpa using hany.symm
    have h' : s.again = 0 := of_decide_eq_true h
    rw [if_pos hr, enterS_old ho, if_pos h'] at hn
    simp only
    rw [wrapS (by omega)]
    exact g_round (i + 1, ⟨s.order, x.2⟩) ⟨by simp only; omega, ⟨hs.nodup, hs.inr⟩, hk, hn⟩ id (by simp only; omega) ⟨rfl, ⟨rfl, rfl, rfl, rfl, rfl, rfl, rfl, trivial⟩, ⟨rfl, rfl, rfl, rfl, rfl, trivial⟩, rfl, fun _ _ => rfl⟩
  · rename_i k1 k2 k3 k4
    have hr : isRef x = true := by simp only [isRef, isPlain, k1, k2, k3, Bool.or_self, Bool.not_false, Bool.and_self]
    have ho : (s.order.any fun y => decide (y = x.2)) = true := by
      rw [decide_eq_false (by have := of_decide_eq_true k4; omega)] at hany; simpa using hany.symm
    have h' : ¬ s.again = 0 := of_decide_eq_false h
    rw [if_pos hr, enterS_old ho, if_neg h'] at hn
    simp only
    rw [wrapS (by omega)]
    exact g_round (i + 1, ⟨s.order, s.again⟩) ⟨by simp only; omega, ⟨hs.nodup, hs.inr⟩, hk, hn⟩ id (by simp only; omega) ⟨rfl, ⟨rfl, rfl, rfl, rfl, rfl, rfl, rfl, trivial⟩, ⟨rfl, rfl, rfl, rfl, rfl, trivial⟩, rfl, fun _ _ => rfl⟩
  · rename_i k1 k2 k3
    have hr : isRef x = true := by simp only [isRef, isPlain, k1, k2, k3, Bool.or_self, Bool.not_false, Bool.and_self]
    have ho : (s.order.any fun y => decide (y = x.2)) = false := by
      rw [decide_eq_true (by have := of_decide_eq_false h; omega)] at hany
      cases e : (s.order.any fun y => decide (y = x.2)) with
      | false => rfl
      | true => rw [e] at hany; cases hany
    rw [if_pos hr, enterS_new ho] at hn
    have hv := hrx hr
    have hs' := hs.snoc hv.1 hv.2 ho s.again
    have hle' := hs'.le
    simp only [List.length_append, List.length_singleton] at hle'
    obtain ⟨y, hy⟩ := exists_at (l := m.n) (i := (x.2 - 1).toNat) (by omega)
    obtain ⟨ht, ty, hty, hlen2, hrefs⟩ := hw.node y (List.mem_of_getElem? hy)
    have hpairs : pairsOf d m x.2 = ty.f.zip y.f := by simp only [pairsOf, hy, fieldsAt, hty, Option.map_some, Option.getD_some]
    rw [hpairs] at hn
    have hL := ih ty.f y.f ⟨s.order ++ [x.2], s.again⟩ hlen2 hrefs hs' (by simp only [List.length_append, List.length_singleton]; omega)
    have hkeep := lookS_keep hw k (ty.f.zip y.f) ⟨s.order ++ [x.2], s.again⟩ hrefs hs'
    simp only [List.length_append, List.length_singleton] at hkeep
    have w1 : IntKind.i64.wrap (x.2 - 1) = x.2 - 1 := wrap64 (by omega)
    have hlm : (s.order.map intR).length = s.order.length := List.length_map _
    repeat' first
      | refine g_go T hC true 400 rfl rfl ?_
      | refine g_cond rfl (fun h => ?_) (fun h => ?_)
      | refine g_end T hC (by kernel_rfl) ?_
      | refine g_splitD (fun h => ?_) (fun h => ?_)
      | refine g_splitG rfl rfl rfl (fun h => ?_) (fun h => ?_)
      | refine g_splitP rfl rfl (fun h => ?_) (fun h => ?_)
      | refine g_lit T hC rfl rfl rfl rfl rfl rfl rfl rfl rfl ?_
      | refine g_append T 151 hC (rows := s.order.map intR) (rows2 := [intR x.2]) (rows3 := (s.order ++ [x.2]).map intR) (bytes := 8) rfl rfl rfl rfl (SrcS.sl (T.es_ok _ _ rfl)) (by rw [List.map_append]; rfl) rfl rfl rfl (by kernel_rfl) (by simp only [hlm, List.length_singleton]; omega) (by simp only [hlm, List.length_singleton]; omega) rfl rfl rfl ?_
      | (rw [w1]; refine g_idx T hC rfl rfl rfl (by omega) (map_atI hy) rfl rfl ?_)
      | refine g_idx T hC rfl rfl rfl ht (map_atI hty) rfl rfl ?_
      | refine g_callR hC (hL) (nm [151, 171, 172, 160]) rfl rfl (LeSs.refl _) rfl rfl rfl rfl rfl rfl rfl rfl ?_
    simp only
    rw [wrapS (by omega)]
    exact g_round (i + 1, lookS k d m (ty.f.zip y.f) ⟨s.order ++ [x.2], s.again⟩) ⟨by simp only; omega, hkeep.1, by simp only; omega, hn⟩ (mv 150 160) (by simp only; omega) ⟨rfl, ⟨rfl, rfl, rfl, rfl, rfl, rfl, rfl, trivial⟩, ⟨rfl, rfl, rfl, rfl, rfl, trivial⟩, rfl, fun i hi => mv_low (by omega) hi⟩

theorem rreach_ok {d : Desc} {m : Hp} (hw : WG d m) : FnOK Tryz.prog 24 [aggS (descR d), aggS (memR m)] [] (.agg [.p (intsP (searchS d m).order), .p (ki (searchS d m).again)]) [] := by
  have hL := rlook_ok hw.toWF (m.n.length + 1) d.globals m.g ⟨[], 0⟩ hw.glen hw.gref ⟨by simp, by simp⟩ (by simp)
  refine fn_ok T Tryz.func24 (by kernel_rfl) rfl rfl rfl rfl fun C hC => ?_
  repeat' first
    | refine g_go T hC true 400 rfl rfl ?_
    | refine g_cond rfl (fun h => ?_) (fun h => ?_)
    | refine g_end T hC (by kernel_rfl) ?_
    | refine g_splitD (fun h => ?_) (fun h => ?_)
    | refine g_splitG rfl rfl rfl (fun h => ?_) (fun h => ?_)
    | refine g_splitP rfl rfl (fun h => ?_) (fun h => ?_)
    | refine g_lit T hC rfl rfl rfl rfl rfl rfl rfl rfl rfl ?_
  refine g_adopt hC rfl 101 1 rfl [(7, .agg [.ar 101, .p (ki 0)])] ⟨⟨_, rfl, AdS.agg (.cons .nil (.cons (.refl _) .nil))⟩, trivial⟩ [] trivial ?_
  repeat' first
    | refine g_go T hC true 400 rfl rfl ?_
    | refine g_cond rfl (fun h => ?_) (fun h => ?_)
    | refine g_end T hC (by kernel_rfl) ?_
    | refine g_splitD (fun h => ?_) (fun h => ?_)
    | refine g_splitG rfl rfl rfl (fun h => ?_) (fun h => ?_)
    | refine g_splitP rfl rfl (fun h => ?_) (fun h => ?_)
    | refine g_callR hC (hL) (nm [101, 171, 172, 160]) rfl rfl (LeSs.refl _) rfl rfl rfl rfl rfl rfl rfl rfl ?_
  refine g_freeze rfl (id := 160) (e := 1) (rows := (searchS d m).order.map intR) rfl [] trivial [(1004, [.p (intsP (searchS d m).order), .p (ki (searchS d m).again)])] ⟨⟨_, rfl, by decide, .cons .ar (.cons (.refl _) .nil)⟩, trivial⟩ ?_
  exact g_fin ⟨.inl rfl, id, _, rfl, .refl _, trivial, rfl, rfl⟩

/-! The reference's renumbering -/
theorem rren_ok (l : List Fld) (v order : List Int) (hlv : l.length = v.length) (hv : v.length ≤ 1000000) (ho : order.length ≤ 1000000) (hz : posI order 0 = 0) :
    FnOK Tryz.prog 73 [pS (fieldsP l), pS (intsP v), pS (intsP order)] [] (pS (intsP (renS order l v))) [] := by
  have hrl : (renS order l v).length = v.length := by simp only [renS, List.length_map, List.length_zip]; omega
  refine fn_ok T Tryz.func73 (by kernel_rfl) rfl rfl rfl rfl fun C hC => ?_
  refine g_len 0 rfl fun hlen => ?_
  rw [List.length_map] at hlen
  repeat' first
    | refine g_go T hC true 400 rfl rfl ?_
    | refine g_cond rfl (fun h => ?_) (fun h => ?_)
    | refine g_end T hC (by kernel_rfl) ?_
    | refine g_splitD (fun h => ?_) (fun h => ?_)
    | refine g_splitG rfl rfl rfl (fun h => ?_) (fun h => ?_)
    | refine g_splitP rfl rfl (fun h => ?_) (fun h => ?_)
  refine g_adopt hC rfl 101 1 rfl [(7, .one (.ar 101))] ⟨⟨_, rfl, AdS.nil⟩, trivial⟩ [] trivial ?_
  refine g_loop (fun i : Nat => i ≤ l.length) (fun i => ([(0, pS (fieldsP l)), (1, pS (intsP v)), (2, pS (intsP order)), (7, .one (.ar 101)), (8, I i)], [(101, some (Res.arr 1 (((renS order l v).take i).map intR)))])) (fun i => l.length - i) hC
    0 (Nat.zero_le _) id ⟨rfl, ⟨rfl, rfl, rfl, rfl, rfl, trivial⟩, ⟨rfl, trivial⟩, rfl, fun _ _ => rfl⟩ ?_
  intro i hi
  refine g_run' T hC true 200 rfl ?_
  refine g_cond rfl (fun h => ?_) (fun h => ?_)
  rotate_left
  · have hge : ¬ i < l.length := by simpa using h
    rw [List.take_of_length_le (by omega)]
    repeat' first
      | refine g_go T hC true 400 rfl rfl ?_
      | refine g_cond rfl (fun h => ?_) (fun h => ?_)
      | refine g_end T hC (by kernel_rfl) ?_
      | refine g_splitD (fun h => ?_) (fun h => ?_)
      | refine g_splitG rfl rfl rfl (fun h => ?_) (fun h => ?_)
      | refine g_splitP rfl rfl (fun h => ?_) (fun h => ?_)
      | refine g_outE ?_
    refine g_freeze rfl (id := 101) (e := 1) (rows := (renS order l v).map intR) rfl [(6, pS (intsP (renS order l v)))] ⟨⟨_, rfl, FrS.ar⟩, trivial⟩ [] trivial ?_
    exact g_fin ⟨.inl rfl, id, _, rfl, .refl _, trivial, rfl, rfl⟩
  have hlt : i < l.length := by simpa using h
  clear h
  obtain ⟨x, hx⟩ := exists_at (l := l.zip v) (i := i) (by rw [List.length_zip]; omega)
  obtain ⟨hx1, hx2⟩ := zip_at hx
  have hri : (renS order l v)[i]? = some (renOf order x) := by simp only [renS, List.getElem?_map, hx, Option.map_some]
  have hal : (((renS order l v).take i).map intR).length = i := by simp only [List.length_map, List.length_take]; omega
  have happ : ∀ y, renOf order x = y → ((renS order l v).take i).map intR ++ [intR y] = ((renS order l v).take (i + 1)).map intR := by
    intro y hy
    rw [take_snoc' hri, List.map_append, hy]; rfl
  have hpos : IntKind.i64.wrap (inI order x.2 + 1) = posI order x.2 := by
    rcases idxOf_ge (p := fun y : Int => decide (y = x.2)) (l := order) with h1 | ⟨j, y, h1, h2, _⟩
    · exact wrap64 (by have : inI order x.2 = -1 := h1; omega)
    · have hj : j < order.length := (List.getElem?_eq_some_iff.1 h2).1
      exact wrap64 (by have : inI order x.2 = j := h1; omega)
  repeat' first
    | refine g_go T hC true 400 rfl rfl ?_
    | refine g_cond rfl (fun h => ?_) (fun h => ?_)
    | refine g_end T hC (by kernel_rfl) ?_
    | refine g_splitD (fun h => ?_) (fun h => ?_)
    | refine g_splitG rfl rfl rfl (fun h => ?_) (fun h => ?_)
    | refine g_splitP rfl rfl (fun h => ?_) (fun h => ?_)
    | refine g_idx T hC rfl rfl rfl (Int.natCast_nonneg _) (map_at (by assumption)) rfl rfl ?_
    | refine g_call hC (in_ok order x.2) rfl rfl (LeSs.refl _) rfl rfl rfl ?_
    | refine g_lit T hC rfl rfl rfl rfl rfl rfl rfl rfl rfl ?_
  · rename_i k1 k2
    rw [hpos]
    have hren : renOf order x = posI order x.2 := by simp only [renOf, isPlain]; simp_all
    refine g_append T 102 hC (rows := ((renS order l v).take i).map intR) (rows2 := [intR (posI order x.2)]) (rows3 := ((renS order l v).take (i + 1)).map intR) (bytes := 8) rfl rfl rfl rfl (SrcS.sl (T.es_ok _ _ rfl)) (happ _ hren) rfl rfl rfl (by kernel_rfl) (by rw [hal, List.length_singleton]; omega) (by rw [hal, List.length_singleton]; omega) rfl rfl rfl ?_
    repeat' first
      | refine g_go T hC true 400 rfl rfl ?_
      | refine g_cond rfl (fun h => ?_) (fun h => ?_)
      | refine g_end T hC (by kernel_rfl) ?_
      | refine g_splitD (fun h => ?_) (fun h => ?_)
      | refine g_splitG rfl rfl rfl (fun h => ?_) (fun h => ?_)
      | refine g_splitP rfl rfl (fun h => ?_) (fun h => ?_)
    rw [wrapS (by omega)]
    exact g_round (i + 1) (by omega) (mv 101 102) (by omega) ⟨rfl, ⟨rfl, rfl, rfl, rfl, rfl, trivial⟩, ⟨rfl, trivial⟩, rfl, fun i hi => mv_low (by omega) hi⟩
  · rename_i k1 k2
    have e : x.2 = 0 := by simpa using h
    have hren : renOf order x = x.2 := by simp only [renOf, e, hz, ite_self]
    refine g_append T 102 hC (rows := ((renS order l v).take i).map intR) (rows2 := [intR (x.2)]) (rows3 := ((renS order l v).take (i + 1)).map intR) (bytes := 8) rfl rfl rfl rfl (SrcS.sl (T.es_ok _ _ rfl)) (happ _ hren) rfl rfl rfl (by kernel_rfl) (by rw [hal, List.length_singleton]; omega) (by rw [hal, List.length_singleton]; omega) rfl rfl rfl ?_
    repeat' first
      | refine g_go T hC true 400 rfl rfl ?_
      | refine g_cond rfl (fun h => ?_) (fun h => ?_)
      | refine g_end T hC (by kernel_rfl) ?_
      | refine g_splitD (fun h => ?_) (fun h => ?_)
      | refine g_splitG rfl rfl rfl (fun h => ?_) (fun h => ?_)
      | refine g_splitP rfl rfl (fun h => ?_) (fun h => ?_)
    rw [wrapS (by omega)]
    exact g_round (i + 1) (by omega) (mv 101 102) (by omega) ⟨rfl, ⟨rfl, rfl, rfl, rfl, rfl, trivial⟩, ⟨rfl, trivial⟩, rfl, fun i hi => mv_low (by omega) hi⟩
  · rename_i k1
    have hren : renOf order x = x.2 := by simp only [renOf, isPlain]; simp_all
    refine g_append T 102 hC (rows := ((renS order l v).take i).map intR) (rows2 := [intR (x.2)]) (rows3 := ((renS order l v).take (i + 1)).map intR) (bytes := 8) rfl rfl rfl rfl (SrcS.sl (T.es_ok _ _ rfl)) (happ _ hren) rfl rfl rfl (by kernel_rfl) (by rw [hal, List.length_singleton]; omega) (by rw [hal, List.length_singleton]; omega) rfl rfl rfl ?_
    repeat' first
      | refine g_go T hC true 400 rfl rfl ?_
      | refine g_cond rfl (fun h => ?_) (fun h => ?_)
      | refine g_end T hC (by kernel_rfl) ?_
      | refine g_splitD (fun h => ?_) (fun h => ?_)
      | refine g_splitG rfl rfl rfl (fun h => ?_) (fun h => ?_)
      | refine g_splitP rfl rfl (fun h => ?_) (fun h => ?_)
    rw [wrapS (by omega)]
    exact g_round (i + 1) (by omega) (mv 101 102) (by omega) ⟨rfl, ⟨rfl, rfl, rfl, rfl, rfl, trivial⟩, ⟨rfl, trivial⟩, rfl, fun i hi => mv_low (by omega) hi⟩
  · have hren : renOf order x = x.2 := by simp only [renOf, isPlain]; simp_all
    refine g_append T 102 hC (rows := ((renS order l v).take i).map intR) (rows2 := [intR (x.2)]) (rows3 := ((renS order l v).take (i + 1)).map intR) (bytes := 8) rfl rfl rfl rfl (SrcS.sl (T.es_ok _ _ rfl)) (happ _ hren) rfl rfl rfl (by kernel_rfl) (by rw [hal, List.length_singleton]; omega) (by rw [hal, List.length_singleton]; omega) rfl rfl rfl ?_
    repeat' first
      | refine g_go T hC true 400 rfl rfl ?_
      | refine g_cond rfl (fun h => ?_) (fun h => ?_)
      | refine g_end T hC (by kernel_rfl) ?_
      | refine g_splitD (fun h => ?_) (fun h => ?_)
      | refine g_splitG rfl rfl rfl (fun h => ?_) (fun h => ?_)
      | refine g_splitP rfl rfl (fun h => ?_) (fun h => ?_)
    rw [wrapS (by omega)]
    exact g_round (i + 1) (by omega) (mv 101 102) (by omega) ⟨rfl, ⟨rfl, rfl, rfl, rfl, rfl, trivial⟩, ⟨rfl, trivial⟩, rfl, fun i hi => mv_low (by omega) hi⟩

theorem rcanon_ok {d : Desc} {m : Hp} (hval : validM d m = true) : FnOK Tryz.prog 26 [aggS (descR d), aggS (memR m)] [] (aggS (memR (canonS d m (searchS d m)))) [] := by
  have hw := wg_of hval
  have hs := search_ok hval
  have hz := sizes_of hval
  have hsm := hw.small
  have hle := hs.le
  have h0 : posI (searchS d m).order 0 = 0 := by
    have := idxOf_any (fun y : Int => decide (y = 0)) (searchS d m).order
    rcases idxOf_ge (p := fun y : Int => decide (y = 0)) (l := (searchS d m).order) with h1 | ⟨j, y, h1, h2, h3, _⟩
    · rw [posI, h1]; rfl
    · have := hs.inr y (List.mem_of_getElem? h2)
      have : y = 0 := by simpa using h3
      omega
  have hR := fun (l : List Fld) (v : List Int) h1 h2 => rren_ok l v (searchS d m).order h1 h2 (by omega) h0
  refine fn_ok T Tryz.func26 (by kernel_rfl) rfl rfl rfl rfl fun C hC => ?_
  repeat' first
    | refine g_go T hC true 400 rfl rfl ?_
    | refine g_cond rfl (fun h => ?_) (fun h => ?_)
    | refine g_end T hC (by kernel_rfl) ?_
    | refine g_splitD (fun h => ?_) (fun h => ?_)
    | refine g_splitG rfl rfl rfl (fun h => ?_) (fun h => ?_)
    | refine g_splitP rfl rfl (fun h => ?_) (fun h => ?_)
    | refine g_call hC (rreach_ok hw) rfl rfl (LeSs.refl _) rfl rfl rfl ?_
    | refine g_fieldV hC (m := 0) rfl (by kernel_rfl) rfl rfl rfl ?_
    | refine g_call hC (hR d.globals m.g hw.glen hz.1) rfl rfl (LeSs.refl _) rfl rfl rfl ?_
  refine g_adopt hC rfl 142 2 rfl [] trivial [(1006, [.p (intsP (renS (searchS d m).order d.globals m.g)), .ar 142])] ⟨⟨_, rfl, by decide, .cons (.refl _) (.cons .nil .nil)⟩, trivial⟩ ?_
  generalize hS : searchS d m = s at *
  refine g_loop (fun i : Nat => i ≤ s.order.length) (fun i => ([(2, .one (.bx 1002 0)), (3, .one (.bx 1003 0)), (4, .one (.bx 1004 0)), (5, pS (intsP s.order)), (6, .one (.bx 1006 0)), (7, I i)],
      [(1002, some (Res.box ((descR d).map V.p))), (1003, some (Res.box ((memR m).map V.p))), (1004, some (Res.box [.p (.k (.slice none 0 0)), .p (.k (.slice none 0 0))])), (1006, some (Res.box [.p (intsP (renS s.order d.globals m.g)), .ar 142])), (142, some (Res.arr 2 (((s.order.take i).map (nodeC d m s.order)).map nodeR)))])) (fun i => s.order.length - i) hC
    0 (Nat.zero_le _) id ⟨rfl, ⟨rfl, rfl, rfl, rfl, rfl, rfl, trivial⟩, ⟨rfl, rfl, rfl, rfl, rfl, trivial⟩, rfl, fun _ _ => rfl⟩ ?_
  intro i hi
  refine g_run' T hC true 200 rfl ?_
  refine g_cond rfl (fun h => ?_) (fun h => ?_)
  rotate_left
  · have hge : ¬ i < s.order.length := by simpa using h
    rw [List.take_of_length_le (by omega)]
    repeat' first
      | refine g_go T hC true 400 rfl rfl ?_
      | refine g_cond rfl (fun h => ?_) (fun h => ?_)
      | refine g_end T hC (by kernel_rfl) ?_
      | refine g_splitD (fun h => ?_) (fun h => ?_)
      | refine g_splitG rfl rfl rfl (fun h => ?_) (fun h => ?_)
      | refine g_splitP rfl rfl (fun h => ?_) (fun h => ?_)
      | refine g_outE ?_
    refine g_freeze rfl (id := 142) (e := 2) (rows := ((s.order.map (nodeC d m s.order)).map nodeR)) rfl [] trivial [(1004, [.p (intsP (renS s.order d.globals m.g)), .p (nodesP (s.order.map (nodeC d m s.order)))])] ⟨⟨_, rfl, by decide, .cons (.refl _) (.cons .ar .nil)⟩, trivial⟩ ?_
    exact g_fin ⟨.inl rfl, id, _, rfl, .refl _, trivial, rfl, rfl⟩
  have hlt : i < s.order.length := by simpa using h
  clear h
  obtain ⟨n, hn⟩ := exists_at hlt
  have hnr := hs.inr n (List.mem_of_getElem? hn)
  obtain ⟨x, hx⟩ := exists_at (l := m.n) (i := (n - 1).toNat) (by omega)
  obtain ⟨ht, ty, hty, hlen, _⟩ := hw.node x (List.mem_of_getElem? hx)
  have w1 : IntKind.i64.wrap (n - 1) = n - 1 := wrap64 (by omega)
  have hnc : nodeC d m s.order n = ⟨x.t, renS s.order ty.f x.f⟩ := by simp only [nodeC, hx, fieldsAt, hty, Option.map_some, Option.getD_some]
  have hal : (((s.order.take i).map (nodeC d m s.order)).map nodeR).length = i := by simp only [List.length_map, List.length_take]; omega
  have hr3 : ((s.order.take i).map (nodeC d m s.order)).map nodeR ++ [nodeR ⟨x.t, renS s.order ty.f x.f⟩] = ((s.order.take (i + 1)).map (nodeC d m s.order)).map nodeR := by
    rw [take_snoc' hn, List.map_append, List.map_append, List.map_singleton, List.map_singleton, hnc]
  repeat' first
    | refine g_go T hC true 400 rfl rfl ?_
    | refine g_cond rfl (fun h => ?_) (fun h => ?_)
    | refine g_end T hC (by kernel_rfl) ?_
    | refine g_splitD (fun h => ?_) (fun h => ?_)
    | refine g_splitG rfl rfl rfl (fun h => ?_) (fun h => ?_)
    | refine g_splitP rfl rfl (fun h => ?_) (fun h => ?_)
    | refine g_idx T hC rfl rfl rfl (Int.natCast_nonneg _) (map_at (by assumption)) rfl rfl ?_
    | (rw [w1]; refine g_idx T hC rfl rfl rfl (by omega) (map_atI hx) rfl rfl ?_)
    | refine g_idx T hC rfl rfl rfl ht (map_atI hty) rfl rfl ?_
    | refine g_call hC (hR ty.f x.f hlen (hz.2 x (List.mem_of_getElem? hx))) rfl rfl (LeSs.refl _) rfl rfl rfl ?_
    | refine g_lit T hC rfl rfl rfl rfl rfl rfl rfl rfl rfl ?_
  refine g_append T 143 hC (rows := ((s.order.take i).map (nodeC d m s.order)).map nodeR) (rows2 := [nodeR ⟨x.t, renS s.order ty.f x.f⟩]) (rows3 := ((s.order.take (i + 1)).map (nodeC d m s.order)).map nodeR) (bytes := 32) rfl rfl rfl rfl (SrcS.sl (T.es_ok _ _ rfl)) hr3 rfl rfl rfl (by kernel_rfl) (by rw [hal, List.length_singleton]; omega) (by rw [hal, List.length_singleton]; omega) rfl rfl rfl ?_
  repeat' first
    | refine g_go T hC true 400 rfl rfl ?_
    | refine g_cond rfl (fun h => ?_) (fun h => ?_)
    | refine g_end T hC (by kernel_rfl) ?_
    | refine g_splitD (fun h => ?_) (fun h => ?_)
    | refine g_splitG rfl rfl rfl (fun h => ?_) (fun h => ?_)
    | refine g_splitP rfl rfl (fun h => ?_) (fun h => ?_)
  rw [wrapS (by omega)]
  exact g_round (i + 1) (by omega) (mv 142 143) (by omega) ⟨rfl, ⟨rfl, rfl, rfl, rfl, rfl, rfl, trivial⟩, ⟨rfl, rfl, rfl, rfl, rfl, trivial⟩, rfl, fun i hi => mv_low (by omega) hi⟩

theorem heapReaches_ok (d : Desc) (m : Hp) : FnOK Tryz.prog 4 [aggS (descR d), aggS (memR m)] [] (.bq true) [] := by
  have hL := large_ok d [m]
  have hV := valid12_ok d m
  cases hval : validM d m with
  | false =>
    rw [hval] at hV
    have hN := none_ok ⟨[], []⟩
    rw [show noneS ⟨[], []⟩ = true from rfl] at hN
    refine fn_ok T Tryz.func4 (by kernel_rfl) rfl rfl rfl rfl fun C hC => ?_
    repeat' first
      | refine g_go T hC true 400 rfl rfl ?_
      | refine g_cond rfl (fun h => ?_) (fun h => ?_)
      | refine g_end T hC (by kernel_rfl) ?_
      | refine g_splitD (fun h => ?_) (fun h => ?_)
      | refine g_splitG rfl rfl rfl (fun h => ?_) (fun h => ?_)
      | refine g_splitP rfl rfl (fun h => ?_) (fun h => ?_)
      | refine g_call hC (awake_ok) rfl rfl (LeSs.refl _) rfl rfl rfl ?_
      | refine g_lit T hC rfl rfl rfl rfl rfl rfl rfl rfl rfl ?_
      | refine g_call hC (hL) rfl rfl (LeSs.refl _) rfl rfl rfl ?_
      | refine g_call hC (reachable_no hval) rfl rfl (LeSs.refl _) rfl rfl rfl ?_
      | refine g_call hC (canon_no hval) rfl rfl (LeSs.refl _) rfl rfl rfl ?_
      | refine g_call hC (tree_no hval) rfl rfl (LeSs.refl _) rfl rfl rfl ?_
      | refine g_call hC (hV) rfl rfl (LeSs.refl _) rfl rfl rfl ?_
      | refine g_call hC (hN) rfl rfl (LeSs.refl _) rfl rfl rfl ?_
      | refine g_retq T (.inl rfl) rfl ?_
      | refine g_retl T (.inl rfl) rfl ?_
    all_goals clear hL hV hN
    all_goals first | rfl | (exfalso; simp_all; done)
  | true =>
    rw [hval] at hV
    have hS := rreach_ok (wg_of hval)
    have hE := slEqual_ok (searchS d m).order (searchS d m).order
    have hQ := equal_ok (canonS d m (searchS d m)) (canonS d m (searchS d m))
    rw [decide_eq_true rfl] at hE hQ
    refine fn_ok T Tryz.func4 (by kernel_rfl) rfl rfl rfl rfl fun C hC => ?_
    repeat' first
      | refine g_go T hC true 400 rfl rfl ?_
      | refine g_boolsE hC rfl rfl (by kernel_rfl) rfl rfl ?_
      | refine g_cond rfl (fun h => ?_) (fun h => ?_)
      | refine g_end T hC (by kernel_rfl) ?_
      | refine g_splitD (fun h => ?_) (fun h => ?_)
      | refine g_splitG rfl rfl rfl (fun h => ?_) (fun h => ?_)
      | refine g_splitP rfl rfl (fun h => ?_) (fun h => ?_)
      | refine g_call hC (awake_ok) rfl rfl (LeSs.refl _) rfl rfl rfl ?_
      | refine g_lit T hC rfl rfl rfl rfl rfl rfl rfl rfl rfl ?_
      | refine g_call hC (hL) rfl rfl (LeSs.refl _) rfl rfl rfl ?_
      | refine g_call hC (reachable_ok hval) rfl rfl (LeSs.refl _) rfl rfl rfl ?_
      | refine g_call hC (canon_ok hval) rfl rfl (LeSs.refl _) rfl rfl rfl ?_
      | refine g_call hC (tree_ok hval) rfl rfl (LeSs.refl _) rfl rfl rfl ?_
      | refine g_call hC (hV) rfl rfl (LeSs.refl _) rfl rfl rfl ?_
      | refine g_call hC (hS) rfl rfl (LeSs.refl _) rfl rfl rfl ?_
      | refine g_call hC (hE) rfl rfl (LeSs.refl _) rfl rfl rfl ?_
      | refine g_call hC (rcanon_ok hval) rfl rfl (LeSs.refl _) rfl rfl rfl ?_
      | refine g_call hC (hQ) rfl rfl (LeSs.refl _) rfl rfl rfl ?_
      | refine g_retq T (.inl rfl) rfl ?_
      | refine g_retl T (.inl rfl) rfl ?_
    all_goals clear hL hV hS hE hQ
    all_goals first | rfl | (exfalso; simp_all; done) | exact decide_eq_true rfl
end Hw.Z
