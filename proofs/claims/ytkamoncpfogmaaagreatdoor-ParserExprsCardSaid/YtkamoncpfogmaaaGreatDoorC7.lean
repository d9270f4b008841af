/- The engine and the contracts. -/
import Derived.Test.YtkamoncpfogmaaaGreatDoorC6
import Derived.Test.YtkamoncpfogmaaaGreatDoorE3
import Derived.Lib.LaidTab
set_option linter.unusedVariables false
set_option linter.unusedSimpArgs false
namespace Hw.Pa
open Go Go.Proofs Hw.M

/-! the examples of the chapter -/
def ax1 : Str := (⟨#[97, 32, 45, 32, 98, 32, 45, 32, 99]⟩ : ByteArray)
def ax2 : Str := (⟨#[110, 111, 116, 32, 97, 32, 61, 61, 32, 98]⟩ : ByteArray)
def ax3 : Str := (⟨#[97, 32, 60, 32, 98, 32, 60, 32, 99]⟩ : ByteArray)
def nmE (s : Str) : Ex := .mk 4 0 s []
def twE (op : Int) (a b : Ex) : Ex := .mk op 0 (⟨#[]⟩ : ByteArray) [a, b]
def awX : Ex := twE 10 (twE 10 (nmE (⟨#[97]⟩ : ByteArray)) (nmE (⟨#[98]⟩ : ByteArray))) (nmE (⟨#[99]⟩ : ByteArray))
def awY : Ex := .mk 18 0 (⟨#[]⟩ : ByteArray) [twE 14 (nmE (⟨#[97]⟩ : ByteArray)) (nmE (⟨#[98]⟩ : ByteArray))]
theorem ax1_eq : exprTop ax1 = (awX, (0, 0), 0) := by kernel_rfl
theorem ax2_eq : exprTop ax2 = (awY, (0, 0), 0) := by kernel_rfl
theorem ax3_eq : exprTop ax3 = (E0, (1, 7), 7) := by kernel_rfl
def ax4 : Str := ⟨#[100, 101, 115, 99, 32, 100, 32, 123, 32, 116, 121, 112, 101, 32, 84, 32, 123, 32, 102, 32, 105, 110, 116, 32, 125, 32, 112, 114, 111, 99, 32, 112, 40, 120, 32, 84, 41, 32, 123, 32, 120, 46, 102, 32, 61, 32, 49, 59, 32, 125, 32, 125]⟩
def ax5 : Str := ⟨#[100, 101, 115, 99, 32, 100, 32, 123, 32, 112, 114, 111, 99, 32, 112, 40, 41, 32, 123, 32, 102, 40, 120, 41, 32, 61, 32, 49, 59, 32, 125, 32, 125]⟩
def awD : Desc := ⟨(⟨#[100]⟩ : ByteArray), [⟨(⟨#[84]⟩ : ByteArray), [⟨(⟨#[102]⟩ : ByteArray), (⟨#[105, 110, 116]⟩ : ByteArray)⟩]⟩], [], [⟨(⟨#[112]⟩ : ByteArray), [⟨(⟨#[120]⟩ : ByteArray), (⟨#[84]⟩ : ByteArray)⟩], (⟨#[]⟩ : ByteArray), [], [.mk 2 (⟨#[102]⟩ : ByteArray) [nmE (⟨#[120]⟩ : ByteArray), .mk 1 1 (⟨#[]⟩ : ByteArray) []] [] []]⟩], [], [], [], []⟩
theorem ax4_eq : descTop ax4 = (awD, (0, 0), 0) := by kernel_rfl
theorem ax5_eq : descTop ax5 = (D0, (1, 26), 7) := by kernel_rfl
theorem aw_v (s : Str) : FnOK Tryz.prog 24 [Sr s] [] (enE (nmE s)) [] := by
  refine fn_ok T Tryz.func24 (by kernel_rfl) rfl rfl rfl rfl fun C hC => ?_
  repeat' first
    | refine g_go T hC true 400 rfl rfl ?_
    | refine g_cond rfl (fun h => ?_) (fun h => ?_)
    | refine g_end T hC (by kernel_rfl) ?_
    | refine g_splitD (fun h => ?_) (fun h => ?_)
    | refine g_splitG rfl rfl rfl (fun h => ?_) (fun h => ?_)
    | refine g_splitP rfl rfl (fun h => ?_) (fun h => ?_)
    | refine g_retl T (.inl rfl) rfl ?_
  exact g_fin ⟨.inl rfl, id, _, rfl, le_ex0 _ _ _, trivial, rfl, rfl⟩
theorem aw_two (op : Int) (a b : Ex) : FnOK Tryz.prog 25 [I op, enE a, enE b] [] (enE (twE op a b)) [] := by
  refine fn_ok T Tryz.func25 (by kernel_rfl) rfl rfl rfl rfl fun C hC => ?_
  repeat' first
    | refine g_go T hC true 400 rfl rfl ?_
    | refine g_cond rfl (fun h => ?_) (fun h => ?_)
    | refine g_end T hC (by kernel_rfl) ?_
    | refine g_splitD (fun h => ?_) (fun h => ?_)
    | refine g_splitG rfl rfl rfl (fun h => ?_) (fun h => ?_)
    | refine g_splitP rfl rfl (fun h => ?_) (fun h => ?_)
    | refine g_lit T hC (rows := [exprR a, exprR b]) rfl rfl rfl (by simp only [exprR_eq]; rfl) rfl rfl rfl rfl rfl ?_
    | refine g_retl T (.inl rfl) rfl ?_
  exact g_fin ⟨.inl rfl, id, _, rfl, .refl _, trivial, rfl, rfl⟩
theorem aw_same (x : Ex) (h : sameE x x = true) : FnOK Tryz.prog 16 [enE x, enE x] [] (Bo true) [] := fnSub (rsameExpr_ok (sizeOf x + 1) x x (Nat.lt_succ_self _)) (.bq h)
theorem awake10_ok : FnOK Tryz.prog 7 [] [] (.bq true) [] := by
  have h1 := parserExpr_ok ax1 (by decide)
  have h2 := parserExpr_ok ax2 (by decide)
  have h3 := parserExpr_ok ax3 (by decide)
  have h4 := parserParse_ok ax4 (by decide)
  have h5 := parserParse_ok ax5 (by decide)
  rw [ax1_eq] at h1
  rw [ax2_eq] at h2
  rw [ax3_eq] at h3
  rw [ax4_eq] at h4
  rw [ax5_eq] at h5
  unfold ax1 at h1
  unfold ax2 at h2
  unfold ax3 at h3
  unfold ax4 at h4
  unfold ax5 at h5
  refine fn_ok T Tryz.func7 (by kernel_rfl) rfl rfl rfl rfl fun C hC => ?_
  have s1 := aw_same awX (by decide +kernel)
  have s2 := aw_same awY (by decide +kernel)
  repeat' first
    | refine g_go T hC true 400 rfl rfl ?_
    | (exfalso; revert h; decide)
    | refine g_cond rfl (fun h => ?_) (fun h => ?_)
    | refine g_end T hC (by kernel_rfl) ?_
    | refine g_splitD (fun h => ?_) (fun h => ?_)
    | refine g_splitG rfl rfl rfl (fun h => ?_) (fun h => ?_)
    | refine g_splitP rfl rfl (fun h => ?_) (fun h => ?_)
    | refine g_call hC (h1) rfl rfl (LeSs.refl _) rfl rfl rfl ?_
    | refine g_call hC (h2) rfl rfl (LeSs.refl _) rfl rfl rfl ?_
    | refine g_call hC (h3) rfl rfl (LeSs.refl _) rfl rfl rfl ?_
    | refine g_call hC (h4) rfl rfl (LeSs.refl _) rfl rfl rfl ?_
    | refine g_call hC (h5) rfl rfl (LeSs.refl _) rfl rfl rfl ?_
    | refine g_call hC ((aw_v _)) rfl rfl (LeSs.refl _) rfl rfl rfl ?_
    | refine g_call hC ((aw_two _ _ _)) rfl rfl (LeSs.refl _) rfl rfl rfl ?_
    | refine g_call hC (s1) rfl rfl (LeSs.refl _) rfl rfl rfl ?_
    | refine g_call hC (s2) rfl rfl (LeSs.refl _) rfl rfl rfl ?_
    | refine g_lit T hC (rows := [exprR (twE 14 (nmE (⟨#[97]⟩ : ByteArray)) (nmE (⟨#[98]⟩ : ByteArray)))]) rfl rfl rfl (by simp only [exprR_eq]; rfl) rfl rfl rfl rfl rfl ?_
    | (refine g_eqF hC [.i .i64, .i .i64] [.i .i64 1, .i .i64 7] [.i .i64 1, .i .i64 7] rfl rfl (by kernel_rfl) (by kernel_rfl) rfl rfl (by kernel_rfl) rfl rfl ?_)
    | (refine g_eqF hC [.i .i64, .i .i64] [.i .i64 1, .i .i64 26] [.i .i64 1, .i .i64 26] rfl rfl (by kernel_rfl) (by kernel_rfl) rfl rfl (by kernel_rfl) rfl rfl ?_)
    | refine g_idx T hC rfl rfl rfl (Int.le_refl _) (show _ = some (procR _) from rfl) rfl rfl ?_
    | refine g_idx T hC (row := stmtC (.mk 2 (⟨#[102]⟩ : ByteArray) [nmE (⟨#[120]⟩ : ByteArray), .mk 1 1 (⟨#[]⟩ : ByteArray) []] [] [])) rfl rfl rfl (Int.le_refl _) (map_atS (l := [.mk 2 (⟨#[102]⟩ : ByteArray) [nmE (⟨#[120]⟩ : ByteArray), .mk 1 1 (⟨#[]⟩ : ByteArray) []] [] []]) (i := 0) rfl) rfl rfl ?_
    | refine g_retl T (.inl rfl) rfl ?_
    | refine g_retq T (.inl rfl) rfl ?_
  all_goals exact decide_eq_true rfl
end Hw.Pa
namespace Hw.Pa
open Go Go.Proofs Hw.M

/-! ParserExprs: the law -/
theorem long_ok (s : Str) : FnOK Tryz.prog 8 [Sr s] [] (.bq ((decide (2000 < (s.size : Int)) && decide ((s.size : Int) ≤ 65536)) || decide (70000 < (s.size : Int)))) [] := by
  refine fn_ok T Tryz.func8 (by kernel_rfl) rfl rfl rfl rfl fun C hC => ?_
  repeat' first
    | refine g_go T hC true 400 rfl rfl ?_
    | refine g_cond rfl (fun h => ?_) (fun h => ?_)
    | refine g_end T hC (by kernel_rfl) ?_
    | refine g_splitD (fun h => ?_) (fun h => ?_)
    | refine g_splitG rfl rfl rfl (fun h => ?_) (fun h => ?_)
    | refine g_splitP rfl rfl (fun h => ?_) (fun h => ?_)
    | refine g_retq T (.inl rfl) rfl ?_
    | refine g_retl T (.inl rfl) rfl ?_
  all_goals (simp_all <;> omega)
theorem exprTop_small (s : Str) : cntE (exprTop s).1 ≤ 1000 ∧ okE (exprTop s).1 1 = true := by
  have h0 : cntE E0 ≤ 1000 ∧ okE E0 1 = true := by decide
  have key : (exprTop s).1 = E0 ∨ exprOk (exprTop s).1 = true := by
    unfold exprTop
    split
    · unfold topT
      split
      · split
        · split
          · split
            · rename_i h; exact .inr h
            · exact .inl rfl
          · exact .inl rfl
        · exact .inl rfl
      · split
        · exact .inl rfl
        · exact .inl rfl
      · exact .inl rfl
    · exact .inl rfl
  rcases key with h | h
  · rw [h]; exact h0
  · exact exprOk_cnt h
theorem parserExprs_ok (s : Str) : FnOK Tryz.prog 4 [Sr s] [] (.bq true) [] := by
  by_cases hs : s.size ≤ 1000000
  · have hE := parserExpr_ok s hs
    have hF := refExpr_ok s hs
    obtain ⟨hc, ho⟩ := exprTop_small s
    generalize exprTop s = R at hE hF hc ho
    obtain ⟨x, ⟨p1, p2⟩, e⟩ := R
    simp only at hE hF hc ho
    have hL := large_ok x hc ho
    have hS := rsameExpr_ok (sizeOf x + 1) x x (Nat.lt_succ_self _)
    rw [sameE_refl (sizeOf x + 1) x (Nat.lt_succ_self _)] at hS
    refine fn_ok T Tryz.func4 (by kernel_rfl) rfl rfl rfl rfl fun C hC => ?_
    repeat' first
      | refine g_go T hC true 400 rfl rfl ?_
      | (exfalso; simp at h; done)
      | refine g_cond rfl (fun h => ?_) (fun h => ?_)
      | refine g_end T hC (by kernel_rfl) ?_
      | refine g_splitD (fun h => ?_) (fun h => ?_)
      | refine g_splitG rfl rfl rfl (fun h => ?_) (fun h => ?_)
      | refine g_splitP rfl rfl (fun h => ?_) (fun h => ?_)
      | refine g_call hC (awake10_ok) rfl rfl (LeSs.refl _) rfl rfl rfl ?_
      | refine g_call hC ((long_ok s)) rfl rfl (LeSs.refl _) rfl rfl rfl ?_
      | refine g_call hC (hE) rfl rfl (LeSs.refl _) rfl rfl rfl ?_
      | refine g_call hC (hF) rfl rfl (LeSs.refl _) rfl rfl rfl ?_
      | refine g_call hC (hL) rfl rfl (LeSs.refl _) rfl rfl rfl ?_
      | refine g_call hC (hS) rfl rfl (LeSs.refl _) rfl rfl rfl ?_
      | (refine g_eqF hC [.i .i64, .i .i64] [.i .i64 p1, .i .i64 p2] [.i .i64 p1, .i .i64 p2] rfl rfl (by kernel_rfl) (by kernel_rfl) rfl rfl (by kernel_rfl) rfl rfl ?_)
      | refine g_retq T (.inl rfl) rfl ?_
      | refine g_retl T (.inl rfl) rfl ?_
    all_goals first
      | rfl
      | (simp; done)
      | (exfalso; simp_all; done)
      | (simp_all; done)
      | skip
  · have hb : (70000 : Int) < s.size := by omega
    have hL := long_ok s
    rw [decide_eq_true hb, Bool.or_true] at hL
    refine fn_ok T Tryz.func4 (by kernel_rfl) rfl rfl rfl rfl fun C hC => ?_
    repeat' first
      | refine g_go T hC true 400 rfl rfl ?_
      | (exfalso; simp at h; done)
      | refine g_cond rfl (fun h => ?_) (fun h => ?_)
      | refine g_end T hC (by kernel_rfl) ?_
      | refine g_splitD (fun h => ?_) (fun h => ?_)
      | refine g_splitG rfl rfl rfl (fun h => ?_) (fun h => ?_)
      | refine g_splitP rfl rfl (fun h => ?_) (fun h => ?_)
      | refine g_call hC (awake10_ok) rfl rfl (LeSs.refl _) rfl rfl rfl ?_
      | refine g_call hC (hL) rfl rfl (LeSs.refl _) rfl rfl rfl ?_
      | refine g_retq T (.inl rfl) rfl ?_
      | refine g_retl T (.inl rfl) rfl ?_
    all_goals first
      | rfl
      | (simp; done)
end Hw.Pa
/- A laid variable that holds an interface value. -/
namespace Hw
open Go Go.Proofs
theorem iface_cell {P : Program} {W : World} {name nm : String} {d : DataW Unit} {rest : List (String × DataW Unit)} {g : Nat} {t : TypeId} {ms : Array (String × TypeId)}
    (hg : P.globalNamed name = some g) (hty : (P.globals[g]?).map (·.type) = some t) (ht : P.underlying t = some (.interface ms)) (h : laidMet P ((name, .iface nm d) :: rest) W) : ∃ u v, memOf W g 0 = some (.iface u v) := by
  obtain ⟨ps, ⟨g', t', cs, fuel, p, q, hg', ht', hvar, hd, _, _⟩, _⟩ := h
  obtain rfl := Option.some.inj (hg.symm.trans hg')
  obtain rfl := Option.some.inj (hty.symm.trans ht')
  have hc := World.var?_cell hg hvar 0
  unfold memOf
  rw [hc]
  cases fuel with
  | zero => simp [DataW.trod] at hd
  | succ fuel =>
    rw [← Array.getElem?_toList]
    generalize cs.toList = l at hd
    match l, hd with
    | [], hd => simp [DataW.trod, ht] at hd
    | v :: w :: r, hd => simp [DataW.trod, ht] at hd
    | [v], hd =>
      cases v with
      | iface u x => exact ⟨u, x, rfl⟩
      | _ => simp [DataW.trod, ht] at hd
end Hw
