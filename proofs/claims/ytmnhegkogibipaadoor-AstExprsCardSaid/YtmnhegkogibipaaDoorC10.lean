/- The engine and the contracts. -/
import Derived.Test.YtmnhegkogibipaaDoorC7
import Derived.Test.YtmnhegkogibipaaDoorC5
import Derived.Test.YtmnhegkogibipaaDoorC9
set_option linter.unusedVariables false
set_option linter.unusedSimpArgs false
namespace Hw.D
open Go Go.Proofs Hw.M

/-! The chapter's examples -/
abbrev nmE (s : Str) : Ex := .mk 4 0 s []
abbrev awE1 : Ex := .mk 10 0 (⟨#[]⟩ : ByteArray) [nmE (⟨#[97]⟩ : ByteArray), .mk 10 0 (⟨#[]⟩ : ByteArray) [nmE (⟨#[98]⟩ : ByteArray), nmE (⟨#[99]⟩ : ByteArray)]]
abbrev awE2 : Ex := .mk 18 0 (⟨#[]⟩ : ByteArray) [.mk 19 0 (⟨#[]⟩ : ByteArray) [nmE (⟨#[97]⟩ : ByteArray), nmE (⟨#[98]⟩ : ByteArray)]]
theorem aw1 : exprTx awE1 = (⟨#[97, 32, 45, 32, 40, 98, 32, 45, 32, 99, 41]⟩ : ByteArray) := by kernel_rfl
theorem aw2 : exprTx awE2 = (⟨#[110, 111, 116, 32, 40, 97, 32, 97, 110, 100, 32, 98, 41]⟩ : ByteArray) := by kernel_rfl
theorem aw3 : exprEr awE1 = 0 := by kernel_rfl
theorem aw4 : exprEr awE2 = 0 := by kernel_rfl
abbrev nmC (s : Str) : List PV := [ki 4, ki 0, ks s, .k (.slice none 0 0)]
theorem nmLR (s : Str) : LR (nmC s) (exprR (nmE s)) := by
  rw [exprR_eq]
  exact .cons (.refl _) (.cons (.refl _) (.cons (.refl _) (.cons (.nil 4) .nil)))
theorem twoLR {op : Int} {a b : List PV} {x y : Ex} (h1 : LR a (exprR x)) (h2 : LR b (exprR y)) : LR [ki op, ki 0, ks (⟨#[]⟩ : ByteArray), .sl 4 [a, b]] (exprR (.mk op 0 (⟨#[]⟩ : ByteArray) [x, y])) := by
  rw [exprR_eq]
  exact .cons (.refl _) (.cons (.refl _) (.cons (.refl _) (.cons (.sl (.cons h1 (.cons h2 .nil))) .nil)))
theorem oneLR {op : Int} {a : List PV} {x : Ex} (h1 : LR a (exprR x)) : LR [ki op, ki 0, ks (⟨#[]⟩ : ByteArray), .sl 4 [a]] (exprR (.mk op 0 (⟨#[]⟩ : ByteArray) [x])) := by
  rw [exprR_eq]
  exact .cons (.refl _) (.cons (.refl _) (.cons (.refl _) (.cons (.sl (.cons h1 .nil)) .nil)))
theorem aw1LR : LR [ki 10, ki 0, ks (⟨#[]⟩ : ByteArray), .sl 4 [nmC (⟨#[97]⟩ : ByteArray), [ki 10, ki 0, ks (⟨#[]⟩ : ByteArray), .sl 4 [nmC (⟨#[98]⟩ : ByteArray), nmC (⟨#[99]⟩ : ByteArray)]]]] (exprC awE1) := by
  have := twoLR (op := 10) (nmLR (⟨#[97]⟩ : ByteArray)) (twoLR (op := 10) (nmLR (⟨#[98]⟩ : ByteArray)) (nmLR (⟨#[99]⟩ : ByteArray)))
  rw [exprR_eq] at this
  exact this
theorem aw2LR : LR [ki 18, ki 0, ks (⟨#[]⟩ : ByteArray), .sl 4 [[ki 19, ki 0, ks (⟨#[]⟩ : ByteArray), .sl 4 [nmC (⟨#[97]⟩ : ByteArray), nmC (⟨#[98]⟩ : ByteArray)]]]] (exprC awE2) := by
  have := oneLR (op := 18) (twoLR (op := 19) (nmLR (⟨#[97]⟩ : ByteArray)) (nmLR (⟨#[98]⟩ : ByteArray)))
  rw [exprR_eq] at this
  exact this
theorem awake09_ok : FnOK Tryd.prog 6 [] [] (.bq true) [] := by
  have h1 := textExpr_ok awE1
  rw [aw1, aw3] at h1
  have h2 := textExpr_ok awE2
  rw [aw2, aw4] at h2
  refine fn_ok T Tryd.func6 (by kernel_rfl) rfl rfl rfl rfl fun C hC => ?_
  repeat' first
    | refine g_go T hC true 400 rfl rfl ?_
    | refine g_cond rfl (fun h => ?_) (fun h => ?_)
    | refine g_end T hC (by kernel_rfl) ?_
    | refine g_splitD (fun h => ?_) (fun h => ?_)
    | refine g_splitG rfl rfl rfl (fun h => ?_) (fun h => ?_)
    | refine g_splitP rfl rfl (fun h => ?_) (fun h => ?_)
    | refine g_lit T hC rfl rfl rfl rfl rfl rfl rfl rfl rfl ?_
    | (refine g_call hC h1 rfl rfl (LeSs.cons (LeS.lr aw1LR) .nil) rfl rfl rfl ?_)
    | (refine g_call hC h2 rfl rfl (LeSs.cons (LeS.lr aw2LR) .nil) rfl rfl rfl ?_)
    | refine g_retq T (.inl rfl) rfl ?_
    | refine g_retl T (.inl rfl) rfl ?_
  all_goals first | rfl | (exfalso; revert h; decide)
end Hw.D
namespace Hw.D
open Go Go.Proofs Hw.M

def notE : Nat → Ex → Ex
  | 0, e => e
  | k + 1, e => .mk 18 0 (⟨#[]⟩ : ByteArray) [notE k e]
theorem notC (k : Nat) (e : Ex) : exprC (notE (k + 1) e) = [ki 18, ki 0, ks (⟨#[]⟩ : ByteArray), .sl 4 [exprC (notE k e)]] := by
  simp only [notE, exprC, exprsP, Ex.op, Ex.n, Ex.s, Ex.l, List.map_cons, List.map_nil]
  rw [show exprR (notE k e) = exprC (notE k e) from exprR_eq _]
  rfl
theorem astExprs_ok (e : Ex) (n : Int) : FnOK Tryd.prog 3 [aggS (exprC e), Kk .u16 n] [] (.bq true) [] := by
  have hF := fits_ok [e]
  generalize hq : (fewL [e] 400).1 = q at hF
  have hT := fun k => textExpr_ok (notE k e)
  have hR := fun k => rtextExpr_ok (notE k e)
  have hV := fun k => validExpr_ok (notE k e)
  have hE := fun k => expr_ok (notE k e)
  have hS := fun k => size_ok (notE k e)
  have hZ := fun k => rsize_ok (notE k e)
  rw [show pS (exprsP [e]) = .one (.p (.sl 4 [exprC e])) by simp only [exprsP, List.map_cons, List.map_nil, exprR_eq]; rfl] at hF
  refine fn_ok T Tryd.func3 (by kernel_rfl) rfl rfl rfl rfl fun C hC => ?_
  repeat' first
    | refine g_go T hC true 400 rfl rfl ?_
    | refine g_boolsE hC rfl rfl (by kernel_rfl) rfl rfl ?_
    | refine g_cond rfl (fun h => ?_) (fun h => ?_)
    | refine g_end T hC (by kernel_rfl) ?_
    | refine g_splitD (fun h => ?_) (fun h => ?_)
    | refine g_splitG rfl rfl rfl (fun h => ?_) (fun h => ?_)
    | refine g_splitP rfl rfl (fun h => ?_) (fun h => ?_)
    | refine g_call hC (awake09_ok) rfl rfl (LeSs.refl _) rfl rfl rfl ?_
    | refine g_lit T hC rfl rfl rfl rfl rfl rfl rfl rfl rfl ?_
    | refine g_call hC (hF) rfl rfl (LeSs.refl _) rfl rfl rfl ?_
    | refine g_rem hC rfl rfl (by decide) rfl rfl ?_
    | refine g_call hC (hT 0) rfl rfl (LeSs.refl _) rfl rfl rfl ?_
    | refine g_call hC (hR 0) rfl rfl (LeSs.refl _) rfl rfl rfl ?_
    | refine g_call hC (hV 0) rfl rfl (LeSs.refl _) rfl rfl rfl ?_
    | refine g_call hC (hE 0) rfl rfl (LeSs.refl _) rfl rfl rfl ?_
    | refine g_call hC (hS 0) rfl rfl (LeSs.refl _) rfl rfl rfl ?_
    | refine g_call hC (hZ 0) rfl rfl (LeSs.refl _) rfl rfl rfl ?_
    | refine g_retq T (.inl rfl) rfl ?_
    | refine g_retl T (.inl rfl) rfl ?_
  all_goals clear hF
  all_goals first
    | rfl
    | (exfalso; cases h; done)
    | (clear hT hR hV hE hS hZ; simp; done)
    | (exfalso; clear hT hR hV hE hS hZ; simp_all; done)
    | skip
  have hlt64 : (IntKind.i64.wrap n).tmod 64 < 64 := Int.tmod_lt_of_pos _ (by decide)
  generalize (IntKind.i64.wrap n).tmod 64 = L at hlt64
  refine g_loop (fun j : Nat => j ≤ L.toNat) (fun j => ([(2, .one (.bx 1002 0)), (19, I L), (20, I j)], [(1002, some (Res.box ((exprC (notE j e)).map V.p)))])) (fun j => L.toNat - j) hC
    0 (Nat.zero_le _) id ⟨rfl, ⟨rfl, rfl, rfl, trivial⟩, ⟨rfl, trivial⟩, rfl, fun q hq => rfl⟩ ?_
  intro j hj
  refine g_run' T hC true 200 rfl ?_
  refine g_cond rfl (fun h => ?_) (fun h => ?_)
  · have hlt : (j : Int) < L := of_decide_eq_true h
    clear h
    repeat' first
      | refine g_go T hC true 400 rfl rfl ?_
      | refine g_cond rfl (fun h => ?_) (fun h => ?_)
      | refine g_end T hC (by kernel_rfl) ?_
      | refine g_splitD (fun h => ?_) (fun h => ?_)
      | refine g_splitG rfl rfl rfl (fun h => ?_) (fun h => ?_)
      | refine g_splitP rfl rfl (fun h => ?_) (fun h => ?_)
      | refine g_lit T hC rfl rfl rfl rfl rfl rfl rfl rfl rfl ?_
    rw [wrap64 (by omega)]
    exact g_round (j + 1) (by omega) id (by omega) ⟨rfl, ⟨rfl, rfl, rfl, trivial⟩, ⟨by rw [notC]; rfl, trivial⟩, rfl, fun q hq => rfl⟩
  · repeat' first
      | refine g_go T hC true 400 rfl rfl ?_
      | refine g_boolsE hC rfl rfl (by kernel_rfl) rfl rfl ?_
      | refine g_cond rfl (fun h => ?_) (fun h => ?_)
      | refine g_end T hC (by kernel_rfl) ?_
      | refine g_splitD (fun h => ?_) (fun h => ?_)
      | refine g_splitG rfl rfl rfl (fun h => ?_) (fun h => ?_)
      | refine g_splitP rfl rfl (fun h => ?_) (fun h => ?_)
      | refine g_outE ?_
      | refine g_call hC (hT j) rfl rfl (LeSs.refl _) rfl rfl rfl ?_
      | refine g_call hC (hR j) rfl rfl (LeSs.refl _) rfl rfl rfl ?_
      | refine g_call hC (hV j) rfl rfl (LeSs.refl _) rfl rfl rfl ?_
      | refine g_call hC (hE j) rfl rfl (LeSs.refl _) rfl rfl rfl ?_
      | refine g_call hC (hS j) rfl rfl (LeSs.refl _) rfl rfl rfl ?_
      | refine g_call hC (hZ j) rfl rfl (LeSs.refl _) rfl rfl rfl ?_
      | refine g_retq T (.inl rfl) rfl ?_
      | refine g_retl T (.inl rfl) rfl ?_
    all_goals clear hT hR hV hE hS hZ
    all_goals first
      | rfl
      | (simp; done)
      | (exfalso; simp_all; done)
end Hw.D
