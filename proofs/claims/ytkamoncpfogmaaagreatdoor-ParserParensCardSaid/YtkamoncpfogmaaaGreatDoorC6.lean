/- The engine and the contracts. -/
import Derived.Test.YtkamoncpfogmaaaGreatDoorC5
import Derived.Test.YtkamoncpfogmaaaGreatDoorC1
import Derived.Test.YtkamoncpfogmaaaGreatDoorE3
import Derived.Test.YtkamoncpfogmaaaGreatDoorC2
set_option linter.unusedVariables false
set_option linter.unusedSimpArgs false
namespace Hw.Pa
open Go Go.Proofs Hw.M

def ax1 : Str := (⟨#[97, 32, 45, 32, 98, 32, 45, 32, 99]⟩ : ByteArray)
def ax2 : Str := (⟨#[110, 111, 116, 32, 97, 32, 61, 61, 32, 98]⟩ : ByteArray)
def ax3 : Str := (⟨#[97, 32, 60, 32, 98, 32, 60, 32, 99]⟩ : ByteArray)
def nmE (s : Str) : Ex := .mk 4 0 s []
def twE (op : Int) (a b : Ex) : Ex := .mk op 0 (⟨#[]⟩ : ByteArray) [a, b]
def awX : Ex := twE 10 (twE 10 (nmE (⟨#[97]⟩ : ByteArray)) (nmE (⟨#[98]⟩ : ByteArray))) (nmE (⟨#[99]⟩ : ByteArray))
def awY : Ex := .mk 18 0 (⟨#[]⟩ : ByteArray) [twE 14 (nmE (⟨#[97]⟩ : ByteArray)) (nmE (⟨#[98]⟩ : ByteArray))]
theorem ax1_eq : exprTop ax1 = (awX, (0, 0), 0) := by kernel_rfl
theorem ax2_eq : exprTop ax2 = (awY, (0, 0), 0) := by kernel_rfl
theorem ax3_eq : exprTop ax3 = (E0, (1, 7), 7) := by kernel_rfl
def ax4 : Str := ⟨#[100, 101, 115, 99, 32, 100, 32, 123, 32, 116, 121, 112, 101, 32, 84, 32, 123, 32, 102, 32, 105, 110, 116, 32, 125, 32, 112, 114, 111, 99, 32, 112, 40, 120, 32, 84, 41, 32, 123, 32, 120, 46, 102, 32, 61, 32, 49, 59, 32, 125, 32, 125]⟩
def ax5 : Str := ⟨#[100, 101, 115, 99, 32, 100, 32, 123, 32, 112, 114, 111, 99, 32, 112, 40, 41, 32, 123, 32, 102, 40, 120, 41, 32, 61, 32, 49, 59, 32, 125, 32, 125]⟩
def awD : Desc := ⟨(⟨#[100]⟩ : ByteArray), [⟨(⟨#[84]⟩ : ByteArray), [⟨(⟨#[102]⟩ : ByteArray), (⟨#[105, 110, 116]⟩ : ByteArray)⟩]⟩], [], [⟨(⟨#[112]⟩ : ByteArray), [⟨(⟨#[120]⟩ : ByteArray), (⟨#[84]⟩ : ByteArray)⟩], (⟨#[]⟩ : ByteArray), [], [.mk 2 (⟨#[102]⟩ : ByteArray) [nmE (⟨#[120]⟩ : ByteArray), .mk 1 1 (⟨#[]⟩ : ByteArray) []] [] []]⟩], [], [], [], []⟩
theorem ax4_eq : descTop ax4 = (awD, (0, 0), 0) := by kernel_rfl
theorem ax5_eq : descTop ax5 = (D0, (1, 26), 7) := by kernel_rfl
theorem aw_v (s : Str) : FnOK Tryz.prog 24 [Sr s] [] (enE (nmE s)) [] := by
  refine fn_ok T Tryz.func24 (by kernel_rfl) rfl rfl rfl rfl fun C hC => ?_
  repeat' first | refine g_go T hC true 400 rfl rfl ?_ | refine g_cond rfl (fun h => ?_) (fun h => ?_) | refine g_retl T (.inl rfl) rfl ?_
  exact g_fin ⟨.inl rfl, id, _, rfl, le_ex0 _ _ _, trivial, rfl, rfl⟩
theorem aw_two (op : Int) (a b : Ex) : FnOK Tryz.prog 25 [I op, enE a, enE b] [] (enE (twE op a b)) [] := by
  refine fn_ok T Tryz.func25 (by kernel_rfl) rfl rfl rfl rfl fun C hC => ?_
  repeat' first | refine g_go T hC true 400 rfl rfl ?_ | refine g_cond rfl (fun h => ?_) (fun h => ?_) | refine g_lit T hC (rows := [exprR a, exprR b]) rfl rfl rfl (by simp only [exprR_eq]; rfl) rfl rfl rfl rfl rfl ?_ | refine g_retl T (.inl rfl) rfl ?_
  exact g_fin ⟨.inl rfl, id, _, rfl, .refl _, trivial, rfl, rfl⟩
theorem aw_same (x : Ex) (h : sameE x x = true) : FnOK Tryz.prog 16 [enE x, enE x] [] (Bo true) [] := fnSub (rsameExpr_ok (sizeOf x + 1) x x (Nat.lt_succ_self _)) (.bq h)
theorem awake10_ok : FnOK Tryz.prog 7 [] [] (.bq true) [] := by
  have h1 := parserExpr_ok ax1 (by decide)
  have h2 := parserExpr_ok ax2 (by decide)
  have h3 := parserExpr_ok ax3 (by decide)
  have h4 := parserParse_ok ax4 (by decide)
  have h5 := parserParse_ok ax5 (by decide)
  rw [ax1_eq] at h1
  rw [ax2_eq] at h2
  rw [ax3_eq] at h3
  rw [ax4_eq] at h4
  rw [ax5_eq] at h5
  unfold ax1 at h1
  unfold ax2 at h2
  unfold ax3 at h3
  unfold ax4 at h4
  unfold ax5 at h5
  refine fn_ok T Tryz.func7 (by kernel_rfl) rfl rfl rfl rfl fun C hC => ?_
  have s1 := aw_same awX (by decide +kernel)
  have s2 := aw_same awY (by decide +kernel)
  repeat' first | refine g_go T hC true 400 rfl rfl ?_ | (exfalso; revert h; decide) | refine g_cond rfl (fun h => ?_) (fun h => ?_) | refine g_end T hC (by kernel_rfl) ?_ | refine g_splitD (fun h => ?_) (fun h => ?_) | refine g_call hC (h1) rfl rfl (LeSs.refl _) rfl rfl rfl ?_ | refine g_call hC (h2) rfl rfl (LeSs.refl _) rfl rfl rfl ?_ | refine g_call hC (h3) rfl rfl (LeSs.refl _) rfl rfl rfl ?_ | refine g_call hC (h4) rfl rfl (LeSs.refl _) rfl rfl rfl ?_ | refine g_call hC (h5) rfl rfl (LeSs.refl _) rfl rfl rfl ?_ | refine g_call hC ((aw_v _)) rfl rfl (LeSs.refl _) rfl rfl rfl ?_ | refine g_call hC ((aw_two _ _ _)) rfl rfl (LeSs.refl _) rfl rfl rfl ?_ | refine g_call hC (s1) rfl rfl (LeSs.refl _) rfl rfl rfl ?_ | refine g_call hC (s2) rfl rfl (LeSs.refl _) rfl rfl rfl ?_ | refine g_lit T hC (rows := [exprR (twE 14 (nmE (⟨#[97]⟩ : ByteArray)) (nmE (⟨#[98]⟩ : ByteArray)))]) rfl rfl rfl (by simp only [exprR_eq]; rfl) rfl rfl rfl rfl rfl ?_ | (refine g_eqF hC [.i .i64, .i .i64] [.i .i64 1, .i .i64 7] [.i .i64 1, .i .i64 7] rfl rfl (by kernel_rfl) (by kernel_rfl) rfl rfl (by kernel_rfl) rfl rfl ?_) | (refine g_eqF hC [.i .i64, .i .i64] [.i .i64 1, .i .i64 26] [.i .i64 1, .i .i64 26] rfl rfl (by kernel_rfl) (by kernel_rfl) rfl rfl (by kernel_rfl) rfl rfl ?_) | refine g_idx T hC rfl rfl rfl (Int.le_refl _) (show _ = some (procR _) from rfl) rfl rfl ?_ | refine g_idx T hC (row := stmtC (.mk 2 (⟨#[102]⟩ : ByteArray) [nmE (⟨#[120]⟩ : ByteArray), .mk 1 1 (⟨#[]⟩ : ByteArray) []] [] [])) rfl rfl rfl (Int.le_refl _) (map_atS (l := [.mk 2 (⟨#[102]⟩ : ByteArray) [nmE (⟨#[120]⟩ : ByteArray), .mk 1 1 (⟨#[]⟩ : ByteArray) []] [] []]) (i := 0) rfl) rfl rfl ?_ | refine g_retl T (.inl rfl) rfl ?_ | refine g_retq T (.inl rfl) rfl ?_
  all_goals exact decide_eq_true rfl
end Hw.Pa
namespace Hw.Pa
open Go Go.Proofs Hw.M

end Hw.Pa
/- The readings of the seat's plain types: what a reading of an argument says of its cells. Printed by rd.py. -/
namespace Hw.Pa
open Go Go.Proofs Hw.M
section
variable {H : Type} {enc : TypeId × Value → H} {w : World} {base : Nat} {spare : Nat → Bool} {held : Bool}
theorem rd_strS (n : Nat) : Rd enc Tryz.prog w base spare held n 9 (fun s : ByteArray => [ks s]) := rd_str (by kernel_rfl)
theorem rd_intS (n : Nat) : Rd enc Tryz.prog w base spare held n 3 (fun i : Int => [ki i]) := rd_int (by kernel_rfl)
theorem rd_exR (n : Nat) : Rd enc Tryz.prog w base spare held n 44 exprR := by
  induction n using Nat.strongRecOn with
  | _ n ih =>
  intro cs x h
  obtain ⟨m, rfl, c0, r0, x0, rfl, h0, c1, r1, x1, rfl, h1, c2, r2, x2, rfl, h2, c3, r3, x3, rfl, h3, rfl⟩ := trod_pieces (l := [(3, 1), (3, 1), (9, 1), (42, 1)]) (by kernel_rfl) h
  obtain ⟨a0, k0⟩ := rd_intS m c0 x0 h0
  obtain ⟨a1, k1⟩ := rd_intS m c1 x1 h1
  obtain ⟨a2, k2⟩ := rd_strS m c2 x2 h2
  obtain ⟨a3, k3⟩ := rd_slice (c := 4) (R := exprR) (by kernel_rfl) (by kernel_rfl) (by decide) (fun k hk => ih k (by omega)) c3 x3 h3
  refine ⟨.mk a0 a1 a2 a3, ?_⟩
  rw [exprR_eq]
  exact (k0.app (k1.app (k2.app (k3.app (show CellsM (memOf w) [] [] from trivial)))))
theorem rd_ex (n : Nat) : Rd enc Tryz.prog w base spare held n 44 exprC := fun cs x h => by
  obtain ⟨a, k⟩ := rd_exR n cs x h
  exact ⟨a, by rw [exprR_eq] at k; exact k⟩
end
end Hw.Pa
namespace Hw.Pa
open Go Go.Proofs Hw.M

section
variable {l : List Tok}
theorem expr_cnt : ∀ f : Nat, (∀ n i x j, exprA l f n i = .ok x j → i + cntE x ≤ j) ∧ (∀ n y i x j, moreA l f n y i = .ok x j → i + cntE x ≤ j + cntE y) ∧ (∀ i x j, postA l f i = .ok x j → i + cntE x ≤ j) ∧ (∀ y i x j, dotsA l f y i = .ok x j → i + cntE x ≤ j + cntE y) ∧
    (∀ i a x j, argsP l f i a = .ok x j → i + cntEs x ≤ j + cntEs a) ∧ (∀ k i a x j, partsA l f k i a = .ok x j → i + cntEs x ≤ j + cntEs a) ∧ (∀ i x j, primA l f i = .ok x j → i + cntE x ≤ j) := by
  intro f
  induction f with
  | zero =>
    refine ⟨fun n i x j h => ?_, fun n y i x j h => ?_, fun i x j h => ?_, fun y i x j h => ?_, fun i a x j h => ?_, fun k i a x j h => ?_, fun i x j h => ?_⟩
    all_goals simp only [exprA, moreA, postA, dotsA, argsP, partsA, primA, reduceCtorEq] at h
  | succ f ih =>
    obtain ⟨iE, iM, iP, iD, iA, iK, iR⟩ := ih
    refine ⟨fun n i x j h => ?_, fun n y i x j h => ?_, fun i x j h => ?_, fun y i x j h => ?_, fun i a x j h => ?_, fun k i a x j h => ?_, fun i x j h => ?_⟩
    · unfold exprA at h
      split at h
      · split at h
        · obtain ⟨y, k, h1, h⟩ := bind_ok h
          have := iE _ _ _ _ h1
          cases h; (try simp only [cntE, cntEs, cntEs_app, Nat.add_zero] at *); omega
        · exact iE _ _ _ _ h
      · split at h
        · split at h
          · obtain ⟨y, k, h1, h⟩ := bind_ok h
            have := iE _ _ _ _ h1
            cases h; (try simp only [cntE, cntEs, cntEs_app, Nat.add_zero] at *); omega
          · exact iP _ _ _ h
        · obtain ⟨y, k, h1, h⟩ := bind_ok h
          have := iE _ _ _ _ h1
          have := iM _ _ _ _ _ h
          (try simp only [cntE, cntEs, cntEs_app, Nat.add_zero] at *); omega
    · unfold moreA at h
      split at h
      · cases h; (try simp only [cntE, cntEs, cntEs_app, Nat.add_zero] at *); omega
      · obtain ⟨z, k, h1, h⟩ := bind_ok h
        have := iE _ _ _ _ h1
        split at h
        · cases h; (try simp only [cntE, cntEs, cntEs_app, Nat.add_zero] at *); omega
        · have := iM _ _ _ _ _ h
          (try simp only [cntE, cntEs, cntEs_app, Nat.add_zero] at *); omega
    · unfold postA at h
      obtain ⟨y, k, h1, h⟩ := bind_ok h
      have := iR _ _ _ h1
      have := iD _ _ _ _ h
      (try simp only [cntE, cntEs, cntEs_app, Nat.add_zero] at *); omega
    · unfold dotsA at h
      split at h
      · obtain ⟨s, k, h1, h⟩ := bind_ok h
        have := name_fwd h1
        have := iD _ _ _ _ h
        (try simp only [cntE, cntEs, cntEs_app, Nat.add_zero] at *); omega
      · cases h; (try simp only [cntE, cntEs, cntEs_app, Nat.add_zero] at *); omega
    · unfold argsP at h
      split at h
      · cases h; (try simp only [cntE, cntEs, cntEs_app, Nat.add_zero] at *); omega
      · obtain ⟨u, k, h1, h⟩ := bind_ok h
        obtain ⟨y, k2, h2, h⟩ := bind_ok h
        have := sep_fwd h1
        have := iE _ _ _ _ h2
        have := iA _ _ _ _ h
        (try simp only [cntE, cntEs, cntEs_app, Nat.add_zero] at *); omega
    · unfold partsA at h
      split at h
      · obtain ⟨u, k, h1, h⟩ := bind_ok h
        have := (one_fwd h1).1
        cases h; (try simp only [cntE, cntEs, cntEs_app, Nat.add_zero] at *); omega
      · obtain ⟨u, k, h1, h⟩ := bind_ok h
        obtain ⟨y, k2, h2, h⟩ := bind_ok h
        have := (one_fwd h1).1
        have := iE _ _ _ _ h2
        have := iK _ _ _ _ _ h
        (try simp only [cntE, cntEs, cntEs_app, Nat.add_zero] at *); omega
    · unfold primA at h
      cases hl : l[i]? with
      | none => rw [hl] at h; cases h
      | some t =>
      rw [hl] at h
      simp only at h
      rcases ite_ok h with ⟨_, h⟩ | ⟨_, h⟩
      · cases h; (try simp only [cntE, cntEs, cntEs_app, Nat.add_zero] at *); omega
      rcases ite_ok h with ⟨_, h⟩ | ⟨_, h⟩
      · rcases ite_ok h with ⟨_, h⟩ | ⟨_, h⟩
        · obtain ⟨a, k, h1, h⟩ := bind_ok h; have := iA _ _ _ _ h1; cases h; (try simp only [cntE, cntEs, cntEs_app, Nat.add_zero] at *); omega
        · cases h; (try simp only [cntE, cntEs, cntEs_app, Nat.add_zero] at *); omega
      rcases ite_ok h with ⟨_, h⟩ | ⟨_, h⟩
      · cases h; (try simp only [cntE, cntEs, cntEs_app, Nat.add_zero] at *); omega
      rcases ite_ok h with ⟨_, h⟩ | ⟨_, h⟩
      · cases h; (try simp only [cntE, cntEs, cntEs_app, Nat.add_zero] at *); omega
      rcases ite_ok h with ⟨_, h⟩ | ⟨_, h⟩
      · cases h; (try simp only [cntE, cntEs, cntEs_app, Nat.add_zero] at *); omega
      rcases ite_ok h with ⟨_, h⟩ | ⟨_, h⟩
      · cases h; (try simp only [cntE, cntEs, cntEs_app, Nat.add_zero] at *); omega
      rcases ite_ok h with ⟨_, h⟩ | ⟨_, h⟩
      · obtain ⟨a, k, h1, h⟩ := bind_ok h; have := name_fwd h1; cases h; (try simp only [cntE, cntEs, cntEs_app, Nat.add_zero] at *); omega
      rcases ite_ok h with ⟨_, h⟩ | ⟨_, h⟩
      · obtain ⟨a, k, h1, h⟩ := bind_ok h; have := iK _ _ _ _ _ h1; cases h; (try simp only [cntE, cntEs, cntEs_app, Nat.add_zero] at *); omega
      rcases ite_ok h with ⟨_, h⟩ | ⟨_, h⟩
      · obtain ⟨a, k, h1, h⟩ := bind_ok h; have := iK _ _ _ _ _ h1; cases h; (try simp only [cntE, cntEs, cntEs_app, Nat.add_zero] at *); omega
      rcases ite_ok h with ⟨_, h⟩ | ⟨_, h⟩
      · obtain ⟨a, k, h1, h⟩ := bind_ok h; have := iK _ _ _ _ _ h1; cases h; (try simp only [cntE, cntEs, cntEs_app, Nat.add_zero] at *); omega
      rcases ite_ok h with ⟨_, h⟩ | ⟨_, h⟩
      · obtain ⟨a, k, h1, h⟩ := bind_ok h; have := iK _ _ _ _ _ h1; cases h; (try simp only [cntE, cntEs, cntEs_app, Nat.add_zero] at *); omega
      rcases ite_ok h with ⟨_, h⟩ | ⟨_, h⟩
      · obtain ⟨a, k, h1, h⟩ := bind_ok h; have := iE _ _ _ _ h1; obtain ⟨u, k2, h2, h⟩ := bind_ok h; have := (one_fwd h2).1; cases h; (try simp only [cntE, cntEs, cntEs_app, Nat.add_zero] at *); omega
      · cases h
end
mutual
def cntS : Sm → Nat
  | .mk _ _ e l els => 1 + cntEs e + cntSs l + cntSs els
def cntSs : List Sm → Nat
  | [] => 0
  | s :: ss => cntS s + cntSs ss
end
theorem cntSs_app (a b : List Sm) : cntSs (a ++ b) = cntSs a + cntSs b := by
  induction a with
  | nil => simp [cntSs]
  | cons x a ih => simp only [List.cons_append, cntSs, ih]; omega
theorem cntEs_take1 (x : Ex) : cntEs (x.l.take 1) + 1 ≤ cntE x := by
  obtain ⟨op, n, s, l⟩ := x
  have := cntEs_le l 1
  simp only [cntE, Ex.l]; omega
section
variable {l : List Tok}
theorem stmt_cnt : ∀ f : Nat, (∀ i a x j, stmtsA l f i a = .ok x j → i + cntSs x ≤ j + cntSs a) ∧ (∀ i x j, blockA l f i = .ok x j → i + cntSs x ≤ j) ∧ (∀ i x j, stmtA l f i = .ok x j → i + cntS x ≤ j) := by
  intro f
  induction f with
  | zero =>
    refine ⟨fun i a x j h => ?_, fun i x j h => ?_, fun i x j h => ?_⟩
    all_goals simp only [stmtsA, blockA, stmtA, reduceCtorEq] at h
  | succ f ih =>
    obtain ⟨iT, iB, iS⟩ := ih
    obtain ⟨fE, fM, fP, fD, fA, fK, fR⟩ := expr_cnt (l := l) f
    refine ⟨fun i a x j h => ?_, fun i x j h => ?_, fun i x j h => ?_⟩
    · unfold stmtsA at h
      rcases ite_ok h with ⟨_, h⟩ | ⟨_, h⟩
      · cases h; (try simp only [cntE, cntEs, cntEs_app, cntS, cntSs, cntSs_app, Nat.add_zero] at *); omega
      · obtain ⟨s, k, h1, h⟩ := bind_ok h
        have := iS _ _ _ h1
        have := iT _ _ _ _ h
        (try simp only [cntE, cntEs, cntEs_app, cntS, cntSs, cntSs_app, Nat.add_zero] at *); omega
    · unfold blockA at h
      obtain ⟨u, k, h1, h⟩ := bind_ok h
      have := one_fwd h1
      have := iT _ _ _ _ h
      (try simp only [cntE, cntEs, cntEs_app, cntS, cntSs, cntSs_app, Nat.add_zero] at *); omega
    · unfold stmtA at h
      rcases ite_ok h with ⟨hi, h⟩ | ⟨_, h⟩
      · obtain ⟨y, k, h1, h⟩ := bind_ok h
        obtain ⟨b, k2, h2, h⟩ := bind_ok h
        have := fE _ _ _ _ h1
        have := iB _ _ _ h2
        rcases ite_ok h with ⟨_, h⟩ | ⟨_, h⟩
        · obtain ⟨b2, k3, h3, h⟩ := bind_ok h
          have := iB _ _ _ h3
          cases h; (try simp only [cntE, cntEs, cntEs_app, cntS, cntSs, cntSs_app, Nat.add_zero] at *); omega
        · cases h; (try simp only [cntE, cntEs, cntEs_app, cntS, cntSs, cntSs_app, Nat.add_zero] at *); omega
      rcases ite_ok h with ⟨hi, h⟩ | ⟨_, h⟩
      · obtain ⟨y, k, h1, h⟩ := bind_ok h
        obtain ⟨b, k2, h2, h⟩ := bind_ok h
        have := fE _ _ _ _ h1
        have := iB _ _ _ h2
        cases h; (try simp only [cntE, cntEs, cntEs_app, cntS, cntSs, cntSs_app, Nat.add_zero] at *); omega
      rcases ite_ok h with ⟨hi, h⟩ | ⟨_, h⟩
      · rcases ite_ok h with ⟨_, h⟩ | ⟨_, h⟩
        · cases h; (try simp only [cntE, cntEs, cntEs_app, cntS, cntSs, cntSs_app, Nat.add_zero] at *); omega
        · obtain ⟨y, k, h1, h⟩ := bind_ok h
          obtain ⟨b, k2, h2, h⟩ := bind_ok h
          have := fE _ _ _ _ h1
          have := one_fwd h2
          cases h; (try simp only [cntE, cntEs, cntEs_app, cntS, cntSs, cntSs_app, Nat.add_zero] at *); omega
      obtain ⟨y, k, h1, h⟩ := bind_ok h
      have := fP _ _ _ h1
      rcases ite_ok h with ⟨_, h⟩ | ⟨_, h⟩
      · obtain ⟨z, k1, h2, h⟩ := bind_ok h
        obtain ⟨b, k2, h3, h⟩ := bind_ok h
        have := fE _ _ _ _ h2
        have := one_fwd h3
        cases h; (try simp only [cntE, cntEs, cntEs_app, cntS, cntSs, cntSs_app, Nat.add_zero] at *); omega
      rcases ite_ok h with ⟨_, h⟩ | ⟨_, h⟩
      · obtain ⟨z, k1, h2, h⟩ := bind_ok h
        obtain ⟨b, k2, h3, h⟩ := bind_ok h
        have := fE _ _ _ _ h2
        have := one_fwd h3
        have := cntEs_take1 y
        cases h; (try simp only [cntE, cntEs, cntEs_app, cntS, cntSs, cntSs_app, Nat.add_zero] at *); omega
      rcases ite_ok h with ⟨_, h⟩ | ⟨_, h⟩
      · obtain ⟨b, k2, h3, h⟩ := bind_ok h
        have := one_fwd h3
        cases h; (try simp only [cntE, cntEs, cntEs_app, cntS, cntSs, cntSs_app, Nat.add_zero] at *); omega
      · cases h
end
end Hw.Pa
namespace Hw.Pa
open Go Go.Proofs Hw.M

mutual
def okS : Sm → Nat → Bool
  | .mk _ s e l els, d => decide (s.size ≤ 100) && decide (d ≤ 70) && okEs e 1 && okSs l (d + 1) && okSs els (d + 1)
def okSs : List Sm → Nat → Bool
  | [], _ => true
  | s :: ss, d => okS s d && okSs ss d
end
theorem okSs_at {l : List Sm} {d i : Nat} {x : Sm} (h : okSs l d = true) (hx : l[i]? = some x) : okS x d = true := by
  induction l generalizing i with
  | nil => cases hx
  | cons y l ih =>
    simp only [okSs, Bool.and_eq_true] at h
    cases i with
    | zero => simp only [List.getElem?_cons_zero, Option.some.injEq] at hx; subst hx; exact h.1
    | succ i => simp only [List.getElem?_cons_succ] at hx; exact ih h.2 hx
theorem cntSs_take {l : List Sm} {i : Nat} {x : Sm} (hx : l[i]? = some x) : cntSs (l.take (i + 1)) = cntSs (l.take i) + cntS x := by
  rw [List.take_add_one, hx, cntSs_app]; simp [cntSs]
theorem cntSs_le (l : List Sm) (i : Nat) : cntSs (l.take i) ≤ cntSs l := by
  conv => rhs; rw [← List.take_append_drop i l]
  rw [cntSs_app]; omega
theorem cntEs_len : ∀ l : List Ex, l.length ≤ cntEs l
  | [] => by simp
  | e :: es => by have := cntEs_len es; have := cntE_pos e; simp only [List.length_cons, cntEs]; omega
theorem exprsOk_all {s : Sm} {lo hi : Int} (h : exprsOk s lo hi = true) : s.e.all exprOk = true := by
  unfold exprsOk at h
  simp only [Bool.and_eq_true] at h
  exact h.2
theorem okEs_of {l : List Ex} (h : l.all exprOk = true) : okEs l 1 = true := by
  induction l with
  | nil => simp [okEs]
  | cons x l ih =>
    simp only [List.all_cons, Bool.and_eq_true] at h
    simp only [okEs, Bool.and_eq_true]
    exact ⟨(exprOk_cnt h.1).2, ih h.2⟩
theorem shape_parts {s : Sm} (h : shapeS s = true) : s.s.size ≤ 40 ∧ s.e.all exprOk = true := by
  unfold shapeS shapeB at h
  repeat' (split at h)
  all_goals (try simp only [Bool.and_eq_true, decide_eq_true_eq] at h)
  · exact ⟨name_s40 h.1.1, exprsOk_all h.1.2⟩
  · exact ⟨name_s40 h.1.1, exprsOk_all h.1.2⟩
  · exact ⟨by rw [h.1]; show 0 ≤ 40; decide, exprsOk_all h.2⟩
  · exact ⟨by rw [h.1.1]; show 0 ≤ 40; decide, exprsOk_all h.1.2⟩
  · exact ⟨by rw [h.1.1]; show 0 ≤ 40; decide, exprsOk_all h.1.2⟩
  · exact ⟨by rw [h.1.1.1]; show 0 ≤ 40; decide, exprsOk_all h.1.1.2⟩
  · cases h
mutual
theorem st_ok : ∀ (s : Sm) (d : Nat) (n : Int), 0 ≤ n → n ≤ 200 → stN s d n ≤ 200 → okS s d = true
  | .mk op s e l els, d, n, h0, h1, h => by
    simp only [stN] at h
    split at h
    · omega
    · rename_i hc
      simp only [Bool.or_eq_true, decide_eq_true_eq, Bool.not_eq_true', not_or, Bool.not_eq_false] at hc
      obtain ⟨hd, hs⟩ := hc
      obtain ⟨p1, p2⟩ := shape_parts hs
      have hcast : ((d + 1 : Nat) : Int) = (d : Int) + 1 := by omega
      have b1 := stL_bound l (d + 1) 0 (by omega) (by omega)
      have b2 := stL_bound els (d + 1) 0 (by omega) (by omega)
      have hn : n + 1 ≤ 200 := by unfold bump at h; repeat' (split at h) <;> omega
      have h1' : stL l (d + 1) 0 ≤ 200 := by unfold bump at h; repeat' (split at h) <;> omega
      have h2' : stL els (d + 1) 0 ≤ 200 := by unfold bump at h; repeat' (split at h) <;> omega
      have k1 := sts_ok l (d + 1) 0 (by omega) (by omega) (by rw [hcast]; exact h1')
      have k2 := sts_ok els (d + 1) 0 (by omega) (by omega) (by rw [hcast]; exact h2')
      simp only [okS, Bool.and_eq_true, decide_eq_true_eq]
      exact ⟨⟨⟨⟨by simp only [Sm.s] at p1; omega, by omega⟩, okEs_of p2⟩, k1⟩, k2⟩
theorem sts_ok : ∀ (l : List Sm) (d : Nat) (n : Int), 0 ≤ n → n ≤ 200 → stL l d n ≤ 200 → okSs l d = true
  | [], d, n, _, _, _ => by simp [okSs]
  | s :: r, d, n, h0, h1, h => by
    simp only [stL] at h
    have b := stN_bound s d n h0 h1
    split at h
    · omega
    · simp only [okSs, Bool.and_eq_true]
      exact ⟨st_ok s d n h0 h1 (by omega), sts_ok r d _ b.1 (by omega) h⟩
end
theorem rows_ok : ∀ (m : Nat) (l : List Sm) (d c : Nat), sizeOf l < m → okSs l d = true → cntSs l ≤ c → c ≤ 100000 → FnOK Tryz.prog 40 [pS (stmtsP l), I (d : Nat), .one (.bx 0 0)] [(0, .box [.p (ki (c : Nat))])] (.tup []) [(0, .box [.p (ki ((c - cntSs l : Nat)))])] := by
  intro m
  induction m with
  | zero => intro l d c h; omega
  | succ m ih =>
    intro l d c hm hok hc hc2
    refine fn_ok T Tryz.func40 (by kernel_rfl) rfl rfl rfl rfl fun C hC => ?_
    refine g_len 0 rfl fun hlen => ?_
    rw [List.length_map] at hlen
    repeat' first | refine g_go T hC true 400 rfl rfl ?_ | refine g_cond rfl (fun h => ?_) (fun h => ?_) | refine g_splitG rfl rfl rfl (fun h => ?_) (fun h => ?_) | refine g_splitP rfl rfl (fun h => ?_) (fun h => ?_)
    refine g_loop (fun i : Nat => i ≤ l.length) (fun i => ([(0, pS (stmtsP l)), (1, I (d : Nat)), (2, .one (.bx 0 0)), (6, I (i : Nat))], [(0, some (Res.box [.p (ki ((c - cntSs (l.take i) : Nat)))]))])) (fun i => l.length - i) hC
      0 (Nat.zero_le _) id ⟨rfl, ⟨rfl, rfl, rfl, rfl, trivial⟩, ⟨rfl, trivial⟩, rfl, fun _ _ => rfl⟩ ?_
    intro i hi
    have hle := cntSs_le l i
    by_cases hlt : i < l.length
    rotate_left
    · repeat' first | refine g_go T hC true 400 rfl rfl ?_ | (exfalso; have h' := of_decide_eq_true h; (try simp only [List.length_map] at h'); omega) | refine g_cond rfl (fun h => ?_) (fun h => ?_) | refine g_splitG rfl rfl rfl (fun h => ?_) (fun h => ?_) | refine g_splitP rfl rfl (fun h => ?_) (fun h => ?_) | refine g_outE ?_
      rw [List.take_of_length_le (by omega)]
      exact g_fin ⟨.inr rfl, id, [], rfl, .refl _, ⟨rfl, trivial⟩, rfl, rfl⟩
    · obtain ⟨s, hs⟩ := exists_at hlt
      have htk := cntSs_take hs
      have hle2 := cntSs_le l (i + 1)
      have hsz := size_at hs
      have hsub := size_sub s
      have hS := okSs_at hok hs
      have hcs : cntS s = 1 + cntEs s.e + cntSs s.l + cntSs s.els := by cases s; simp only [cntS, Sm.e, Sm.l, Sm.els]
      have hparts : (s.s.size : Int) ≤ 100 ∧ (d : Int) ≤ 70 ∧ okEs s.e 1 = true ∧ okSs s.l (d + 1) = true ∧ okSs s.els (d + 1) = true := by
        obtain ⟨op, n, e, a, b⟩ := s
        simp only [okS, Bool.and_eq_true, decide_eq_true_eq] at hS
        exact ⟨by simp only [Sm.s]; omega, by omega, hS.1.1.2, hS.1.2, hS.2⟩
      obtain ⟨p1, p2, p3, p4, p5⟩ := hparts
      repeat' first | refine g_go T hC true 400 rfl rfl ?_ | (exfalso; have h' := of_decide_eq_true h; (try simp only [List.length_map] at h'); omega) | (exfalso; have h' := of_decide_eq_false h; (try simp only [List.length_map] at h'); omega) | refine g_cond rfl (fun h => ?_) (fun h => ?_) | refine g_splitG rfl rfl rfl (fun h => ?_) (fun h => ?_) | refine g_splitP rfl rfl (fun h => ?_) (fun h => ?_) | refine g_idx T hC rfl rfl rfl (Int.natCast_nonneg _) (map_atS hs) rfl rfl ?_
      have hw0 : IntKind.i64.wrap (((c - cntSs (l.take i) : Nat) : Int) - 1) = ((c - cntSs (l.take i) - 1 - cntEs (s.e.take 0) : Nat) : Int) := by rw [wrap64 (by omega)]; simp only [List.take_zero, cntEs]; omega
      rw [hw0]
      refine g_loop (fun k : Nat => k ≤ s.e.length) (fun k => ([(0, pS (stmtsP l)), (1, I (d : Nat)), (2, .one (.bx 0 0)), (6, I (i : Nat)), (7, I (k : Nat))], [(0, some (Res.box [.p (ki ((c - cntSs (l.take i) - 1 - cntEs (s.e.take k) : Nat)))]))])) (fun k => s.e.length - k) hC
        0 (Nat.zero_le _) id ⟨rfl, ⟨rfl, rfl, rfl, rfl, rfl, trivial⟩, ⟨rfl, trivial⟩, rfl, fun _ _ => rfl⟩ ?_
      intro k hk
      have hel := cntEs_le s.e k
      by_cases hkl : k < s.e.length
      · obtain ⟨x, hx⟩ := exists_at hkl
        have hxt := cntEs_take hx
        have hel2 := cntEs_le s.e (k + 1)
        have hN : FnOK Tryz.prog 41 [aggS (exprC x), I 1, .one (.bx 0 0)] [(0, .box [.p (ki ((c - cntSs (l.take i) - 1 - cntEs (s.e.take k) : Nat)))])] (.tup []) [(0, .box [.p (ki ((c - cntSs (l.take i) - 1 - cntEs (s.e.take k) - cntE x : Nat)))])] :=
          nodes_ok (sizeOf x + 1) x 1 _ (Nat.lt_succ_self _) (okEs_at p3 hx) (by omega) (by omega)
        repeat' first | refine g_go T hC true 400 rfl rfl ?_ | (exfalso; have h' := of_decide_eq_false h; (try simp only [List.length_map] at h'); omega) | refine g_cond rfl (fun h => ?_) (fun h => ?_) | refine g_splitG rfl rfl rfl (fun h => ?_) (fun h => ?_) | refine g_splitP rfl rfl (fun h => ?_) (fun h => ?_) | refine g_idx T hC rfl rfl rfl (Int.natCast_nonneg _) (map_atS hs) rfl rfl ?_ | refine g_idx T hC rfl rfl rfl (Int.natCast_nonneg _) (map_atE hx) rfl rfl ?_ | refine g_callR hC (hN) (nm [0]) rfl rfl (LeSs.refl _) rfl rfl rfl rfl rfl rfl rfl rfl ?_
        rw [wrapS (i := k) (by have : s.e.length ≤ cntEs s.e := cntEs_len s.e; omega)]
        rw [show c - cntSs (l.take i) - 1 - cntEs (s.e.take k) - cntE x = c - cntSs (l.take i) - 1 - cntEs (s.e.take (k + 1)) by omega]
        exact g_round (k + 1) hkl id (by omega) ⟨rfl, ⟨rfl, rfl, rfl, rfl, rfl, trivial⟩, ⟨rfl, trivial⟩, rfl, fun _ _ => rfl⟩
      · have e1 : s.e.take k = s.e := List.take_of_length_le (by omega)
        have hR1 := ih s.l (d + 1) (c - cntSs (l.take i) - 1 - cntEs s.e) (by omega) p4 (by omega) (by omega)
        have hR2 := ih s.els (d + 1) (c - cntSs (l.take i) - 1 - cntEs s.e - cntSs s.l) (by omega) p5 (by omega) (by omega)
        rw [← wrapS (i := d) (by omega)] at hR1 hR2
        rw [← e1] at hR1 hR2
        repeat' first | refine g_go T hC true 400 rfl rfl ?_ | (exfalso; have h' := of_decide_eq_true h; (try simp only [List.length_map] at h'); omega) | refine g_cond rfl (fun h => ?_) (fun h => ?_) | refine g_splitG rfl rfl rfl (fun h => ?_) (fun h => ?_) | refine g_splitP rfl rfl (fun h => ?_) (fun h => ?_) | refine g_idx T hC rfl rfl rfl (Int.natCast_nonneg _) (map_atS hs) rfl rfl ?_ | refine g_outE ?_ | refine g_callR hC (hR1) (nm [0]) rfl rfl (LeSs.refl _) rfl rfl rfl rfl rfl rfl rfl rfl ?_ | refine g_callR hC (hR2) (nm [0]) rfl rfl (LeSs.refl _) rfl rfl rfl rfl rfl rfl rfl rfl ?_
        rw [wrapS (i := i) (by omega)]
        rw [show c - cntSs (l.take i) - 1 - cntEs (s.e.take k) - cntSs s.l - cntSs s.els = c - cntSs (l.take (i + 1)) by rw [e1]; omega]
        exact g_round (i + 1) hlt id (by omega) ⟨rfl, ⟨rfl, rfl, rfl, rfl, trivial⟩, ⟨rfl, trivial⟩, rfl, fun _ _ => rfl⟩
end Hw.Pa
namespace Hw.Pa
open Go Go.Proofs Hw.M

def sumB {α : Type} (f : α → Nat) : List α → Nat
  | [] => 0
  | x :: r => f x + sumB f r
theorem sumB_app {α : Type} (f : α → Nat) (a b : List α) : sumB f (a ++ b) = sumB f a + sumB f b := by
  induction a with
  | nil => simp [sumB]
  | cons x a ih => simp only [List.cons_append, sumB, ih]; omega
theorem sumB_take {α : Type} (f : α → Nat) {l : List α} {i : Nat} {x : α} (hx : l[i]? = some x) : sumB f (l.take (i + 1)) = sumB f (l.take i) + f x := by
  rw [List.take_add_one, hx, sumB_app]; simp [sumB]
theorem sumB_le {α : Type} (f : α → Nat) (l : List α) (i : Nat) : sumB f (l.take i) ≤ sumB f l := by
  conv => rhs; rw [← List.take_append_drop i l]
  rw [sumB_app]; omega
def wdF (l : List Fld) : Bool := decide (40 < (l.length : Int)) || l.any fun f => decide (100 < (f.n.size : Int)) || decide (100 < (f.t.size : Int))
def totD (d : Desc) : Nat := sumB (fun p => cntSs p.body) d.procs + sumB (fun m => cntE m.x) d.measures + sumB (fun m => cntE m.x) d.invs + sumB (fun m => cntE m.x) d.pots + sumB (fun m => cntE m.x) d.bounds
structure BG (d : Desc) : Prop where
  nm : (d.n.size : Int) ≤ 100
  tl : (d.types.length : Int) ≤ 30
  gl : (d.globals.length : Int) ≤ 30
  pl : (d.procs.length : Int) ≤ 60
  ml : (d.measures.length : Int) ≤ 30
  il : (d.invs.length : Int) ≤ 30
  ul : (d.pots.length : Int) ≤ 30
  bl : (d.bounds.length : Int) ≤ 30
  gw : wdF d.globals = false
  tw : (d.types.any fun t => decide (100 < (t.n.size : Int)) || wdF t.f) = false
  pw : ∀ p ∈ d.procs, (p.n.size : Int) ≤ 100 ∧ (p.res.size : Int) ≤ 100 ∧ wdF p.params = false ∧ wdF p.locs = false ∧ okSs p.body 1 = true
  mw : ∀ m ∈ d.measures, (m.n.size : Int) ≤ 100 ∧ (m.t.size : Int) ≤ 100 ∧ okE m.x 1 = true
  iw : ∀ m ∈ d.invs, (m.n.size : Int) ≤ 100 ∧ (m.t.size : Int) ≤ 100 ∧ okE m.x 1 = true
  uw : ∀ m ∈ d.pots, (m.t.size : Int) ≤ 100 ∧ okE m.x 1 = true
  bw : ∀ m ∈ d.bounds, (m.p.size : Int) ≤ 100 ∧ okE m.x 1 = true
  cnt : totD d ≤ 3000
theorem big11_ok (f : Fld) : FnOK Tryz.prog 37 [aggS (fieldR f)] [] (.bq (decide (100 < (f.n.size : Int)) || decide (100 < (f.t.size : Int)))) [] := by
  refine fn_ok T Tryz.func37 (by kernel_rfl) rfl rfl rfl rfl fun C hC => ?_
  repeat' first | refine g_go T hC true 400 rfl rfl ?_ | refine g_cond rfl (fun h => ?_) (fun h => ?_) | refine g_splitG rfl rfl rfl (fun h => ?_) (fun h => ?_) | refine g_splitP rfl rfl (fun h => ?_) (fun h => ?_) | refine g_retq T (.inl rfl) rfl ?_ | refine g_retl T (.inl rfl) rfl ?_
  all_goals (simp_all <;> (intros; omega))
theorem big1_ok (l : List Fld) : FnOK Tryz.prog 35 [pS (fieldsP l)] [] (.bq (wdF l)) [] := by
  have hA := fieldN_any 37 l _ (fun x _ => big11_ok x)
  refine fn_ok T Tryz.func35 (by kernel_rfl) rfl rfl rfl rfl fun C hC => ?_
  repeat' first | refine g_go T hC true 400 rfl rfl ?_ | refine g_cond rfl (fun h => ?_) (fun h => ?_) | refine g_splitG rfl rfl rfl (fun h => ?_) (fun h => ?_) | refine g_splitP rfl rfl (fun h => ?_) (fun h => ?_) | refine g_call hC (hA) rfl rfl (LeSs.refl _) rfl rfl rfl ?_ | refine g_retq T (.inl rfl) rfl ?_ | refine g_retl T (.inl rfl) rfl ?_
  all_goals (simp only [List.length_map] at *)
  all_goals (simp_all [wdF] <;> (intros; omega))
abbrev wdR : RL := [(0, .box [.cl 35 [] []])]
theorem big2_ok (t : NodeT) : FnOK Tryz.prog 39 [aggS (nodeTR t), .one (.bx 0 0)] wdR (.bq (decide (100 < (t.n.size : Int)) || wdF t.f)) wdR := by
  refine fn_ok T Tryz.func39 (by kernel_rfl) rfl rfl rfl rfl fun C hC => ?_
  repeat' first | refine g_go T hC true 400 rfl rfl ?_ | refine g_cond rfl (fun h => ?_) (fun h => ?_) | refine g_splitG rfl rfl rfl (fun h => ?_) (fun h => ?_) | refine g_splitP rfl rfl (fun h => ?_) (fun h => ?_) | refine g_call hC ((big1_ok t.f)) rfl rfl (LeSs.refl _) rfl rfl rfl ?_
  all_goals first
    | exact g_fin ⟨.inl rfl, id, _, rfl, .qb (by simp_all <;> (intros; omega)), ⟨rfl, trivial⟩, rfl, rfl⟩
    | exact g_fin ⟨.inl rfl, id, _, rfl, .qq (by simp_all <;> (intros; omega)), ⟨rfl, trivial⟩, rfl, rfl⟩
theorem typeW_idx (f : FuncId)  (l : List NodeT) (p : NodeT → Unit → Bool) (nx : NodeT → Unit → Unit) (inv : Unit → Prop)
    (hf : ∀ x ∈ l, ∀ s : Unit, inv s → FnOK Tryz.prog f [aggS (nodeTR x), .one (.bx 0 0)] [(0, .box [.cl 35 [] []])] (.bq (p x s)) ((fun s : Unit => [(0, .box [.cl 35 [] []])]) (nx x s)) ∧ (p x s = false → inv (nx x s))) (s : Unit) (hs : inv s) :
    FnOK Tryz.prog 89 [pS (.sl 2 (l.map nodeTR)), .one (.cl f [] [.bx 0 0])] [(0, .box [.cl 35 [] []])] (I (idxR p nx l 0 s).1) ((fun s : Unit => [(0, .box [.cl 35 [] []])]) (idxR p nx l 0 s).2) := by
  refine fn_ok T Tryz.func89 (by kernel_rfl) rfl rfl rfl rfl fun C hC => ?_
  have hs0 := hs
  refine g_len 0 rfl fun hl => ?_
  rw [List.length_map] at hl
  repeat' first | refine g_go T hC true 400 rfl rfl ?_ | refine g_cond rfl (fun h => ?_) (fun h => ?_)
  rw [List.length_map]
  refine g_loop (fun q : Nat × Unit => q.1 ≤ l.length ∧ inv q.2 ∧ idxR p nx (l.drop q.1) q.1 q.2 = idxR p nx l 0 s) (fun q => (fun s : Unit => ([(0, pS (.sl 2 (l.map nodeTR))), (1, .one (.cl f [] [.bx 0 0])), (7, I l.length), (8, I q.1)], [(0, some (.box [.cl 35 [] []]))])) q.2) (fun q => l.length - q.1) hC
    (0, s) ⟨Nat.zero_le _, hs, rfl⟩ id ⟨rfl, ⟨rfl, rfl, rfl, rfl, trivial⟩, ⟨rfl, trivial⟩, rfl, fun _ _ => rfl⟩ ?_
  generalize idxR p nx l 0 s = res
  clear hs hs0
  rintro ⟨i, s⟩ ⟨hi, hv, hn⟩
  simp only at hi hv hn
  refine g_run' T hC true 200 rfl ?_
  refine g_cond rfl (fun hh => ?_) (fun hh => ?_)
  · have hlt : i < l.length := by simpa using hh
    clear hh
    obtain ⟨x, hx⟩ := exists_at hlt
    rw [drop_at hx] at hn
    simp only [idxR] at hn
    have hv2 := (hf x (List.mem_of_getElem? hx) s hv).2
    repeat' first | refine g_go T hC true 400 rfl rfl ?_ | refine g_cond rfl (fun h => ?_) (fun h => ?_) | refine g_idx T hC rfl rfl rfl (Int.natCast_nonneg _) (map_at hx) rfl rfl ?_ | refine g_callR hC (hf x (List.mem_of_getElem? hx) s hv).1 id rfl rfl (LeSs.refl _) rfl rfl rfl rfl rfl rfl rfl rfl ?_ | refine g_outR ?_
    · rw [if_pos (by assumption)] at hn
      subst hn
      exact g_fin ⟨.inl rfl, id, _, rfl, .refl _, ⟨rfl, trivial⟩, rfl, rfl⟩
    · have hpf : p x s = false := by assumption
      rw [hpf] at hn
      simp only [Bool.false_eq_true, if_false] at hn
      rw [wrap64 (by omega)]
      exact g_round (i + 1, nx x s) ⟨by simp only; omega, hv2 hpf, hn⟩ id (by simp only; omega) ⟨rfl, ⟨rfl, rfl, rfl, rfl, trivial⟩, ⟨rfl, trivial⟩, rfl, fun _ _ => rfl⟩
  · have hge : ¬ i < l.length := by simpa using hh
    rw [List.drop_eq_nil_of_le (by omega)] at hn
    simp only [idxR] at hn
    subst hn
    repeat' first | refine g_go T hC true 400 rfl rfl ?_ | refine g_cond rfl (fun h => ?_) (fun h => ?_) | refine g_outE ?_
    exact g_fin ⟨.inl rfl, id, _, rfl, .refl _, ⟨rfl, trivial⟩, rfl, rfl⟩
theorem typeW_has (f : FuncId)  (l : List NodeT) (p : NodeT → Unit → Bool) (nx : NodeT → Unit → Unit) (inv : Unit → Prop)
    (hf : ∀ x ∈ l, ∀ s : Unit, inv s → FnOK Tryz.prog f [aggS (nodeTR x), .one (.bx 0 0)] [(0, .box [.cl 35 [] []])] (.bq (p x s)) ((fun s : Unit => [(0, .box [.cl 35 [] []])]) (nx x s)) ∧ (p x s = false → inv (nx x s))) (s : Unit) (hs : inv s) :
    FnOK Tryz.prog 38 [pS (.sl 2 (l.map nodeTR)), .one (.cl f [] [.bx 0 0])] [(0, .box [.cl 35 [] []])] (.bq (anyR p nx l s).1) ((fun s : Unit => [(0, .box [.cl 35 [] []])]) (anyR p nx l s).2) := by
  refine fn_ok T Tryz.func38 (by kernel_rfl) rfl rfl rfl rfl fun C hC => ?_
  repeat' first | refine g_go T hC true 400 rfl rfl ?_ | refine g_cond rfl (fun h => ?_) (fun h => ?_) | refine g_callR hC (typeW_idx f  l p nx inv hf s hs) (nm [0]) rfl rfl (LeSs.refl _) rfl rfl rfl rfl rfl rfl rfl rfl ?_
  exact g_fin ⟨.inl rfl, id, _, rfl, .qq (anyR_1 p nx l 0 s), by rw [← anyR_2 p nx l 0 s]; exact ⟨rfl, trivial⟩, rfl, rfl⟩

theorem typeW_any (l : List NodeT) : FnOK Tryz.prog 38 [pS (.sl 2 (l.map nodeTR)), .one (.cl 39 [] [.bx 0 0])] wdR (.bq (l.any fun t => decide (100 < (t.n.size : Int)) || wdF t.f)) wdR := by
  have := typeW_has 39 l (fun t _ => decide (100 < (t.n.size : Int)) || wdF t.f) (fun _ s => s) (fun _ => True) (fun x _ s _ => ⟨big2_ok x, fun _ => trivial⟩) () trivial
  rw [anyR_no] at this
  exact this
set_option maxHeartbeats 2000000 in
theorem big_ok (d : Desc) (hB : BG d) : FnOK Tryz.prog 11 [aggS (descR d)] [] (.bq false) [] := by
  obtain ⟨hnm, htl, hgl, hpl, hml, hil, hul, hbl, hgw, htw, hpw, hmw, hiw, huw, hbw, hcnt⟩ := hB
  unfold totD at hcnt
  have cG := big1_ok d.globals
  rw [hgw] at cG
  have cT := typeW_any d.types
  rw [htw] at cT
  refine fn_ok T Tryz.func11 (by kernel_rfl) rfl rfl rfl rfl fun C hC => ?_
  repeat' first | refine g_go T hC true 400 rfl rfl ?_ | (exfalso; simp at h; done) | (exfalso; have h' := of_decide_eq_true h; (try simp only [List.length_map] at h'); omega) | refine g_cond rfl (fun h => ?_) (fun h => ?_) | refine g_splitG rfl rfl rfl (fun h => ?_) (fun h => ?_) | refine g_splitP rfl rfl (fun h => ?_) (fun h => ?_) | refine g_call hC (cG) rfl rfl (LeSs.refl _) rfl rfl rfl ?_ | refine g_callR hC (cT) (nm [1004]) rfl rfl (LeSs.refl _) rfl rfl rfl rfl rfl rfl rfl rfl ?_
  refine g_loop (fun i : Nat => i ≤ d.procs.length) (fun i => ([(1, .one (.bx 1001 0)), (3, .one (.bx 1003 0)), (4, .one (.bx 1004 0)), (72, pS (.sl 5 (d.procs.map procR))), (73, I ((d.procs.map procR).length : Nat)), (74, I (i : Nat))], [(1001, some (Res.box ((descR d).map V.p))), (1003, some (Res.box [.p (ki ((3000 - sumB (fun p : Pr => cntSs p.body) (d.procs.take i) : Nat)))])), (1004, some (Res.box [.cl 35 [] []]))])) (fun i => d.procs.length - i) hC
    0 (Nat.zero_le _) id ⟨rfl, ⟨rfl, rfl, rfl, rfl, rfl, rfl, trivial⟩, ⟨rfl, rfl, rfl, trivial⟩, rfl, fun _ _ => rfl⟩ ?_
  · intro i hi
    have hle := sumB_le (fun p : Pr => cntSs p.body) d.procs i
    by_cases hlt : i < d.procs.length
    · obtain ⟨x, hx⟩ := exists_at hlt
      have htk := sumB_take (fun p : Pr => cntSs p.body) hx
      have hle2 := sumB_le (fun p : Pr => cntSs p.body) d.procs (i + 1)
      obtain ⟨p1, p2, p3, p4, p5⟩ := hpw x (List.mem_of_getElem? hx)
      have w1 := big1_ok x.params
      rw [p3] at w1
      have w2 := big1_ok x.locs
      rw [p4] at w2
      have hR : FnOK Tryz.prog 40 [pS (stmtsP x.body), I 1, .one (.bx 0 0)] [(0, .box [.p (ki ((3000 - sumB (fun p : Pr => cntSs p.body) (d.procs.take i) : Nat)))])] (.tup []) [(0, .box [.p (ki ((3000 - sumB (fun p : Pr => cntSs p.body) (d.procs.take i) - cntSs x.body : Nat)))])] :=
        rows_ok (sizeOf x.body + 1) x.body 1 _ (Nat.lt_succ_self _) p5 (by omega) (by omega)
      repeat' first | refine g_go T hC true 400 rfl rfl ?_ | (exfalso; simp at h; done) | (exfalso; have h' := of_decide_eq_false h; (try simp only [List.length_map] at h'); omega) | (exfalso; have h' := of_decide_eq_true h; (try simp only [List.length_map] at h'); omega) | refine g_cond rfl (fun h => ?_) (fun h => ?_) | refine g_splitG rfl rfl rfl (fun h => ?_) (fun h => ?_) | refine g_splitP rfl rfl (fun h => ?_) (fun h => ?_) | refine g_idx T hC rfl rfl rfl (Int.natCast_nonneg _) (map_at hx) rfl rfl ?_ | refine g_call hC (w1) rfl rfl (LeSs.refl _) rfl rfl rfl ?_ | refine g_call hC (w2) rfl rfl (LeSs.refl _) rfl rfl rfl ?_ | refine g_callR hC (hR) (nm [1003]) rfl rfl (LeSs.refl _) rfl rfl rfl rfl rfl rfl rfl rfl ?_
      rw [wrapS (i := i) (by omega)]
      rw [show 3000 - sumB (fun p : Pr => cntSs p.body) (d.procs.take i) - cntSs x.body = 3000 - sumB (fun p : Pr => cntSs p.body) (d.procs.take (i + 1)) by omega]
      exact g_round (i + 1) hlt id (by omega) ⟨rfl, ⟨rfl, rfl, rfl, rfl, rfl, rfl, trivial⟩, ⟨rfl, rfl, rfl, trivial⟩, rfl, fun _ _ => rfl⟩
    · repeat' first | refine g_go T hC true 400 rfl rfl ?_ | (exfalso; have h' := of_decide_eq_true h; (try simp only [List.length_map] at h'); omega) | refine g_cond rfl (fun h => ?_) (fun h => ?_) | refine g_splitG rfl rfl rfl (fun h => ?_) (fun h => ?_) | refine g_splitP rfl rfl (fun h => ?_) (fun h => ?_) | refine g_outE ?_
      rw [List.take_of_length_le (show d.procs.length ≤ i by omega)]
      refine g_loop (fun i : Nat => i ≤ d.measures.length) (fun i => ([(1, .one (.bx 1001 0)), (3, .one (.bx 1003 0)), (4, .one (.bx 1004 0)), (105, pS (.sl 7 (d.measures.map measureR))), (106, I ((d.measures.map measureR).length : Nat)), (107, I (i : Nat))], [(1001, some (Res.box ((descR d).map V.p))), (1003, some (Res.box [.p (ki ((3000 - sumB (fun p : Pr => cntSs p.body) d.procs - sumB (fun m : Ms => cntE m.x) (d.measures.take i) : Nat)))])), (1004, some (Res.box [.cl 35 [] []]))])) (fun i => d.measures.length - i) hC
        0 (Nat.zero_le _) id ⟨rfl, ⟨rfl, rfl, rfl, rfl, rfl, rfl, trivial⟩, ⟨rfl, rfl, rfl, trivial⟩, rfl, fun _ _ => rfl⟩ ?_
      · intro i hi
        have hle := sumB_le (fun m : Ms => cntE m.x) d.measures i
        by_cases hlt : i < d.measures.length
        · obtain ⟨x, hx⟩ := exists_at hlt
          have htk := sumB_take (fun m : Ms => cntE m.x) hx
          have hle2 := sumB_le (fun m : Ms => cntE m.x) d.measures (i + 1)
          obtain ⟨p1, p2, p3⟩ := hmw x (List.mem_of_getElem? hx)
          have hR : FnOK Tryz.prog 41 [aggS (exprC x.x), I 1, .one (.bx 0 0)] [(0, .box [.p (ki ((3000 - sumB (fun p : Pr => cntSs p.body) d.procs - sumB (fun m : Ms => cntE m.x) (d.measures.take i) : Nat)))])] (.tup []) [(0, .box [.p (ki ((3000 - sumB (fun p : Pr => cntSs p.body) d.procs - sumB (fun m : Ms => cntE m.x) (d.measures.take i) - cntE x.x : Nat)))])] :=
            nodes_ok (sizeOf x.x + 1) x.x 1 _ (Nat.lt_succ_self _) p3 (by omega) (by omega)
          repeat' first | refine g_go T hC true 400 rfl rfl ?_ | (exfalso; simp at h; done) | (exfalso; have h' := of_decide_eq_false h; (try simp only [List.length_map] at h'); omega) | (exfalso; have h' := of_decide_eq_true h; (try simp only [List.length_map] at h'); omega) | refine g_cond rfl (fun h => ?_) (fun h => ?_) | refine g_splitG rfl rfl rfl (fun h => ?_) (fun h => ?_) | refine g_splitP rfl rfl (fun h => ?_) (fun h => ?_) | refine g_idx T hC rfl rfl rfl (Int.natCast_nonneg _) (map_at hx) rfl rfl ?_ | refine g_callR hC (hR) (nm [1003]) rfl rfl (LeSs.refl _) rfl rfl rfl rfl rfl rfl rfl rfl ?_
          rw [wrapS (i := i) (by omega)]
          rw [show 3000 - sumB (fun p : Pr => cntSs p.body) d.procs - sumB (fun m : Ms => cntE m.x) (d.measures.take i) - cntE x.x = 3000 - sumB (fun p : Pr => cntSs p.body) d.procs - sumB (fun m : Ms => cntE m.x) (d.measures.take (i + 1)) by omega]
          exact g_round (i + 1) hlt id (by omega) ⟨rfl, ⟨rfl, rfl, rfl, rfl, rfl, rfl, trivial⟩, ⟨rfl, rfl, rfl, trivial⟩, rfl, fun _ _ => rfl⟩
        · repeat' first | refine g_go T hC true 400 rfl rfl ?_ | (exfalso; have h' := of_decide_eq_true h; (try simp only [List.length_map] at h'); omega) | refine g_cond rfl (fun h => ?_) (fun h => ?_) | refine g_splitG rfl rfl rfl (fun h => ?_) (fun h => ?_) | refine g_splitP rfl rfl (fun h => ?_) (fun h => ?_) | refine g_outE ?_
          rw [List.take_of_length_le (show d.measures.length ≤ i by omega)]
          refine g_loop (fun i : Nat => i ≤ d.invs.length) (fun i => ([(1, .one (.bx 1001 0)), (3, .one (.bx 1003 0)), (4, .one (.bx 1004 0)), (126, pS (.sl 6 (d.invs.map invR))), (127, I ((d.invs.map invR).length : Nat)), (128, I (i : Nat))], [(1001, some (Res.box ((descR d).map V.p))), (1003, some (Res.box [.p (ki ((3000 - sumB (fun p : Pr => cntSs p.body) d.procs - sumB (fun m : Ms => cntE m.x) d.measures - sumB (fun m : Iv => cntE m.x) (d.invs.take i) : Nat)))])), (1004, some (Res.box [.cl 35 [] []]))])) (fun i => d.invs.length - i) hC
            0 (Nat.zero_le _) id ⟨rfl, ⟨rfl, rfl, rfl, rfl, rfl, rfl, trivial⟩, ⟨rfl, rfl, rfl, trivial⟩, rfl, fun _ _ => rfl⟩ ?_
          · intro i hi
            have hle := sumB_le (fun m : Iv => cntE m.x) d.invs i
            by_cases hlt : i < d.invs.length
            · obtain ⟨x, hx⟩ := exists_at hlt
              have htk := sumB_take (fun m : Iv => cntE m.x) hx
              have hle2 := sumB_le (fun m : Iv => cntE m.x) d.invs (i + 1)
              obtain ⟨p1, p2, p3⟩ := hiw x (List.mem_of_getElem? hx)
              have hR : FnOK Tryz.prog 41 [aggS (exprC x.x), I 1, .one (.bx 0 0)] [(0, .box [.p (ki ((3000 - sumB (fun p : Pr => cntSs p.body) d.procs - sumB (fun m : Ms => cntE m.x) d.measures - sumB (fun m : Iv => cntE m.x) (d.invs.take i) : Nat)))])] (.tup []) [(0, .box [.p (ki ((3000 - sumB (fun p : Pr => cntSs p.body) d.procs - sumB (fun m : Ms => cntE m.x) d.measures - sumB (fun m : Iv => cntE m.x) (d.invs.take i) - cntE x.x : Nat)))])] :=
                nodes_ok (sizeOf x.x + 1) x.x 1 _ (Nat.lt_succ_self _) p3 (by omega) (by omega)
              repeat' first | refine g_go T hC true 400 rfl rfl ?_ | (exfalso; simp at h; done) | (exfalso; have h' := of_decide_eq_false h; (try simp only [List.length_map] at h'); omega) | (exfalso; have h' := of_decide_eq_true h; (try simp only [List.length_map] at h'); omega) | refine g_cond rfl (fun h => ?_) (fun h => ?_) | refine g_splitG rfl rfl rfl (fun h => ?_) (fun h => ?_) | refine g_splitP rfl rfl (fun h => ?_) (fun h => ?_) | refine g_idx T hC rfl rfl rfl (Int.natCast_nonneg _) (map_at hx) rfl rfl ?_ | refine g_callR hC (hR) (nm [1003]) rfl rfl (LeSs.refl _) rfl rfl rfl rfl rfl rfl rfl rfl ?_
              rw [wrapS (i := i) (by omega)]
              rw [show 3000 - sumB (fun p : Pr => cntSs p.body) d.procs - sumB (fun m : Ms => cntE m.x) d.measures - sumB (fun m : Iv => cntE m.x) (d.invs.take i) - cntE x.x = 3000 - sumB (fun p : Pr => cntSs p.body) d.procs - sumB (fun m : Ms => cntE m.x) d.measures - sumB (fun m : Iv => cntE m.x) (d.invs.take (i + 1)) by omega]
              exact g_round (i + 1) hlt id (by omega) ⟨rfl, ⟨rfl, rfl, rfl, rfl, rfl, rfl, trivial⟩, ⟨rfl, rfl, rfl, trivial⟩, rfl, fun _ _ => rfl⟩
            · repeat' first | refine g_go T hC true 400 rfl rfl ?_ | (exfalso; have h' := of_decide_eq_true h; (try simp only [List.length_map] at h'); omega) | refine g_cond rfl (fun h => ?_) (fun h => ?_) | refine g_splitG rfl rfl rfl (fun h => ?_) (fun h => ?_) | refine g_splitP rfl rfl (fun h => ?_) (fun h => ?_) | refine g_outE ?_
              rw [List.take_of_length_le (show d.invs.length ≤ i by omega)]
              refine g_loop (fun i : Nat => i ≤ d.pots.length) (fun i => ([(1, .one (.bx 1001 0)), (3, .one (.bx 1003 0)), (4, .one (.bx 1004 0)), (147, pS (.sl 5 (d.pots.map potR))), (148, I ((d.pots.map potR).length : Nat)), (149, I (i : Nat))], [(1001, some (Res.box ((descR d).map V.p))), (1003, some (Res.box [.p (ki ((3000 - sumB (fun p : Pr => cntSs p.body) d.procs - sumB (fun m : Ms => cntE m.x) d.measures - sumB (fun m : Iv => cntE m.x) d.invs - sumB (fun m : Pt => cntE m.x) (d.pots.take i) : Nat)))])), (1004, some (Res.box [.cl 35 [] []]))])) (fun i => d.pots.length - i) hC
                0 (Nat.zero_le _) id ⟨rfl, ⟨rfl, rfl, rfl, rfl, rfl, rfl, trivial⟩, ⟨rfl, rfl, rfl, trivial⟩, rfl, fun _ _ => rfl⟩ ?_
              · intro i hi
                have hle := sumB_le (fun m : Pt => cntE m.x) d.pots i
                by_cases hlt : i < d.pots.length
                · obtain ⟨x, hx⟩ := exists_at hlt
                  have htk := sumB_take (fun m : Pt => cntE m.x) hx
                  have hle2 := sumB_le (fun m : Pt => cntE m.x) d.pots (i + 1)
                  obtain ⟨p1, p2⟩ := huw x (List.mem_of_getElem? hx)
                  have hR : FnOK Tryz.prog 41 [aggS (exprC x.x), I 1, .one (.bx 0 0)] [(0, .box [.p (ki ((3000 - sumB (fun p : Pr => cntSs p.body) d.procs - sumB (fun m : Ms => cntE m.x) d.measures - sumB (fun m : Iv => cntE m.x) d.invs - sumB (fun m : Pt => cntE m.x) (d.pots.take i) : Nat)))])] (.tup []) [(0, .box [.p (ki ((3000 - sumB (fun p : Pr => cntSs p.body) d.procs - sumB (fun m : Ms => cntE m.x) d.measures - sumB (fun m : Iv => cntE m.x) d.invs - sumB (fun m : Pt => cntE m.x) (d.pots.take i) - cntE x.x : Nat)))])] :=
                    nodes_ok (sizeOf x.x + 1) x.x 1 _ (Nat.lt_succ_self _) p2 (by omega) (by omega)
                  repeat' first | refine g_go T hC true 400 rfl rfl ?_ | (exfalso; simp at h; done) | (exfalso; have h' := of_decide_eq_false h; (try simp only [List.length_map] at h'); omega) | (exfalso; have h' := of_decide_eq_true h; (try simp only [List.length_map] at h'); omega) | refine g_cond rfl (fun h => ?_) (fun h => ?_) | refine g_splitG rfl rfl rfl (fun h => ?_) (fun h => ?_) | refine g_splitP rfl rfl (fun h => ?_) (fun h => ?_) | refine g_idx T hC rfl rfl rfl (Int.natCast_nonneg _) (map_at hx) rfl rfl ?_ | refine g_callR hC (hR) (nm [1003]) rfl rfl (LeSs.refl _) rfl rfl rfl rfl rfl rfl rfl rfl ?_
                  rw [wrapS (i := i) (by omega)]
                  rw [show 3000 - sumB (fun p : Pr => cntSs p.body) d.procs - sumB (fun m : Ms => cntE m.x) d.measures - sumB (fun m : Iv => cntE m.x) d.invs - sumB (fun m : Pt => cntE m.x) (d.pots.take i) - cntE x.x = 3000 - sumB (fun p : Pr => cntSs p.body) d.procs - sumB (fun m : Ms => cntE m.x) d.measures - sumB (fun m : Iv => cntE m.x) d.invs - sumB (fun m : Pt => cntE m.x) (d.pots.take (i + 1)) by omega]
                  exact g_round (i + 1) hlt id (by omega) ⟨rfl, ⟨rfl, rfl, rfl, rfl, rfl, rfl, trivial⟩, ⟨rfl, rfl, rfl, trivial⟩, rfl, fun _ _ => rfl⟩
                · repeat' first | refine g_go T hC true 400 rfl rfl ?_ | (exfalso; have h' := of_decide_eq_true h; (try simp only [List.length_map] at h'); omega) | refine g_cond rfl (fun h => ?_) (fun h => ?_) | refine g_splitG rfl rfl rfl (fun h => ?_) (fun h => ?_) | refine g_splitP rfl rfl (fun h => ?_) (fun h => ?_) | refine g_outE ?_
                  rw [List.take_of_length_le (show d.pots.length ≤ i by omega)]
                  refine g_loop (fun i : Nat => i ≤ d.bounds.length) (fun i => ([(1, .one (.bx 1001 0)), (3, .one (.bx 1003 0)), (4, .one (.bx 1004 0)), (162, pS (.sl 5 (d.bounds.map boundR))), (163, I ((d.bounds.map boundR).length : Nat)), (164, I (i : Nat))], [(1001, some (Res.box ((descR d).map V.p))), (1003, some (Res.box [.p (ki ((3000 - sumB (fun p : Pr => cntSs p.body) d.procs - sumB (fun m : Ms => cntE m.x) d.measures - sumB (fun m : Iv => cntE m.x) d.invs - sumB (fun m : Pt => cntE m.x) d.pots - sumB (fun m : Bd => cntE m.x) (d.bounds.take i) : Nat)))])), (1004, some (Res.box [.cl 35 [] []]))])) (fun i => d.bounds.length - i) hC
                    0 (Nat.zero_le _) id ⟨rfl, ⟨rfl, rfl, rfl, rfl, rfl, rfl, trivial⟩, ⟨rfl, rfl, rfl, trivial⟩, rfl, fun _ _ => rfl⟩ ?_
                  · intro i hi
                    have hle := sumB_le (fun m : Bd => cntE m.x) d.bounds i
                    by_cases hlt : i < d.bounds.length
                    · obtain ⟨x, hx⟩ := exists_at hlt
                      have htk := sumB_take (fun m : Bd => cntE m.x) hx
                      have hle2 := sumB_le (fun m : Bd => cntE m.x) d.bounds (i + 1)
                      obtain ⟨p1, p2⟩ := hbw x (List.mem_of_getElem? hx)
                      have hR : FnOK Tryz.prog 41 [aggS (exprC x.x), I 1, .one (.bx 0 0)] [(0, .box [.p (ki ((3000 - sumB (fun p : Pr => cntSs p.body) d.procs - sumB (fun m : Ms => cntE m.x) d.measures - sumB (fun m : Iv => cntE m.x) d.invs - sumB (fun m : Pt => cntE m.x) d.pots - sumB (fun m : Bd => cntE m.x) (d.bounds.take i) : Nat)))])] (.tup []) [(0, .box [.p (ki ((3000 - sumB (fun p : Pr => cntSs p.body) d.procs - sumB (fun m : Ms => cntE m.x) d.measures - sumB (fun m : Iv => cntE m.x) d.invs - sumB (fun m : Pt => cntE m.x) d.pots - sumB (fun m : Bd => cntE m.x) (d.bounds.take i) - cntE x.x : Nat)))])] :=
                        nodes_ok (sizeOf x.x + 1) x.x 1 _ (Nat.lt_succ_self _) p2 (by omega) (by omega)
                      repeat' first | refine g_go T hC true 400 rfl rfl ?_ | (exfalso; simp at h; done) | (exfalso; have h' := of_decide_eq_false h; (try simp only [List.length_map] at h'); omega) | (exfalso; have h' := of_decide_eq_true h; (try simp only [List.length_map] at h'); omega) | refine g_cond rfl (fun h => ?_) (fun h => ?_) | refine g_splitG rfl rfl rfl (fun h => ?_) (fun h => ?_) | refine g_splitP rfl rfl (fun h => ?_) (fun h => ?_) | refine g_idx T hC rfl rfl rfl (Int.natCast_nonneg _) (map_at hx) rfl rfl ?_ | refine g_callR hC (hR) (nm [1003]) rfl rfl (LeSs.refl _) rfl rfl rfl rfl rfl rfl rfl rfl ?_
                      rw [wrapS (i := i) (by omega)]
                      rw [show 3000 - sumB (fun p : Pr => cntSs p.body) d.procs - sumB (fun m : Ms => cntE m.x) d.measures - sumB (fun m : Iv => cntE m.x) d.invs - sumB (fun m : Pt => cntE m.x) d.pots - sumB (fun m : Bd => cntE m.x) (d.bounds.take i) - cntE x.x = 3000 - sumB (fun p : Pr => cntSs p.body) d.procs - sumB (fun m : Ms => cntE m.x) d.measures - sumB (fun m : Iv => cntE m.x) d.invs - sumB (fun m : Pt => cntE m.x) d.pots - sumB (fun m : Bd => cntE m.x) (d.bounds.take (i + 1)) by omega]
                      exact g_round (i + 1) hlt id (by omega) ⟨rfl, ⟨rfl, rfl, rfl, rfl, rfl, rfl, trivial⟩, ⟨rfl, rfl, rfl, trivial⟩, rfl, fun _ _ => rfl⟩
                    · repeat' first | refine g_go T hC true 400 rfl rfl ?_ | (exfalso; have h' := of_decide_eq_true h; (try simp only [List.length_map] at h'); omega) | refine g_cond rfl (fun h => ?_) (fun h => ?_) | refine g_splitG rfl rfl rfl (fun h => ?_) (fun h => ?_) | refine g_splitP rfl rfl (fun h => ?_) (fun h => ?_) | refine g_outE ?_ | refine g_retq T (.inl rfl) rfl ?_
                      exact decide_eq_false (by omega)
end Hw.Pa
namespace Hw.Pa
open Go Go.Proofs Hw.M

abbrev S0 : Sm := .mk 0 (⟨#[]⟩ : ByteArray) [] [] []
abbrev enS (s : Sm) : S := aggS (stmtC s)
structure SR (l : List Tok) (f : Nat) : Prop where
  blk : ∀ i, i < l.length → RK0 150 [pS (toksP l), I (i : Nat)] (fun a => pS (stmtsP a)) [] (stmtsA l f i [])
  brc : ∀ i, i < l.length → RK0 186 [pS (toksP l), I (i : Nat)] (fun a => pS (stmtsP a)) [] (blockA l f i)
  stm : ∀ i, i < l.length → RK 167 [pS (toksP l), I (i : Nat)] enS (stmtA l f i)
section
variable {l : List Tok} (hl : GoodL l)
include hl
end
end Hw.Pa
namespace Hw.Pa
open Go Go.Proofs Hw.M

section
variable {l : List Tok} (hl : GoodL l)
include hl
end
end Hw.Pa
namespace Hw.Pa
open Go Go.Proofs Hw.M

def locZ (l : List Tok) : Nat → Nat → List Fld → List Fld
  | 0, _, acc => acc
  | f + 1, i, acc => if isA l i (⟨#[108, 111, 99, 97, 108]⟩ : ByteArray) = true then match fieldA l (i + 1) with
      | .ok x k => match oneA l (⟨#[59]⟩ : ByteArray) k with
        | .ok _ k2 => locZ l f k2 (acc ++ [x])
        | _ => acc ++ [x]
      | _ => acc
    else acc
section
variable {l : List Tok} (hl : GoodL l)
include hl
end
end Hw.Pa
