/- The engine and the contracts. -/
import Derived.Test.YtnijeifpjjeccaaGreatDoorC15
import Derived.Lib.ItoaMem
import Derived.Test.YtnijeifpjjeccaaGreatDoorC1
import Derived.Test.YtnijeifpjjeccaaGreatDoorC2
import Derived.Test.YtnijeifpjjeccaaGreatDoorC3
set_option linter.unusedVariables false
set_option linter.unusedSimpArgs false
namespace Hw.Mq
open Go Go.Proofs Go.Shelf Hw.M

/-! numbers as text, plain -/
def decB (u : Nat) : Str := ⟨(Lib.decDigits u).toArray⟩
def itoaB (n : Int) : Str := ⟨(Lib.itoa n).toArray⟩
theorem decB_size (u : Nat) : (decB u).size = Lib.nDigits u := by
  rw [← Lib.decDigits_length]; simp [decB, ByteArray.size]
theorem nDigits_le {u : Nat} (h : u < 18446744073709551616) : Lib.nDigits u ≤ 20 := by
  rcases Nat.eq_zero_or_pos u with rfl | h1
  · rw [Lib.nDigits_small (by omega)]; omega
  · have := Lib.numDigits_eq u h1 h
    split at this <;> omega
theorem itoaB_nonneg {n : Int} (h : 0 ≤ n) : itoaB n = decB n.toNat := by simp only [itoaB, Lib.itoa, if_neg (show ¬ n < 0 by omega), decB]
theorem itoaB_neg {n : Int} (h : n < 0) : itoaB n = (⟨#[45]⟩ : Str) ++ decB n.natAbs := by
  simp only [itoaB, Lib.itoa, if_pos h, decB]
  apply ByteArray.ext
  rw [ByteArray.data_append]
  apply Array.toList_inj.1
  simp
theorem callOK {f : FuncId} {fn : Func} (h : Tryz.prog.funcs[f]? = some fn) (h1 : (fn.name == "runtime.NumGoroutine") = false) (h2 : fn.body.isNone = false) : CallOK Tryz.prog f := ⟨fn, h, h1, h2⟩
end Hw.Mq
namespace Hw.Mq
open Go Go.Proofs Go.Shelf Hw.M

/-! strconv.Itoa -/
theorem itoa_ok (n : Int) (h0 : -9223372036854775808 ≤ n) (h1 : n ≤ 9223372036854775807) : FnOK Tryz.prog 23 [I n] [] (Sr (itoaB n)) [] :=
  @fn_belowL _ _ [.int .i64 n] _ (callOK Tryz.func23 (by kernel_rfl) (by kernel_rfl)) (fun w hw => by
    obtain ⟨el, fz, hb⟩ := hw.2.2 _ (List.mem_cons_self ..)
    have htab : Lib.TabIs Tryz.prog w "internal/strconv.uint64pow10" .u64 Lib.pow10Tab := by
      unfold Lib.TabIs World.var?
      rw [show (Tryz.prog).globalNamed "internal/strconv.uint64pow10" = some 2 by kernel_rfl]
      simp only [Option.bind_some]
      rw [hb]
      rfl
    refine (Any.strconv_Itoa laysItoa n h0 h1 w htab).mono ?_
    rintro e w' ⟨he, k, os, rfl⟩
    exact ⟨he, ⟨rfl, rfl, rfl, by show w.heap.size ≤ (w.heap ++ os).size; simp, fun b hb => by show (w.heap ++ os)[b]? = _; rw [Array.getElem?_append_left hb]⟩⟩) rfl
end Hw.Mq
namespace Hw.Mq
open Go Go.Proofs Go.Shelf Hw.M

/-! the reference's Decimal -/
theorem decDigits_big {u : Nat} (h : ¬ u < 10) : decB u = decB (u / 10) ++ (⟨#[UInt8.ofNat (48 + u % 10)]⟩ : Str) := by
  simp only [decB]
  rw [Lib.decDigits, dif_neg h]
  apply ByteArray.ext
  rw [ByteArray.data_append]
  apply Array.toList_inj.1
  simp
theorem decDigits_one' {u : Nat} (h : u < 10) : decB u = (⟨#[UInt8.ofNat (48 + u)]⟩ : Str) := by
  simp only [decB, Lib.decDigits_one h]
theorem itoaB_size {n : Int} (h0 : -4611686018427387904 ≤ n) (h1 : n ≤ 4611686018427387904) : (itoaB n).size ≤ 21 := by
  by_cases h : n < 0
  · rw [itoaB_neg h, size_app, decB_size]
    have := nDigits_le (u := n.natAbs) (by omega)
    have : ByteArray.size ⟨#[45]⟩ = 1 := rfl
    omega
  · rw [itoaB_nonneg (by omega), decB_size]
    have := nDigits_le (u := n.toNat) (by omega)
    omega
end Hw.Mq
namespace Hw.Mq
open Go Go.Proofs Go.Shelf Hw.M

/-! strings.Builder -/
def bldR : Go.Shelf.Ren := ⟨fun | 166 => 21 | 169 => 24 | 240 => 45 | n => n, fun | 75 => 60 | 0 => 0 | 3 => 3 | 4 => 4 | 5 => 5 | 9 => 9 | 37 => 56 | 70 => 55 | 72 => 58 | 127 => 84 | 164 => 91 | n => n, fun n => n⟩
theorem bldX : Builder.Extra Tryz.prog bldR where
  sizeBuilder := by kernel_rfl
  liesBuilder := by kernel_rfl
  t5 := Tryz.underlying5
  a5 := Tryz.isAgg5
  z5 := Tryz.sizeOf5
  v5 := Tryz.zeroValue5
  infoByte := by kernel_rfl
  cellsByte := by kernel_rfl
  sizeByte := by kernel_rfl
  neB5 := by decide
set_option maxHeartbeats 1000000 in
set_option maxRecDepth 100000 in
theorem bld_chk {b : Nat} {p v : Value} {s : ByteArray} {w : World} (hp : p = .pointer none ∨ p = .pointer (some ⟨b, 0, none⟩)) (h : BldAt (bldR.t 72) (bldR.t 5) b p v s w) :
    Calls Tryz.prog (bldR.f 240) #[.pointer (some ⟨b, 0, none⟩)] w fun e w' => e = .returned (.tuple #[]) ∧ BldAt (bldR.t 72) (bldR.t 5) b (.pointer (some ⟨b, 0, none⟩)) v s w' ∧ Kp b v v w w' := by
  obtain ⟨j, hj, hjs⟩ := Option.map_eq_some_iff.1 bldX.sizeBuilder
  rcases hp with rfl | rfl
  · have h0 := h.atF.cell0
    have hsh := h.atF.shape
    have hfz := h.atF.frozen0
    refine Calls.mono (R := fun e w' => e = .returned (.tuple #[]) ∧ w' = w.setCell ⟨b, 0, none⟩ (.pointer (some ⟨b, 0, none⟩))) ?_ ?_
    · go_enter Tryz.func45, Tryz.ntmps45
      go_wp2
      rw [Lib.run_to_unsafe w ⟨b, 0, none⟩ Tryz.underlying55 Tryz.underlying91 hj (by rw [hjs]; decide) hsh (Nat.zero_lt_succ 1)]
      simp only [Result.andThen]
      rw [Oper.upon_value]
      go_wp2
      rw [run_callFunc_extern Tryz.func61 (by kernel_rfl) (by kernel_rfl) (by kernel_rfl) (e := Extern.AbiNoEscape.same) (by kernel_rfl)]
      rw [Lib.run_noEscape]
      simp only [Result.andThen]
      rw [Oper.upon_value]
      go_wp2
      rw [Lib.run_from_unsafe w ⟨b, 0, none⟩ Tryz.underlying91 Tryz.underlying55 hj hsh bldX.liesBuilder]
      simp only [Result.andThen]
      rw [Oper.upon_value]
      go_wp2
      go_end0
      exact ⟨rfl, rfl⟩
    · rintro e w' ⟨rfl, rfl⟩
      exact ⟨rfl, h.used _, Kp.set _ _ _ _⟩
  · have h0 := h.atF.cell0
    refine Calls.mono (R := fun e w' => e = .returned (.tuple #[]) ∧ w' = w) ?_ ?_
    · go_enter Tryz.func45, Tryz.ntmps45
      go_wp2
      rw [Lib.run_neq_ptr_same w _ Tryz.underlying55 hj]
      go_wp2
      go_end0
      exact ⟨rfl, rfl⟩
    · rintro e w' ⟨rfl, rfl⟩
      exact ⟨rfl, h, Kp.refl _ _ _⟩
theorem bldL : BldL Tryz.prog bldR where
  mixed := by kernel_rfl
  f169 := Tryz.func24.trans (congrArg some (by kernel_rfl))
  f166 := Tryz.func21.trans (congrArg some (by kernel_rfl))
  e240 := enters_of Tryz.func45 (by kernel_rfl) rfl
  chk := bld_chk
  t0 := Tryz.underlying0
  a0 := Tryz.isAgg0
  z0 := Tryz.sizeOf0
  v0 := Tryz.zeroValue0
  t3 := Tryz.underlying3
  a3 := Tryz.isAgg3
  z3 := Tryz.sizeOf3
  v3 := Tryz.zeroValue3
  t4 := Tryz.underlying4
  a4 := Tryz.isAgg4
  z4 := Tryz.sizeOf4
  v4 := Tryz.zeroValue4
  t9 := Tryz.underlying9
  a9 := Tryz.isAgg9
  z9 := Tryz.sizeOf9
  v9 := Tryz.zeroValue9
  t37 := Tryz.underlying56
  a37 := Tryz.isAgg56
  z37 := Tryz.sizeOf56
  v37 := Tryz.zeroValue56
  t70 := Tryz.underlying55
  a70 := Tryz.isAgg55
  z70 := Tryz.sizeOf55
  v70 := Tryz.zeroValue55
  t72 := Tryz.underlying58
  a72 := Tryz.isAgg58
  z72 := Tryz.sizeOf58
  v72 := Tryz.zeroValue58
  t127 := Tryz.underlying84
  a127 := Tryz.isAgg84
  z127 := Tryz.sizeOf84
  v127 := Tryz.zeroValue84
  t164 := Tryz.underlying91
  a164 := Tryz.isAgg91
  z164 := Tryz.sizeOf91
  v164 := Tryz.zeroValue91
abbrev Bd (b : Nat) (s : ByteArray) : Res := .bld 58 5 b s
theorem ws_ok (b : Nat) (s t : Str) (h : s.size + t.size ≤ 140737488355328) : FnOK Tryz.prog 21 [Bp b, Sr t] [(0, Bd b s)] (.tup [I t.size, .one (.p (.k .nilIface))]) [(1, Bd b (s ++ t))] :=
  fn_bld (av := [.string t]) (callOKL Tryz.func21 (by kernel_rfl) (by kernel_rfl)) (fun p v w _ hp hb => (bld_ws bldL bldX hp hb t h).mono fun e w' ⟨he, v', h1, h2⟩ => ⟨he, _, v', .inr rfl, h1, h2⟩)
    fun M ρ => by simp only [RepS]; exact ⟨_, rfl, by simp only [RepSs, RepS, RepV, RepPV]; exact ⟨⟨trivial, rfl⟩, ⟨trivial, rfl⟩, trivial⟩⟩
theorem bs_ok (b : Nat) (s : ByteArray) : FnOK Tryz.prog 24 [Bp b] [(0, Bd b s)] (Sr s) [] :=
  fn_bldX (callOKL Tryz.func24 (by kernel_rfl) (by kernel_rfl)) (fun p v w _ _ hb => bld_str bldL bldX hb)
    fun M ρ => by simp only [RepS, RepV, RepPV]; exact ⟨trivial, rfl⟩
end Hw.Mq
