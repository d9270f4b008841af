/- The seat's tables of types. -/
import Derived.Test.YtfefngngejlmhaaDoorProg
import Derived.Test.YtfefngngejlmhaaDoorE2
import Derived.KernelRfl
import Derived.Shelf.Strings.Fields
import Derived.Test.YtfefngngejlmhaaDoorE3
set_option linter.unusedVariables false
set_option linter.unusedSimpArgs false
namespace Hw.L
open Go Go.Proofs
def tabs : Tabs :=
{ sh := (.nd (.nd (.nd (.nd (.nd (.nd .lf 2 none .lf) 3 none .lf) 4 none (.nd (.nd .lf 5 none .lf) 9 none .lf)) 20 none (.nd (.nd (.nd .lf 21 none .lf) 23 none .lf) 25 (some 2) (.nd (.nd .lf 26 none .lf) 33 (some 5) .lf))) 35 none (.nd (.nd (.nd (.nd .lf 37 none .lf) 38 none .lf) 40 (some 2) (.nd (.nd .lf 44 none .lf) 47 none .lf)) 68 none (.nd (.nd (.nd .lf 71 (some 4) .lf) 74 none .lf) 76 none (.nd .lf 79 (some 256) .lf)))) 81 none (.nd (.nd (.nd (.nd (.nd .lf 84 none .lf) 86 (some 2) .lf) 87 none (.nd (.nd .lf 89 none .lf) 90 (some 24) .lf)) 91 none (.nd (.nd (.nd .lf 99 none .lf) 102 none .lf) 103 none (.nd (.nd .lf 105 (some 3) .lf) 106 none .lf))) 108 (some 3) (.nd (.nd (.nd (.nd .lf 111 (some 3) .lf) 115 (some 20) .lf) 116 (some 65) (.nd (.nd .lf 122 (some 3) .lf) 124 none .lf)) 125 none (.nd (.nd (.nd .lf 128 none .lf) 130 (some 1) .lf) 131 (some 32) (.nd .lf 132 (some 64) .lf)))))
  fo := (.nd (.nd (.nd (.nd .lf 25 (.nd (.nd .lf 0 0 .lf) 1 1 .lf) .lf) 33 (.nd (.nd (.nd .lf 0 0 .lf) 1 1 .lf) 2 2 (.nd .lf 3 3 .lf)) .lf) 40 (.nd (.nd .lf 0 0 .lf) 1 1 .lf) (.nd .lf 86 (.nd (.nd .lf 0 0 .lf) 1 1 .lf) .lf)) 105 (.nd (.nd .lf 0 0 .lf) 1 1 (.nd .lf 2 2 .lf)) (.nd (.nd (.nd .lf 108 (.nd (.nd .lf 0 0 .lf) 1 1 (.nd .lf 2 2 .lf)) .lf) 111 (.nd (.nd .lf 0 0 .lf) 1 1 (.nd .lf 2 2 .lf)) .lf) 122 (.nd (.nd .lf 0 0 .lf) 1 1 (.nd .lf 2 2 .lf)) (.nd .lf 130 (.nd .lf 0 0 .lf) .lf)))
  es := (.nd (.nd (.nd .lf 23 (33, 5) .lf) 37 (5, 1) (.nd .lf 47 (9, 1) .lf)) 84 (86, 2) (.nd (.nd .lf 102 (108, 3) .lf) 103 (111, 3) .lf))
  zs := (.nd (.nd (.nd (.nd (.nd (.nd .lf 2 [(.int .i64)] .lf) 3 [(.int .i64)] .lf) 4 [.bool] (.nd (.nd .lf 5 [(.int .u8)] .lf) 9 [.str] .lf)) 20 [.nif] (.nd (.nd (.nd .lf 21 [(.int .i32)] .lf) 23 [.slice] .lf) 25 [(.int .i64), (.int .i64)] (.nd .lf 26 [(.int .i64)] .lf))) 33 [(.int .i64), .str, (.int .i64), (.int .i64), (.int .i64)] (.nd (.nd (.nd (.nd .lf 35 [.nfunc] .lf) 37 [.slice] .lf) 38 [.ptr] (.nd .lf 44 [.nif] .lf)) 47 [.slice] (.nd (.nd (.nd .lf 68 [.ptr] .lf) 71 [.str, .str, .str, .str] .lf) 74 [(.int .u64)] (.nd .lf 76 [.ptr] .lf)))) 81 [.nfunc] (.nd (.nd (.nd (.nd (.nd .lf 84 [.slice] .lf) 86 [(.int .i64), (.int .i64)] .lf) 87 [(.int .u32)] (.nd (.nd .lf 89 [.ptr] .lf) 90 [(.int .u8), (.int .u8), (.int .u8), (.int .u8), (.int .u8), (.int .u8), (.int .u8), (.int .u8), (.int .u8), (.int .u8), (.int .u8), (.int .u8), (.int .u8), (.int .u8), (.int .u8), (.int .u8), (.int .u8), (.int .u8), (.int .u8), (.int .u8), (.int .u8), (.int .u8), (.int .u8), (.int .u8)] .lf)) 91 [(.int .u64)] (.nd (.nd (.nd .lf 99 [.ptr] .lf) 102 [.slice] .lf) 103 [.slice] (.nd .lf 105 [.slice, .slice, (.int .i64)] .lf))) 106 [(.int .u16)] (.nd (.nd (.nd (.nd .lf 108 [(.int .u16), (.int .u16), (.int .u16)] .lf) 111 [(.int .u32), (.int .u32), (.int .u32)] .lf) 115 [(.int .u64), (.int .u64), (.int .u64), (.int .u64), (.int .u64), (.int .u64), (.int .u64), (.int .u64), (.int .u64), (.int .u64), (.int .u64), (.int .u64), (.int .u64), (.int .u64), (.int .u64), (.int .u64), (.int .u64), (.int .u64), (.int .u64), (.int .u64)] (.nd .lf 122 [.str, .str, .nif] .lf)) 124 [.ptr] (.nd (.nd (.nd .lf 125 [.ptr] .lf) 128 [.ptr] .lf) 130 [.str] (.nd .lf 131 [(.int .u8), (.int .u8), (.int .u8), (.int .u8), (.int .u8), (.int .u8), (.int .u8), (.int .u8), (.int .u8), (.int .u8), (.int .u8), (.int .u8), (.int .u8), (.int .u8), (.int .u8), (.int .u8), (.int .u8), (.int .u8), (.int .u8), (.int .u8), (.int .u8), (.int .u8), (.int .u8), (.int .u8), (.int .u8), (.int .u8), (.int .u8), (.int .u8), (.int .u8), (.int .u8), (.int .u8), (.int .u8)] .lf)))))
  pl := (.nd (.nd (.nd (.nd .lf 25 [(0, 1), (1, 1)] .lf) 33 [(0, 1), (1, 1), (2, 1), (3, 2)] .lf) 40 [(0, 1), (1, 1)] (.nd .lf 86 [(0, 1), (1, 1)] .lf)) 105 [(0, 1), (1, 1), (2, 1)] (.nd (.nd (.nd .lf 108 [(0, 1), (1, 1), (2, 1)] .lf) 111 [(0, 1), (1, 1), (2, 1)] .lf) 122 [(0, 1), (1, 1), (2, 1)] (.nd .lf 130 [(0, 1)] .lf)))
  str := (.nd .lf 9 () .lf)
  ik := (.nd (.nd (.nd (.nd .lf 2 .i64 .lf) 3 .i64 .lf) 5 .u8 (.nd .lf 21 .i32 .lf)) 26 .i64 (.nd (.nd (.nd .lf 74 .u64 .lf) 87 .u32 .lf) 91 .u64 (.nd .lf 106 .u16 .lf))) }
theorem tabs_ok : tabs.check Tryd.prog = true := by kernel_rfl
theorem mixed : Tryd.prog.follows .mixedOrders = true := by kernel_rfl
noncomputable def T : Ty Tryd.prog := tabs.ty tabs_ok mixed
end Hw.L
/- The library's functions at this program: their numbers. -/
namespace Hw.L
open Go Go.Proofs Go.Shelf
def lays157_ren : Go.Shelf.Ren := ⟨fun | 157 => 52 | 229 => 60 | 199 => 61 | 261 => 66 | 311 => 76 | 312 => 77 | n => n, fun | 9 => 9 | 31 => 47 | 3 => 3 | 5 => 5 | 4 => 4 | 119 => 79 | 0 => 0 | 40 => 81 | 152 => 84 | 21 => 21 | 154 => 86 | 51 => 87 | 141 => 89 | 196 => 105 | 193 => 102 | 198 => 108 | 49 => 106 | 194 => 103 | 201 => 111 | 226 => 124 | 46 => 74 | 227 => 125 | n => n, fun | 0 => 0 | 6 => 1 | n => n⟩
theorem lays157 : Go.Proofs.Lays.n157 Tryd.prog lays157_ren where
  mixed := by kernel_rfl
  f157 := Tryd.func52.trans (congrArg some (by kernel_rfl))
  f199 := Tryd.func61.trans (congrArg some (by kernel_rfl))
  f229 := Tryd.func60.trans (congrArg some (by kernel_rfl))
  f261 := Tryd.func66.trans (congrArg some (by kernel_rfl))
  f311 := Tryd.func76.trans (congrArg some (by kernel_rfl))
  f312 := Tryd.func77.trans (congrArg some (by kernel_rfl))
  t0 := Tryd.underlying0
  a0 := Tryd.isAgg0
  z0 := Tryd.sizeOf0
  v0 := Tryd.zeroValue0
  t3 := Tryd.underlying3
  a3 := Tryd.isAgg3
  z3 := Tryd.sizeOf3
  v3 := Tryd.zeroValue3
  t4 := Tryd.underlying4
  a4 := Tryd.isAgg4
  z4 := Tryd.sizeOf4
  v4 := Tryd.zeroValue4
  t5 := Tryd.underlying5
  a5 := Tryd.isAgg5
  z5 := Tryd.sizeOf5
  v5 := Tryd.zeroValue5
  t9 := Tryd.underlying9
  a9 := Tryd.isAgg9
  z9 := Tryd.sizeOf9
  v9 := Tryd.zeroValue9
  t21 := Tryd.underlying21
  a21 := Tryd.isAgg21
  z21 := Tryd.sizeOf21
  v21 := Tryd.zeroValue21
  t31 := Tryd.underlying47
  a31 := Tryd.isAgg47
  z31 := Tryd.sizeOf47
  v31 := Tryd.zeroValue47
  t40 := Tryd.underlying81
  a40 := Tryd.isAgg81
  z40 := Tryd.sizeOf81
  v40 := Tryd.zeroValue81
  t46 := Tryd.underlying74
  a46 := Tryd.isAgg74
  z46 := Tryd.sizeOf74
  v46 := Tryd.zeroValue74
  t49 := Tryd.underlying106
  a49 := Tryd.isAgg106
  z49 := Tryd.sizeOf106
  v49 := Tryd.zeroValue106
  t51 := Tryd.underlying87
  a51 := Tryd.isAgg87
  z51 := Tryd.sizeOf87
  v51 := Tryd.zeroValue87
  t119 := Tryd.underlying79
  a119 := Tryd.isAgg79
  z119 := Tryd.sizeOf79
  t141 := Tryd.underlying89
  a141 := Tryd.isAgg89
  z141 := Tryd.sizeOf89
  v141 := Tryd.zeroValue89
  t152 := Tryd.underlying84
  a152 := Tryd.isAgg84
  z152 := Tryd.sizeOf84
  v152 := Tryd.zeroValue84
  t154 := Tryd.underlying86
  a154 := Tryd.isAgg86
  z154 := Tryd.sizeOf86
  v154 := Tryd.zeroValue86
  t193 := Tryd.underlying102
  a193 := Tryd.isAgg102
  z193 := Tryd.sizeOf102
  v193 := Tryd.zeroValue102
  t194 := Tryd.underlying103
  a194 := Tryd.isAgg103
  z194 := Tryd.sizeOf103
  v194 := Tryd.zeroValue103
  t196 := Tryd.underlying105
  a196 := Tryd.isAgg105
  z196 := Tryd.sizeOf105
  v196 := Tryd.zeroValue105
  t198 := Tryd.underlying108
  a198 := Tryd.isAgg108
  z198 := Tryd.sizeOf108
  v198 := Tryd.zeroValue108
  t201 := Tryd.underlying111
  a201 := Tryd.isAgg111
  z201 := Tryd.sizeOf111
  v201 := Tryd.zeroValue111
  t226 := Tryd.underlying124
  a226 := Tryd.isAgg124
  z226 := Tryd.sizeOf124
  v226 := Tryd.zeroValue124
  t227 := Tryd.underlying125
  a227 := Tryd.isAgg125
  z227 := Tryd.sizeOf125
  v227 := Tryd.zeroValue125
  g0 := by kernel_rfl
  g6 := by kernel_rfl
end Hw.L
namespace Hw.L
open Go Go.Proofs Hw.M

abbrev uc (c : Int) : S := .one (.p (.k (.int .u8 c)))
def isLetter (c : Int) : Bool := (decide (97 ≤ c) && decide (c ≤ 122)) || (decide (65 ≤ c) && decide (c ≤ 90))
def isDigit (c : Int) : Bool := decide (48 ≤ c) && decide (c ≤ 57)
def isWord (c : Int) : Bool := (isLetter c || isDigit c) || decide (c = 95)

theorem letter_ok (c : Int) : FnOK Tryd.prog 32 [uc c] [] (.bq (isLetter c)) [] := by
  refine fn_ok T Tryd.func32 (by kernel_rfl) rfl rfl rfl rfl fun C hC => ?_
  repeat' first
    | refine g_go T hC true 400 rfl rfl ?_
    | refine g_cond rfl (fun h => ?_) (fun h => ?_)
    | refine g_end T hC (by kernel_rfl) ?_
    | refine g_splitD (fun h => ?_) (fun h => ?_)
    | refine g_splitG rfl rfl rfl (fun h => ?_) (fun h => ?_)
    | refine g_splitP rfl rfl (fun h => ?_) (fun h => ?_)
    | refine g_retq T (.inl rfl) rfl ?_
    | refine g_retl T (.inl rfl) rfl ?_
  all_goals (simp_all [isLetter] <;> omega)
theorem digit_ok (c : Int) : FnOK Tryd.prog 48 [uc c] [] (.bq (isDigit c)) [] := by
  refine fn_ok T Tryd.func48 (by kernel_rfl) rfl rfl rfl rfl fun C hC => ?_
  repeat' first
    | refine g_go T hC true 400 rfl rfl ?_
    | refine g_cond rfl (fun h => ?_) (fun h => ?_)
    | refine g_end T hC (by kernel_rfl) ?_
    | refine g_splitD (fun h => ?_) (fun h => ?_)
    | refine g_splitG rfl rfl rfl (fun h => ?_) (fun h => ?_)
    | refine g_splitP rfl rfl (fun h => ?_) (fun h => ?_)
    | refine g_retq T (.inl rfl) rfl ?_
    | refine g_retl T (.inl rfl) rfl ?_
  all_goals (simp_all [isDigit] <;> omega)
theorem word_ok (c : Int) : FnOK Tryd.prog 29 [uc c] [] (.bq (isWord c)) [] := by
  refine fn_ok T Tryd.func29 (by kernel_rfl) rfl rfl rfl rfl fun C hC => ?_
  repeat' first
    | refine g_go T hC true 400 rfl rfl ?_
    | refine g_cond rfl (fun h => ?_) (fun h => ?_)
    | refine g_end T hC (by kernel_rfl) ?_
    | refine g_splitD (fun h => ?_) (fun h => ?_)
    | refine g_splitG rfl rfl rfl (fun h => ?_) (fun h => ?_)
    | refine g_splitP rfl rfl (fun h => ?_) (fun h => ?_)
    | refine g_retq T (.inl rfl) rfl ?_
    | refine g_retl T (.inl rfl) rfl ?_
    | refine g_call hC (letter_ok _) rfl rfl (LeSs.refl _) rfl rfl rfl ?_
    | refine g_call hC (digit_ok _) rfl rfl (LeSs.refl _) rfl rfl rfl ?_
  all_goals simp_all [isWord]

theorem has_ok (l : List Str) (s : Str) : FnOK Tryd.prog 35 [pS (strsP l), Sr s] [] (.bq (l.any fun x => decide (x = s))) [] := by
  refine fn_ok T Tryd.func35 (by kernel_rfl) rfl rfl rfl rfl fun C hC => ?_
  refine g_len 0 rfl fun hlen => ?_
  rw [List.length_map] at hlen
  repeat' first
    | refine g_go T hC true 400 rfl rfl ?_
    | refine g_cond rfl (fun h => ?_) (fun h => ?_)
    | refine g_end T hC (by kernel_rfl) ?_
    | refine g_splitD (fun h => ?_) (fun h => ?_)
    | refine g_splitG rfl rfl rfl (fun h => ?_) (fun h => ?_)
    | refine g_splitP rfl rfl (fun h => ?_) (fun h => ?_)
  refine g_loop (fun i : Nat => i ≤ l.length ∧ (l.take i).any (fun x => decide (x = s)) = false) (fun i => ([(0, pS (strsP l)), (1, Sr s), (5, I i)], [])) (fun i => l.length - i) hC
    0 ⟨Nat.zero_le _, by simp⟩ id ⟨rfl, ⟨rfl, rfl, rfl, trivial⟩, trivial, rfl, fun _ _ => rfl⟩ ?_
  rintro i ⟨hi, hn⟩
  refine g_run' T hC true 200 rfl ?_
  refine g_cond rfl (fun h => ?_) (fun h => ?_)
  · have hlt : i < l.length := by simpa using h
    obtain ⟨x, hx⟩ := exists_at hlt
    repeat' first
      | refine g_go T hC true 400 rfl rfl ?_
      | refine g_cond rfl (fun h => ?_) (fun h => ?_)
      | refine g_end T hC (by kernel_rfl) ?_
      | refine g_splitD (fun h => ?_) (fun h => ?_)
      | refine g_splitG rfl rfl rfl (fun h => ?_) (fun h => ?_)
      | refine g_splitP rfl rfl (fun h => ?_) (fun h => ?_)
      | refine g_idx T hC rfl rfl rfl (Int.natCast_nonneg _) (map_at (by assumption)) rfl rfl ?_
      | refine g_outR ?_
      | refine g_outE ?_
      | refine g_retq T (.inl rfl) rfl ?_
      | refine g_retl T (.inl rfl) rfl ?_
    · exact (any_yes hx h).symm
    · rw [wrap64 (by omega)]
      refine g_round (i + 1) ⟨by omega, ?_⟩ id (by omega) ⟨rfl, ⟨rfl, rfl, rfl, trivial⟩, trivial, rfl, fun _ _ => rfl⟩
      rw [any_take hx, hn, h]; rfl
  · have hge : ¬ i < l.length := by simpa using h
    repeat' first
      | refine g_go T hC true 400 rfl rfl ?_
      | refine g_cond rfl (fun h => ?_) (fun h => ?_)
      | refine g_end T hC (by kernel_rfl) ?_
      | refine g_splitD (fun h => ?_) (fun h => ?_)
      | refine g_splitG rfl rfl rfl (fun h => ?_) (fun h => ?_)
      | refine g_splitP rfl rfl (fun h => ?_) (fun h => ?_)
      | refine g_outE ?_
      | refine g_retl T (.inl rfl) rfl ?_
    exact (any_end (by omega) hn).symm

def keywords : List Str := [(⟨#[116, 121, 112, 101]⟩ : ByteArray), (⟨#[118, 97, 114]⟩ : ByteArray), (⟨#[112, 114, 111, 99]⟩ : ByteArray), (⟨#[108, 111, 99, 97, 108]⟩ : ByteArray), (⟨#[109, 101, 97, 115, 117, 114, 101]⟩ : ByteArray), (⟨#[105, 110, 118, 97, 114, 105, 97, 110, 116]⟩ : ByteArray), (⟨#[112, 111, 116, 101, 110, 116, 105, 97, 108]⟩ : ByteArray), (⟨#[98, 111, 117, 110, 100]⟩ : ByteArray), (⟨#[105, 102]⟩ : ByteArray), (⟨#[101, 108, 115, 101]⟩ : ByteArray), (⟨#[119, 104, 105, 108, 101]⟩ : ByteArray), (⟨#[114, 101, 116, 117, 114, 110]⟩ : ByteArray), (⟨#[110, 101, 119]⟩ : ByteArray), (⟨#[110, 105, 108]⟩ : ByteArray), (⟨#[116, 114, 117, 101]⟩ : ByteArray), (⟨#[102, 97, 108, 115, 101]⟩ : ByteArray), (⟨#[97, 110, 100]⟩ : ByteArray), (⟨#[111, 114]⟩ : ByteArray), (⟨#[110, 111, 116]⟩ : ByteArray), (⟨#[109, 97, 120]⟩ : ByteArray), (⟨#[109, 105, 110]⟩ : ByteArray), (⟨#[108, 111, 103]⟩ : ByteArray), (⟨#[105, 110, 116]⟩ : ByteArray), (⟨#[98, 111, 111, 108]⟩ : ByteArray), (⟨#[116, 104, 105, 115]⟩ : ByteArray), (⟨#[115, 111, 114, 116]⟩ : ByteArray), (⟨#[111, 112]⟩ : ByteArray), (⟨#[114, 117, 108, 101]⟩ : ByteArray), (⟨#[115, 112, 101, 99]⟩ : ByteArray), (⟨#[100, 101, 115, 99]⟩ : ByteArray), (⟨#[115, 99, 114, 105, 112, 116]⟩ : ByteArray)]
def isKeyword (s : Str) : Bool := keywords.any fun x => decide (x = s)
theorem keywords_ok : FnOK Tryd.prog 36 [] [] (pS (strsP keywords)) [] := by
  refine fn_ok T Tryd.func36 (by kernel_rfl) rfl rfl rfl rfl fun C hC => ?_
  repeat' first
    | refine g_go T hC true 400 rfl rfl ?_
    | refine g_cond rfl (fun h => ?_) (fun h => ?_)
    | refine g_end T hC (by kernel_rfl) ?_
    | refine g_splitD (fun h => ?_) (fun h => ?_)
    | refine g_splitG rfl rfl rfl (fun h => ?_) (fun h => ?_)
    | refine g_splitP rfl rfl (fun h => ?_) (fun h => ?_)
    | refine g_lit T hC rfl rfl rfl rfl rfl rfl rfl rfl rfl ?_
  exact g_fin ⟨.inl rfl, id, _, rfl, .refl _, trivial, rfl, rfl⟩
theorem isKeyword_ok (s : Str) : FnOK Tryd.prog 15 [Sr s] [] (.bq (isKeyword s)) [] := by
  refine fn_ok T Tryd.func15 (by kernel_rfl) rfl rfl rfl rfl fun C hC => ?_
  repeat' first
    | refine g_go T hC true 400 rfl rfl ?_
    | refine g_cond rfl (fun h => ?_) (fun h => ?_)
    | refine g_end T hC (by kernel_rfl) ?_
    | refine g_splitD (fun h => ?_) (fun h => ?_)
    | refine g_splitG rfl rfl rfl (fun h => ?_) (fun h => ?_)
    | refine g_splitP rfl rfl (fun h => ?_) (fun h => ?_)
    | refine g_call hC (keywords_ok) rfl rfl (LeSs.refl _) rfl rfl rfl ?_
    | refine g_call hC (has_ok _ _) rfl rfl (LeSs.refl _) rfl rfl rfl ?_
    | refine g_retq T (.inl rfl) rfl ?_
    | refine g_retl T (.inl rfl) rfl ?_
  rfl

/-- The bytes of a string. -/
def bytes (s : Str) : List Int := s.data.toList.map fun b => (b.toNat : Int)
theorem bytes_at {s : Str} {i : Nat} {c : Int} (h : (bytes s)[i]? = some c) : ∃ b : UInt8, s[((i : Nat) : Int).toNat]? = some b ∧ c = (b.toNat : Int) := by
  simp only [bytes, List.getElem?_map, Option.map_eq_some_iff] at h
  obtain ⟨b, hb, rfl⟩ := h
  refine ⟨b, ?_, rfl⟩
  have hlt : i < s.data.size := by
    have := (List.getElem?_eq_some_iff.1 hb).1
    simpa using this
  have : s.data[i] = b := by rw [Array.getElem?_toList, Array.getElem?_eq_getElem hlt] at hb; exact Option.some.inj hb
  have hlt' : i < s.size := hlt
  simp only [Int.toNat_natCast]
  rw [getElem?_pos s i hlt']
  exact congrArg some this
theorem bytes_len (s : Str) : (bytes s).length = s.size := by simp only [bytes, List.length_map, Array.length_toList]; rfl
/-- P1.1 -/
def isName (s : Str) : Bool := !decide (s.size = 0) && !decide (40 < s.size) && (match bytes s with | [] => false | c :: _ => isLetter c) && (bytes s).all isWord && !isKeyword s
theorem isName_ok (s : Str) : FnOK Tryd.prog 13 [Sr s] [] (.bq (isName s)) [] := by
  refine fn_ok T Tryd.func13 (by kernel_rfl) rfl rfl rfl rfl fun C hC => ?_
  have hbl := bytes_len s
  repeat' first
    | refine g_go T hC true 400 rfl rfl ?_
    | refine g_cond rfl (fun h => ?_) (fun h => ?_)
    | refine g_end T hC (by kernel_rfl) ?_
    | refine g_splitD (fun h => ?_) (fun h => ?_)
    | refine g_splitG rfl rfl rfl (fun h => ?_) (fun h => ?_)
    | refine g_splitP rfl rfl (fun h => ?_) (fun h => ?_)
  · repeat' first
      | refine g_go T hC true 400 rfl rfl ?_
      | refine g_cond rfl (fun h => ?_) (fun h => ?_)
      | refine g_end T hC (by kernel_rfl) ?_
      | refine g_splitD (fun h => ?_) (fun h => ?_)
      | refine g_splitG rfl rfl rfl (fun h => ?_) (fun h => ?_)
      | refine g_splitP rfl rfl (fun h => ?_) (fun h => ?_)
      | refine g_retl T (.inl rfl) rfl ?_
    simp_all [isName]
  · repeat' first
      | refine g_go T hC true 400 rfl rfl ?_
      | refine g_cond rfl (fun h => ?_) (fun h => ?_)
      | refine g_end T hC (by kernel_rfl) ?_
      | refine g_splitD (fun h => ?_) (fun h => ?_)
      | refine g_splitG rfl rfl rfl (fun h => ?_) (fun h => ?_)
      | refine g_splitP rfl rfl (fun h => ?_) (fun h => ?_)
      | refine g_retl T (.inl rfl) rfl ?_
    have h1 : 40 < s.size := by have := of_decide_eq_true h; omega
    simp [isName, h1]
  · rename_i h0
    have hs : 0 < (bytes s).length := by have := of_decide_eq_false h0; omega
    obtain ⟨c, hc⟩ := exists_at hs
    obtain ⟨b, hb, rfl⟩ := bytes_at hc
    refine g_idxS T hC rfl rfl rfl (Int.le_refl _) hb rfl rfl ?_
    repeat' first
      | refine g_go T hC true 400 rfl rfl ?_
      | refine g_cond rfl (fun h => ?_) (fun h => ?_)
      | refine g_end T hC (by kernel_rfl) ?_
      | refine g_splitD (fun h => ?_) (fun h => ?_)
      | refine g_splitG rfl rfl rfl (fun h => ?_) (fun h => ?_)
      | refine g_splitP rfl rfl (fun h => ?_) (fun h => ?_)
      | refine g_call hC (letter_ok _) rfl rfl (LeSs.refl _) rfl rfl rfl ?_
      | refine g_retl T (.inl rfl) rfl ?_
    · have hb0 : bytes s ≠ [] := fun e => by rw [e] at hs; simp at hs
      cases hbs : bytes s with
      | nil => exact absurd hbs hb0
      | cons c cs =>
        rw [hbs] at hc; simp only [List.getElem?_cons_zero, Option.some.injEq] at hc
        have hl : isLetter c = false := by rw [hc]; simpa using h
        simp [isName, hbs, hl]
    · have hnm : isName s = ((bytes s).all isWord && !isKeyword s) := by
        cases hbs : bytes s with
        | nil => rw [hbs] at hs; simp at hs
        | cons c cs =>
          have hc' := hc
          rw [hbs] at hc'; simp only [List.getElem?_cons_zero, Option.some.injEq] at hc'
          have hl : isLetter c = true := by rw [hc']; simpa using h
          have e1 : ¬ s.size = 0 := by rw [hbl] at hs; omega
          have e2 : ¬ 40 < s.size := by rename_i h2; have := of_decide_eq_false h2; omega
          simp only [isName, hbs, hl, e1, e2, decide_false, Bool.not_false, Bool.true_and]
      have hlen : s.size ≤ 40 := by rename_i h2; have := of_decide_eq_false h2; omega
      refine g_loop (fun i : Nat => i ≤ s.size ∧ ((bytes s).take i).all isWord = true) (fun i => ([(0, Sr s), (3, I i)], [])) (fun i => s.size - i) hC
        0 ⟨Nat.zero_le _, by simp⟩ id ⟨rfl, ⟨rfl, rfl, trivial⟩, trivial, rfl, fun _ _ => rfl⟩ ?_
      rintro i ⟨hi, hn⟩
      refine g_run' T hC true 200 rfl ?_
      refine g_cond rfl (fun h => ?_) (fun h => ?_)
      · have hlt : i < (bytes s).length := by rw [hbl]; have := of_decide_eq_true h; omega
        obtain ⟨c, hx⟩ := exists_at hlt
        obtain ⟨b, hb, rfl⟩ := bytes_at hx
        repeat' first
          | refine g_go T hC true 400 rfl rfl ?_
          | refine g_cond rfl (fun h => ?_) (fun h => ?_)
          | refine g_end T hC (by kernel_rfl) ?_
          | refine g_splitD (fun h => ?_) (fun h => ?_)
          | refine g_splitG rfl rfl rfl (fun h => ?_) (fun h => ?_)
          | refine g_splitP rfl rfl (fun h => ?_) (fun h => ?_)
          | refine g_idxS T hC rfl rfl rfl (Int.natCast_nonneg _) (by assumption) rfl rfl ?_
          | refine g_call hC (word_ok _) rfl rfl (LeSs.refl _) rfl rfl rfl ?_
          | refine g_outR ?_
          | refine g_retl T (.inl rfl) rfl ?_
        · have hw : isWord (b.toNat : Int) = false := by simpa using h
          rw [hnm, all_no hx hw]; rfl
        · have hw : isWord (b.toNat : Int) = true := by simpa using h
          rw [wrap64 (by omega)]
          refine g_round (i + 1) ⟨by omega, ?_⟩ id (by omega) ⟨rfl, ⟨rfl, rfl, trivial⟩, trivial, rfl, fun _ _ => rfl⟩
          rw [all_take hx, hn, hw]; rfl
      · have hge : s.size ≤ i := by have := of_decide_eq_false h; omega
        repeat' first
          | refine g_go T hC true 400 rfl rfl ?_
          | refine g_cond rfl (fun h => ?_) (fun h => ?_)
          | refine g_end T hC (by kernel_rfl) ?_
          | refine g_splitD (fun h => ?_) (fun h => ?_)
          | refine g_splitG rfl rfl rfl (fun h => ?_) (fun h => ?_)
          | refine g_splitP rfl rfl (fun h => ?_) (fun h => ?_)
          | refine g_outE ?_
          | refine g_call hC (isKeyword_ok _) rfl rfl (LeSs.refl _) rfl rfl rfl ?_
          | refine g_retq T (.inl rfl) rfl ?_
        rw [hnm, all_end (by rw [hbl]; exact hge) hn]; rfl
end Hw.L
namespace Hw.L
open Go Go.Proofs Hw.M

theorem mul_one' (i : Nat) : (i : Int) + 1 = ((i + 1 : Nat) : Int) := by omega
theorem wrapS {i : Nat} (h : i < 9223372036854775807) : IntKind.i64.wrap ((i : Int) + 1) = ((i + 1 : Nat) : Int) := by rw [mul_one']; exact wrap64 (by omega)
end Hw.L
namespace Hw.L
open Go Go.Proofs Hw.M

/-! lex -/
def classS (c : Int) : Int := if c = 32 then 1 else if c = 9 then 1 else if c = 13 then 1 else if c = 10 then 1 else
  if decide (97 ≤ c) && decide (c ≤ 122) then 2 else if decide (65 ≤ c) && decide (c ≤ 90) then 2 else if decide (48 ≤ c) && decide (c ≤ 57) then 3 else if c = 95 then 4 else 0
set_option maxHeartbeats 1000000 in
theorem class_ok (c : Int) : FnOK Tryd.prog 25 [uc c] [] (I (classS c)) [] := by
  refine fn_ok T Tryd.func25 (by kernel_rfl) rfl rfl rfl rfl fun C hC => ?_
  repeat' first
    | refine g_go T hC true 400 rfl rfl ?_
    | refine g_cond rfl (fun h => ?_) (fun h => ?_)
    | refine g_end T hC (by kernel_rfl) ?_
    | refine g_splitD (fun h => ?_) (fun h => ?_)
    | refine g_splitG rfl rfl rfl (fun h => ?_) (fun h => ?_)
    | refine g_splitP rfl rfl (fun h => ?_) (fun h => ?_)
    | refine g_reti T (.inl rfl) rfl ?_
  all_goals (simp_all [classS] <;> omega)
theorem class_cases (c : Int) : (classS c = 2 ∧ isLetter c = true ∧ isWord c = true) ∨ ((classS c = 3 ∨ classS c = 4) ∧ isLetter c = false ∧ isWord c = true) ∨ ((classS c = 0 ∨ classS c = 1) ∧ isLetter c = false ∧ isWord c = false) := by
  by_cases h1 : c = 32 ∨ c = 9 ∨ c = 13 ∨ c = 10
  · refine .inr (.inr ?_)
    rcases h1 with rfl | rfl | rfl | rfl <;> exact ⟨.inr rfl, rfl, rfl⟩
  · have e1 : c ≠ 32 := by omega
    have e2 : c ≠ 9 := by omega
    have e3 : c ≠ 13 := by omega
    have e4 : c ≠ 10 := by omega
    have ec : classS c = if decide (97 ≤ c) && decide (c ≤ 122) then 2 else if decide (65 ≤ c) && decide (c ≤ 90) then 2 else if decide (48 ≤ c) && decide (c ≤ 57) then 3 else if c = 95 then 4 else 0 := by
      simp only [classS, e1, e2, e3, e4, if_false]
    rw [ec]
    unfold isWord isLetter isDigit
    cases (decide (97 ≤ c) && decide (c ≤ 122)) with
    | true => exact .inl ⟨rfl, rfl, rfl⟩
    | false => cases (decide (65 ≤ c) && decide (c ≤ 90)) with
      | true => exact .inl ⟨rfl, rfl, rfl⟩
      | false => cases (decide (48 ≤ c) && decide (c ≤ 57)) with
        | true => exact .inr (.inl ⟨.inl rfl, rfl, rfl⟩)
        | false =>
          by_cases h5 : c = 95
          · rw [if_pos h5]; exact .inr (.inl ⟨.inr rfl, rfl, by simp [h5]⟩)
          · rw [if_neg h5]; exact .inr (.inr ⟨.inl rfl, rfl, by simp [h5]⟩)
theorem class_letter (c : Int) : decide (classS c = 2) = isLetter c := by
  rcases class_cases c with ⟨h, h1, _⟩ | ⟨h, h1, _⟩ | ⟨h, h1, _⟩
  · rw [h, h1]; rfl
  · rw [h1]; exact decide_eq_false (by omega)
  · rw [h1]; exact decide_eq_false (by omega)
theorem class_word (c : Int) : decide (classS c < 2) = !isWord c := by
  rcases class_cases c with ⟨h, _, h1⟩ | ⟨h, _, h1⟩ | ⟨h, _, h1⟩
  · rw [h, h1]; rfl
  · rw [h1]; exact decide_eq_false (by omega)
  · rw [h1]; exact decide_eq_true (by omega)

theorem cmpNaN_ok (s : Str) : FnOK Tryd.prog 59 [Sr s] [] (Bo false) [] := by
  refine fn_ok T Tryd.func59 (by kernel_rfl) rfl rfl rfl rfl fun C hC => ?_
  repeat' first
    | refine g_go T hC true 400 rfl rfl ?_
    | refine g_cond rfl (fun h => ?_) (fun h => ?_)
    | refine g_end T hC (by kernel_rfl) ?_
    | refine g_splitD (fun h => ?_) (fun h => ?_)
    | refine g_splitG rfl rfl rfl (fun h => ?_) (fun h => ?_)
    | refine g_splitP rfl rfl (fun h => ?_) (fun h => ?_)
  exact g_fin ⟨.inl rfl, id, _, rfl, LeS.bq (by simp), trivial, rfl, rfl⟩
theorem slNaN_ok (s : Str) : FnOK Tryd.prog 51 [Sr s] [] (Bo false) [] := by
  refine fn_ok T Tryd.func51 (by kernel_rfl) rfl rfl rfl rfl fun C hC => ?_
  repeat' first
    | refine g_go T hC true 400 rfl rfl ?_
    | refine g_cond rfl (fun h => ?_) (fun h => ?_)
    | refine g_end T hC (by kernel_rfl) ?_
    | refine g_splitD (fun h => ?_) (fun h => ?_)
    | refine g_splitG rfl rfl rfl (fun h => ?_) (fun h => ?_)
    | refine g_splitP rfl rfl (fun h => ?_) (fun h => ?_)
  exact g_fin ⟨.inl rfl, id, _, rfl, LeS.bq (by simp), trivial, rfl, rfl⟩
def lessS (a b : Str) : Bool := Op.bytesLess a.toList b.toList
theorem less_ok (a b : Str) : FnOK Tryd.prog 50 [Sr a, Sr b] [] (.bq (lessS a b)) [] := by
  refine fn_ok T Tryd.func50 (by kernel_rfl) rfl rfl rfl rfl fun C hC => ?_
  repeat' first
    | refine g_go T hC true 400 rfl rfl ?_
    | refine g_cond rfl (fun h => ?_) (fun h => ?_)
    | refine g_end T hC (by kernel_rfl) ?_
    | refine g_splitD (fun h => ?_) (fun h => ?_)
    | refine g_splitG rfl rfl rfl (fun h => ?_) (fun h => ?_)
    | refine g_splitP rfl rfl (fun h => ?_) (fun h => ?_)
    | refine g_call hC (cmpNaN_ok _) rfl rfl (LeSs.refl _) rfl rfl rfl ?_
    | refine g_retq T (.inl rfl) rfl ?_
    | refine g_retl T (.inl rfl) rfl ?_
  all_goals first | rfl | simp_all [lessS]

/-- Sorted, each word less than all that come after it. -/
def Sorted (l : List Str) : Prop := ∀ (h k : Nat) (x y : Str), l[h]? = some x → l[k]? = some y → lessS x y = decide (h < k)
theorem bsearch_ok (l : List Str) (s : Str) (hs : Sorted l) (hl : l.length ≤ 1000) : FnOK Tryd.prog 33 [pS (strsP l), Sr s] [] (.tup [.un, .bq (l.any fun x => decide (x = s))]) [] := by
  refine fn_ok T Tryd.func33 (by kernel_rfl) rfl rfl rfl rfl fun C hC => ?_
  repeat' first
    | refine g_go T hC true 400 rfl rfl ?_
    | refine g_cond rfl (fun h => ?_) (fun h => ?_)
    | refine g_end T hC (by kernel_rfl) ?_
    | refine g_splitD (fun h => ?_) (fun h => ?_)
    | refine g_splitG rfl rfl rfl (fun h => ?_) (fun h => ?_)
    | refine g_splitP rfl rfl (fun h => ?_) (fun h => ?_)
  rw [List.length_map]
  refine g_loop (fun p : Nat × Nat => p.1 ≤ p.2 ∧ p.2 ≤ l.length ∧ ∀ k, l[k]? = some s → p.1 ≤ k ∧ k ≤ p.2) (fun p => ([(0, pS (strsP l)), (1, Sr s), (6, I l.length), (7, I p.1), (8, I p.2)], [])) (fun p => p.2 - p.1) hC
    (0, l.length) ⟨Nat.zero_le _, Nat.le_refl _, fun k hk => ⟨Nat.zero_le _, Nat.le_of_lt (List.getElem?_eq_some_iff.1 hk).1⟩⟩ id ⟨rfl, ⟨rfl, rfl, rfl, rfl, rfl, trivial⟩, trivial, rfl, fun _ _ => rfl⟩ ?_
  rintro ⟨i, j⟩ ⟨hij, hj, hk⟩
  simp only at hij hj hk
  refine g_run' T hC true 200 rfl ?_
  refine g_cond rfl (fun h => ?_) (fun h => ?_)
  · have hlt : i < j := by simpa using h
    repeat' first
      | refine g_go T hC true 400 rfl rfl ?_
      | refine g_cond rfl (fun h => ?_) (fun h => ?_)
      | refine g_end T hC (by kernel_rfl) ?_
      | refine g_splitD (fun h => ?_) (fun h => ?_)
      | refine g_splitG rfl rfl rfl (fun h => ?_) (fun h => ?_)
      | refine g_splitP rfl rfl (fun h => ?_) (fun h => ?_)
      | refine g_shr hC rfl rfl (by decide) (by decide) rfl rfl ?_
    have hm : IntKind.i64.wrap (IntKind.u64.wrap (IntKind.i64.wrap ((i : Int) + (j : Int))) / 2 ^ (1 : Int).toNat) = (((i + j) / 2 : Nat) : Int) := by
      have e1 : IntKind.i64.wrap ((i : Int) + (j : Int)) = (i : Int) + (j : Int) := wrap64 (by omega)
      rw [e1]
      have : IntKind.u64.wrap ((i : Int) + (j : Int)) = ((i + j : Nat) : Int) := by
        unfold IntKind.wrap
        simp [IntKind.bits, IntKind.signed]
        omega
      rw [this]
      rw [show ((i + j : Nat) : Int) / 2 ^ (1 : Int).toNat = (((i + j) / 2 : Nat) : Int) by
        rw [show (2 : Int) ^ (1 : Int).toNat = 2 by decide]; omega]
      exact wrap64 (by omega)
    simp only
    rw [hm]
    obtain ⟨x, hx⟩ := exists_at (l := l) (i := (i + j) / 2) (by omega)
    generalize hme : (i + j) / 2 = m at *
    repeat' first
      | refine g_go T hC true 400 rfl rfl ?_
      | refine g_cond rfl (fun h => ?_) (fun h => ?_)
      | refine g_end T hC (by kernel_rfl) ?_
      | refine g_splitD (fun h => ?_) (fun h => ?_)
      | refine g_splitG rfl rfl rfl (fun h => ?_) (fun h => ?_)
      | refine g_splitP rfl rfl (fun h => ?_) (fun h => ?_)
      | refine g_idx T hC rfl rfl rfl (Int.natCast_nonneg _) (map_at (by assumption)) rfl rfl ?_
      | refine g_call hC (less_ok _ _) rfl rfl (LeSs.refl _) rfl rfl rfl ?_
    · rw [wrapS (by omega)]
      refine g_round (m + 1, j) ⟨by simp only; omega, hj, fun k hk' => ?_⟩ id (by simp only; omega) ⟨rfl, ⟨rfl, rfl, rfl, rfl, rfl, trivial⟩, trivial, rfl, fun _ _ => rfl⟩
      have := hs m k x s hx hk'
      rw [h] at this
      have := of_decide_eq_true this.symm
      have := hk k hk'
      simp only; omega
    · refine g_round (i, m) ⟨by simp only; omega, by simp only; omega, fun k hk' => ?_⟩ id (by simp only; omega) ⟨rfl, ⟨rfl, rfl, rfl, rfl, rfl, trivial⟩, trivial, rfl, fun _ _ => rfl⟩
      have := hs m k x s hx hk'
      rw [h] at this
      have := of_decide_eq_false this.symm
      have := hk k hk'
      simp only; omega
  · have hge : i = j := by have := of_decide_eq_false h; simp only at this; omega
    subst hge
    clear h
    have found : ∀ (b : Bool), (b = true → ∃ x, l[i]? = some x ∧ x = s) → (b = false → ∀ x, l[i]? = some x → x ≠ s) → b = l.any fun x => decide (x = s) := fun b h1 h2 => by
      cases b with
      | true => obtain ⟨x, hx, rfl⟩ := h1 rfl; exact (any_yes hx (decide_eq_true rfl)).symm
      | false =>
        symm
        rw [List.any_eq_false]
        intro x hx
        obtain ⟨k, hk1⟩ := List.mem_iff_getElem?.1 hx
        simp only [decide_eq_true_eq]
        rintro rfl
        have := hk k hk1
        obtain rfl : k = i := by omega
        exact h2 rfl x hk1 rfl
    repeat' first
      | refine g_go T hC true 400 rfl rfl ?_
      | refine g_cond rfl (fun h => ?_) (fun h => ?_)
      | refine g_end T hC (by kernel_rfl) ?_
      | refine g_splitD (fun h => ?_) (fun h => ?_)
      | refine g_splitG rfl rfl rfl (fun h => ?_) (fun h => ?_)
      | refine g_splitP rfl rfl (fun h => ?_) (fun h => ?_)
      | refine g_outE ?_
      | refine g_call hC (slNaN_ok _) rfl rfl (LeSs.refl _) rfl rfl rfl ?_
      | refine g_idx T hC rfl rfl rfl (Int.natCast_nonneg _) (map_at (by assumption)) rfl rfl ?_
      | (obtain ⟨x, hx⟩ := exists_at (l := l) (i := i) (by have := of_decide_eq_true h; simp only at this; omega); refine g_idx T hC rfl rfl rfl (Int.natCast_nonneg _) (map_at hx) rfl rfl ?_)
    · exact g_fin ⟨.inl rfl, id, _, rfl, LeS.tup (.cons (LeS.un _) (.cons (LeS.qb (found true (fun _ => ⟨x, hx, of_decide_eq_true h⟩) (fun e => by cases e))) .nil)), trivial, rfl, rfl⟩
    · exact g_fin ⟨.inl rfl, id, _, rfl, LeS.tup (.cons (LeS.un _) (.cons (LeS.qb (found false (fun e => by cases e) (fun _ y hy => by rw [hx] at hy; simp only [Option.some.injEq] at hy; subst hy; exact of_decide_eq_false h))) .nil)), trivial, rfl, rfl⟩
    · have h' := of_decide_eq_false h
      simp only at h'
      exact g_fin ⟨.inl rfl, id, _, rfl, LeS.tup (.cons (LeS.un _) (.cons (LeS.qb (found false (fun e => by cases e) (fun _ y hy => by have := (List.getElem?_eq_some_iff.1 hy).1; omega))) .nil)), trivial, rfl, rfl⟩

def sortedKw : List Str := [(⟨#[97, 110, 100]⟩ : ByteArray), (⟨#[98, 111, 111, 108]⟩ : ByteArray), (⟨#[98, 111, 117, 110, 100]⟩ : ByteArray), (⟨#[100, 101, 115, 99]⟩ : ByteArray), (⟨#[101, 108, 115, 101]⟩ : ByteArray), (⟨#[102, 97, 108, 115, 101]⟩ : ByteArray), (⟨#[105, 102]⟩ : ByteArray), (⟨#[105, 110, 116]⟩ : ByteArray), (⟨#[105, 110, 118, 97, 114, 105, 97, 110, 116]⟩ : ByteArray), (⟨#[108, 111, 99, 97, 108]⟩ : ByteArray), (⟨#[108, 111, 103]⟩ : ByteArray), (⟨#[109, 97, 120]⟩ : ByteArray), (⟨#[109, 101, 97, 115, 117, 114, 101]⟩ : ByteArray), (⟨#[109, 105, 110]⟩ : ByteArray), (⟨#[110, 101, 119]⟩ : ByteArray), (⟨#[110, 105, 108]⟩ : ByteArray), (⟨#[110, 111, 116]⟩ : ByteArray), (⟨#[111, 112]⟩ : ByteArray), (⟨#[111, 114]⟩ : ByteArray), (⟨#[112, 111, 116, 101, 110, 116, 105, 97, 108]⟩ : ByteArray), (⟨#[112, 114, 111, 99]⟩ : ByteArray), (⟨#[114, 101, 116, 117, 114, 110]⟩ : ByteArray), (⟨#[114, 117, 108, 101]⟩ : ByteArray), (⟨#[115, 99, 114, 105, 112, 116]⟩ : ByteArray), (⟨#[115, 111, 114, 116]⟩ : ByteArray), (⟨#[115, 112, 101, 99]⟩ : ByteArray), (⟨#[116, 104, 105, 115]⟩ : ByteArray), (⟨#[116, 114, 117, 101]⟩ : ByteArray), (⟨#[116, 121, 112, 101]⟩ : ByteArray), (⟨#[118, 97, 114]⟩ : ByteArray), (⟨#[119, 104, 105, 108, 101]⟩ : ByteArray)]
def sortedB (l : List Str) : Bool := (List.range l.length).all fun h => (List.range l.length).all fun k => match l[h]?, l[k]? with
  | some x, some y => lessS x y == decide (h < k)
  | _, _ => true
theorem sorted_of {l : List Str} (h : sortedB l = true) : Sorted l := fun a b x y ha hb => by
  simp only [sortedB, List.all_eq_true, List.mem_range] at h
  have := h a (List.getElem?_eq_some_iff.1 ha).1 b (List.getElem?_eq_some_iff.1 hb).1
  rw [ha, hb] at this
  simpa using this
theorem kwSorted : sortedB sortedKw = true := by kernel_rfl
theorem kwSame (s : Str) : (sortedKw.any fun x => decide (x = s)) = isKeyword s := by
  have h1 : (sortedKw.all fun x => keywords.any fun y => decide (y = x)) = true := by kernel_rfl
  have h2 : (keywords.all fun x => sortedKw.any fun y => decide (y = x)) = true := by kernel_rfl
  rw [Bool.eq_iff_iff]
  simp only [isKeyword, List.any_eq_true, List.all_eq_true, decide_eq_true_eq] at h1 h2 ⊢
  constructor
  · rintro ⟨x, hx, rfl⟩; obtain ⟨y, hy, rfl⟩ := h1 x hx; exact ⟨y, hy, rfl⟩
  · rintro ⟨x, hx, rfl⟩; obtain ⟨y, hy, rfl⟩ := h2 x hx; exact ⟨y, hy, rfl⟩

/-! The keywords, out of one string. -/
def kwText : Str := (⟨#[97, 110, 100, 32, 98, 111, 111, 108, 32, 98, 111, 117, 110, 100, 32, 100, 101, 115, 99, 32, 101, 108, 115, 101, 32, 102, 97, 108, 115, 101, 32, 105, 102, 32, 105, 110, 116, 32, 105, 110, 118, 97, 114, 105, 97, 110, 116, 32, 108, 111, 99, 97, 108, 32, 108, 111, 103, 32, 109, 97, 120, 32, 109, 101, 97, 115, 117, 114, 101, 32, 109, 105, 110, 32, 110, 101, 119, 32, 110, 105, 108, 32, 110, 111, 116, 32, 111, 112, 32, 111, 114, 32, 112, 111, 116, 101, 110, 116, 105, 97, 108, 32, 112, 114, 111, 99, 32, 114, 101, 116, 117, 114, 110, 32, 114, 117, 108, 101, 32, 115, 99, 114, 105, 112, 116, 32, 115, 111, 114, 116, 32, 115, 112, 101, 99, 32, 116, 104, 105, 115, 32, 116, 114, 117, 101, 32, 116, 121, 112, 101, 32, 118, 97, 114, 32, 119, 104, 105, 108, 101]⟩ : ByteArray)
theorem kwFields : (Lib.fields kwText.data.toList).map (fun l => (⟨l.toArray⟩ : ByteArray)) = sortedKw := by kernel_rfl
theorem kwAscii : (kwText.data.toList.all fun b => decide (b.toNat < 128)) = true := by kernel_rfl
theorem fields_call (w : World) (hw : GOn w) : Calls Tryd.prog 52 #[.string kwText] w fun e w' => e = .returned (.slice (some ⟨w.heap.size, 0, none⟩) sortedKw.length sortedKw.length) ∧ w' = w.alloc (.cells (sortedKw.map Value.string).toArray 9) := by
  have h := Any.strings_Fields_core lays157 (by kernel_rfl) kwText w (of_decide_eq_true (by kernel_rfl)) (fun j b hb => by
      have := List.all_eq_true.1 kwAscii b (List.mem_of_getElem? hb)
      exact of_decide_eq_true this) (fun c hc => hw _ _ _ (by
      show G0 0 c = _
      simp [G0, hc]))
  refine h.mono fun e w' ⟨he, hw'⟩ => ?_
  have hl : (Lib.fields kwText.data.toList).length = sortedKw.length := by rw [← kwFields, List.length_map]
  have hc : ((Lib.fields kwText.data.toList).map fun l => Value.string ⟨l.toArray⟩) = sortedKw.map Value.string := by rw [← kwFields, List.map_map]; rfl
  rw [hl] at he
  rw [hc] at hw'
  exact ⟨he, hw'⟩
theorem fields_ok' : FnOK Tryd.prog 52 [Sr kwText] [] (pS (strsP sortedKw)) [] :=
  fn_strs ⟨_, Tryd.func52, by kernel_rfl, by kernel_rfl⟩ (by decide) fields_call
theorem kw_ok : FnOK Tryd.prog 34 [] [] (pS (strsP sortedKw)) [] := by
  refine fn_ok T Tryd.func34 (by kernel_rfl) rfl rfl rfl rfl fun C hC => ?_
  repeat' first
    | refine g_go T hC true 400 rfl rfl ?_
    | refine g_cond rfl (fun h => ?_) (fun h => ?_)
    | refine g_end T hC (by kernel_rfl) ?_
    | refine g_splitD (fun h => ?_) (fun h => ?_)
    | refine g_splitG rfl rfl rfl (fun h => ?_) (fun h => ?_)
    | refine g_splitP rfl rfl (fun h => ?_) (fun h => ?_)
    | refine g_call hC (fields_ok') rfl rfl (LeSs.refl _) rfl rfl rfl ?_
  exact g_fin ⟨.inl rfl, id, _, rfl, .refl _, trivial, rfl, rfl⟩
theorem lexKeyword_ok (s : Str) : FnOK Tryd.prog 14 [Sr s] [] (.bq (isKeyword s)) [] := by
  refine fn_ok T Tryd.func14 (by kernel_rfl) rfl rfl rfl rfl fun C hC => ?_
  repeat' first
    | refine g_go T hC true 400 rfl rfl ?_
    | refine g_cond rfl (fun h => ?_) (fun h => ?_)
    | refine g_end T hC (by kernel_rfl) ?_
    | refine g_splitD (fun h => ?_) (fun h => ?_)
    | refine g_splitG rfl rfl rfl (fun h => ?_) (fun h => ?_)
    | refine g_splitP rfl rfl (fun h => ?_) (fun h => ?_)
    | refine g_call hC (kw_ok) rfl rfl (LeSs.refl _) rfl rfl rfl ?_
    | refine g_call hC (bsearch_ok sortedKw s (sorted_of kwSorted) (by decide)) rfl rfl (LeSs.refl _) rfl rfl rfl ?_
    | refine g_retq T (.inl rfl) rfl ?_
    | refine g_retl T (.inl rfl) rfl ?_
  exact kwSame s
theorem lexName_ok (s : Str) : FnOK Tryd.prog 12 [Sr s] [] (.bq (isName s)) [] := by
  refine fn_ok T Tryd.func12 (by kernel_rfl) rfl rfl rfl rfl fun C hC => ?_
  have hbl := bytes_len s
  have e0 : decide (s = (⟨#[]⟩ : ByteArray)) = decide (s.size = 0) := by
    obtain ⟨⟨l⟩⟩ := s
    cases l with
    | nil => rfl
    | cons a l => exact (decide_eq_false (by intro h; cases h)).trans (decide_eq_false (by simp [ByteArray.size])).symm
  repeat' first
    | refine g_go T hC true 400 rfl rfl ?_
    | refine g_cond rfl (fun h => ?_) (fun h => ?_)
    | refine g_end T hC (by kernel_rfl) ?_
    | refine g_splitD (fun h => ?_) (fun h => ?_)
    | refine g_splitG rfl rfl rfl (fun h => ?_) (fun h => ?_)
    | refine g_splitP rfl rfl (fun h => ?_) (fun h => ?_)
  · repeat' first
      | refine g_go T hC true 400 rfl rfl ?_
      | refine g_cond rfl (fun h => ?_) (fun h => ?_)
      | refine g_end T hC (by kernel_rfl) ?_
      | refine g_splitD (fun h => ?_) (fun h => ?_)
      | refine g_splitG rfl rfl rfl (fun h => ?_) (fun h => ?_)
      | refine g_splitP rfl rfl (fun h => ?_) (fun h => ?_)
      | refine g_retl T (.inl rfl) rfl ?_
    rw [e0] at h
    simp only [isName, h, Bool.not_true, Bool.false_and]
  · repeat' first
      | refine g_go T hC true 400 rfl rfl ?_
      | refine g_cond rfl (fun h => ?_) (fun h => ?_)
      | refine g_end T hC (by kernel_rfl) ?_
      | refine g_splitD (fun h => ?_) (fun h => ?_)
      | refine g_splitG rfl rfl rfl (fun h => ?_) (fun h => ?_)
      | refine g_splitP rfl rfl (fun h => ?_) (fun h => ?_)
      | refine g_retl T (.inl rfl) rfl ?_
    have h1 : 40 < s.size := by have := of_decide_eq_true h; omega
    simp [isName, h1]
  · rename_i h0
    rw [e0] at h0
    have hs : 0 < (bytes s).length := by have := of_decide_eq_false h0; omega
    obtain ⟨c, hc⟩ := exists_at hs
    obtain ⟨b, hb, rfl⟩ := bytes_at hc
    have hlen : s.size ≤ 40 := by have := of_decide_eq_false h; omega
    have hnm : isName s = (isLetter (b.toNat : Int) && ((bytes s).all isWord && !isKeyword s)) := by
      cases hbs : bytes s with
      | nil => rw [hbs] at hs; simp at hs
      | cons c cs =>
        have hc' := hc
        rw [hbs] at hc'; simp only [List.getElem?_cons_zero, Option.some.injEq] at hc'
        have e1 : ¬ s.size = 0 := by rw [hbl] at hs; omega
        have e2 : ¬ 40 < s.size := by omega
        simp only [isName, hbs, hc', e1, e2, decide_false, Bool.not_false, Bool.true_and, Bool.and_assoc]
    clear h h0
    refine g_idxS T hC rfl rfl rfl (Int.le_refl _) hb rfl rfl ?_
    repeat' first
      | refine g_go T hC true 400 rfl rfl ?_
      | refine g_cond rfl (fun h => ?_) (fun h => ?_)
      | refine g_end T hC (by kernel_rfl) ?_
      | refine g_splitD (fun h => ?_) (fun h => ?_)
      | refine g_splitG rfl rfl rfl (fun h => ?_) (fun h => ?_)
      | refine g_splitP rfl rfl (fun h => ?_) (fun h => ?_)
      | refine g_call hC (class_ok _) rfl rfl (LeSs.refl _) rfl rfl rfl ?_
      | refine g_call hC (lexKeyword_ok _) rfl rfl (LeSs.refl _) rfl rfl rfl ?_
      | refine g_retl T (.inl rfl) rfl ?_
    · rw [class_letter] at h
      have hl : isLetter (b.toNat : Int) = false := by simpa using h
      rw [hnm, hl]; rfl
    · rw [hnm, h]; simp
    · rename_i h1
      rw [class_letter] at h1
      have hl : isLetter (b.toNat : Int) = true := by simpa using h1
      have hnm2 : isName s = (bytes s).all isWord := by rw [hnm, hl, h]; simp
      refine g_loop (fun i : Nat => i ≤ s.size ∧ ((bytes s).take i).all isWord = true) (fun i => ([(0, Sr s), (22, I s.size), (23, I i)], [])) (fun i => s.size - i) hC
        0 ⟨Nat.zero_le _, by simp⟩ id ⟨rfl, ⟨rfl, rfl, rfl, trivial⟩, trivial, rfl, fun _ _ => rfl⟩ ?_
      rintro i ⟨hi, hn⟩
      refine g_run' T hC true 200 rfl ?_
      refine g_cond rfl (fun h => ?_) (fun h => ?_)
      · have hlt : i < (bytes s).length := by rw [hbl]; have := of_decide_eq_true h; omega
        obtain ⟨c, hx⟩ := exists_at hlt
        obtain ⟨b, hb, rfl⟩ := bytes_at hx
        repeat' first
          | refine g_go T hC true 400 rfl rfl ?_
          | refine g_cond rfl (fun h => ?_) (fun h => ?_)
          | refine g_end T hC (by kernel_rfl) ?_
          | refine g_splitD (fun h => ?_) (fun h => ?_)
          | refine g_splitG rfl rfl rfl (fun h => ?_) (fun h => ?_)
          | refine g_splitP rfl rfl (fun h => ?_) (fun h => ?_)
          | refine g_idxS T hC rfl rfl rfl (Int.natCast_nonneg _) (by assumption) rfl rfl ?_
          | refine g_call hC (class_ok _) rfl rfl (LeSs.refl _) rfl rfl rfl ?_
          | refine g_outR ?_
          | refine g_retl T (.inl rfl) rfl ?_
        · rw [class_word] at h
          have hw : isWord (b.toNat : Int) = false := by simpa using h
          rw [hnm2, all_no hx hw]
        · rw [class_word] at h
          have hw : isWord (b.toNat : Int) = true := by simpa using h
          rw [wrapS (by omega)]
          refine g_round (i + 1) ⟨by omega, ?_⟩ id (by omega) ⟨rfl, ⟨rfl, rfl, rfl, trivial⟩, trivial, rfl, fun _ _ => rfl⟩
          rw [all_take hx, hn, hw]; rfl
      · have hge : s.size ≤ i := by have := of_decide_eq_false h; omega
        repeat' first
          | refine g_go T hC true 400 rfl rfl ?_
          | refine g_cond rfl (fun h => ?_) (fun h => ?_)
          | refine g_end T hC (by kernel_rfl) ?_
          | refine g_splitD (fun h => ?_) (fun h => ?_)
          | refine g_splitG rfl rfl rfl (fun h => ?_) (fun h => ?_)
          | refine g_splitP rfl rfl (fun h => ?_) (fun h => ?_)
          | refine g_outE ?_
          | refine g_retl T (.inl rfl) rfl ?_
        rw [hnm2, all_end (by rw [hbl]; exact hge) hn]
end Hw.L
