/- The seat's tables of types. -/
import Derived.Test.YtkamoncpfogmaaaGreatDoorProg
import Derived.Test.YtkamoncpfogmaaaGreatDoorE2
import Derived.KernelRfl
import Derived.Test.YtkamoncpfogmaaaGreatDoorE3
import Derived.Shelf.Strings.Fields
import Derived.Shelf.Strconv.AtoiAll
set_option linter.unusedVariables false
set_option linter.unusedSimpArgs false
namespace Hw.Pa
open Go Go.Proofs
def tabs : Tabs :=
{ sh := (.nd (.nd (.nd (.nd (.nd (.nd (.nd .lf 2 none .lf) 3 none .lf) 4 none (.nd (.nd .lf 5 none .lf) 9 none .lf)) 20 none (.nd (.nd (.nd .lf 21 none .lf) 24 none .lf) 25 none (.nd .lf 26 none .lf))) 27 none (.nd (.nd (.nd (.nd .lf 28 none .lf) 29 none .lf) 30 none (.nd (.nd .lf 32 (some 8) .lf) 34 (some 2) .lf)) 35 none (.nd (.nd (.nd .lf 42 none .lf) 44 (some 4) .lf) 49 none (.nd .lf 53 none .lf)))) 61 (some 5) (.nd (.nd (.nd (.nd (.nd .lf 62 none .lf) 64 none .lf) 65 none (.nd (.nd .lf 66 none .lf) 68 (some 5) .lf)) 70 (some 5) (.nd (.nd (.nd .lf 71 none .lf) 73 (some 3) .lf) 75 none (.nd .lf 77 none .lf))) 88 (some 2) (.nd (.nd (.nd (.nd .lf 89 none .lf) 90 none .lf) 93 (some 2) (.nd (.nd .lf 94 none .lf) 96 none .lf)) 98 (some 7) (.nd (.nd (.nd .lf 101 (some 6) .lf) 103 (some 5) .lf) 105 (some 5) (.nd .lf 108 none .lf))))) 112 none (.nd (.nd (.nd (.nd (.nd (.nd .lf 117 none .lf) 118 none .lf) 120 (some 2) (.nd (.nd .lf 122 none .lf) 128 none .lf)) 133 none (.nd (.nd (.nd .lf 147 none .lf) 149 (some 1) .lf) 152 (some 4) (.nd .lf 154 none .lf))) 157 none (.nd (.nd (.nd (.nd .lf 160 none .lf) 172 none .lf) 173 none (.nd (.nd .lf 177 (some 2) .lf) 178 none .lf)) 184 none (.nd (.nd (.nd .lf 194 none .lf) 197 (some 24) .lf) 198 none (.nd .lf 211 (some 256) .lf)))) 213 none (.nd (.nd (.nd (.nd (.nd .lf 217 none .lf) 221 (some 20) .lf) 222 none (.nd (.nd .lf 223 (some 65) .lf) 227 none .lf)) 229 (some 2) (.nd (.nd (.nd .lf 231 none .lf) 235 (some 3) .lf) 238 none (.nd .lf 239 none .lf))) 241 (some 3) (.nd (.nd (.nd (.nd .lf 242 none .lf) 244 (some 3) .lf) 247 (some 3) (.nd .lf 250 none .lf)) 252 (some 1) (.nd (.nd (.nd .lf 253 (some 32) .lf) 254 (some 64) .lf) 255 none (.nd .lf 256 none .lf))))))
  fo := (.nd (.nd (.nd (.nd (.nd .lf 32 (.nd (.nd (.nd (.nd .lf 0 0 .lf) 1 1 .lf) 2 2 (.nd .lf 3 3 .lf)) 4 4 (.nd (.nd .lf 5 5 .lf) 6 6 (.nd .lf 7 7 .lf))) .lf) 34 (.nd (.nd .lf 0 0 .lf) 1 1 .lf) .lf) 44 (.nd (.nd (.nd .lf 0 0 .lf) 1 1 .lf) 2 2 (.nd .lf 3 3 .lf)) (.nd (.nd .lf 61 (.nd (.nd (.nd .lf 0 0 .lf) 1 1 .lf) 2 2 (.nd .lf 3 3 .lf)) .lf) 68 (.nd (.nd (.nd .lf 0 0 .lf) 1 1 .lf) 2 2 (.nd (.nd .lf 3 3 .lf) 4 4 .lf)) .lf)) 70 (.nd (.nd (.nd .lf 0 0 .lf) 1 1 .lf) 2 2 (.nd (.nd .lf 3 3 .lf) 4 4 .lf)) (.nd (.nd (.nd .lf 73 (.nd (.nd .lf 0 0 .lf) 1 1 (.nd .lf 2 2 .lf)) .lf) 88 (.nd (.nd .lf 0 0 .lf) 1 1 .lf) .lf) 93 (.nd (.nd .lf 0 0 .lf) 1 1 .lf) (.nd (.nd .lf 98 (.nd (.nd (.nd .lf 0 0 .lf) 1 1 .lf) 2 2 (.nd .lf 3 3 .lf)) .lf) 101 (.nd (.nd .lf 0 0 .lf) 1 1 (.nd .lf 2 2 .lf)) .lf))) 103 (.nd (.nd .lf 0 0 .lf) 1 1 .lf) (.nd (.nd (.nd (.nd .lf 105 (.nd (.nd .lf 0 0 .lf) 1 1 .lf) .lf) 120 (.nd (.nd .lf 0 0 .lf) 1 1 .lf) .lf) 149 (.nd .lf 0 0 .lf) (.nd (.nd .lf 177 (.nd (.nd .lf 0 0 .lf) 1 1 .lf) .lf) 229 (.nd (.nd .lf 0 0 .lf) 1 1 .lf) .lf)) 235 (.nd (.nd .lf 0 0 .lf) 1 1 (.nd .lf 2 2 .lf)) (.nd (.nd (.nd .lf 241 (.nd (.nd .lf 0 0 .lf) 1 1 (.nd .lf 2 2 .lf)) .lf) 244 (.nd (.nd .lf 0 0 .lf) 1 1 (.nd .lf 2 2 .lf)) .lf) 247 (.nd (.nd .lf 0 0 .lf) 1 1 (.nd .lf 2 2 .lf)) (.nd .lf 252 (.nd .lf 0 0 .lf) .lf))))
  es := (.nd (.nd (.nd (.nd (.nd .lf 24 (93, 2) .lf) 25 (88, 2) .lf) 26 (68, 5) (.nd .lf 27 (98, 7) .lf)) 28 (101, 6) (.nd (.nd .lf 29 (103, 5) .lf) 30 (105, 5) (.nd .lf 42 (44, 4) .lf))) 53 (61, 5) (.nd (.nd (.nd (.nd .lf 66 (70, 5) .lf) 118 (5, 1) .lf) 160 (9, 1) (.nd .lf 172 (177, 2) .lf)) 173 (172, 1) (.nd (.nd .lf 227 (229, 2) .lf) 238 (244, 3) (.nd .lf 239 (247, 3) .lf))))
  zs := (.nd (.nd (.nd (.nd (.nd (.nd (.nd .lf 2 [(.int .i64)] .lf) 3 [(.int .i64)] .lf) 4 [.bool] (.nd (.nd .lf 5 [(.int .u8)] .lf) 9 [.str] .lf)) 20 [.nif] (.nd (.nd (.nd .lf 21 [(.int .i32)] .lf) 24 [.slice] .lf) 25 [.slice] (.nd .lf 26 [.slice] .lf))) 27 [.slice] (.nd (.nd (.nd (.nd .lf 28 [.slice] .lf) 29 [.slice] .lf) 30 [.slice] (.nd .lf 32 [.str, .slice, .slice, .slice, .slice, .slice, .slice, .slice] .lf)) 34 [(.int .i64), (.int .i64)] (.nd (.nd (.nd .lf 35 [(.int .i64)] .lf) 42 [.slice] .lf) 44 [(.int .i64), (.int .i64), .str, .slice] (.nd .lf 49 [.nfunc] .lf)))) 53 [.slice] (.nd (.nd (.nd (.nd (.nd .lf 61 [(.int .i64), .str, (.int .i64), (.int .i64), (.int .i64)] .lf) 62 [.nfunc] .lf) 64 [.nfunc] (.nd (.nd .lf 65 [.nfunc] .lf) 66 [.slice] .lf)) 68 [.str, .slice, .str, .slice, .slice] (.nd (.nd (.nd .lf 70 [(.int .i64), .str, .slice, .slice, .slice] .lf) 71 [.ptr] .lf) 73 [.slice, (.int .i64), .bool] (.nd .lf 75 [.nfunc] .lf))) 77 [.ptr] (.nd (.nd (.nd (.nd .lf 88 [.str, .str] .lf) 89 [.nfunc] .lf) 90 [.nfunc] (.nd .lf 93 [.str, .slice] .lf)) 94 [.nfunc] (.nd (.nd (.nd .lf 96 [.ptr] .lf) 98 [.str, .str, (.int .i64), (.int .i64), (.int .i64), .str, .slice] .lf) 101 [.str, .str, (.int .i64), (.int .i64), .str, .slice] (.nd .lf 103 [.str, (.int .i64), (.int .i64), .str, .slice] .lf))))) 105 [.str, (.int .i64), (.int .i64), .str, .slice] (.nd (.nd (.nd (.nd (.nd (.nd .lf 108 [.nfunc] .lf) 112 [.nfunc] .lf) 117 [.ptr] (.nd (.nd .lf 118 [.slice] .lf) 122 [.nif] .lf)) 128 [.nfunc] (.nd (.nd (.nd .lf 133 [.nfunc] .lf) 147 [.ptr] .lf) 149 [(.int .i64)] (.nd .lf 152 [.str, .str, .str, .str] .lf))) 154 [.ptr] (.nd (.nd (.nd (.nd .lf 157 [.nfunc] .lf) 160 [.slice] .lf) 172 [.slice] (.nd .lf 173 [.slice] .lf)) 177 [.str, (.int .i64)] (.nd (.nd (.nd .lf 178 [.nfunc] .lf) 184 [.ptr] .lf) 194 [(.int .u64)] (.nd .lf 197 [(.int .u8), (.int .u8), (.int .u8), (.int .u8), (.int .u8), (.int .u8), (.int .u8), (.int .u8), (.int .u8), (.int .u8), (.int .u8), (.int .u8), (.int .u8), (.int .u8), (.int .u8), (.int .u8), (.int .u8), (.int .u8), (.int .u8), (.int .u8), (.int .u8), (.int .u8), (.int .u8), (.int .u8)] .lf)))) 198 [(.int .u64)] (.nd (.nd (.nd (.nd (.nd .lf 213 [.nfunc] .lf) 217 [.ptr] .lf) 221 [(.int .u64), (.int .u64), (.int .u64), (.int .u64), (.int .u64), (.int .u64), (.int .u64), (.int .u64), (.int .u64), (.int .u64), (.int .u64), (.int .u64), (.int .u64), (.int .u64), (.int .u64), (.int .u64), (.int .u64), (.int .u64), (.int .u64), (.int .u64)] (.nd .lf 222 [(.int .u32)] .lf)) 227 [.slice] (.nd (.nd (.nd .lf 229 [(.int .i64), (.int .i64)] .lf) 231 [.ptr] .lf) 235 [.str, .str, .nif] (.nd .lf 238 [.slice] .lf))) 239 [.slice] (.nd (.nd (.nd (.nd .lf 241 [.slice, .slice, (.int .i64)] .lf) 242 [(.int .u16)] .lf) 244 [(.int .u16), (.int .u16), (.int .u16)] (.nd .lf 247 [(.int .u32), (.int .u32), (.int .u32)] .lf)) 250 [.ptr] (.nd (.nd (.nd .lf 252 [.str] .lf) 253 [(.int .u8), (.int .u8), (.int .u8), (.int .u8), (.int .u8), (.int .u8), (.int .u8), (.int .u8), (.int .u8), (.int .u8), (.int .u8), (.int .u8), (.int .u8), (.int .u8), (.int .u8), (.int .u8), (.int .u8), (.int .u8), (.int .u8), (.int .u8), (.int .u8), (.int .u8), (.int .u8), (.int .u8), (.int .u8), (.int .u8), (.int .u8), (.int .u8), (.int .u8), (.int .u8), (.int .u8), (.int .u8)] .lf) 255 [.ptr] (.nd .lf 256 [.ptr] .lf))))))
  pl := (.nd (.nd (.nd (.nd (.nd .lf 32 [(0, 1), (1, 1), (2, 1), (3, 1), (4, 1), (5, 1), (6, 1), (7, 1)] .lf) 34 [(0, 1), (1, 1)] .lf) 44 [(0, 1), (1, 1), (2, 1), (3, 1)] (.nd (.nd .lf 61 [(0, 1), (1, 1), (2, 1), (3, 2)] .lf) 68 [(0, 1), (1, 1), (2, 1), (3, 1), (4, 1)] .lf)) 70 [(0, 1), (1, 1), (2, 1), (3, 1), (4, 1)] (.nd (.nd (.nd .lf 73 [(0, 1), (1, 1), (2, 1)] .lf) 88 [(0, 1), (1, 1)] .lf) 93 [(0, 1), (1, 1)] (.nd (.nd .lf 98 [(0, 1), (1, 1), (2, 1), (3, 4)] .lf) 101 [(0, 1), (1, 1), (2, 4)] .lf))) 103 [(0, 1), (1, 4)] (.nd (.nd (.nd (.nd .lf 105 [(0, 1), (1, 4)] .lf) 120 [(0, 1), (1, 1)] .lf) 149 [(0, 1)] (.nd (.nd .lf 177 [(0, 1), (1, 1)] .lf) 229 [(0, 1), (1, 1)] .lf)) 235 [(0, 1), (1, 1), (2, 1)] (.nd (.nd (.nd .lf 241 [(0, 1), (1, 1), (2, 1)] .lf) 244 [(0, 1), (1, 1), (2, 1)] .lf) 247 [(0, 1), (1, 1), (2, 1)] (.nd .lf 252 [(0, 1)] .lf))))
  str := (.nd .lf 9 () .lf)
  ik := (.nd (.nd (.nd (.nd .lf 2 .i64 .lf) 3 .i64 .lf) 5 .u8 (.nd .lf 21 .i32 .lf)) 35 .i64 (.nd (.nd (.nd .lf 194 .u64 .lf) 198 .u64 .lf) 222 .u32 (.nd .lf 242 .u16 .lf))) }
theorem tabs_ok : tabs.check Tryz.prog = true := by kernel_rfl
theorem mixed : Tryz.prog.follows .mixedOrders = true := by kernel_rfl
noncomputable def T : Ty Tryz.prog := tabs.ty tabs_ok mixed
end Hw.Pa
namespace Hw.Pa
open Go Go.Proofs Hw.M

abbrev uc (c : Int) : S := .one (.p (.k (.int .u8 c)))
def isLetter (c : Int) : Bool := (decide (97 ≤ c) && decide (c ≤ 122)) || (decide (65 ≤ c) && decide (c ≤ 90))
def isDigit (c : Int) : Bool := decide (48 ≤ c) && decide (c ≤ 57)
def isWord (c : Int) : Bool := (isLetter c || isDigit c) || decide (c = 95)

theorem letter_ok (c : Int) : FnOK Tryz.prog 110 [uc c] [] (.bq (isLetter c)) [] := by
  refine fn_ok T Tryz.func110 (by kernel_rfl) rfl rfl rfl rfl fun C hC => ?_
  repeat' first | refine g_go T hC true 400 rfl rfl ?_ | refine g_cond rfl (fun h => ?_) (fun h => ?_) | refine g_splitG rfl rfl rfl (fun h => ?_) (fun h => ?_) | refine g_splitP rfl rfl (fun h => ?_) (fun h => ?_) | refine g_retq T (.inl rfl) rfl ?_ | refine g_retl T (.inl rfl) rfl ?_
  all_goals (simp_all [isLetter] <;> omega)
theorem digit_ok (c : Int) : FnOK Tryz.prog 111 [uc c] [] (.bq (isDigit c)) [] := by
  refine fn_ok T Tryz.func111 (by kernel_rfl) rfl rfl rfl rfl fun C hC => ?_
  repeat' first | refine g_go T hC true 400 rfl rfl ?_ | refine g_cond rfl (fun h => ?_) (fun h => ?_) | refine g_splitG rfl rfl rfl (fun h => ?_) (fun h => ?_) | refine g_splitP rfl rfl (fun h => ?_) (fun h => ?_) | refine g_retq T (.inl rfl) rfl ?_ | refine g_retl T (.inl rfl) rfl ?_
  all_goals (simp_all [isDigit] <;> omega)
theorem word_ok (c : Int) : FnOK Tryz.prog 77 [uc c] [] (.bq (isWord c)) [] := by
  refine fn_ok T Tryz.func77 (by kernel_rfl) rfl rfl rfl rfl fun C hC => ?_
  repeat' first | refine g_go T hC true 400 rfl rfl ?_ | refine g_cond rfl (fun h => ?_) (fun h => ?_) | refine g_splitG rfl rfl rfl (fun h => ?_) (fun h => ?_) | refine g_splitP rfl rfl (fun h => ?_) (fun h => ?_) | refine g_retq T (.inl rfl) rfl ?_ | refine g_retl T (.inl rfl) rfl ?_ | refine g_call hC (letter_ok _) rfl rfl (LeSs.refl _) rfl rfl rfl ?_ | refine g_call hC (digit_ok _) rfl rfl (LeSs.refl _) rfl rfl rfl ?_
  all_goals simp_all [isWord]

theorem has_ok (l : List Str) (s : Str) : FnOK Tryz.prog 147 [pS (strsP l), Sr s] [] (.bq (l.any fun x => decide (x = s))) [] := by
  refine fn_ok T Tryz.func147 (by kernel_rfl) rfl rfl rfl rfl fun C hC => ?_
  refine g_len 0 rfl fun hlen => ?_
  rw [List.length_map] at hlen
  repeat' first | refine g_go T hC true 400 rfl rfl ?_ | refine g_cond rfl (fun h => ?_) (fun h => ?_)
  refine g_loop (fun i : Nat => i ≤ l.length ∧ (l.take i).any (fun x => decide (x = s)) = false) (fun i => ([(0, pS (strsP l)), (1, Sr s), (5, I i)], [])) (fun i => l.length - i) hC
    0 ⟨Nat.zero_le _, by simp⟩ id ⟨rfl, ⟨rfl, rfl, rfl, trivial⟩, trivial, rfl, fun _ _ => rfl⟩ ?_
  rintro i ⟨hi, hn⟩
  refine g_run' T hC true 200 rfl ?_
  refine g_cond rfl (fun h => ?_) (fun h => ?_)
  · have hlt : i < l.length := by simpa using h
    obtain ⟨x, hx⟩ := exists_at hlt
    repeat' first | refine g_go T hC true 400 rfl rfl ?_ | refine g_cond rfl (fun h => ?_) (fun h => ?_) | refine g_idx T hC rfl rfl rfl (Int.natCast_nonneg _) (map_at (by assumption)) rfl rfl ?_ | refine g_outR ?_ | refine g_outE ?_ | refine g_retq T (.inl rfl) rfl ?_ | refine g_retl T (.inl rfl) rfl ?_
    · exact (any_yes hx h).symm
    · rw [wrap64 (by omega)]
      refine g_round (i + 1) ⟨by omega, ?_⟩ id (by omega) ⟨rfl, ⟨rfl, rfl, rfl, trivial⟩, trivial, rfl, fun _ _ => rfl⟩
      rw [any_take hx, hn, h]; rfl
  · have hge : ¬ i < l.length := by simpa using h
    repeat' first | refine g_go T hC true 400 rfl rfl ?_ | refine g_cond rfl (fun h => ?_) (fun h => ?_) | refine g_outE ?_ | refine g_retl T (.inl rfl) rfl ?_
    exact (any_end (by omega) hn).symm

def keywords : List Str := [(⟨#[116, 121, 112, 101]⟩ : ByteArray), (⟨#[118, 97, 114]⟩ : ByteArray), (⟨#[112, 114, 111, 99]⟩ : ByteArray), (⟨#[108, 111, 99, 97, 108]⟩ : ByteArray), (⟨#[109, 101, 97, 115, 117, 114, 101]⟩ : ByteArray), (⟨#[105, 110, 118, 97, 114, 105, 97, 110, 116]⟩ : ByteArray), (⟨#[112, 111, 116, 101, 110, 116, 105, 97, 108]⟩ : ByteArray), (⟨#[98, 111, 117, 110, 100]⟩ : ByteArray), (⟨#[105, 102]⟩ : ByteArray), (⟨#[101, 108, 115, 101]⟩ : ByteArray), (⟨#[119, 104, 105, 108, 101]⟩ : ByteArray), (⟨#[114, 101, 116, 117, 114, 110]⟩ : ByteArray), (⟨#[110, 101, 119]⟩ : ByteArray), (⟨#[110, 105, 108]⟩ : ByteArray), (⟨#[116, 114, 117, 101]⟩ : ByteArray), (⟨#[102, 97, 108, 115, 101]⟩ : ByteArray), (⟨#[97, 110, 100]⟩ : ByteArray), (⟨#[111, 114]⟩ : ByteArray), (⟨#[110, 111, 116]⟩ : ByteArray), (⟨#[109, 97, 120]⟩ : ByteArray), (⟨#[109, 105, 110]⟩ : ByteArray), (⟨#[108, 111, 103]⟩ : ByteArray), (⟨#[105, 110, 116]⟩ : ByteArray), (⟨#[98, 111, 111, 108]⟩ : ByteArray), (⟨#[116, 104, 105, 115]⟩ : ByteArray), (⟨#[115, 111, 114, 116]⟩ : ByteArray), (⟨#[111, 112]⟩ : ByteArray), (⟨#[114, 117, 108, 101]⟩ : ByteArray), (⟨#[115, 112, 101, 99]⟩ : ByteArray), (⟨#[100, 101, 115, 99]⟩ : ByteArray), (⟨#[115, 99, 114, 105, 112, 116]⟩ : ByteArray)]
def isKeyword (s : Str) : Bool := keywords.any fun x => decide (x = s)
theorem keywords_ok : FnOK Tryz.prog 148 [] [] (pS (strsP keywords)) [] := by
  refine fn_ok T Tryz.func148 (by kernel_rfl) rfl rfl rfl rfl fun C hC => ?_
  repeat' first | refine g_go T hC true 400 rfl rfl ?_ | refine g_cond rfl (fun h => ?_) (fun h => ?_) | refine g_lit T hC rfl rfl rfl rfl rfl rfl rfl rfl rfl ?_
  exact g_fin ⟨.inl rfl, id, _, rfl, .refl _, trivial, rfl, rfl⟩
theorem isKeyword_ok (s : Str) : FnOK Tryz.prog 112 [Sr s] [] (.bq (isKeyword s)) [] := by
  refine fn_ok T Tryz.func112 (by kernel_rfl) rfl rfl rfl rfl fun C hC => ?_
  repeat' first | refine g_go T hC true 400 rfl rfl ?_ | refine g_cond rfl (fun h => ?_) (fun h => ?_) | refine g_call hC (keywords_ok) rfl rfl (LeSs.refl _) rfl rfl rfl ?_ | refine g_call hC (has_ok _ _) rfl rfl (LeSs.refl _) rfl rfl rfl ?_ | refine g_retq T (.inl rfl) rfl ?_ | refine g_retl T (.inl rfl) rfl ?_
  rfl

def bytes (s : Str) : List Int := s.data.toList.map fun b => (b.toNat : Int)
theorem bytes_at {s : Str} {i : Nat} {c : Int} (h : (bytes s)[i]? = some c) : ∃ b : UInt8, s[((i : Nat) : Int).toNat]? = some b ∧ c = (b.toNat : Int) := by
  simp only [bytes, List.getElem?_map, Option.map_eq_some_iff] at h
  obtain ⟨b, hb, rfl⟩ := h
  refine ⟨b, ?_, rfl⟩
  have hlt : i < s.data.size := by
    have := (List.getElem?_eq_some_iff.1 hb).1
    simpa using this
  have : s.data[i] = b := by rw [Array.getElem?_toList, Array.getElem?_eq_getElem hlt] at hb; exact Option.some.inj hb
  have hlt' : i < s.size := hlt
  simp only [Int.toNat_natCast]
  rw [getElem?_pos s i hlt']
  exact congrArg some this
theorem bytes_len (s : Str) : (bytes s).length = s.size := by simp only [bytes, List.length_map, Array.length_toList]; rfl
def isName (s : Str) : Bool := !decide (s.size = 0) && !decide (40 < s.size) && (match bytes s with | [] => false | c :: _ => isLetter c) && (bytes s).all isWord && !isKeyword s
theorem isName_ok (s : Str) : FnOK Tryz.prog 84 [Sr s] [] (.bq (isName s)) [] := by
  refine fn_ok T Tryz.func84 (by kernel_rfl) rfl rfl rfl rfl fun C hC => ?_
  have hbl := bytes_len s
  repeat' first | refine g_go T hC true 400 rfl rfl ?_ | refine g_cond rfl (fun h => ?_) (fun h => ?_) | refine g_splitG rfl rfl rfl (fun h => ?_) (fun h => ?_) | refine g_splitP rfl rfl (fun h => ?_) (fun h => ?_)
  · repeat' first | refine g_go T hC true 400 rfl rfl ?_ | refine g_cond rfl (fun h => ?_) (fun h => ?_) | refine g_splitG rfl rfl rfl (fun h => ?_) (fun h => ?_) | refine g_splitP rfl rfl (fun h => ?_) (fun h => ?_) | refine g_retl T (.inl rfl) rfl ?_
    simp_all [isName]
  · repeat' first | refine g_go T hC true 400 rfl rfl ?_ | refine g_cond rfl (fun h => ?_) (fun h => ?_) | refine g_splitG rfl rfl rfl (fun h => ?_) (fun h => ?_) | refine g_splitP rfl rfl (fun h => ?_) (fun h => ?_) | refine g_retl T (.inl rfl) rfl ?_
    have h1 : 40 < s.size := by have := of_decide_eq_true h; omega
    simp [isName, h1]
  · rename_i h0
    have hs : 0 < (bytes s).length := by have := of_decide_eq_false h0; omega
    obtain ⟨c, hc⟩ := exists_at hs
    obtain ⟨b, hb, rfl⟩ := bytes_at hc
    refine g_idxS T hC rfl rfl rfl (Int.le_refl _) hb rfl rfl ?_
    repeat' first | refine g_go T hC true 400 rfl rfl ?_ | refine g_cond rfl (fun h => ?_) (fun h => ?_) | refine g_splitG rfl rfl rfl (fun h => ?_) (fun h => ?_) | refine g_splitP rfl rfl (fun h => ?_) (fun h => ?_) | refine g_call hC (letter_ok _) rfl rfl (LeSs.refl _) rfl rfl rfl ?_ | refine g_retl T (.inl rfl) rfl ?_
    · have hb0 : bytes s ≠ [] := fun e => by rw [e] at hs; simp at hs
      cases hbs : bytes s with
      | nil => exact absurd hbs hb0
      | cons c cs =>
        rw [hbs] at hc; simp only [List.getElem?_cons_zero, Option.some.injEq] at hc
        have hl : isLetter c = false := by rw [hc]; simpa using h
        simp [isName, hbs, hl]
    · have hnm : isName s = ((bytes s).all isWord && !isKeyword s) := by
        cases hbs : bytes s with
        | nil => rw [hbs] at hs; simp at hs
        | cons c cs =>
          have hc' := hc
          rw [hbs] at hc'; simp only [List.getElem?_cons_zero, Option.some.injEq] at hc'
          have hl : isLetter c = true := by rw [hc']; simpa using h
          have e1 : ¬ s.size = 0 := by rw [hbl] at hs; omega
          have e2 : ¬ 40 < s.size := by rename_i h2; have := of_decide_eq_false h2; omega
          simp only [isName, hbs, hl, e1, e2, decide_false, Bool.not_false, Bool.true_and]
      have hlen : s.size ≤ 40 := by rename_i h2; have := of_decide_eq_false h2; omega
      refine g_loop (fun i : Nat => i ≤ s.size ∧ ((bytes s).take i).all isWord = true) (fun i => ([(0, Sr s), (3, I i)], [])) (fun i => s.size - i) hC
        0 ⟨Nat.zero_le _, by simp⟩ id ⟨rfl, ⟨rfl, rfl, trivial⟩, trivial, rfl, fun _ _ => rfl⟩ ?_
      rintro i ⟨hi, hn⟩
      refine g_run' T hC true 200 rfl ?_
      refine g_cond rfl (fun h => ?_) (fun h => ?_)
      · have hlt : i < (bytes s).length := by rw [hbl]; have := of_decide_eq_true h; omega
        obtain ⟨c, hx⟩ := exists_at hlt
        obtain ⟨b, hb, rfl⟩ := bytes_at hx
        repeat' first | refine g_go T hC true 400 rfl rfl ?_ | refine g_cond rfl (fun h => ?_) (fun h => ?_) | refine g_splitG rfl rfl rfl (fun h => ?_) (fun h => ?_) | refine g_splitP rfl rfl (fun h => ?_) (fun h => ?_) | refine g_idxS T hC rfl rfl rfl (Int.natCast_nonneg _) (by assumption) rfl rfl ?_ | refine g_call hC (word_ok _) rfl rfl (LeSs.refl _) rfl rfl rfl ?_ | refine g_outR ?_ | refine g_retl T (.inl rfl) rfl ?_
        · have hw : isWord (b.toNat : Int) = false := by simpa using h
          rw [hnm, all_no hx hw]; rfl
        · have hw : isWord (b.toNat : Int) = true := by simpa using h
          rw [wrap64 (by omega)]
          refine g_round (i + 1) ⟨by omega, ?_⟩ id (by omega) ⟨rfl, ⟨rfl, rfl, trivial⟩, trivial, rfl, fun _ _ => rfl⟩
          rw [all_take hx, hn, hw]; rfl
      · have hge : s.size ≤ i := by have := of_decide_eq_false h; omega
        repeat' first | refine g_go T hC true 400 rfl rfl ?_ | refine g_cond rfl (fun h => ?_) (fun h => ?_) | refine g_splitG rfl rfl rfl (fun h => ?_) (fun h => ?_) | refine g_splitP rfl rfl (fun h => ?_) (fun h => ?_) | refine g_outE ?_ | refine g_call hC (isKeyword_ok _) rfl rfl (LeSs.refl _) rfl rfl rfl ?_ | refine g_retq T (.inl rfl) rfl ?_
        rw [hnm, all_end (by rw [hbl]; exact hge) hn]; rfl
end Hw.Pa
namespace Hw.Pa
open Go Go.Proofs Hw.M

def isType (s : Str) : Bool := decide (s = (⟨#[105, 110, 116]⟩ : ByteArray)) || decide (s = (⟨#[98, 111, 111, 108]⟩ : ByteArray)) || isName s
def isOpen (s : Str) : Bool := decide (s = (⟨#[]⟩ : ByteArray)) || isName s
def fieldOk (f : Fld) : Bool := isName f.n && isType f.t
def fieldsOk (l : List Fld) (most : Int) : Bool := decide ((l.length : Int) ≤ most) && l.all fieldOk

theorem open_ok (s : Str) : FnOK Tryz.prog 122 [Sr s] [] (.bq (isOpen s)) [] := by
  refine fn_ok T Tryz.func122 (by kernel_rfl) rfl rfl rfl rfl fun C hC => ?_
  repeat' first | refine g_go T hC true 400 rfl rfl ?_ | refine g_cond rfl (fun h => ?_) (fun h => ?_) | refine g_splitG rfl rfl rfl (fun h => ?_) (fun h => ?_) | refine g_splitP rfl rfl (fun h => ?_) (fun h => ?_) | refine g_call hC (isName_ok _) rfl rfl (LeSs.refl _) rfl rfl rfl ?_ | refine g_retq T (.inl rfl) rfl ?_ | refine g_retl T (.inl rfl) rfl ?_
  all_goals simp_all [isOpen]
end Hw.Pa
namespace Hw.Pa
open Go Go.Proofs Hw.M

def tyIdx (d : Desc) (s : Str) : Int := idxOf (fun t => decide (t.n = s)) d.types
def isPlain (s : Str) : Bool := decide (s = (⟨#[105, 110, 116]⟩ : ByteArray)) || decide (s = (⟨#[98, 111, 111, 108]⟩ : ByteArray))
def known (d : Desc) (f : Fld) : Bool := isPlain f.t || !decide (tyIdx d f.t < 0)
end Hw.Pa
namespace Hw.Pa
open Go Go.Proofs Hw.M

def rightV (d : Desc) (m : Hp) (t : Str) (v : Int) : Bool :=
  if t = (⟨#[105, 110, 116]⟩ : ByteArray) then decide (-1099511627776 ≤ v) && decide (v ≤ 1099511627776)
  else if t = (⟨#[98, 111, 111, 108]⟩ : ByteArray) then decide (v = 0) || decide (v = 1)
  else decide (v = 0) || (decide (1 ≤ v) && decide (v ≤ m.n.length) && decide ((m.n[(v - 1).toNat]?).map (·.t) = some (tyIdx d t)))
def manyS (m : Hp) : Bool := decide (60 < (m.g.length : Int)) || decide (60 < (m.n.length : Int)) || m.n.any fun x => decide (60 < (x.f.length : Int))
def noneS (m : Hp) : Bool := decide ((m.g.length : Int) = 0) && decide ((m.n.length : Int) = 0)
def newHp (d : Desc) : Hp := ⟨List.replicate d.globals.length 0, []⟩
theorem newRow (n : Nat) : List.replicate n [PV.k (.int .i64 0)] = (List.replicate n (0 : Int)).map intR := by rw [List.map_replicate]; rfl
end Hw.Pa
namespace Hw.Pa
open Go Go.Proofs Hw.M

def partsS (op : Int) : Int :=
  if (decide (1 ≤ op) && decide (op ≤ 4)) || decide (op = 6) then 0
  else if ((decide (op = 5) || decide (op = 8)) || decide (op = 18)) || decide (op = 24) then 1
  else if op = 7 then -1
  else if op = 21 then 3
  else if decide (9 ≤ op) && decide (op ≤ 23) then 2
  else -2
theorem parts_ok (op : Int) : FnOK Tryz.prog 134 [I op] [] (I (partsS op)) [] := by
  refine fn_ok T Tryz.func134 (by kernel_rfl) rfl rfl rfl rfl fun C hC => ?_
  repeat' first | refine g_go T hC true 400 rfl rfl ?_ | refine g_cond rfl (fun h => ?_) (fun h => ?_) | refine g_splitG rfl rfl rfl (fun h => ?_) (fun h => ?_) | refine g_splitP rfl rfl (fun h => ?_) (fun h => ?_) | refine g_reti T (.inl rfl) rfl ?_
  all_goals (simp only [partsS]; simp_all <;> omega)
def namedS (e : Ex) : Bool :=
  if e.op = 4 then decide (e.s = (⟨#[116, 104, 105, 115]⟩ : ByteArray)) || isName e.s
  else if e.op = 5 ∨ e.op = 6 ∨ e.op = 7 then isName e.s
  else decide (e.s = (⟨#[]⟩ : ByteArray))
theorem named_ok (e : Ex) : FnOK Tryz.prog 135 [aggS (exprC e)] [] (.bq (namedS e)) [] := by
  refine fn_ok T Tryz.func135 (by kernel_rfl) rfl rfl rfl rfl fun C hC => ?_
  repeat' first | refine g_go T hC true 400 rfl rfl ?_ | refine g_cond rfl (fun h => ?_) (fun h => ?_) | refine g_splitG rfl rfl rfl (fun h => ?_) (fun h => ?_) | refine g_splitP rfl rfl (fun h => ?_) (fun h => ?_) | refine g_call hC (isName_ok _) rfl rfl (LeSs.refl _) rfl rfl rfl ?_ | refine g_retl T (.inl rfl) rfl ?_ | refine g_retq T (.inl rfl) rfl ?_
  all_goals simp_all [namedS]

def nodeS (e : Ex) : Bool :=
  !decide (partsS e.op = -2) && !(decide (0 ≤ partsS e.op) && !decide ((e.l.length : Int) = partsS e.op)) && !(decide (partsS e.op = -1) && decide (6 < (e.l.length : Int))) && namedS e &&
  (if e.op = 1 then decide (0 ≤ e.n) && decide (e.n ≤ 1099511627776) else if e.op = 2 then decide (e.n = 0) || decide (e.n = 1) else decide (e.n = 0))
theorem node_ok (e : Ex) : FnOK Tryz.prog 93 [aggS (exprC e)] [] (.bq (nodeS e)) [] := by
  refine fn_ok T Tryz.func93 (by kernel_rfl) rfl rfl rfl rfl fun C hC => ?_
  repeat' first | refine g_go T hC true 400 rfl rfl ?_ | refine g_cond rfl (fun h => ?_) (fun h => ?_) | refine g_splitG rfl rfl rfl (fun h => ?_) (fun h => ?_) | refine g_splitP rfl rfl (fun h => ?_) (fun h => ?_) | refine g_call hC (parts_ok _) rfl rfl (LeSs.refl _) rfl rfl rfl ?_ | refine g_call hC (named_ok _) rfl rfl (LeSs.refl _) rfl rfl rfl ?_ | refine g_retl T (.inl rfl) rfl ?_ | refine g_retq T (.inl rfl) rfl ?_
  all_goals (try simp only [List.length_map] at *)
  all_goals (simp_all [nodeS] <;> omega)

mutual
def countS : Ex → Int → Int
  | .mk op n s l, d => if decide (60 < d) || !nodeS (.mk op n s l) then 1001 else countL l d 1
def countL : List Ex → Int → Int → Int
  | [], _, n => n
  | e :: es, d, n => if 1000 < n + countS e (d + 1) then n + countS e (d + 1) else countL es d (n + countS e (d + 1))
end
mutual
theorem countS_bound : ∀ (e : Ex) (d : Int), 1 ≤ countS e d ∧ countS e d ≤ 1001 + 1000 * (if d ≤ 60 then 61 - d else 0)
  | .mk op n s l, d => by
    simp only [countS]
    split
    · split <;> omega
    · rename_i h
      simp only [Bool.or_eq_true, decide_eq_true_eq, Bool.not_eq_true', not_or] at h
      have := countL_bound l d 1 (by omega) (by omega) (by omega)
      rw [if_pos (by omega)]; omega
theorem countL_bound : ∀ (l : List Ex) (d n : Int), 1 ≤ n → n ≤ 1000 → d ≤ 60 → 1 ≤ countL l d n ∧ countL l d n ≤ 1001 + 1000 * (61 - d)
  | [], d, n, h1, h2, h3 => by simp only [countL]; omega
  | e :: es, d, n, h1, h2, h3 => by
    simp only [countL]
    have hb := countS_bound e (d + 1)
    split at hb
    · split
      · omega
      · exact countL_bound es d _ (by omega) (by omega) h3
    · split
      · omega
      · exact countL_bound es d _ (by omega) (by omega) h3
end
end Hw.Pa
namespace Hw.Pa
open Go Go.Proofs Hw.M

theorem countS_eq (e : Ex) (d : Int) : countS e d = if decide (60 < d) || !nodeS e then 1001 else countL e.l d 1 := by
  cases e; simp only [countS, Ex.l]
theorem size_part {e x : Ex} {i : Nat} (h : e.l[i]? = some x) : sizeOf x < sizeOf e := by
  obtain ⟨op, n, s, l⟩ := e
  have := List.sizeOf_lt_of_mem (List.mem_of_getElem? h)
  simp only [Ex.l] at this
  simp only [Ex.mk.sizeOf_spec]; omega
theorem drop_at {α : Type} {l : List α} {i : Nat} {x : α} (h : l[i]? = some x) : l.drop i = x :: l.drop (i + 1) := by
  obtain ⟨hlt, rfl⟩ := List.getElem?_eq_some_iff.1 h
  exact List.drop_eq_getElem_cons hlt

theorem count_ok : ∀ (N : Nat) (e : Ex) (d : Int), sizeOf e < N → -1000 ≤ d → d ≤ 1000 → FnOK Tryz.prog 48 [aggS (exprC e), I d] [] (I (countS e d)) [] := by
  intro N
  induction N with
  | zero => intro e d h; omega
  | succ N ih =>
    intro e d hN hd1 hd2
    refine fn_ok T Tryz.func48 (by kernel_rfl) rfl rfl rfl rfl fun C hC => ?_
    refine g_lenA rfl 0 3 rfl rfl fun hlen => ?_
    rw [List.length_map] at hlen
    repeat' first | refine g_go T hC true 400 rfl rfl ?_ | refine g_cond rfl (fun h => ?_) (fun h => ?_) | refine g_splitG rfl rfl rfl (fun h => ?_) (fun h => ?_) | refine g_splitP rfl rfl (fun h => ?_) (fun h => ?_) | refine g_call hC (node_ok _) rfl rfl (LeSs.refl _) rfl rfl rfl ?_ | refine g_reti T (.inl rfl) rfl ?_
    · rw [countS_eq, h]; rfl
    · rename_i h0
      rw [countS_eq, h0, h]; rfl
    · rename_i h0
      have hd : d ≤ 60 := by have := of_decide_eq_false h0; omega
      have hc : countS e d = countL e.l d 1 := by rw [countS_eq, h0, h]; rfl
      rw [hc]
      refine g_loop (fun p : Nat × Int => p.1 ≤ e.l.length ∧ 1 ≤ p.2 ∧ p.2 ≤ 1000 ∧ countL (e.l.drop p.1) d p.2 = countL e.l d 1) (fun p => ([(1, I d), (2, .one (.bx 1002 0)), (5, I p.2), (6, I p.1)], [(1002, some (.box ((exprC e).map V.p)))])) (fun p => e.l.length - p.1) hC
        (0, 1) ⟨Nat.zero_le _, by omega, by omega, rfl⟩ id ⟨rfl, ⟨rfl, rfl, rfl, rfl, trivial⟩, ⟨rfl, trivial⟩, rfl, fun _ _ => rfl⟩ ?_
      rintro ⟨i, n⟩ ⟨hi, hn1, hn2, hn⟩
      simp only at hi hn1 hn2 hn
      refine g_run' T hC true 200 rfl ?_
      refine g_cond rfl (fun h => ?_) (fun h => ?_)
      · have hlt : i < e.l.length := by simpa using h
        obtain ⟨x, hx⟩ := exists_at hlt
        have hb : 1 ≤ countS x (d + 1) ∧ countS x (d + 1) ≤ 2000000 := by
          have hb := countS_bound x (d + 1)
          split at hb <;> omega
        have hw : IntKind.i64.wrap (n + countS x (d + 1)) = n + countS x (d + 1) := wrap64 (by omega)
        rw [drop_at hx] at hn
        simp only [countL] at hn
        repeat' first | refine g_go T hC true 400 rfl rfl ?_ | refine g_cond rfl (fun h => ?_) (fun h => ?_) | refine g_splitG rfl rfl rfl (fun h => ?_) (fun h => ?_) | refine g_splitP rfl rfl (fun h => ?_) (fun h => ?_) | refine g_idx T hC rfl rfl rfl (Int.natCast_nonneg _) (map_atE (by assumption)) rfl rfl ?_
        rw [wrap64 (by omega)]
        refine g_call hC (ih x (d + 1) (by have := size_part hx; omega) (by omega) (by omega)) rfl rfl (LeSs.refl _) rfl rfl rfl ?_
        repeat' first | refine g_go T hC true 400 rfl rfl ?_ | refine g_cond rfl (fun h => ?_) (fun h => ?_) | refine g_splitG rfl rfl rfl (fun h => ?_) (fun h => ?_) | refine g_splitP rfl rfl (fun h => ?_) (fun h => ?_) | refine g_outR ?_ | refine g_reti T (.inl rfl) rfl ?_
        · simp only [hw] at h ⊢
          rw [if_pos (of_decide_eq_true h)] at hn
          exact hn
        · simp only [hw] at h
          have hle := of_decide_eq_false h
          rw [if_neg hle] at hn
          have hw2 : IntKind.i64.wrap ((i : Int) + 1) = ((i + 1 : Nat) : Int) := by rw [wrap64 (by omega)]; omega
          simp only [hw, hw2]
          exact g_round (i + 1, n + countS x (d + 1)) ⟨by simp only; omega, by simp only; omega, by simp only; omega, hn⟩ id (by simp only; omega) ⟨rfl, ⟨rfl, rfl, rfl, rfl, trivial⟩, ⟨rfl, trivial⟩, rfl, fun _ _ => rfl⟩
      · have hge : ¬ i < e.l.length := by simpa using h
        rw [List.drop_eq_nil_of_le (by omega)] at hn
        simp only [countL] at hn
        repeat' first | refine g_go T hC true 400 rfl rfl ?_ | refine g_cond rfl (fun h => ?_) (fun h => ?_) | refine g_splitG rfl rfl rfl (fun h => ?_) (fun h => ?_) | refine g_splitP rfl rfl (fun h => ?_) (fun h => ?_) | refine g_outE ?_ | refine g_reti T (.inl rfl) rfl ?_
        exact hn
end Hw.Pa
namespace Hw.Pa
open Go Go.Proofs Hw.M

def exprOk (e : Ex) : Bool := decide (countS e 1 ≤ 1000)
theorem expr_ok (e : Ex) : FnOK Tryz.prog 17 [aggS (exprC e)] [] (.bq (exprOk e)) [] := by
  refine fn_ok T Tryz.func17 (by kernel_rfl) rfl rfl rfl rfl fun C hC => ?_
  repeat' first | refine g_go T hC true 400 rfl rfl ?_ | refine g_cond rfl (fun h => ?_) (fun h => ?_) | refine g_call hC (count_ok (sizeOf e + 1) e 1 (by omega) (by omega) (by omega)) rfl rfl (LeSs.refl _) rfl rfl rfl ?_ | refine g_retq T (.inl rfl) rfl ?_
  rfl
def exprsOk (s : Sm) (lo hi : Int) : Bool := !decide ((s.e.length : Int) < lo) && !decide (hi < (s.e.length : Int)) && s.e.all exprOk
end Hw.Pa
namespace Hw.Pa
open Go Go.Proofs Hw.M

theorem map_atE0 {l : List Ex} {x : Ex} (h : l[0]? = some x) : (l.map exprR)[(0 : Int).toNat]? = some (exprC x) := map_atE (i := 0) h
def simpleS (s : Sm) : Bool := decide ((s.l.length : Int) = 0) && decide ((s.els.length : Int) = 0)
def shapeB (s : Sm) (b : Bool) : Bool :=
  if s.op = 1 then isName s.s && exprsOk s 1 1 && b
  else if s.op = 2 then isName s.s && exprsOk s 2 2 && b
  else if s.op = 3 then decide (s.s = (⟨#[]⟩ : ByteArray)) && exprsOk s 1 1
  else if s.op = 4 then decide (s.s = (⟨#[]⟩ : ByteArray)) && exprsOk s 1 1 && decide ((s.els.length : Int) = 0)
  else if s.op = 5 then decide (s.s = (⟨#[]⟩ : ByteArray)) && exprsOk s 0 1 && b
  else if s.op = 6 then decide (s.s = (⟨#[]⟩ : ByteArray)) && exprsOk s 1 1 && decide ((s.e[0]?).map Ex.op = some 7) && b
  else false
def shapeS (s : Sm) : Bool := shapeB s (simpleS s)
end Hw.Pa
namespace Hw.Pa
open Go Go.Proofs Hw.M

def bump (n k : Int) : Int := if n ≤ 200 then n + k else n
mutual
def stN : Sm → Int → Int → Int
  | .mk op s e l els, d, n => if decide (60 < d) || !shapeS (.mk op s e l els) then 201 else bump (bump (n + 1) (stL l (d + 1) 0)) (stL els (d + 1) 0)
def stL : List Sm → Int → Int → Int
  | [], _, n => n
  | s :: r, d, n => if 200 < stN s d n then stN s d n else stL r d (stN s d n)
end
theorem stN_eq (s : Sm) (d n : Int) : stN s d n = if decide (60 < d) || !shapeS s then 201 else bump (bump (n + 1) (stL s.l (d + 1) 0)) (stL s.els (d + 1) 0) := by
  cases s; simp only [stN, Sm.l, Sm.els]
def capS (d : Int) : Int := 201 + 400 * (if d ≤ 60 then 61 - d else 0)
theorem bump_bound {n k K : Int} (hn : 0 ≤ n) (hk : 0 ≤ k ∧ k ≤ K) (h : n ≤ 200 + K) : 0 ≤ bump n k ∧ bump n k ≤ 200 + K := by
  unfold bump; split <;> omega
mutual
theorem stN_bound : ∀ (s : Sm) (d n : Int), 0 ≤ n → n ≤ 200 → 0 ≤ stN s d n ∧ stN s d n ≤ capS d
  | .mk op s e l els, d, n, h0, h1 => by
    simp only [stN]
    split
    · unfold capS; split <;> omega
    · rename_i h
      simp only [Bool.or_eq_true, decide_eq_true_eq, Bool.not_eq_true', not_or] at h
      have b1 := stL_bound l (d + 1) 0 (by omega) (by omega)
      have b2 := stL_bound els (d + 1) 0 (by omega) (by omega)
      have b0 : 1 ≤ capS (d + 1) := by unfold capS; split <;> omega
      have c1 := bump_bound (n := n + 1) (by omega) b1 (by omega)
      have c2 := bump_bound c1.1 b2 c1.2
      have : 200 + capS (d + 1) ≤ capS d := by unfold capS; rw [if_pos (c := d ≤ 60) (by omega)]; split <;> omega
      omega
theorem stL_bound : ∀ (l : List Sm) (d n : Int), 0 ≤ n → n ≤ 200 → 0 ≤ stL l d n ∧ stL l d n ≤ capS d
  | [], d, n, h0, h1 => by
    simp only [stL]; refine ⟨h0, ?_⟩; unfold capS; split <;> omega
  | s :: r, d, n, h0, h1 => by
    simp only [stL]
    have b := stN_bound s d n h0 h1
    split
    · exact b
    · exact stL_bound r d _ b.1 (by omega)
end
theorem size_sub (s : Sm) : sizeOf s.l < sizeOf s ∧ sizeOf s.els < sizeOf s := by
  cases s; simp only [Sm.l, Sm.els, Sm.mk.sizeOf_spec]; omega
theorem size_at {α : Type} [SizeOf α] {l : List α} {i : Nat} {x : α} (h : l[i]? = some x) : sizeOf x < sizeOf l := List.sizeOf_lt_of_mem (List.mem_of_getElem? h)

end Hw.Pa
namespace Hw.Pa
open Go Go.Proofs Hw.M

def procOk (p : Pr) : Bool := isName p.n && fieldsOk p.params 6 && fieldsOk p.locs 12 && (decide (p.res = (⟨#[]⟩ : ByteArray)) || isType p.res) && decide (stL p.body 1 0 ≤ 200)
def measOk (m : Ms) : Bool := isName m.n && isName m.t && !decide (m.z < -1099511627776) && !decide (1099511627776 < m.z) && exprOk m.x
def invOk (m : Iv) : Bool := isName m.n && isOpen m.t && exprOk m.x
def potOk (m : Pt) : Bool := isOpen m.t && exprOk m.x
def boundOk (m : Bd) : Bool := isName m.p && exprOk m.x
def formulasOk (d : Desc) : Bool := d.measures.all measOk && d.invs.all invOk && d.pots.all potOk && d.bounds.all boundOk
def typeOk (t : NodeT) : Bool := isName t.n && fieldsOk t.f 12
def validPre (d : Desc) : Bool := isName d.n && !decide (12 < (d.types.length : Int)) && fieldsOk d.globals 8 && !decide (40 < (d.procs.length : Int)) &&
  !decide (12 < (d.measures.length : Int)) && !decide (12 < (d.invs.length : Int)) && !decide (12 < (d.pots.length : Int)) && !decide (12 < (d.bounds.length : Int))
def validD (d : Desc) : Bool := validPre d && d.types.all typeOk && d.procs.all procOk && formulasOk d
end Hw.Pa
namespace Hw.Pa
open Go Go.Proofs Hw.M

def wideF (f : Fld) : Bool := decide (100 < (f.n.size : Int)) || decide (100 < (f.t.size : Int))
def wideS (l : List Fld) : Bool := decide (60 < (l.length : Int)) || !l.all fun f => !wideF f
mutual
def leftS : Ex → Int → Int → Int
  | .mk _ _ s l, d, n => if decide (n ≤ 0) || decide (d = 0) || decide (100 < (s.size : Int)) then -1 else leftL l (d - 1) (n - 1)
def leftL : List Ex → Int → Int → Int
  | [], _, n => n
  | e :: es, d, n => if 0 ≤ n then leftL es d (leftS e d n) else n
end
mutual
theorem leftS_bound : ∀ (e : Ex) (d n : Int), -1 ≤ n → -1 ≤ leftS e d n ∧ leftS e d n ≤ n
  | .mk a b s l, d, n, h => by
    simp only [leftS]
    split
    · omega
    · rename_i h'
      simp only [Bool.or_eq_true, decide_eq_true_eq, not_or] at h'
      have := leftL_bound l (d - 1) (n - 1) (by omega); omega
theorem leftL_bound : ∀ (l : List Ex) (d n : Int), -1 ≤ n → -1 ≤ leftL l d n ∧ leftL l d n ≤ n
  | [], d, n, h => by simp only [leftL]; omega
  | e :: es, d, n, h => by
    simp only [leftL]
    split
    · have h1 := leftS_bound e d n h
      have h2 := leftL_bound es d _ h1.1
      omega
    · omega
end
theorem sizeE_sub (e : Ex) : sizeOf e.l < sizeOf e := by
  cases e; simp only [Ex.l, Ex.mk.sizeOf_spec]; omega

mutual
def laN : Sm → Int → Int → Int
  | .mk _ s e l els, d, n => if 100 < (s.size : Int) then -1 else
      if 0 ≤ (if 0 ≤ leftL e 65 (n - 1) then (if d - 1 = 0 then -1 else laL l (d - 1) (leftL e 65 (n - 1))) else leftL e 65 (n - 1)) then
        (if d - 1 = 0 then -1 else laL els (d - 1) (if 0 ≤ leftL e 65 (n - 1) then (if d - 1 = 0 then -1 else laL l (d - 1) (leftL e 65 (n - 1))) else leftL e 65 (n - 1)))
      else (if 0 ≤ leftL e 65 (n - 1) then (if d - 1 = 0 then -1 else laL l (d - 1) (leftL e 65 (n - 1))) else leftL e 65 (n - 1))
def laL : List Sm → Int → Int → Int
  | [], _, n => n
  | s :: r, d, n => if 0 ≤ n then laL r d (laN s d n) else n
end
def laS (l : List Sm) (d n : Int) : Int := if d = 0 then -1 else laL l d n
def laT (l : List Sm) (d n : Int) : Int := if 0 ≤ n then laS l d n else n
theorem laN_eq (s : Sm) (d n : Int) : laN s d n = if 100 < (s.s.size : Int) then -1 else laT s.els (d - 1) (laT s.l (d - 1) (leftL s.e 65 (n - 1))) := by
  cases s; rfl
theorem laT_bound {l : List Sm} {d n : Int} (h : -1 ≤ n) (ih : 0 ≤ n → -1 ≤ laL l d n ∧ laL l d n ≤ n) : -1 ≤ laT l d n ∧ laT l d n ≤ n := by
  unfold laT laS
  split
  · split
    · omega
    · exact ih (by omega)
  · omega
mutual
theorem laN_bound : ∀ (s : Sm) (d n : Int), 0 ≤ n → -1 ≤ laN s d n ∧ laN s d n ≤ n
  | .mk op s e l els, d, n, h => by
    rw [laN_eq]
    by_cases hh : 100 < ((Sm.mk op s e l els).s.size : Int)
    · rw [if_pos hh]; omega
    · rw [if_neg hh]
      simp only [Sm.els, Sm.l, Sm.e]
      have h1 := leftL_bound e 65 (n - 1) (by omega)
      have h2 := laT_bound (l := l) (d := d - 1) h1.1 (fun h0 => laL_bound l (d - 1) _ (by omega))
      have h3 := laT_bound (l := els) (d := d - 1) h2.1 (fun h0 => laL_bound els (d - 1) _ (by omega))
      omega
theorem laL_bound : ∀ (l : List Sm) (d n : Int), -1 ≤ n → -1 ≤ laL l d n ∧ laL l d n ≤ n
  | [], d, n, h => by simp only [laL]; omega
  | s :: r, d, n, h => by
    simp only [laL]
    split
    · rename_i h0
      have h1 := laN_bound s d n h0
      have h2 := laL_bound r d _ h1.1
      omega
    · omega
end
end Hw.Pa
namespace Hw.Pa
open Go Go.Proofs Hw.M

theorem mul_one' (i : Nat) : ((i : Int) + 1) = ((i + 1 : Nat) : Int) := by omega
theorem wrapS {i : Nat} (h : i < 9223372036854775807) : IntKind.i64.wrap ((i : Int) + 1) = ((i + 1 : Nat) : Int) := by rw [mul_one']; exact wrap64 (by omega)
end Hw.Pa
/- The library's functions at this program: their numbers. -/
namespace Hw.Pa
open Go Go.Proofs Go.Shelf
def lays157_ren : Go.Shelf.Ren := ⟨fun | 157 => 158 | 229 => 174 | 199 => 175 | 261 => 188 | 311 => 194 | 312 => 195 | n => n, fun | 9 => 9 | 31 => 160 | 3 => 3 | 5 => 5 | 4 => 4 | 119 => 211 | 0 => 0 | 40 => 213 | 152 => 227 | 21 => 21 | 154 => 229 | 51 => 222 | 141 => 231 | 196 => 241 | 193 => 238 | 198 => 244 | 49 => 242 | 194 => 239 | 201 => 247 | 226 => 255 | 46 => 194 | 227 => 256 | n => n, fun | 0 => 0 | 6 => 3 | n => n⟩
theorem lays157 : Go.Proofs.Lays.n157 Tryz.prog lays157_ren where
  mixed := by kernel_rfl
  f157 := Tryz.func158.trans (congrArg some (by kernel_rfl))
  f199 := Tryz.func175.trans (congrArg some (by kernel_rfl))
  f229 := Tryz.func174.trans (congrArg some (by kernel_rfl))
  f261 := Tryz.func188.trans (congrArg some (by kernel_rfl))
  f311 := Tryz.func194.trans (congrArg some (by kernel_rfl))
  f312 := Tryz.func195.trans (congrArg some (by kernel_rfl))
  t0 := Tryz.underlying0
  a0 := Tryz.isAgg0
  z0 := Tryz.sizeOf0
  v0 := Tryz.zeroValue0
  t3 := Tryz.underlying3
  a3 := Tryz.isAgg3
  z3 := Tryz.sizeOf3
  v3 := Tryz.zeroValue3
  t4 := Tryz.underlying4
  a4 := Tryz.isAgg4
  z4 := Tryz.sizeOf4
  v4 := Tryz.zeroValue4
  t5 := Tryz.underlying5
  a5 := Tryz.isAgg5
  z5 := Tryz.sizeOf5
  v5 := Tryz.zeroValue5
  t9 := Tryz.underlying9
  a9 := Tryz.isAgg9
  z9 := Tryz.sizeOf9
  v9 := Tryz.zeroValue9
  t21 := Tryz.underlying21
  a21 := Tryz.isAgg21
  z21 := Tryz.sizeOf21
  v21 := Tryz.zeroValue21
  t31 := Tryz.underlying160
  a31 := Tryz.isAgg160
  z31 := Tryz.sizeOf160
  v31 := Tryz.zeroValue160
  t40 := Tryz.underlying213
  a40 := Tryz.isAgg213
  z40 := Tryz.sizeOf213
  v40 := Tryz.zeroValue213
  t46 := Tryz.underlying194
  a46 := Tryz.isAgg194
  z46 := Tryz.sizeOf194
  v46 := Tryz.zeroValue194
  t49 := Tryz.underlying242
  a49 := Tryz.isAgg242
  z49 := Tryz.sizeOf242
  v49 := Tryz.zeroValue242
  t51 := Tryz.underlying222
  a51 := Tryz.isAgg222
  z51 := Tryz.sizeOf222
  v51 := Tryz.zeroValue222
  t119 := Tryz.underlying211
  a119 := Tryz.isAgg211
  z119 := Tryz.sizeOf211
  t141 := Tryz.underlying231
  a141 := Tryz.isAgg231
  z141 := Tryz.sizeOf231
  v141 := Tryz.zeroValue231
  t152 := Tryz.underlying227
  a152 := Tryz.isAgg227
  z152 := Tryz.sizeOf227
  v152 := Tryz.zeroValue227
  t154 := Tryz.underlying229
  a154 := Tryz.isAgg229
  z154 := Tryz.sizeOf229
  v154 := Tryz.zeroValue229
  t193 := Tryz.underlying238
  a193 := Tryz.isAgg238
  z193 := Tryz.sizeOf238
  v193 := Tryz.zeroValue238
  t194 := Tryz.underlying239
  a194 := Tryz.isAgg239
  z194 := Tryz.sizeOf239
  v194 := Tryz.zeroValue239
  t196 := Tryz.underlying241
  a196 := Tryz.isAgg241
  z196 := Tryz.sizeOf241
  v196 := Tryz.zeroValue241
  t198 := Tryz.underlying244
  a198 := Tryz.isAgg244
  z198 := Tryz.sizeOf244
  v198 := Tryz.zeroValue244
  t201 := Tryz.underlying247
  a201 := Tryz.isAgg247
  z201 := Tryz.sizeOf247
  v201 := Tryz.zeroValue247
  t226 := Tryz.underlying255
  a226 := Tryz.isAgg255
  z226 := Tryz.sizeOf255
  v226 := Tryz.zeroValue255
  t227 := Tryz.underlying256
  a227 := Tryz.isAgg256
  z227 := Tryz.sizeOf256
  v227 := Tryz.zeroValue256
  g0 := by kernel_rfl
  g6 := by kernel_rfl
end Hw.Pa
namespace Hw.Pa
open Go Go.Proofs Hw.M

def classS (c : Int) : Int := if c = 32 then 1 else if c = 9 then 1 else if c = 13 then 1 else if c = 10 then 1 else
  if decide (97 ≤ c) && decide (c ≤ 122) then 2 else if decide (65 ≤ c) && decide (c ≤ 90) then 2 else if decide (48 ≤ c) && decide (c ≤ 57) then 3 else if c = 95 then 4 else 0
set_option maxHeartbeats 1000000 in
theorem class_ok (c : Int) : FnOK Tryz.prog 53 [uc c] [] (I (classS c)) [] := by
  refine fn_ok T Tryz.func53 (by kernel_rfl) rfl rfl rfl rfl fun C hC => ?_
  repeat' first | refine g_go T hC true 400 rfl rfl ?_ | refine g_cond rfl (fun h => ?_) (fun h => ?_) | refine g_splitG rfl rfl rfl (fun h => ?_) (fun h => ?_) | refine g_splitP rfl rfl (fun h => ?_) (fun h => ?_) | refine g_reti T (.inl rfl) rfl ?_
  all_goals (simp_all [classS] <;> omega)
theorem class_cases (c : Int) : (classS c = 2 ∧ isLetter c = true ∧ isWord c = true) ∨ ((classS c = 3 ∨ classS c = 4) ∧ isLetter c = false ∧ isWord c = true) ∨ ((classS c = 0 ∨ classS c = 1) ∧ isLetter c = false ∧ isWord c = false) := by
  by_cases h1 : c = 32 ∨ c = 9 ∨ c = 13 ∨ c = 10
  · refine .inr (.inr ?_)
    rcases h1 with rfl | rfl | rfl | rfl <;> exact ⟨.inr rfl, rfl, rfl⟩
  · have e1 : c ≠ 32 := by omega
    have e2 : c ≠ 9 := by omega
    have e3 : c ≠ 13 := by omega
    have e4 : c ≠ 10 := by omega
    have ec : classS c = if decide (97 ≤ c) && decide (c ≤ 122) then 2 else if decide (65 ≤ c) && decide (c ≤ 90) then 2 else if decide (48 ≤ c) && decide (c ≤ 57) then 3 else if c = 95 then 4 else 0 := by
      simp only [classS, e1, e2, e3, e4, if_false]
    rw [ec]
    unfold isWord isLetter isDigit
    cases (decide (97 ≤ c) && decide (c ≤ 122)) with
    | true => exact .inl ⟨rfl, rfl, rfl⟩
    | false => cases (decide (65 ≤ c) && decide (c ≤ 90)) with
      | true => exact .inl ⟨rfl, rfl, rfl⟩
      | false => cases (decide (48 ≤ c) && decide (c ≤ 57)) with
        | true => exact .inr (.inl ⟨.inl rfl, rfl, rfl⟩)
        | false =>
          by_cases h5 : c = 95
          · rw [if_pos h5]; exact .inr (.inl ⟨.inr rfl, rfl, by simp [h5]⟩)
          · rw [if_neg h5]; exact .inr (.inr ⟨.inl rfl, rfl, by simp [h5]⟩)
theorem class_letter (c : Int) : decide (classS c = 2) = isLetter c := by
  rcases class_cases c with ⟨h, h1, _⟩ | ⟨h, h1, _⟩ | ⟨h, h1, _⟩
  · rw [h, h1]; rfl
  · rw [h1]; exact decide_eq_false (by omega)
  · rw [h1]; exact decide_eq_false (by omega)
theorem class_word (c : Int) : decide (classS c < 2) = !isWord c := by
  rcases class_cases c with ⟨h, _, h1⟩ | ⟨h, _, h1⟩ | ⟨h, _, h1⟩
  · rw [h, h1]; rfl
  · rw [h1]; exact decide_eq_false (by omega)
  · rw [h1]; exact decide_eq_true (by omega)

theorem cmpNaN_ok (s : Str) : FnOK Tryz.prog 173 [Sr s] [] (Bo false) [] := by
  refine fn_ok T Tryz.func173 (by kernel_rfl) rfl rfl rfl rfl fun C hC => ?_
  repeat' first | refine g_go T hC true 400 rfl rfl ?_ | refine g_cond rfl (fun h => ?_) (fun h => ?_)
  exact g_fin ⟨.inl rfl, id, _, rfl, LeS.bq (by simp), trivial, rfl, rfl⟩
theorem slNaN_ok (s : Str) : FnOK Tryz.prog 157 [Sr s] [] (Bo false) [] := by
  refine fn_ok T Tryz.func157 (by kernel_rfl) rfl rfl rfl rfl fun C hC => ?_
  repeat' first | refine g_go T hC true 400 rfl rfl ?_ | refine g_cond rfl (fun h => ?_) (fun h => ?_)
  exact g_fin ⟨.inl rfl, id, _, rfl, LeS.bq (by simp), trivial, rfl, rfl⟩
def lessS (a b : Str) : Bool := Op.bytesLess a.toList b.toList
theorem less_ok (a b : Str) : FnOK Tryz.prog 156 [Sr a, Sr b] [] (.bq (lessS a b)) [] := by
  refine fn_ok T Tryz.func156 (by kernel_rfl) rfl rfl rfl rfl fun C hC => ?_
  repeat' first | refine g_go T hC true 400 rfl rfl ?_ | refine g_cond rfl (fun h => ?_) (fun h => ?_) | refine g_splitG rfl rfl rfl (fun h => ?_) (fun h => ?_) | refine g_splitP rfl rfl (fun h => ?_) (fun h => ?_) | refine g_call hC (cmpNaN_ok _) rfl rfl (LeSs.refl _) rfl rfl rfl ?_ | refine g_retq T (.inl rfl) rfl ?_ | refine g_retl T (.inl rfl) rfl ?_
  all_goals first | rfl | simp_all [lessS]

def Sorted (l : List Str) : Prop := ∀ (h k : Nat) (x y : Str), l[h]? = some x → l[k]? = some y → lessS x y = decide (h < k)
theorem bsearch_ok (l : List Str) (s : Str) (hs : Sorted l) (hl : l.length ≤ 1000) : FnOK Tryz.prog 136 [pS (strsP l), Sr s] [] (.tup [.un, .bq (l.any fun x => decide (x = s))]) [] := by
  refine fn_ok T Tryz.func136 (by kernel_rfl) rfl rfl rfl rfl fun C hC => ?_
  repeat' first | refine g_go T hC true 400 rfl rfl ?_ | refine g_cond rfl (fun h => ?_) (fun h => ?_) | refine g_splitG rfl rfl rfl (fun h => ?_) (fun h => ?_) | refine g_splitP rfl rfl (fun h => ?_) (fun h => ?_)
  rw [List.length_map]
  refine g_loop (fun p : Nat × Nat => p.1 ≤ p.2 ∧ p.2 ≤ l.length ∧ ∀ k, l[k]? = some s → p.1 ≤ k ∧ k ≤ p.2) (fun p => ([(0, pS (strsP l)), (1, Sr s), (6, I l.length), (7, I p.1), (8, I p.2)], [])) (fun p => p.2 - p.1) hC
    (0, l.length) ⟨Nat.zero_le _, Nat.le_refl _, fun k hk => ⟨Nat.zero_le _, Nat.le_of_lt (List.getElem?_eq_some_iff.1 hk).1⟩⟩ id ⟨rfl, ⟨rfl, rfl, rfl, rfl, rfl, trivial⟩, trivial, rfl, fun _ _ => rfl⟩ ?_
  rintro ⟨i, j⟩ ⟨hij, hj, hk⟩
  simp only at hij hj hk
  refine g_run' T hC true 200 rfl ?_
  refine g_cond rfl (fun h => ?_) (fun h => ?_)
  · have hlt : i < j := by simpa using h
    repeat' first | refine g_go T hC true 400 rfl rfl ?_ | refine g_cond rfl (fun h => ?_) (fun h => ?_) | refine g_splitG rfl rfl rfl (fun h => ?_) (fun h => ?_) | refine g_splitP rfl rfl (fun h => ?_) (fun h => ?_) | refine g_shr hC rfl rfl (by decide) (by decide) rfl rfl ?_
    have hm : IntKind.i64.wrap (IntKind.u64.wrap (IntKind.i64.wrap ((i : Int) + (j : Int))) / 2 ^ (1 : Int).toNat) = (((i + j) / 2 : Nat) : Int) := by
      have e1 : IntKind.i64.wrap ((i : Int) + (j : Int)) = (i : Int) + (j : Int) := wrap64 (by omega)
      rw [e1]
      have : IntKind.u64.wrap ((i : Int) + (j : Int)) = ((i + j : Nat) : Int) := by
        unfold IntKind.wrap
        simp [IntKind.bits, IntKind.signed]
        omega
      rw [this]
      rw [show ((i + j : Nat) : Int) / 2 ^ (1 : Int).toNat = (((i + j) / 2 : Nat) : Int) by
        rw [show (2 : Int) ^ (1 : Int).toNat = 2 by decide]; omega]
      exact wrap64 (by omega)
    simp only
    rw [hm]
    obtain ⟨x, hx⟩ := exists_at (l := l) (i := (i + j) / 2) (by omega)
    generalize hme : (i + j) / 2 = m at *
    repeat' first | refine g_go T hC true 400 rfl rfl ?_ | refine g_cond rfl (fun h => ?_) (fun h => ?_) | refine g_splitG rfl rfl rfl (fun h => ?_) (fun h => ?_) | refine g_splitP rfl rfl (fun h => ?_) (fun h => ?_) | refine g_idx T hC rfl rfl rfl (Int.natCast_nonneg _) (map_at (by assumption)) rfl rfl ?_ | refine g_call hC (less_ok _ _) rfl rfl (LeSs.refl _) rfl rfl rfl ?_
    · rw [wrapS (by omega)]
      refine g_round (m + 1, j) ⟨by simp only; omega, hj, fun k hk' => ?_⟩ id (by simp only; omega) ⟨rfl, ⟨rfl, rfl, rfl, rfl, rfl, trivial⟩, trivial, rfl, fun _ _ => rfl⟩
      have := hs m k x s hx hk'
      rw [h] at this
      have := of_decide_eq_true this.symm
      have := hk k hk'
      simp only; omega
    · refine g_round (i, m) ⟨by simp only; omega, by simp only; omega, fun k hk' => ?_⟩ id (by simp only; omega) ⟨rfl, ⟨rfl, rfl, rfl, rfl, rfl, trivial⟩, trivial, rfl, fun _ _ => rfl⟩
      have := hs m k x s hx hk'
      rw [h] at this
      have := of_decide_eq_false this.symm
      have := hk k hk'
      simp only; omega
  · have hge : i = j := by have := of_decide_eq_false h; simp only at this; omega
    subst hge
    clear h
    have found : ∀ (b : Bool), (b = true → ∃ x, l[i]? = some x ∧ x = s) → (b = false → ∀ x, l[i]? = some x → x ≠ s) → b = l.any fun x => decide (x = s) := fun b h1 h2 => by
      cases b with
      | true => obtain ⟨x, hx, rfl⟩ := h1 rfl; exact (any_yes hx (decide_eq_true rfl)).symm
      | false =>
        symm
        rw [List.any_eq_false]
        intro x hx
        obtain ⟨k, hk1⟩ := List.mem_iff_getElem?.1 hx
        simp only [decide_eq_true_eq]
        rintro rfl
        have := hk k hk1
        obtain rfl : k = i := by omega
        exact h2 rfl x hk1 rfl
    repeat' first | refine g_go T hC true 400 rfl rfl ?_ | refine g_cond rfl (fun h => ?_) (fun h => ?_) | refine g_splitG rfl rfl rfl (fun h => ?_) (fun h => ?_) | refine g_splitP rfl rfl (fun h => ?_) (fun h => ?_) | refine g_outE ?_ | refine g_call hC (slNaN_ok _) rfl rfl (LeSs.refl _) rfl rfl rfl ?_ | refine g_idx T hC rfl rfl rfl (Int.natCast_nonneg _) (map_at (by assumption)) rfl rfl ?_ | (obtain ⟨x, hx⟩ := exists_at (l := l) (i := i) (by have := of_decide_eq_true h; simp only at this; omega); refine g_idx T hC rfl rfl rfl (Int.natCast_nonneg _) (map_at hx) rfl rfl ?_)
    · exact g_fin ⟨.inl rfl, id, _, rfl, LeS.tup (.cons (LeS.un _) (.cons (LeS.qb (found true (fun _ => ⟨x, hx, of_decide_eq_true h⟩) (fun e => by cases e))) .nil)), trivial, rfl, rfl⟩
    · exact g_fin ⟨.inl rfl, id, _, rfl, LeS.tup (.cons (LeS.un _) (.cons (LeS.qb (found false (fun e => by cases e) (fun _ y hy => by rw [hx] at hy; simp only [Option.some.injEq] at hy; subst hy; exact of_decide_eq_false h))) .nil)), trivial, rfl, rfl⟩
    · have h' := of_decide_eq_false h
      simp only at h'
      exact g_fin ⟨.inl rfl, id, _, rfl, LeS.tup (.cons (LeS.un _) (.cons (LeS.qb (found false (fun e => by cases e) (fun _ y hy => by have := (List.getElem?_eq_some_iff.1 hy).1; omega))) .nil)), trivial, rfl, rfl⟩

def sortedKw : List Str := [(⟨#[97, 110, 100]⟩ : ByteArray), (⟨#[98, 111, 111, 108]⟩ : ByteArray), (⟨#[98, 111, 117, 110, 100]⟩ : ByteArray), (⟨#[100, 101, 115, 99]⟩ : ByteArray), (⟨#[101, 108, 115, 101]⟩ : ByteArray), (⟨#[102, 97, 108, 115, 101]⟩ : ByteArray), (⟨#[105, 102]⟩ : ByteArray), (⟨#[105, 110, 116]⟩ : ByteArray), (⟨#[105, 110, 118, 97, 114, 105, 97, 110, 116]⟩ : ByteArray), (⟨#[108, 111, 99, 97, 108]⟩ : ByteArray), (⟨#[108, 111, 103]⟩ : ByteArray), (⟨#[109, 97, 120]⟩ : ByteArray), (⟨#[109, 101, 97, 115, 117, 114, 101]⟩ : ByteArray), (⟨#[109, 105, 110]⟩ : ByteArray), (⟨#[110, 101, 119]⟩ : ByteArray), (⟨#[110, 105, 108]⟩ : ByteArray), (⟨#[110, 111, 116]⟩ : ByteArray), (⟨#[111, 112]⟩ : ByteArray), (⟨#[111, 114]⟩ : ByteArray), (⟨#[112, 111, 116, 101, 110, 116, 105, 97, 108]⟩ : ByteArray), (⟨#[112, 114, 111, 99]⟩ : ByteArray), (⟨#[114, 101, 116, 117, 114, 110]⟩ : ByteArray), (⟨#[114, 117, 108, 101]⟩ : ByteArray), (⟨#[115, 99, 114, 105, 112, 116]⟩ : ByteArray), (⟨#[115, 111, 114, 116]⟩ : ByteArray), (⟨#[115, 112, 101, 99]⟩ : ByteArray), (⟨#[116, 104, 105, 115]⟩ : ByteArray), (⟨#[116, 114, 117, 101]⟩ : ByteArray), (⟨#[116, 121, 112, 101]⟩ : ByteArray), (⟨#[118, 97, 114]⟩ : ByteArray), (⟨#[119, 104, 105, 108, 101]⟩ : ByteArray)]
def sortedB (l : List Str) : Bool := (List.range l.length).all fun h => (List.range l.length).all fun k => match l[h]?, l[k]? with
  | some x, some y => lessS x y == decide (h < k)
  | _, _ => true
theorem sorted_of {l : List Str} (h : sortedB l = true) : Sorted l := fun a b x y ha hb => by
  simp only [sortedB, List.all_eq_true, List.mem_range] at h
  have := h a (List.getElem?_eq_some_iff.1 ha).1 b (List.getElem?_eq_some_iff.1 hb).1
  rw [ha, hb] at this
  simpa using this
theorem kwSorted : sortedB sortedKw = true := by kernel_rfl
theorem kwSame (s : Str) : (sortedKw.any fun x => decide (x = s)) = isKeyword s := by
  have h1 : (sortedKw.all fun x => keywords.any fun y => decide (y = x)) = true := by kernel_rfl
  have h2 : (keywords.all fun x => sortedKw.any fun y => decide (y = x)) = true := by kernel_rfl
  rw [Bool.eq_iff_iff]
  simp only [isKeyword, List.any_eq_true, List.all_eq_true, decide_eq_true_eq] at h1 h2 ⊢
  constructor
  · rintro ⟨x, hx, rfl⟩; obtain ⟨y, hy, rfl⟩ := h1 x hx; exact ⟨y, hy, rfl⟩
  · rintro ⟨x, hx, rfl⟩; obtain ⟨y, hy, rfl⟩ := h2 x hx; exact ⟨y, hy, rfl⟩

def kwText : Str := (⟨#[97, 110, 100, 32, 98, 111, 111, 108, 32, 98, 111, 117, 110, 100, 32, 100, 101, 115, 99, 32, 101, 108, 115, 101, 32, 102, 97, 108, 115, 101, 32, 105, 102, 32, 105, 110, 116, 32, 105, 110, 118, 97, 114, 105, 97, 110, 116, 32, 108, 111, 99, 97, 108, 32, 108, 111, 103, 32, 109, 97, 120, 32, 109, 101, 97, 115, 117, 114, 101, 32, 109, 105, 110, 32, 110, 101, 119, 32, 110, 105, 108, 32, 110, 111, 116, 32, 111, 112, 32, 111, 114, 32, 112, 111, 116, 101, 110, 116, 105, 97, 108, 32, 112, 114, 111, 99, 32, 114, 101, 116, 117, 114, 110, 32, 114, 117, 108, 101, 32, 115, 99, 114, 105, 112, 116, 32, 115, 111, 114, 116, 32, 115, 112, 101, 99, 32, 116, 104, 105, 115, 32, 116, 114, 117, 101, 32, 116, 121, 112, 101, 32, 118, 97, 114, 32, 119, 104, 105, 108, 101]⟩ : ByteArray)
theorem kwFields : (Lib.fields kwText.data.toList).map (fun l => (⟨l.toArray⟩ : ByteArray)) = sortedKw := by kernel_rfl
theorem kwAscii : (kwText.data.toList.all fun b => decide (b.toNat < 128)) = true := by kernel_rfl
theorem fields_call (w : World) (hw : GOn w) : Calls Tryz.prog 158 #[.string kwText] w fun e w' => e = .returned (.slice (some ⟨w.heap.size, 0, none⟩) sortedKw.length sortedKw.length) ∧ w' = w.alloc (.cells (sortedKw.map Value.string).toArray 9) := by
  have h := Any.strings_Fields_core lays157 (by kernel_rfl) kwText w (of_decide_eq_true (by kernel_rfl)) (fun j b hb => by
      have := List.all_eq_true.1 kwAscii b (List.mem_of_getElem? hb)
      exact of_decide_eq_true this) (fun c hc => hw _ _ _ (by
      show G0 0 c = _
      simp [G0, hc]))
  refine h.mono fun e w' ⟨he, hw'⟩ => ?_
  have hl : (Lib.fields kwText.data.toList).length = sortedKw.length := by rw [← kwFields, List.length_map]
  have hc : ((Lib.fields kwText.data.toList).map fun l => Value.string ⟨l.toArray⟩) = sortedKw.map Value.string := by rw [← kwFields, List.map_map]; rfl
  rw [hl] at he
  rw [hc] at hw'
  exact ⟨he, hw'⟩
theorem fields_ok' : FnOK Tryz.prog 158 [Sr kwText] [] (pS (strsP sortedKw)) [] :=
  fn_strs ⟨_, Tryz.func158, by kernel_rfl, by kernel_rfl⟩ (by decide) fields_call
theorem kw_ok : FnOK Tryz.prog 137 [] [] (pS (strsP sortedKw)) [] := by
  refine fn_ok T Tryz.func137 (by kernel_rfl) rfl rfl rfl rfl fun C hC => ?_
  repeat' first | refine g_go T hC true 400 rfl rfl ?_ | refine g_cond rfl (fun h => ?_) (fun h => ?_) | refine g_call hC (fields_ok') rfl rfl (LeSs.refl _) rfl rfl rfl ?_
  exact g_fin ⟨.inl rfl, id, _, rfl, .refl _, trivial, rfl, rfl⟩
theorem lexKeyword_ok (s : Str) : FnOK Tryz.prog 94 [Sr s] [] (.bq (isKeyword s)) [] := by
  refine fn_ok T Tryz.func94 (by kernel_rfl) rfl rfl rfl rfl fun C hC => ?_
  repeat' first | refine g_go T hC true 400 rfl rfl ?_ | refine g_cond rfl (fun h => ?_) (fun h => ?_) | refine g_call hC (kw_ok) rfl rfl (LeSs.refl _) rfl rfl rfl ?_ | refine g_call hC (bsearch_ok sortedKw s (sorted_of kwSorted) (by decide)) rfl rfl (LeSs.refl _) rfl rfl rfl ?_ | refine g_retq T (.inl rfl) rfl ?_ | refine g_retl T (.inl rfl) rfl ?_
  exact kwSame s
theorem lexName_ok (s : Str) : FnOK Tryz.prog 69 [Sr s] [] (.bq (isName s)) [] := by
  refine fn_ok T Tryz.func69 (by kernel_rfl) rfl rfl rfl rfl fun C hC => ?_
  have hbl := bytes_len s
  have e0 : decide (s = (⟨#[]⟩ : ByteArray)) = decide (s.size = 0) := by
    obtain ⟨⟨l⟩⟩ := s
    cases l with
    | nil => rfl
    | cons a l => exact (decide_eq_false (by intro h; cases h)).trans (decide_eq_false (by simp [ByteArray.size])).symm
  repeat' first | refine g_go T hC true 400 rfl rfl ?_ | refine g_cond rfl (fun h => ?_) (fun h => ?_) | refine g_splitG rfl rfl rfl (fun h => ?_) (fun h => ?_) | refine g_splitP rfl rfl (fun h => ?_) (fun h => ?_)
  · repeat' first | refine g_go T hC true 400 rfl rfl ?_ | refine g_cond rfl (fun h => ?_) (fun h => ?_) | refine g_splitG rfl rfl rfl (fun h => ?_) (fun h => ?_) | refine g_splitP rfl rfl (fun h => ?_) (fun h => ?_) | refine g_retl T (.inl rfl) rfl ?_
    rw [e0] at h
    simp only [isName, h, Bool.not_true, Bool.false_and]
  · repeat' first | refine g_go T hC true 400 rfl rfl ?_ | refine g_cond rfl (fun h => ?_) (fun h => ?_) | refine g_splitG rfl rfl rfl (fun h => ?_) (fun h => ?_) | refine g_splitP rfl rfl (fun h => ?_) (fun h => ?_) | refine g_retl T (.inl rfl) rfl ?_
    have h1 : 40 < s.size := by have := of_decide_eq_true h; omega
    simp [isName, h1]
  · rename_i h0
    rw [e0] at h0
    have hs : 0 < (bytes s).length := by have := of_decide_eq_false h0; omega
    obtain ⟨c, hc⟩ := exists_at hs
    obtain ⟨b, hb, rfl⟩ := bytes_at hc
    have hlen : s.size ≤ 40 := by have := of_decide_eq_false h; omega
    have hnm : isName s = (isLetter (b.toNat : Int) && ((bytes s).all isWord && !isKeyword s)) := by
      cases hbs : bytes s with
      | nil => rw [hbs] at hs; simp at hs
      | cons c cs =>
        have hc' := hc
        rw [hbs] at hc'; simp only [List.getElem?_cons_zero, Option.some.injEq] at hc'
        have e1 : ¬ s.size = 0 := by rw [hbl] at hs; omega
        have e2 : ¬ 40 < s.size := by omega
        simp only [isName, hbs, hc', e1, e2, decide_false, Bool.not_false, Bool.true_and, Bool.and_assoc]
    clear h h0
    refine g_idxS T hC rfl rfl rfl (Int.le_refl _) hb rfl rfl ?_
    repeat' first | refine g_go T hC true 400 rfl rfl ?_ | refine g_cond rfl (fun h => ?_) (fun h => ?_) | refine g_splitG rfl rfl rfl (fun h => ?_) (fun h => ?_) | refine g_splitP rfl rfl (fun h => ?_) (fun h => ?_) | refine g_call hC (class_ok _) rfl rfl (LeSs.refl _) rfl rfl rfl ?_ | refine g_call hC (lexKeyword_ok _) rfl rfl (LeSs.refl _) rfl rfl rfl ?_ | refine g_retl T (.inl rfl) rfl ?_
    · rw [class_letter] at h
      have hl : isLetter (b.toNat : Int) = false := by simpa using h
      rw [hnm, hl]; rfl
    · rw [hnm, h]; simp
    · rename_i h1
      rw [class_letter] at h1
      have hl : isLetter (b.toNat : Int) = true := by simpa using h1
      have hnm2 : isName s = (bytes s).all isWord := by rw [hnm, hl, h]; simp
      refine g_loop (fun i : Nat => i ≤ s.size ∧ ((bytes s).take i).all isWord = true) (fun i => ([(0, Sr s), (22, I s.size), (23, I i)], [])) (fun i => s.size - i) hC
        0 ⟨Nat.zero_le _, by simp⟩ id ⟨rfl, ⟨rfl, rfl, rfl, trivial⟩, trivial, rfl, fun _ _ => rfl⟩ ?_
      rintro i ⟨hi, hn⟩
      refine g_run' T hC true 200 rfl ?_
      refine g_cond rfl (fun h => ?_) (fun h => ?_)
      · have hlt : i < (bytes s).length := by rw [hbl]; have := of_decide_eq_true h; omega
        obtain ⟨c, hx⟩ := exists_at hlt
        obtain ⟨b, hb, rfl⟩ := bytes_at hx
        repeat' first | refine g_go T hC true 400 rfl rfl ?_ | refine g_cond rfl (fun h => ?_) (fun h => ?_) | refine g_splitG rfl rfl rfl (fun h => ?_) (fun h => ?_) | refine g_splitP rfl rfl (fun h => ?_) (fun h => ?_) | refine g_idxS T hC rfl rfl rfl (Int.natCast_nonneg _) (by assumption) rfl rfl ?_ | refine g_call hC (class_ok _) rfl rfl (LeSs.refl _) rfl rfl rfl ?_ | refine g_outR ?_ | refine g_retl T (.inl rfl) rfl ?_
        · rw [class_word] at h
          have hw : isWord (b.toNat : Int) = false := by simpa using h
          rw [hnm2, all_no hx hw]
        · rw [class_word] at h
          have hw : isWord (b.toNat : Int) = true := by simpa using h
          rw [wrapS (by omega)]
          refine g_round (i + 1) ⟨by omega, ?_⟩ id (by omega) ⟨rfl, ⟨rfl, rfl, rfl, trivial⟩, trivial, rfl, fun _ _ => rfl⟩
          rw [all_take hx, hn, hw]; rfl
      · have hge : s.size ≤ i := by have := of_decide_eq_false h; omega
        repeat' first | refine g_go T hC true 400 rfl rfl ?_ | refine g_cond rfl (fun h => ?_) (fun h => ?_) | refine g_splitG rfl rfl rfl (fun h => ?_) (fun h => ?_) | refine g_splitP rfl rfl (fun h => ?_) (fun h => ?_) | refine g_outE ?_ | refine g_retl T (.inl rfl) rfl ?_
        rw [hnm2, all_end (by rw [hbl]; exact hge) hn]
end Hw.Pa
namespace Hw.Pa
open Go Go.Proofs Hw.M

structure Tok where
  k : Int
  t : Str
  n : Int
  ln : Int
  cl : Int
  deriving DecidableEq
def tokR (t : Tok) : List PV := [ki t.k, ks t.t, ki t.n, ki t.ln, ki t.cl]
def toksP (l : List Tok) : PV := .sl 5 (l.map tokR)
abbrev By := List UInt8
def strOf (l : By) : Str := ⟨l.toArray⟩
def lst (s : Str) : By := s.data.toList
theorem str_lst (s : Str) : strOf (lst s) = s := by cases s; simp [strOf, lst]
theorem lst_str (l : By) : lst (strOf l) = l := by simp [strOf, lst]
theorem lst_len (s : Str) : (lst s).length = s.size := by simp only [lst, Array.length_toList]; rfl
def wB (b : UInt8) : Bool := isWord b.toNat
def dB (b : UInt8) : Bool := isDigit b.toNat
def blB (b : UInt8) : Bool := decide (classS b.toNat = 1)
def numV : By → Int → Int
  | [], a => a
  | b :: r, a => numV r (a * 10 + ((b.toNat : Int) - 48))
def numOk (w : By) : Bool := !decide (w = []) && !(decide (1 < w.length) && decide (w.head? = some 48)) && w.all dB && decide (numV w 0 ≤ 1099511627776)
def clsT (w : By) : Option (Int × Str × Int) := if isKeyword (strOf w) = true then some (3, strOf w, 0) else if isName (strOf w) = true then some (1, strOf w, 0) else if numOk w = true then some (2, (⟨#[]⟩ : ByteArray), numV w 0) else none
def syms : List Str := [(⟨#[61, 61]⟩ : ByteArray), (⟨#[33, 61]⟩ : ByteArray), (⟨#[60, 61]⟩ : ByteArray), (⟨#[45, 62]⟩ : ByteArray), (⟨#[40]⟩ : ByteArray), (⟨#[41]⟩ : ByteArray), ⟨#[123]⟩, ⟨#[125]⟩, (⟨#[91]⟩ : ByteArray), (⟨#[93]⟩ : ByteArray), (⟨#[44]⟩ : ByteArray), (⟨#[59]⟩ : ByteArray), (⟨#[58]⟩ : ByteArray), (⟨#[46]⟩ : ByteArray), (⟨#[61]⟩ : ByteArray), (⟨#[60]⟩ : ByteArray), (⟨#[43]⟩ : ByteArray), (⟨#[45]⟩ : ByteArray), (⟨#[42]⟩ : ByteArray), (⟨#[47]⟩ : ByteArray), (⟨#[37]⟩ : ByteArray)]
def symL (l : By) : Option Str := syms.find? fun y => (lst y).isPrefixOf l
def tk : By → Option (Nat × Option (Int × Str × Int))
  | [] => none
  | c :: r => if blB c = true then some (1, none)
    else if c = 35 then some (((c :: r).takeWhile fun b => decide (b ≠ 10)).length, none)
    else if wB c = true then (clsT ((c :: r).takeWhile wB)).map fun t => (((c :: r).takeWhile wB).length, some t)
    else (symL (c :: r)).map fun y => (y.size, some (4, y, 0))
def mv (p : Int × Int) (c : UInt8) : Int × Int := if c = 10 then (p.1 + 1, 1) else (p.1, p.2 + 1)
def tokAt (p : Int × Int) (t : Int × Str × Int) : Tok := ⟨t.1, t.2.1, t.2.2, p.1, p.2⟩
def lx : Nat → By → Int × Int → List Tok → List Tok × (Int × Int) × Int
  | 0, _, _, _ => ([], (0, 0), 0)
  | _ + 1, [], p, out => (out ++ [⟨5, (⟨#[]⟩ : ByteArray), 0, p.1, p.2⟩], (0, 0), 0)
  | f + 1, c :: r, p, out => match tk (c :: r) with
    | none => ([], p, 7)
    | some (n, o) => lx f ((c :: r).drop n) (((c :: r).take n).foldl mv p) (out ++ (o.map (tokAt p)).toList)
theorem takeWhile_len {p : UInt8 → Bool} : ∀ l : By, (l.takeWhile p).length ≤ l.length
  | [] => by simp
  | c :: r => by
    rw [List.takeWhile_cons]
    split
    · simp only [List.length_cons]; have := takeWhile_len (p := p) r; omega
    · simp
theorem isPrefix_len : ∀ {a l : By}, a.isPrefixOf l = true → a.length ≤ l.length
  | [], _, _ => by simp
  | _ :: _, [], h => by simp [List.isPrefixOf] at h
  | x :: a, y :: l, h => by
    simp only [List.isPrefixOf, Bool.and_eq_true] at h
    have := isPrefix_len h.2
    simp only [List.length_cons]; omega
theorem syms_size : ∀ y ∈ syms, 1 ≤ y.size ∧ y.size ≤ 2 := by decide
theorem sym_of {l : By} {y : Str} (h : symL l = some y) : y ∈ syms ∧ (lst y).isPrefixOf l = true := ⟨List.mem_of_find?_eq_some h, by have := List.find?_some h; exact this⟩
theorem tk_pos {l : By} {n : Nat} {o : Option (Int × Str × Int)} (h : tk l = some (n, o)) : 1 ≤ n ∧ n ≤ l.length := by
  cases l with
  | nil => cases h
  | cons c r =>
    simp only [tk] at h
    split at h
    · simp only [Option.some.injEq, Prod.mk.injEq] at h; obtain ⟨rfl, _⟩ := h; simp
    · split at h
      · rename_i hc
        simp only [Option.some.injEq, Prod.mk.injEq] at h
        obtain ⟨rfl, _⟩ := h
        refine ⟨?_, takeWhile_len _⟩
        rw [List.takeWhile_cons, if_pos (by rw [hc]; decide)]; simp
      · split at h
        · rename_i hw
          rw [Option.map_eq_some_iff] at h
          obtain ⟨t, _, h⟩ := h
          simp only [Prod.mk.injEq] at h
          obtain ⟨rfl, _⟩ := h
          refine ⟨?_, takeWhile_len _⟩
          rw [List.takeWhile_cons, if_pos hw]; simp
        · rw [Option.map_eq_some_iff] at h
          obtain ⟨y, hy, h⟩ := h
          simp only [Prod.mk.injEq] at h
          obtain ⟨rfl, _⟩ := h
          obtain ⟨h1, h2⟩ := sym_of hy
          refine ⟨(syms_size y h1).1, ?_⟩
          have := isPrefix_len h2
          rwa [lst_len] at this
theorem lx_two : ∀ (f g : Nat) (l : By) (p : Int × Int) (out : List Tok), l.length < f → l.length < g → lx f l p out = lx g l p out
  | 0, _, _, _, _, h, _ => by omega
  | _ + 1, 0, _, _, _, _, h => by omega
  | _ + 1, _ + 1, [], _, _, _, _ => rfl
  | f + 1, g + 1, c :: r, p, out, h, h' => by
    simp only [lx]
    cases e : tk (c :: r) with
    | none => rfl
    | some q =>
      obtain ⟨n, o⟩ := q
      have hp := tk_pos e
      simp only [List.length_cons] at h h' hp
      simp only
      have hl : ((c :: r).drop n).length = r.length + 1 - n := by rw [List.length_drop, List.length_cons]
      exact lx_two f g _ _ _ (by omega) (by omega)
theorem lx_more (f : Nat) (l : By) (p : Int × Int) (out : List Tok) (h : l.length < f) : lx f l p out = lx (l.length + 1) l p out := lx_two _ _ _ _ _ h (Nat.lt_succ_self _)
def lxx (l : By) (p : Int × Int) (out : List Tok) : List Tok × (Int × Int) × Int := lx (l.length + 1) l p out
theorem lxx_nil (p : Int × Int) (out : List Tok) : lxx [] p out = (out ++ [⟨5, (⟨#[]⟩ : ByteArray), 0, p.1, p.2⟩], (0, 0), 0) := rfl
theorem lxx_bad {c : UInt8} {r : By} (p : Int × Int) (out : List Tok) (h : tk (c :: r) = none) : lxx (c :: r) p out = ([], p, 7) := by
  unfold lxx; simp only [lx, h]
theorem lxx_step {l : By} {n : Nat} {o : Option (Int × Str × Int)} (p : Int × Int) (out : List Tok) (h : tk l = some (n, o)) : lxx l p out = lxx (l.drop n) ((l.take n).foldl mv p) (out ++ (o.map (tokAt p)).toList) := by
  cases l with
  | nil => cases h
  | cons c r =>
    have hp := tk_pos h
    unfold lxx
    simp only [lx, h]
    simp only [List.length_cons] at hp
    exact lx_more _ _ _ _ (by rw [List.length_drop, List.length_cons]; omega)
def tokensS (s : Str) : List Tok × (Int × Int) × Int := if 65536 < s.size then ([], (0, 0), 4) else lxx (lst s) (1, 1) []
theorem mv_line : ∀ (l : By) (p : Int × Int), (∀ b ∈ l, b ≠ 10) → l.foldl mv p = (p.1, p.2 + l.length)
  | [], p, _ => by simp
  | b :: r, p, h => by
    have hb : b ≠ 10 := h b (by simp)
    rw [List.foldl_cons, mv_line r _ fun x hx => h x (by simp [hx])]
    simp only [mv, if_neg hb, List.length_cons, Prod.mk.injEq, true_and]
    omega

def natV : By → Nat → Nat
  | [], a => a
  | b :: r, a => natV r (a * 10 + (b.toNat - 48))
theorem dB_iff {b : UInt8} : dB b = true ↔ 48 ≤ b.toNat ∧ b.toNat ≤ 57 := by
  unfold dB isDigit
  simp only [Bool.and_eq_true, decide_eq_true_eq]
  omega
theorem numV_nat : ∀ (l : By) (a : Nat), l.all dB = true → numV l a = (natV l a : Int)
  | [], a, _ => rfl
  | b :: r, a, h => by
    simp only [List.all_cons, Bool.and_eq_true] at h
    have hb := dB_iff.1 h.1
    have e : ((a : Int) * 10 + ((b.toNat : Int) - 48)) = ((a * 10 + (b.toNat - 48) : Nat) : Int) := by omega
    simp only [numV, natV]
    rw [e]
    exact numV_nat r _ h.2
theorem natV_ge : ∀ (l : By) (a : Nat), a ≤ natV l a
  | [], a => Nat.le_refl a
  | b :: r, a => by
    have := natV_ge r (a * 10 + (b.toNat - 48))
    simp only [natV]; omega
theorem parse_digits : ∀ (l : By) (acc : Nat), l.all dB = true → acc < 18446744073709551616 → Lib.parseUint10 acc l = if natV l acc < 18446744073709551616 then .ok (natV l acc) else .range
  | [], acc, _, ha => by
    show Lib.NumEnd.ok acc = if acc < _ then _ else _
    rw [if_pos ha]; rfl
  | c :: r, acc, h, ha => by
    simp only [List.all_cons, Bool.and_eq_true] at h
    have hc := dB_iff.1 h.1
    have hg := natV_ge r (acc * 10 + (c.toNat - 48))
    simp only [Lib.parseUint10, natV, if_pos hc]
    by_cases h1 : 1844674407370955162 ≤ acc
    · rw [if_pos h1]; exact (if_neg (by omega)).symm
    · rw [if_neg h1]
      by_cases h2 : 18446744073709551616 ≤ acc * 10 + (c.toNat - 48)
      · rw [if_pos h2]; exact (if_neg (by omega)).symm
      · rw [if_neg h2]
        exact parse_digits r _ h.2 (by omega)
theorem atoi_digits {w : By} (hne : w ≠ []) (hd : w.all dB = true) : Lib.atoiAll w = if numV w 0 ≤ 9223372036854775807 then .ok (numV w 0) else .range := by
  cases w with
  | nil => exact absurd rfl hne
  | cons c r =>
    have hc := dB_iff.1 (by simp only [List.all_cons, Bool.and_eq_true] at hd; exact hd.1)
    rw [Lib.atoiAll_plain c r (by omega) (by omega), Lib.parseMag, if_neg (by simp), parse_digits _ _ hd (by omega)]
    have hn := numV_nat (c :: r) 0 hd
    rw [show ((0 : Nat) : Int) = 0 from rfl] at hn
    by_cases h1 : natV (c :: r) 0 < 18446744073709551616
    · rw [if_pos h1]
      simp only [Lib.signless]
      by_cases h2 : 9223372036854775808 ≤ natV (c :: r) 0
      · rw [if_pos h2, if_neg (by omega)]
      · rw [if_neg h2, if_pos (by omega), hn]
    · rw [if_neg h1, if_neg (by omega)]
      rfl
def intN (w : By) : Int := if numV w 0 ≤ 9223372036854775807 then numV w 0 else 9223372036854775807
end Hw.Pa
namespace Hw.Pa
open Go Go.Proofs Hw.M

inductive PA (α : Type) where
  | ok (x : α) (i : Nat)
  | no (i : Nat)
  | out
def PA.bind {α β : Type} (r : PA α) (f : α → Nat → PA β) : PA β := match r with
  | .ok x i => f x i
  | .no i => .no i
  | .out => .out
section
variable (l : List Tok)
def isA (i : Nat) (s : Str) : Bool := match l[i]? with
  | some t => (decide (t.k = 3) || decide (t.k = 4)) && decide (t.t = s)
  | none => false
def oneA (s : Str) (i : Nat) : PA Unit := if isA l i s = true then .ok () (i + 1) else .no i
def nameA (i : Nat) : PA Str := match l[i]? with
  | some t => if t.k = 1 then .ok t.t (i + 1) else .no i
  | none => .no i
def intA (i : Nat) : PA Int := match l[i]? with
  | some t => if t.k = 2 then .ok t.n (i + 1) else .no i
  | none => .no i
def typA (i : Nat) : PA Str := if isA l i (⟨#[105, 110, 116]⟩ : ByteArray) = true then .ok (⟨#[105, 110, 116]⟩ : ByteArray) (i + 1) else if isA l i (⟨#[98, 111, 111, 108]⟩ : ByteArray) = true then .ok (⟨#[98, 111, 111, 108]⟩ : ByteArray) (i + 1) else nameA l i
def fieldA (i : Nat) : PA Fld := (nameA l i).bind fun n i => (typA l i).bind fun t i => .ok ⟨n, t⟩ i
def listA {α : Type} (sep fin : Str) (one : Nat → PA α) : Nat → Nat → List α → PA (List α)
  | 0, _, _ => .out
  | f + 1, i, acc => if isA l i fin = true then .ok acc (i + 1)
    else (if acc.length = 0 then PA.ok () i else oneA l sep i).bind fun _ i => (one i).bind fun x i => listA sep fin one f i (acc ++ [x])
def opsA (n : Nat) : List (Str × Int) := match n with
  | 0 => [((⟨#[111, 114]⟩ : ByteArray), 20)]
  | 1 => [((⟨#[97, 110, 100]⟩ : ByteArray), 19)]
  | 3 => [((⟨#[61, 61]⟩ : ByteArray), 14), ((⟨#[33, 61]⟩ : ByteArray), 15), ((⟨#[60, 61]⟩ : ByteArray), 17), ((⟨#[60]⟩ : ByteArray), 16)]
  | 4 => [((⟨#[43]⟩ : ByteArray), 9), ((⟨#[45]⟩ : ByteArray), 10)]
  | 5 => [((⟨#[42]⟩ : ByteArray), 11), ((⟨#[47]⟩ : ByteArray), 12), ((⟨#[37]⟩ : ByteArray), 13)]
  | _ => []
def opA (i n : Nat) : Option Int := ((opsA n).find? fun p => isA l i p.1).map (·.2)
mutual
def exprA : Nat → Nat → Nat → PA Ex
  | 0, _, _ => .out
  | f + 1, n, i =>
    if n = 2 then if isA l i (⟨#[110, 111, 116]⟩ : ByteArray) = true then (exprA f 2 (i + 1)).bind fun x i => .ok (.mk 18 0 (⟨#[]⟩ : ByteArray) [x]) i else exprA f 3 i
    else if n = 6 then if isA l i (⟨#[45]⟩ : ByteArray) = true then (exprA f 6 (i + 1)).bind fun x i => .ok (.mk 8 0 (⟨#[]⟩ : ByteArray) [x]) i else postA f i
    else (exprA f (n + 1) i).bind fun x i => moreA f n x i
def moreA : Nat → Nat → Ex → Nat → PA Ex
  | 0, _, _, _ => .out
  | f + 1, n, x, i => match opA l i n with
    | none => .ok x i
    | some op => (exprA f (n + 1) (i + 1)).bind fun y i => if n = 3 then .ok (.mk op 0 (⟨#[]⟩ : ByteArray) [x, y]) i else moreA f n (.mk op 0 (⟨#[]⟩ : ByteArray) [x, y]) i
def postA : Nat → Nat → PA Ex
  | 0, _ => .out
  | f + 1, i => (primA f i).bind fun x i => dotsA f x i
def dotsA : Nat → Ex → Nat → PA Ex
  | 0, _, _ => .out
  | f + 1, x, i => if isA l i (⟨#[46]⟩ : ByteArray) = true then (nameA l (i + 1)).bind fun s i => dotsA f (.mk 5 0 s [x]) i else .ok x i
def argsP : Nat → Nat → List Ex → PA (List Ex)
  | 0, _, _ => .out
  | f + 1, i, acc => if isA l i (⟨#[41]⟩ : ByteArray) = true then .ok acc (i + 1)
    else (if acc.length = 0 then PA.ok () i else oneA l (⟨#[44]⟩ : ByteArray) i).bind fun _ i => (exprA f 0 i).bind fun x i => argsP f i (acc ++ [x])
def partsA : Nat → Nat → Nat → List Ex → PA (List Ex)
  | 0, _, _, _ => .out
  | f + 1, k, i, acc => if k = 0 then (oneA l (⟨#[41]⟩ : ByteArray) i).bind fun _ i => .ok acc i
    else (oneA l (if acc.length = 0 then (⟨#[40]⟩ : ByteArray) else (⟨#[44]⟩ : ByteArray)) i).bind fun _ i => (exprA f 0 i).bind fun x i => partsA f (k - 1) i (acc ++ [x])
def primA : Nat → Nat → PA Ex
  | 0, _ => .out
  | f + 1, i => match l[i]? with
    | none => .no i
    | some t =>
      if t.k = 2 then .ok (.mk 1 t.n (⟨#[]⟩ : ByteArray) []) (i + 1)
      else if t.k = 1 then if isA l (i + 1) (⟨#[40]⟩ : ByteArray) = true then (argsP f (i + 2) []).bind fun a i => .ok (.mk 7 0 t.t a) i else .ok (.mk 4 0 t.t []) (i + 1)
      else if isA l i (⟨#[116, 114, 117, 101]⟩ : ByteArray) = true then .ok (.mk 2 1 (⟨#[]⟩ : ByteArray) []) (i + 1)
      else if isA l i (⟨#[102, 97, 108, 115, 101]⟩ : ByteArray) = true then .ok (.mk 2 0 (⟨#[]⟩ : ByteArray) []) (i + 1)
      else if isA l i (⟨#[110, 105, 108]⟩ : ByteArray) = true then .ok (.mk 3 0 (⟨#[]⟩ : ByteArray) []) (i + 1)
      else if isA l i (⟨#[116, 104, 105, 115]⟩ : ByteArray) = true then .ok (.mk 4 0 (⟨#[116, 104, 105, 115]⟩ : ByteArray) []) (i + 1)
      else if isA l i (⟨#[110, 101, 119]⟩ : ByteArray) = true then (nameA l (i + 1)).bind fun s i => .ok (.mk 6 0 s []) i
      else if isA l i (⟨#[105, 102]⟩ : ByteArray) = true then (partsA f 3 (i + 1) []).bind fun a i => .ok (.mk 21 0 (⟨#[]⟩ : ByteArray) a) i
      else if isA l i (⟨#[109, 97, 120]⟩ : ByteArray) = true then (partsA f 2 (i + 1) []).bind fun a i => .ok (.mk 22 0 (⟨#[]⟩ : ByteArray) a) i
      else if isA l i (⟨#[109, 105, 110]⟩ : ByteArray) = true then (partsA f 2 (i + 1) []).bind fun a i => .ok (.mk 23 0 (⟨#[]⟩ : ByteArray) a) i
      else if isA l i (⟨#[108, 111, 103]⟩ : ByteArray) = true then (partsA f 1 (i + 1) []).bind fun a i => .ok (.mk 24 0 (⟨#[]⟩ : ByteArray) a) i
      else if isA l i (⟨#[40]⟩ : ByteArray) = true then (exprA f 0 (i + 1)).bind fun x i => (oneA l (⟨#[41]⟩ : ByteArray) i).bind fun _ i => .ok x i
      else .no i
end
mutual
def stmtsA : Nat → Nat → List Sm → PA (List Sm)
  | 0, _, _ => .out
  | f + 1, i, acc => if isA l i ⟨#[125]⟩ = true then .ok acc (i + 1) else (stmtA f i).bind fun s i => stmtsA f i (acc ++ [s])
def blockA : Nat → Nat → PA (List Sm)
  | 0, _ => .out
  | f + 1, i => (oneA l ⟨#[123]⟩ i).bind fun _ i => stmtsA f i []
def stmtA : Nat → Nat → PA Sm
  | 0, _ => .out
  | f + 1, i =>
    if isA l i (⟨#[105, 102]⟩ : ByteArray) = true then (exprA l f 0 (i + 1)).bind fun x i => (blockA f i).bind fun a i =>
      if isA l i (⟨#[101, 108, 115, 101]⟩ : ByteArray) = true then (blockA f (i + 1)).bind fun b i => .ok (.mk 3 (⟨#[]⟩ : ByteArray) [x] a b) i else .ok (.mk 3 (⟨#[]⟩ : ByteArray) [x] a []) i
    else if isA l i (⟨#[119, 104, 105, 108, 101]⟩ : ByteArray) = true then (exprA l f 0 (i + 1)).bind fun x i => (blockA f i).bind fun a i => .ok (.mk 4 (⟨#[]⟩ : ByteArray) [x] a []) i
    else if isA l i (⟨#[114, 101, 116, 117, 114, 110]⟩ : ByteArray) = true then
      if isA l (i + 1) (⟨#[59]⟩ : ByteArray) = true then .ok (.mk 5 (⟨#[]⟩ : ByteArray) [] [] []) (i + 2)
      else (exprA l f 0 (i + 1)).bind fun x i => (oneA l (⟨#[59]⟩ : ByteArray) i).bind fun _ i => .ok (.mk 5 (⟨#[]⟩ : ByteArray) [x] [] []) i
    else (postA l f i).bind fun x i =>
      if isA l i (⟨#[61]⟩ : ByteArray) = true ∧ x.op = 4 ∧ x.s ≠ (⟨#[116, 104, 105, 115]⟩ : ByteArray) then (exprA l f 0 (i + 1)).bind fun y i => (oneA l (⟨#[59]⟩ : ByteArray) i).bind fun _ i => .ok (.mk 1 x.s [y] [] []) i
      else if isA l i (⟨#[61]⟩ : ByteArray) = true ∧ x.op = 5 then (exprA l f 0 (i + 1)).bind fun y i => (oneA l (⟨#[59]⟩ : ByteArray) i).bind fun _ i => .ok (.mk 2 x.s (x.l.take 1 ++ [y]) [] []) i
      else if x.op = 7 then (oneA l (⟨#[59]⟩ : ByteArray) i).bind fun _ i => .ok (.mk 6 (⟨#[]⟩ : ByteArray) [x] [] []) i
      else .no i
end
def locsA : Nat → Nat → List Fld → PA (List Fld)
  | 0, _, _ => .out
  | f + 1, i, acc => if isA l i (⟨#[108, 111, 99, 97, 108]⟩ : ByteArray) = true then (fieldA l (i + 1)).bind fun x i => (oneA l (⟨#[59]⟩ : ByteArray) i).bind fun _ i => locsA f i (acc ++ [x]) else .ok acc i
def procA (f i : Nat) : PA Pr := (nameA l i).bind fun n i => (oneA l (⟨#[40]⟩ : ByteArray) i).bind fun _ i => (listA l (⟨#[44]⟩ : ByteArray) (⟨#[41]⟩ : ByteArray) (fieldA l) f i []).bind fun ps i =>
  (if isA l i ⟨#[123]⟩ = true then PA.ok (⟨#[]⟩ : ByteArray) i else typA l i).bind fun r i => (oneA l ⟨#[123]⟩ i).bind fun _ i => (locsA l f i []).bind fun ls i =>
  (stmtsA l f i []).bind fun b i => .ok ⟨n, ps, r, ls, b⟩ i
def formulaA (f i : Nat) : PA Ex := (oneA l (⟨#[61]⟩ : ByteArray) i).bind fun _ i => exprA l f 0 i
def measureA (f i : Nat) : PA Ms := (nameA l i).bind fun n i => (oneA l (⟨#[40]⟩ : ByteArray) i).bind fun _ i => (nameA l i).bind fun t i => (oneA l (⟨#[41]⟩ : ByteArray) i).bind fun _ i => (oneA l (⟨#[110, 105, 108]⟩ : ByteArray) i).bind fun _ i =>
  (intA l (if isA l i (⟨#[45]⟩ : ByteArray) = true then i + 1 else i)).bind fun z i' => (formulaA l f i').bind fun x j => .ok ⟨n, t, if isA l i (⟨#[45]⟩ : ByteArray) = true then -z else z, x⟩ j
def itemA (f i : Nat) (d : Desc) : PA Desc :=
  if isA l i (⟨#[116, 121, 112, 101]⟩ : ByteArray) = true then (nameA l (i + 1)).bind fun n i => (oneA l ⟨#[123]⟩ i).bind fun _ i => (listA l (⟨#[59]⟩ : ByteArray) ⟨#[125]⟩ (fieldA l) f i []).bind fun fs i => .ok { d with types := d.types ++ [⟨n, fs⟩] } i
  else if isA l i (⟨#[118, 97, 114]⟩ : ByteArray) = true then (fieldA l (i + 1)).bind fun x i => .ok { d with globals := d.globals ++ [x] } i
  else if isA l i (⟨#[112, 114, 111, 99]⟩ : ByteArray) = true then (procA l f (i + 1)).bind fun p i => .ok { d with procs := d.procs ++ [p] } i
  else if isA l i (⟨#[109, 101, 97, 115, 117, 114, 101]⟩ : ByteArray) = true then (measureA l f (i + 1)).bind fun m i => .ok { d with measures := d.measures ++ [m] } i
  else if isA l i (⟨#[105, 110, 118, 97, 114, 105, 97, 110, 116]⟩ : ByteArray) = true then (nameA l (i + 1)).bind fun n i =>
    (if isA l i (⟨#[40]⟩ : ByteArray) = true then (nameA l (i + 1)).bind fun t i => (oneA l (⟨#[41]⟩ : ByteArray) i).bind fun _ i => .ok t i else PA.ok (⟨#[]⟩ : ByteArray) i).bind fun t i => (formulaA l f i).bind fun x i => .ok { d with invs := d.invs ++ [⟨n, t, x⟩] } i
  else if isA l i (⟨#[112, 111, 116, 101, 110, 116, 105, 97, 108]⟩ : ByteArray) = true then (if isA l (i + 1) (⟨#[61]⟩ : ByteArray) = true then PA.ok (⟨#[]⟩ : ByteArray) (i + 1) else nameA l (i + 1)).bind fun t i => (formulaA l f i).bind fun x i => .ok { d with pots := d.pots ++ [⟨t, x⟩] } i
  else if isA l i (⟨#[98, 111, 117, 110, 100]⟩ : ByteArray) = true then (nameA l (i + 1)).bind fun n i => (formulaA l f i).bind fun x i => .ok { d with bounds := d.bounds ++ [⟨n, x⟩] } i
  else .no i
def itemsA (f : Nat) : Nat → Nat → Desc → PA Desc
  | 0, _, _ => .out
  | g + 1, i, d => if isA l i ⟨#[125]⟩ = true then .ok d (i + 1) else (itemA l f i d).bind fun d i => itemsA f g i d
def descA (f : Nat) : PA Desc := (oneA l (⟨#[100, 101, 115, 99]⟩ : ByteArray) 0).bind fun _ i => (nameA l i).bind fun n i => (oneA l ⟨#[123]⟩ i).bind fun _ i => itemsA l f f i ⟨n, [], [], [], [], [], [], []⟩
end
end Hw.Pa
namespace Hw.Pa
open Go Go.Proofs Hw.M

theorem bind_ok {α β : Type} {r : PA α} {f : α → Nat → PA β} {x : β} {j : Nat} (h : r.bind f = .ok x j) : ∃ y k, r = .ok y k ∧ f y k = .ok x j := by
  cases r with
  | ok y k => exact ⟨y, k, rfl, h⟩
  | no k => cases h
  | out => cases h
theorem ite_ok {α : Type} {c : Prop} [Decidable c] {a b : PA α} {x : α} {j : Nat} (h : (if c then a else b) = .ok x j) : (c ∧ a = .ok x j) ∨ (¬c ∧ b = .ok x j) := by
  by_cases hc : c
  · rw [if_pos hc] at h; exact .inl ⟨hc, h⟩
  · rw [if_neg hc] at h; exact .inr ⟨hc, h⟩
section
variable {l : List Tok}
theorem one_fwd {s : Str} {i j : Nat} {u : Unit} (h : oneA l s i = .ok u j) : j = i + 1 ∧ isA l i s = true := by
  unfold oneA at h
  split at h
  · rename_i h1; cases h; exact ⟨rfl, h1⟩
  · cases h
theorem isA_lt {i : Nat} {s : Str} (h : isA l i s = true) : i < l.length := by
  unfold isA at h
  split at h
  · rename_i t ht; exact (List.getElem?_eq_some_iff.1 ht).1
  · cases h
theorem name_lt {i j : Nat} {s : Str} (h : nameA l i = .ok s j) : i < l.length := by
  unfold nameA at h
  split at h
  · rename_i t ht; exact (List.getElem?_eq_some_iff.1 ht).1
  · cases h
theorem name_fwd {i j : Nat} {s : Str} (h : nameA l i = .ok s j) : j = i + 1 := by
  unfold nameA at h
  split at h
  · split at h
    · cases h; rfl
    · cases h
  · cases h
theorem typ_fwd {i j : Nat} {s : Str} (h : typA l i = .ok s j) : j = i + 1 := by
  unfold typA at h
  split at h
  · cases h; rfl
  · split at h
    · cases h; rfl
    · exact name_fwd h
theorem field_fwd {i j : Nat} {x : Fld} (h : fieldA l i = .ok x j) : i < j := by
  unfold fieldA at h
  obtain ⟨n, k, h1, h⟩ := bind_ok h
  obtain ⟨t, k2, h2, h⟩ := bind_ok h
  have e1 := name_fwd h1
  have e2 := typ_fwd h2
  cases h
  omega
theorem sep_fwd {s : Str} {i j : Nat} {u : Unit} {n : Nat} (h : (if n = 0 then PA.ok () i else oneA l s i) = .ok u j) : i ≤ j := by
  split at h
  · cases h; exact Nat.le_refl _
  · have := (one_fwd h).1; omega
theorem expr_fwd : ∀ f : Nat, (∀ n i x j, exprA l f n i = .ok x j → i < j ∧ i < l.length) ∧ (∀ n y i x j, moreA l f n y i = .ok x j → i ≤ j) ∧ (∀ i x j, postA l f i = .ok x j → i < j ∧ i < l.length) ∧ (∀ y i x j, dotsA l f y i = .ok x j → i ≤ j) ∧
    (∀ i a x j, argsP l f i a = .ok x j → i < j) ∧ (∀ k i a x j, partsA l f k i a = .ok x j → i < j) ∧ (∀ i x j, primA l f i = .ok x j → i < j ∧ i < l.length) := by
  intro f
  induction f with
  | zero =>
    refine ⟨fun n i x j h => ?_, fun n y i x j h => ?_, fun i x j h => ?_, fun y i x j h => ?_, fun i a x j h => ?_, fun k i a x j h => ?_, fun i x j h => ?_⟩
    all_goals simp only [exprA, moreA, postA, dotsA, argsP, partsA, primA, reduceCtorEq] at h
  | succ f ih =>
    obtain ⟨iE, iM, iP, iD, iA, iK, iR⟩ := ih
    refine ⟨fun n i x j h => ?_, fun n y i x j h => ?_, fun i x j h => ?_, fun y i x j h => ?_, fun i a x j h => ?_, fun k i a x j h => ?_, fun i x j h => ?_⟩
    · unfold exprA at h
      split at h
      · split at h
        · rename_i hi
          obtain ⟨y, k, h1, h⟩ := bind_ok h
          have := iE _ _ _ _ h1
          have := isA_lt hi
          cases h; omega
        · exact iE _ _ _ _ h
      · split at h
        · split at h
          · rename_i hi
            obtain ⟨y, k, h1, h⟩ := bind_ok h
            have := iE _ _ _ _ h1
            have := isA_lt hi
            cases h; omega
          · exact iP _ _ _ h
        · obtain ⟨y, k, h1, h⟩ := bind_ok h
          have := iE _ _ _ _ h1
          have := iM _ _ _ _ _ h
          omega
    · unfold moreA at h
      split at h
      · cases h; exact Nat.le_refl _
      · obtain ⟨z, k, h1, h⟩ := bind_ok h
        have := iE _ _ _ _ h1
        split at h
        · cases h; omega
        · have := iM _ _ _ _ _ h
          omega
    · unfold postA at h
      obtain ⟨y, k, h1, h⟩ := bind_ok h
      have := iR _ _ _ h1
      have := iD _ _ _ _ h
      omega
    · unfold dotsA at h
      split at h
      · obtain ⟨s, k, h1, h⟩ := bind_ok h
        have := name_fwd h1
        have := iD _ _ _ _ h
        omega
      · cases h; exact Nat.le_refl _
    · unfold argsP at h
      split at h
      · cases h; omega
      · obtain ⟨u, k, h1, h⟩ := bind_ok h
        obtain ⟨y, k2, h2, h⟩ := bind_ok h
        have := sep_fwd h1
        have := iE _ _ _ _ h2
        have := iA _ _ _ _ h
        omega
    · unfold partsA at h
      split at h
      · obtain ⟨u, k, h1, h⟩ := bind_ok h
        have := (one_fwd h1).1
        cases h; omega
      · obtain ⟨u, k, h1, h⟩ := bind_ok h
        obtain ⟨y, k2, h2, h⟩ := bind_ok h
        have := (one_fwd h1).1
        have := iE _ _ _ _ h2
        have := iK _ _ _ _ _ h
        omega
    · unfold primA at h
      cases hl : l[i]? with
      | none => rw [hl] at h; cases h
      | some t =>
      have hL := (List.getElem?_eq_some_iff.1 hl).1
      rw [hl] at h
      simp only at h
      rcases ite_ok h with ⟨_, h⟩ | ⟨_, h⟩
      · cases h; omega
      rcases ite_ok h with ⟨_, h⟩ | ⟨_, h⟩
      · rcases ite_ok h with ⟨_, h⟩ | ⟨_, h⟩
        · obtain ⟨a, k, h1, h⟩ := bind_ok h; have := iA _ _ _ _ h1; cases h; omega
        · cases h; omega
      rcases ite_ok h with ⟨_, h⟩ | ⟨_, h⟩
      · cases h; omega
      rcases ite_ok h with ⟨_, h⟩ | ⟨_, h⟩
      · cases h; omega
      rcases ite_ok h with ⟨_, h⟩ | ⟨_, h⟩
      · cases h; omega
      rcases ite_ok h with ⟨_, h⟩ | ⟨_, h⟩
      · cases h; omega
      rcases ite_ok h with ⟨_, h⟩ | ⟨_, h⟩
      · obtain ⟨a, k, h1, h⟩ := bind_ok h; have := name_fwd h1; cases h; omega
      rcases ite_ok h with ⟨_, h⟩ | ⟨_, h⟩
      · obtain ⟨a, k, h1, h⟩ := bind_ok h; have := iK _ _ _ _ _ h1; cases h; omega
      rcases ite_ok h with ⟨_, h⟩ | ⟨_, h⟩
      · obtain ⟨a, k, h1, h⟩ := bind_ok h; have := iK _ _ _ _ _ h1; cases h; omega
      rcases ite_ok h with ⟨_, h⟩ | ⟨_, h⟩
      · obtain ⟨a, k, h1, h⟩ := bind_ok h; have := iK _ _ _ _ _ h1; cases h; omega
      rcases ite_ok h with ⟨_, h⟩ | ⟨_, h⟩
      · obtain ⟨a, k, h1, h⟩ := bind_ok h; have := iK _ _ _ _ _ h1; cases h; omega
      rcases ite_ok h with ⟨_, h⟩ | ⟨_, h⟩
      · obtain ⟨a, k, h1, h⟩ := bind_ok h; have := iE _ _ _ _ h1; obtain ⟨u, k2, h2, h⟩ := bind_ok h; have := (one_fwd h2).1; cases h; omega
      · cases h
theorem bind_out {α β : Type} {r : PA α} {f : α → Nat → PA β} (h1 : r ≠ .out) (h2 : ∀ y k, r = .ok y k → f y k ≠ .out) : r.bind f ≠ .out := by
  cases r with
  | ok y k => exact h2 y k rfl
  | no k => intro h; cases h
  | out => exact absurd rfl h1
theorem ite_out {α : Type} {c : Prop} [Decidable c] {a b : PA α} (h1 : c → a ≠ .out) (h2 : ¬c → b ≠ .out) : (if c then a else b) ≠ .out := by
  by_cases hc : c
  · rw [if_pos hc]; exact h1 hc
  · rw [if_neg hc]; exact h2 hc
theorem one_out (s : Str) (i : Nat) : oneA l s i ≠ .out := by unfold oneA; split <;> intro h <;> cases h
theorem name_out (i : Nat) : nameA l i ≠ .out := by
  unfold nameA; split
  · split <;> intro h <;> cases h
  · intro h; cases h
theorem sep_out {i n : Nat} {s : Str} : (if n = 0 then PA.ok () i else oneA l s i) ≠ .out := by
  split
  · intro h; cases h
  · exact one_out _ _
theorem expr_fuel : ∀ f : Nat, (∀ n i, n ≤ 6 → 10 * (l.length - i) + 13 - n ≤ f → exprA l f n i ≠ .out) ∧ (∀ n y i, n ≤ 5 → 10 * (l.length - i) + 4 ≤ f → moreA l f n y i ≠ .out) ∧ (∀ i, 10 * (l.length - i) + 6 ≤ f → postA l f i ≠ .out) ∧ (∀ y i, 10 * (l.length - i) + 1 ≤ f → dotsA l f y i ≠ .out) ∧
    (∀ i a, 10 * (l.length - i) + 14 ≤ f → argsP l f i a ≠ .out) ∧ (∀ k i a, 10 * (l.length - i) + 4 ≤ f → partsA l f k i a ≠ .out) ∧ (∀ i, 10 * (l.length - i) + 5 ≤ f → primA l f i ≠ .out) := by
  intro f
  induction f with
  | zero => exact ⟨fun n i h1 h => by omega, fun n y i _ h => by omega, fun i h => by omega, fun y i h => by omega, fun i a h => by omega, fun k i a h => by omega, fun i h => by omega⟩
  | succ f ih =>
    obtain ⟨iE, iM, iP, iD, iA, iK, iR⟩ := ih
    obtain ⟨fE, fM, fP, fD, fA, fK, fR⟩ := expr_fwd (l := l) f
    have ok_out : ∀ {α : Type} (x : α) (j : Nat), PA.ok x j ≠ .out := fun _ _ h => by cases h
    refine ⟨fun n i h1 h => ?_, fun n y i h1 h => ?_, fun i h => ?_, fun y i h => ?_, fun i a h => ?_, fun k i a h => ?_, fun i h => ?_⟩
    · unfold exprA
      split
      · split
        · rename_i hn hi
          have := isA_lt hi
          exact bind_out (iE _ _ (by omega) (by omega)) fun _ _ _ => ok_out _ _
        · exact iE _ _ (by omega) (by omega)
      · split
        · split
          · rename_i hn hi
            have := isA_lt hi
            exact bind_out (iE _ _ (by omega) (by omega)) fun _ _ _ => ok_out _ _
          · exact iP _ (by omega)
        · exact bind_out (iE _ _ (by omega) (by omega)) fun y k hk => iM _ _ _ (by omega) (by have := fE _ _ _ _ hk; omega)
    · unfold moreA
      split
      · exact ok_out _ _
      · rename_i op ho
        have hi : i < l.length := by
          unfold opA at ho
          cases hf : (opsA n).find? (fun p => isA l i p.1) with
          | none => rw [hf] at ho; cases ho
          | some p =>
            have hh : isA l i p.1 = true := List.find?_some (p := fun p : Str × Int => isA l i p.1) hf
            exact isA_lt hh
        refine bind_out (iE _ _ (by omega) (by omega)) fun y k hk => ?_
        split
        · exact ok_out _ _
        · exact iM _ _ _ h1 (by have := fE _ _ _ _ hk; omega)
    · unfold postA
      exact bind_out (iR _ (by omega)) fun y k hk => iD _ _ (by have := fR _ _ _ hk; omega)
    · unfold dotsA
      split
      · rename_i hi
        have := isA_lt hi
        exact bind_out (name_out _) fun s k hk => iD _ _ (by have := name_fwd hk; omega)
      · exact ok_out _ _
    · unfold argsP
      split
      · exact ok_out _ _
      · refine bind_out sep_out fun u k hk => bind_out (iE _ _ (by omega) (by have := sep_fwd hk; omega)) fun y k2 hk2 => iA _ _ ?_
        have := sep_fwd hk
        have := fE _ _ _ _ hk2
        omega
    · unfold partsA
      split
      · exact bind_out (one_out _ _) fun _ _ _ => ok_out _ _
      · refine bind_out (one_out _ _) fun u k hk => bind_out (iE _ _ (by omega) ?_) fun y k2 hk2 => iK _ _ _ ?_
        · have := one_fwd hk
          have := isA_lt this.2
          omega
        · have := one_fwd hk
          have := isA_lt this.2
          have := fE _ _ _ _ hk2
          omega
    · unfold primA
      cases hl : l[i]? with
      | none => intro h; cases h
      | some t =>
      have hL := (List.getElem?_eq_some_iff.1 hl).1
      show (if t.k = 2 then _ else _) ≠ PA.out
      refine ite_out (fun _ => ok_out _ _) fun _ => ?_
      refine ite_out (fun _ => ite_out (fun hi => ?_) fun _ => ok_out _ _) fun _ => ?_
      · have := isA_lt hi
        exact bind_out (iA _ _ (by omega)) fun _ _ _ => ok_out _ _
      refine ite_out (fun _ => ok_out _ _) fun _ => ?_
      refine ite_out (fun _ => ok_out _ _) fun _ => ?_
      refine ite_out (fun _ => ok_out _ _) fun _ => ?_
      refine ite_out (fun _ => ok_out _ _) fun _ => ?_
      refine ite_out (fun _ => bind_out (name_out _) fun _ _ _ => ok_out _ _) fun _ => ?_
      refine ite_out (fun _ => bind_out (iK _ _ _ (by omega)) fun _ _ _ => ok_out _ _) fun _ => ?_
      refine ite_out (fun _ => bind_out (iK _ _ _ (by omega)) fun _ _ _ => ok_out _ _) fun _ => ?_
      refine ite_out (fun _ => bind_out (iK _ _ _ (by omega)) fun _ _ _ => ok_out _ _) fun _ => ?_
      refine ite_out (fun _ => bind_out (iK _ _ _ (by omega)) fun _ _ _ => ok_out _ _) fun _ => ?_
      refine ite_out (fun _ => bind_out (iE _ _ (by omega) (by omega)) fun _ _ _ => bind_out (one_out _ _) fun _ _ _ => ok_out _ _) fun _ => ?_
      intro h; cases h
end
end Hw.Pa
namespace Hw.Pa
open Go Go.Proofs Hw.M

section
variable {l : List Tok}
theorem stmt_fwd : ∀ f : Nat, (∀ i a x j, stmtsA l f i a = .ok x j → i < j) ∧ (∀ i x j, blockA l f i = .ok x j → i < j) ∧ (∀ i x j, stmtA l f i = .ok x j → i < j ∧ i < l.length) := by
  intro f
  induction f with
  | zero =>
    refine ⟨fun i a x j h => ?_, fun i x j h => ?_, fun i x j h => ?_⟩
    all_goals simp only [stmtsA, blockA, stmtA, reduceCtorEq] at h
  | succ f ih =>
    obtain ⟨iT, iB, iS⟩ := ih
    obtain ⟨fE, fM, fP, fD, fA, fK, fR⟩ := expr_fwd (l := l) f
    refine ⟨fun i a x j h => ?_, fun i x j h => ?_, fun i x j h => ?_⟩
    · unfold stmtsA at h
      rcases ite_ok h with ⟨_, h⟩ | ⟨_, h⟩
      · cases h; omega
      · obtain ⟨s, k, h1, h⟩ := bind_ok h
        have := iS _ _ _ h1
        have := iT _ _ _ _ h
        omega
    · unfold blockA at h
      obtain ⟨u, k, h1, h⟩ := bind_ok h
      have := one_fwd h1
      have := iT _ _ _ _ h
      omega
    · unfold stmtA at h
      rcases ite_ok h with ⟨hi, h⟩ | ⟨_, h⟩
      · have := isA_lt hi
        obtain ⟨y, k, h1, h⟩ := bind_ok h
        obtain ⟨b, k2, h2, h⟩ := bind_ok h
        have := fE _ _ _ _ h1
        have := iB _ _ _ h2
        rcases ite_ok h with ⟨_, h⟩ | ⟨_, h⟩
        · obtain ⟨b2, k3, h3, h⟩ := bind_ok h
          have := iB _ _ _ h3
          cases h; omega
        · cases h; omega
      rcases ite_ok h with ⟨hi, h⟩ | ⟨_, h⟩
      · have := isA_lt hi
        obtain ⟨y, k, h1, h⟩ := bind_ok h
        obtain ⟨b, k2, h2, h⟩ := bind_ok h
        have := fE _ _ _ _ h1
        have := iB _ _ _ h2
        cases h; omega
      rcases ite_ok h with ⟨hi, h⟩ | ⟨_, h⟩
      · have := isA_lt hi
        rcases ite_ok h with ⟨_, h⟩ | ⟨_, h⟩
        · cases h; omega
        · obtain ⟨y, k, h1, h⟩ := bind_ok h
          obtain ⟨b, k2, h2, h⟩ := bind_ok h
          have := fE _ _ _ _ h1
          have := one_fwd h2
          cases h; omega
      obtain ⟨y, k, h1, h⟩ := bind_ok h
      have := fP _ _ _ h1
      rcases ite_ok h with ⟨_, h⟩ | ⟨_, h⟩
      · obtain ⟨z, k1, h2, h⟩ := bind_ok h
        obtain ⟨b, k2, h3, h⟩ := bind_ok h
        have := fE _ _ _ _ h2
        have := one_fwd h3
        cases h; omega
      rcases ite_ok h with ⟨_, h⟩ | ⟨_, h⟩
      · obtain ⟨z, k1, h2, h⟩ := bind_ok h
        obtain ⟨b, k2, h3, h⟩ := bind_ok h
        have := fE _ _ _ _ h2
        have := one_fwd h3
        cases h; omega
      rcases ite_ok h with ⟨_, h⟩ | ⟨_, h⟩
      · obtain ⟨b, k2, h3, h⟩ := bind_ok h
        have := one_fwd h3
        cases h; omega
      · cases h
theorem stmt_fuel : ∀ f : Nat, (∀ i a, 10 * (l.length - i) + 8 ≤ f → stmtsA l f i a ≠ .out) ∧ (∀ i, 10 * (l.length - i) + 1 ≤ f → blockA l f i ≠ .out) ∧ (∀ i, 10 * (l.length - i) + 7 ≤ f → stmtA l f i ≠ .out) := by
  intro f
  induction f with
  | zero => exact ⟨fun i a h => by omega, fun i h => by omega, fun i h => by omega⟩
  | succ f ih =>
    obtain ⟨iT, iB, iS⟩ := ih
    obtain ⟨gT, gB, gS⟩ := stmt_fwd (l := l) f
    obtain ⟨fE, fM, fP, fD, fA, fK, fR⟩ := expr_fwd (l := l) f
    obtain ⟨uE, uM, uP, uD, uA, uK, uR⟩ := expr_fuel (l := l) f
    have ok_out : ∀ {α : Type} (x : α) (j : Nat), PA.ok x j ≠ .out := fun _ _ h => by cases h
    refine ⟨fun i a h => ?_, fun i h => ?_, fun i h => ?_⟩
    · unfold stmtsA
      refine ite_out (fun _ => ok_out _ _) fun _ => bind_out (iS _ (by omega)) fun y k hk => iT _ _ ?_
      have := gS _ _ _ hk
      omega
    · unfold blockA
      refine bind_out (one_out _ _) fun u k hk => iT _ _ ?_
      have := one_fwd hk
      have := isA_lt this.2
      omega
    · unfold stmtA
      refine ite_out (fun hi => ?_) fun _ => ?_
      · have := isA_lt hi
        refine bind_out (uE _ _ (by omega) (by omega)) fun y k hk => ?_
        have := fE _ _ _ _ hk
        refine bind_out (iB _ (by omega)) fun b k2 hk2 => ite_out (fun _ => bind_out (iB _ ?_) fun _ _ _ => ok_out _ _) fun _ => ok_out _ _
        have := gB _ _ _ hk2
        omega
      refine ite_out (fun hi => ?_) fun _ => ?_
      · have := isA_lt hi
        refine bind_out (uE _ _ (by omega) (by omega)) fun y k hk => ?_
        have := fE _ _ _ _ hk
        exact bind_out (iB _ (by omega)) fun _ _ _ => ok_out _ _
      refine ite_out (fun hi => ?_) fun _ => ?_
      · have := isA_lt hi
        exact ite_out (fun _ => ok_out _ _) fun _ => bind_out (uE _ _ (by omega) (by omega)) fun _ _ _ => bind_out (one_out _ _) fun _ _ _ => ok_out _ _
      refine bind_out (uP _ (by omega)) fun y k hk => ?_
      have := fP _ _ _ hk
      refine ite_out (fun hc => ?_) fun _ => ite_out (fun hc => ?_) fun _ => ite_out (fun _ => bind_out (one_out _ _) fun _ _ _ => ok_out _ _) fun _ h => by cases h
      · have := isA_lt hc.1
        exact bind_out (uE _ _ (by omega) (by omega)) fun _ _ _ => bind_out (one_out _ _) fun _ _ _ => ok_out _ _
      · have := isA_lt hc.1
        exact bind_out (uE _ _ (by omega) (by omega)) fun _ _ _ => bind_out (one_out _ _) fun _ _ _ => ok_out _ _
end
end Hw.Pa
namespace Hw.Pa
open Go Go.Proofs Hw.M

section
variable {l : List Tok}
theorem ok_out {α : Type} (x : α) (j : Nat) : PA.ok x j ≠ .out := fun h => by cases h
theorem int_fwd {i j : Nat} {z : Int} (h : intA l i = .ok z j) : j = i + 1 := by
  unfold intA at h
  split at h
  · split at h
    · cases h; rfl
    · cases h
  · cases h
theorem int_out (i : Nat) : intA l i ≠ .out := by
  unfold intA; split
  · split <;> intro h <;> cases h
  · intro h; cases h
theorem typ_out (i : Nat) : typA l i ≠ .out := by
  unfold typA
  exact ite_out (fun _ => ok_out _ _) fun _ => ite_out (fun _ => ok_out _ _) fun _ => name_out _
theorem field_out (i : Nat) : fieldA l i ≠ .out := by
  unfold fieldA
  exact bind_out (name_out _) fun _ _ _ => bind_out (typ_out _) fun _ _ _ => ok_out _ _
theorem field_lt {i j : Nat} {x : Fld} (h : fieldA l i = .ok x j) : i < l.length := by
  unfold fieldA at h
  obtain ⟨n, k, h1, h⟩ := bind_ok h
  exact name_lt h1
theorem list_fwd {sep fin : Str} : ∀ (f i : Nat) (a x : List Fld) (j : Nat), listA l sep fin (fieldA l) f i a = .ok x j → i < j
  | 0, i, a, x, j, h => by simp only [listA, reduceCtorEq] at h
  | f + 1, i, a, x, j, h => by
    unfold listA at h
    rcases ite_ok h with ⟨_, h⟩ | ⟨_, h⟩
    · cases h; omega
    · obtain ⟨u, k, h1, h⟩ := bind_ok h
      obtain ⟨y, k2, h2, h⟩ := bind_ok h
      have := sep_fwd h1
      have := field_fwd h2
      have := list_fwd f _ _ _ _ h
      omega
theorem list_fuel {sep fin : Str} : ∀ (f i : Nat) (a : List Fld), (l.length - i) + 1 ≤ f → listA l sep fin (fieldA l) f i a ≠ .out
  | 0, i, a, h => by omega
  | f + 1, i, a, h => by
    unfold listA
    refine ite_out (fun _ => ok_out _ _) fun _ => bind_out sep_out fun u k hk => bind_out (field_out _) fun y k2 hk2 => list_fuel f _ _ ?_
    have := sep_fwd hk
    have := field_fwd hk2
    have := field_lt hk2
    omega
theorem locs_fwd : ∀ (f i : Nat) (a x : List Fld) (j : Nat), locsA l f i a = .ok x j → i ≤ j
  | 0, i, a, x, j, h => by simp only [locsA, reduceCtorEq] at h
  | f + 1, i, a, x, j, h => by
    unfold locsA at h
    rcases ite_ok h with ⟨_, h⟩ | ⟨_, h⟩
    · obtain ⟨y, k, h1, h⟩ := bind_ok h
      obtain ⟨u, k2, h2, h⟩ := bind_ok h
      have := field_fwd h1
      have := one_fwd h2
      have := locs_fwd f _ _ _ _ h
      omega
    · cases h; exact Nat.le_refl _
theorem locs_fuel : ∀ (f i : Nat) (a : List Fld), (l.length - i) + 1 ≤ f → locsA l f i a ≠ .out
  | 0, i, a, h => by omega
  | f + 1, i, a, h => by
    unfold locsA
    refine ite_out (fun hi => bind_out (field_out _) fun y k hk => bind_out (one_out _ _) fun u k2 hk2 => locs_fuel f _ _ ?_) fun _ => ok_out _ _
    have := isA_lt hi
    have := field_fwd hk
    have := one_fwd hk2
    omega
theorem formula_fwd {f i j : Nat} {x : Ex} (h : formulaA l f i = .ok x j) : i < j := by
  unfold formulaA at h
  obtain ⟨u, k, h1, h⟩ := bind_ok h
  have := one_fwd h1
  have := (expr_fwd (l := l) f).1 _ _ _ _ h
  omega
theorem formula_out {f : Nat} (hf : 10 * l.length + 13 ≤ f) (i : Nat) : formulaA l f i ≠ .out := by
  unfold formulaA
  exact bind_out (one_out _ _) fun _ _ _ => (expr_fuel f).1 _ _ (by omega) (by omega)
theorem proc_fwd {f i j : Nat} {x : Pr} (h : procA l f i = .ok x j) : i < j := by
  unfold procA at h
  obtain ⟨n, k1, h1, h⟩ := bind_ok h
  obtain ⟨u, k2, h2, h⟩ := bind_ok h
  obtain ⟨ps, k3, h3, h⟩ := bind_ok h
  obtain ⟨r, k4, h4, h⟩ := bind_ok h
  obtain ⟨u2, k5, h5, h⟩ := bind_ok h
  obtain ⟨ls, k6, h6, h⟩ := bind_ok h
  obtain ⟨b, k7, h7, h⟩ := bind_ok h
  have := name_fwd h1
  have := one_fwd h2
  have := list_fwd _ _ _ _ _ h3
  have : k3 ≤ k4 := by
    rcases ite_ok h4 with ⟨_, h4⟩ | ⟨_, h4⟩
    · cases h4; exact Nat.le_refl _
    · have := typ_fwd h4; omega
  have := one_fwd h5
  have := locs_fwd _ _ _ _ _ h6
  have := (stmt_fwd (l := l) f).1 _ _ _ _ h7
  cases h; omega
theorem proc_out {f : Nat} (hf : 10 * l.length + 13 ≤ f) (i : Nat) : procA l f i ≠ .out := by
  unfold procA
  exact bind_out (name_out _) fun _ _ _ => bind_out (one_out _ _) fun _ _ _ => bind_out (list_fuel _ _ _ (by omega)) fun _ _ _ => bind_out (ite_out (fun _ => ok_out _ _) fun _ => typ_out _) fun _ _ _ =>
    bind_out (one_out _ _) fun _ _ _ => bind_out (locs_fuel _ _ _ (by omega)) fun _ _ _ => bind_out ((stmt_fuel f).1 _ _ (by omega)) fun _ _ _ => ok_out _ _
theorem measure_fwd {f i j : Nat} {x : Ms} (h : measureA l f i = .ok x j) : i < j := by
  unfold measureA at h
  obtain ⟨n, k1, h1, h⟩ := bind_ok h
  obtain ⟨u, k2, h2, h⟩ := bind_ok h
  obtain ⟨t, k3, h3, h⟩ := bind_ok h
  obtain ⟨u2, k4, h4, h⟩ := bind_ok h
  obtain ⟨u3, k5, h5, h⟩ := bind_ok h
  obtain ⟨z, k6, h6, h⟩ := bind_ok h
  obtain ⟨y, k7, h7, h⟩ := bind_ok h
  have := name_fwd h1
  have := one_fwd h2
  have := name_fwd h3
  have := one_fwd h4
  have := one_fwd h5
  have e6 := int_fwd h6
  have := formula_fwd h7
  have : k5 ≤ k6 := by rw [e6]; split <;> omega
  cases h; omega
theorem measure_out {f : Nat} (hf : 10 * l.length + 13 ≤ f) (i : Nat) : measureA l f i ≠ .out := by
  unfold measureA
  exact bind_out (name_out _) fun _ _ _ => bind_out (one_out _ _) fun _ _ _ => bind_out (name_out _) fun _ _ _ => bind_out (one_out _ _) fun _ _ _ => bind_out (one_out _ _) fun _ _ _ =>
    bind_out (int_out _) fun _ _ _ => bind_out (formula_out hf _) fun _ _ _ => ok_out _ _
end
end Hw.Pa
namespace Hw.Pa
open Go Go.Proofs Hw.M

section
variable {l : List Tok}
theorem inv_fwd {i j : Nat} {t : Str} (h : (if isA l i (⟨#[40]⟩ : ByteArray) = true then (nameA l (i + 1)).bind fun t i => (oneA l (⟨#[41]⟩ : ByteArray) i).bind fun _ i => .ok t i else PA.ok (⟨#[]⟩ : ByteArray) i) = .ok t j) : i ≤ j := by
  rcases ite_ok h with ⟨_, h⟩ | ⟨_, h⟩
  · obtain ⟨n, k1, h1, h⟩ := bind_ok h
    obtain ⟨u, k2, h2, h⟩ := bind_ok h
    have := name_fwd h1
    have := one_fwd h2
    cases h; omega
  · cases h; exact Nat.le_refl _
theorem inv_out (i : Nat) : (if isA l i (⟨#[40]⟩ : ByteArray) = true then (nameA l (i + 1)).bind fun t i => (oneA l (⟨#[41]⟩ : ByteArray) i).bind fun _ i => .ok t i else PA.ok (⟨#[]⟩ : ByteArray) i) ≠ .out :=
  ite_out (fun _ => bind_out (name_out _) fun _ _ _ => bind_out (one_out _ _) fun _ _ _ => ok_out _ _) fun _ => ok_out _ _
theorem item_fwd {f i j : Nat} {d x : Desc} (h : itemA l f i d = .ok x j) : i < j ∧ i < l.length := by
  unfold itemA at h
  rcases ite_ok h with ⟨hi, h⟩ | ⟨_, h⟩
  · have := isA_lt hi
    obtain ⟨n, k1, h1, h⟩ := bind_ok h
    obtain ⟨u, k2, h2, h⟩ := bind_ok h
    obtain ⟨fs, k3, h3, h⟩ := bind_ok h
    have := name_fwd h1
    have := one_fwd h2
    have := list_fwd _ _ _ _ _ h3
    cases h; omega
  rcases ite_ok h with ⟨hi, h⟩ | ⟨_, h⟩
  · have := isA_lt hi
    obtain ⟨n, k1, h1, h⟩ := bind_ok h
    have := field_fwd h1
    cases h; omega
  rcases ite_ok h with ⟨hi, h⟩ | ⟨_, h⟩
  · have := isA_lt hi
    obtain ⟨n, k1, h1, h⟩ := bind_ok h
    have := proc_fwd h1
    cases h; omega
  rcases ite_ok h with ⟨hi, h⟩ | ⟨_, h⟩
  · have := isA_lt hi
    obtain ⟨n, k1, h1, h⟩ := bind_ok h
    have := measure_fwd h1
    cases h; omega
  rcases ite_ok h with ⟨hi, h⟩ | ⟨_, h⟩
  · have := isA_lt hi
    obtain ⟨n, k1, h1, h⟩ := bind_ok h
    obtain ⟨t, k2, h2, h⟩ := bind_ok h
    obtain ⟨y, k3, h3, h⟩ := bind_ok h
    have := name_fwd h1
    have := inv_fwd h2
    have := formula_fwd h3
    cases h; omega
  rcases ite_ok h with ⟨hi, h⟩ | ⟨_, h⟩
  · have := isA_lt hi
    obtain ⟨t, k2, h2, h⟩ := bind_ok h
    obtain ⟨y, k3, h3, h⟩ := bind_ok h
    have : i + 1 ≤ k2 := by
      rcases ite_ok h2 with ⟨_, h2⟩ | ⟨_, h2⟩
      · cases h2; exact Nat.le_refl _
      · have := name_fwd h2; omega
    have := formula_fwd h3
    cases h; omega
  rcases ite_ok h with ⟨hi, h⟩ | ⟨_, h⟩
  · have := isA_lt hi
    obtain ⟨n, k1, h1, h⟩ := bind_ok h
    obtain ⟨y, k3, h3, h⟩ := bind_ok h
    have := name_fwd h1
    have := formula_fwd h3
    cases h; omega
  · cases h
theorem item_out {f : Nat} (hf : 10 * l.length + 13 ≤ f) (i : Nat) (d : Desc) : itemA l f i d ≠ .out := by
  unfold itemA
  refine ite_out (fun _ => bind_out (name_out _) fun _ _ _ => bind_out (one_out _ _) fun _ _ _ => bind_out (list_fuel _ _ _ (by omega)) fun _ _ _ => ok_out _ _) fun _ => ?_
  refine ite_out (fun _ => bind_out (field_out _) fun _ _ _ => ok_out _ _) fun _ => ?_
  refine ite_out (fun _ => bind_out (proc_out hf _) fun _ _ _ => ok_out _ _) fun _ => ?_
  refine ite_out (fun _ => bind_out (measure_out hf _) fun _ _ _ => ok_out _ _) fun _ => ?_
  refine ite_out (fun _ => bind_out (name_out _) fun _ _ _ => bind_out (inv_out _) fun _ _ _ => bind_out (formula_out hf _) fun _ _ _ => ok_out _ _) fun _ => ?_
  refine ite_out (fun _ => bind_out (ite_out (fun _ => ok_out _ _) fun _ => name_out _) fun _ _ _ => bind_out (formula_out hf _) fun _ _ _ => ok_out _ _) fun _ => ?_
  refine ite_out (fun _ => bind_out (name_out _) fun _ _ _ => bind_out (formula_out hf _) fun _ _ _ => ok_out _ _) fun _ => ?_
  intro h; cases h
theorem items_out {f : Nat} (hf : 10 * l.length + 13 ≤ f) : ∀ (g i : Nat) (d : Desc), (l.length - i) + 1 ≤ g → itemsA l f g i d ≠ .out
  | 0, i, d, h => by omega
  | g + 1, i, d, h => by
    unfold itemsA
    refine ite_out (fun _ => ok_out _ _) fun _ => bind_out (item_out hf _ _) fun y k hk => items_out hf g _ _ ?_
    have := item_fwd hk
    omega
theorem desc_out {f : Nat} (hf : 10 * l.length + 13 ≤ f) : descA l f ≠ .out := by
  unfold descA
  exact bind_out (one_out _ _) fun _ _ _ => bind_out (name_out _) fun _ _ _ => bind_out (one_out _ _) fun _ _ _ => items_out hf _ _ _ (by omega)
end
end Hw.Pa
namespace Hw.Pa
open Go Go.Proofs Hw.M

abbrev PJ (α : Type) := Option (α × Nat × Bool)
def PJ.ok {α : Type} (x : α) (i : Nat) : PJ α := some (x, i, false)
def PJ.no {α : Type} (x : α) (i : Nat) : PJ α := some (x, i, true)
def PJ.go {α β : Type} (r : PJ α) (f : α → Nat → PJ β) (g : α → β) : PJ β := match r with
  | none => none
  | some (x, i, false) => f x i
  | some (x, i, true) => some (g x, i, true)
def PJ.er {α : Type} (r : PJ α) : PA α := match r with
  | none => .out
  | some (x, i, false) => .ok x i
  | some (_, i, true) => .no i
theorem er_go {α β : Type} (r : PJ α) (f : α → Nat → PJ β) (g : α → β) : PJ.er (PJ.go r f g) = (PJ.er r).bind fun x i => PJ.er (f x i) := by
  rcases r with _ | ⟨x, i, _ | _⟩ <;> rfl
theorem er_ok {α : Type} (x : α) (i : Nat) : PJ.er (PJ.ok x i) = .ok x i := rfl
theorem er_no {α : Type} (x : α) (i : Nat) : PJ.er (PJ.no x i) = .no i := rfl
theorem er_ite {α : Type} {c : Prop} [Decidable c] (a b : PJ α) : PJ.er (if c then a else b) = if c then PJ.er a else PJ.er b := by split <;> rfl
abbrev E0 : Ex := .mk 0 0 (⟨#[]⟩ : ByteArray) []
section
variable (l : List Tok)
def oneJ (s : Str) (i : Nat) : PJ Unit := if isA l i s = true then .ok () (i + 1) else .no () i
def nameJ (i : Nat) : PJ Str := match l[i]? with
  | some t => if t.k = 1 then .ok t.t (i + 1) else .no (⟨#[]⟩ : ByteArray) i
  | none => .no (⟨#[]⟩ : ByteArray) i
def intJ (i : Nat) : PJ Int := match l[i]? with
  | some t => if t.k = 2 then .ok t.n (i + 1) else .no 0 i
  | none => .no 0 i
def typJ (i : Nat) : PJ Str := if isA l i (⟨#[105, 110, 116]⟩ : ByteArray) = true then .ok (⟨#[105, 110, 116]⟩ : ByteArray) (i + 1) else if isA l i (⟨#[98, 111, 111, 108]⟩ : ByteArray) = true then .ok (⟨#[98, 111, 111, 108]⟩ : ByteArray) (i + 1) else nameJ l i
def fieldJ (i : Nat) : PJ Fld := PJ.go (nameJ l i) (fun n i => PJ.go (typJ l i) (fun t i => PJ.ok ⟨n, t⟩ i) (fun t => ⟨n, t⟩)) (fun n => ⟨n, (⟨#[]⟩ : ByteArray)⟩)
def listJ {α : Type} (z : α) (sep fin : Str) (one : Nat → PJ α) : Nat → Nat → List α → PJ (List α)
  | 0, _, _ => none
  | f + 1, i, acc => if isA l i fin = true then .ok acc (i + 1)
    else PJ.go (if acc.length = 0 then PJ.ok () i else oneJ l sep i) (fun _ i => PJ.go (one i) (fun x i => listJ z sep fin one f i (acc ++ [x])) (fun x => acc ++ [x])) (fun _ => acc ++ [z])
mutual
def exprJ : Nat → Nat → Nat → PJ Ex
  | 0, _, _ => none
  | f + 1, n, i =>
    if n = 2 then if isA l i (⟨#[110, 111, 116]⟩ : ByteArray) = true then PJ.go (exprJ f 2 (i + 1)) (fun x i => .ok (.mk 18 0 (⟨#[]⟩ : ByteArray) [x]) i) (fun x => .mk 18 0 (⟨#[]⟩ : ByteArray) [x]) else exprJ f 3 i
    else if n = 6 then if isA l i (⟨#[45]⟩ : ByteArray) = true then PJ.go (exprJ f 6 (i + 1)) (fun x i => .ok (.mk 8 0 (⟨#[]⟩ : ByteArray) [x]) i) (fun x => .mk 8 0 (⟨#[]⟩ : ByteArray) [x]) else postJ f i
    else PJ.go (exprJ f (n + 1) i) (fun x i => moreJ f n x i) (fun x => x)
def moreJ : Nat → Nat → Ex → Nat → PJ Ex
  | 0, _, _, _ => none
  | f + 1, n, x, i => match opA l i n with
    | none => .ok x i
    | some op => PJ.go (exprJ f (n + 1) (i + 1)) (fun y i => if n = 3 then .ok (.mk op 0 (⟨#[]⟩ : ByteArray) [x, y]) i else moreJ f n (.mk op 0 (⟨#[]⟩ : ByteArray) [x, y]) i) (fun y => .mk op 0 (⟨#[]⟩ : ByteArray) [x, y])
def postJ : Nat → Nat → PJ Ex
  | 0, _ => none
  | f + 1, i => PJ.go (primJ f i) (fun x i => dotsJ f x i) (fun x => x)
def dotsJ : Nat → Ex → Nat → PJ Ex
  | 0, _, _ => none
  | f + 1, x, i => if isA l i (⟨#[46]⟩ : ByteArray) = true then PJ.go (nameJ l (i + 1)) (fun s i => dotsJ f (.mk 5 0 s [x]) i) (fun s => .mk 5 0 s [x]) else .ok x i
def argsJ : Nat → Nat → List Ex → PJ (List Ex)
  | 0, _, _ => none
  | f + 1, i, acc => if isA l i (⟨#[41]⟩ : ByteArray) = true then .ok acc (i + 1)
    else PJ.go (if acc.length = 0 then PJ.ok () i else oneJ l (⟨#[44]⟩ : ByteArray) i) (fun _ i => PJ.go (exprJ f 0 i) (fun x i => argsJ f i (acc ++ [x])) (fun x => acc ++ [x])) (fun _ => acc ++ [E0])
def partsJ : Nat → Nat → Nat → List Ex → PJ (List Ex)
  | 0, _, _, _ => none
  | f + 1, k, i, acc => if k = 0 then PJ.go (oneJ l (⟨#[41]⟩ : ByteArray) i) (fun _ i => .ok acc i) (fun _ => acc)
    else PJ.go (oneJ l (if acc.length = 0 then (⟨#[40]⟩ : ByteArray) else (⟨#[44]⟩ : ByteArray)) i) (fun _ i => PJ.go (exprJ f 0 i) (fun x i => partsJ f (k - 1) i (acc ++ [x])) (fun x => acc ++ [x] ++ List.replicate (k - 1) E0)) (fun _ => acc ++ List.replicate k E0)
def primJ : Nat → Nat → PJ Ex
  | 0, _ => none
  | f + 1, i => match l[i]? with
    | none => .no E0 i
    | some t =>
      if t.k = 2 then .ok (.mk 1 t.n (⟨#[]⟩ : ByteArray) []) (i + 1)
      else if t.k = 1 then if isA l (i + 1) (⟨#[40]⟩ : ByteArray) = true then PJ.go (argsJ f (i + 2) []) (fun a i => .ok (.mk 7 0 t.t a) i) (fun a => .mk 7 0 t.t a) else .ok (.mk 4 0 t.t []) (i + 1)
      else if isA l i (⟨#[116, 114, 117, 101]⟩ : ByteArray) = true then .ok (.mk 2 1 (⟨#[]⟩ : ByteArray) []) (i + 1)
      else if isA l i (⟨#[102, 97, 108, 115, 101]⟩ : ByteArray) = true then .ok (.mk 2 0 (⟨#[]⟩ : ByteArray) []) (i + 1)
      else if isA l i (⟨#[110, 105, 108]⟩ : ByteArray) = true then .ok (.mk 3 0 (⟨#[]⟩ : ByteArray) []) (i + 1)
      else if isA l i (⟨#[116, 104, 105, 115]⟩ : ByteArray) = true then .ok (.mk 4 0 (⟨#[116, 104, 105, 115]⟩ : ByteArray) []) (i + 1)
      else if isA l i (⟨#[110, 101, 119]⟩ : ByteArray) = true then PJ.go (nameJ l (i + 1)) (fun s i => .ok (.mk 6 0 s []) i) (fun s => .mk 6 0 s [])
      else if isA l i (⟨#[105, 102]⟩ : ByteArray) = true then PJ.go (partsJ f 3 (i + 1) []) (fun a i => .ok (.mk 21 0 (⟨#[]⟩ : ByteArray) a) i) (fun a => .mk 21 0 (⟨#[]⟩ : ByteArray) a)
      else if isA l i (⟨#[109, 97, 120]⟩ : ByteArray) = true then PJ.go (partsJ f 2 (i + 1) []) (fun a i => .ok (.mk 22 0 (⟨#[]⟩ : ByteArray) a) i) (fun a => .mk 22 0 (⟨#[]⟩ : ByteArray) a)
      else if isA l i (⟨#[109, 105, 110]⟩ : ByteArray) = true then PJ.go (partsJ f 2 (i + 1) []) (fun a i => .ok (.mk 23 0 (⟨#[]⟩ : ByteArray) a) i) (fun a => .mk 23 0 (⟨#[]⟩ : ByteArray) a)
      else if isA l i (⟨#[108, 111, 103]⟩ : ByteArray) = true then PJ.go (partsJ f 1 (i + 1) []) (fun a i => .ok (.mk 24 0 (⟨#[]⟩ : ByteArray) a) i) (fun a => .mk 24 0 (⟨#[]⟩ : ByteArray) a)
      else if isA l i (⟨#[40]⟩ : ByteArray) = true then PJ.go (exprJ f 0 (i + 1)) (fun x i => PJ.go (oneJ l (⟨#[41]⟩ : ByteArray) i) (fun _ i => .ok x i) (fun _ => x)) (fun x => x)
      else .no E0 i
end
mutual
def stmtsJ : Nat → Nat → List Sm → PJ (List Sm)
  | 0, _, _ => none
  | f + 1, i, acc => if isA l i ⟨#[125]⟩ = true then .ok acc (i + 1) else PJ.go (stmtJ f i) (fun s i => stmtsJ f i (acc ++ [s])) (fun s => acc ++ [s])
def blockJ : Nat → Nat → PJ (List Sm)
  | 0, _ => none
  | f + 1, i => PJ.go (oneJ l ⟨#[123]⟩ i) (fun _ i => stmtsJ f i []) (fun _ => [])
def stmtJ : Nat → Nat → PJ Sm
  | 0, _ => none
  | f + 1, i =>
    if isA l i (⟨#[105, 102]⟩ : ByteArray) = true then PJ.go (exprJ l f 0 (i + 1)) (fun x i => PJ.go (blockJ f i) (fun a i =>
      if isA l i (⟨#[101, 108, 115, 101]⟩ : ByteArray) = true then PJ.go (blockJ f (i + 1)) (fun b i => .ok (.mk 3 (⟨#[]⟩ : ByteArray) [x] a b) i) (fun b => .mk 3 (⟨#[]⟩ : ByteArray) [x] a b) else .ok (.mk 3 (⟨#[]⟩ : ByteArray) [x] a []) i) (fun a => .mk 3 (⟨#[]⟩ : ByteArray) [x] a [])) (fun x => .mk 3 (⟨#[]⟩ : ByteArray) [x] [] [])
    else if isA l i (⟨#[119, 104, 105, 108, 101]⟩ : ByteArray) = true then PJ.go (exprJ l f 0 (i + 1)) (fun x i => PJ.go (blockJ f i) (fun a i => .ok (.mk 4 (⟨#[]⟩ : ByteArray) [x] a []) i) (fun a => .mk 4 (⟨#[]⟩ : ByteArray) [x] a [])) (fun x => .mk 4 (⟨#[]⟩ : ByteArray) [x] [] [])
    else if isA l i (⟨#[114, 101, 116, 117, 114, 110]⟩ : ByteArray) = true then
      if isA l (i + 1) (⟨#[59]⟩ : ByteArray) = true then .ok (.mk 5 (⟨#[]⟩ : ByteArray) [] [] []) (i + 2)
      else PJ.go (exprJ l f 0 (i + 1)) (fun x i => PJ.go (oneJ l (⟨#[59]⟩ : ByteArray) i) (fun _ i => .ok (.mk 5 (⟨#[]⟩ : ByteArray) [x] [] []) i) (fun _ => .mk 5 (⟨#[]⟩ : ByteArray) [x] [] [])) (fun x => .mk 5 (⟨#[]⟩ : ByteArray) [x] [] [])
    else PJ.go (postJ l f i) (fun x i =>
      if isA l i (⟨#[61]⟩ : ByteArray) = true ∧ x.op = 4 ∧ x.s ≠ (⟨#[116, 104, 105, 115]⟩ : ByteArray) then PJ.go (exprJ l f 0 (i + 1)) (fun y i => PJ.go (oneJ l (⟨#[59]⟩ : ByteArray) i) (fun _ i => .ok (.mk 1 x.s [y] [] []) i) (fun _ => .mk 1 x.s [y] [] [])) (fun y => .mk 1 x.s [y] [] [])
      else if isA l i (⟨#[61]⟩ : ByteArray) = true ∧ x.op = 5 then PJ.go (exprJ l f 0 (i + 1)) (fun y i => PJ.go (oneJ l (⟨#[59]⟩ : ByteArray) i) (fun _ i => .ok (.mk 2 x.s (x.l.take 1 ++ [y]) [] []) i) (fun _ => .mk 2 x.s (x.l.take 1 ++ [y]) [] [])) (fun y => .mk 2 x.s (x.l.take 1 ++ [y]) [] [])
      else if x.op = 7 then PJ.go (oneJ l (⟨#[59]⟩ : ByteArray) i) (fun _ i => .ok (.mk 6 (⟨#[]⟩ : ByteArray) [x] [] []) i) (fun _ => .mk 6 (⟨#[]⟩ : ByteArray) [x] [] [])
      else .no (.mk 6 (⟨#[]⟩ : ByteArray) [x] [] []) i) (fun x => .mk 6 (⟨#[]⟩ : ByteArray) [x] [] [])
end
def locsJ : Nat → Nat → List Fld → PJ (List Fld)
  | 0, _, _ => none
  | f + 1, i, acc => if isA l i (⟨#[108, 111, 99, 97, 108]⟩ : ByteArray) = true then PJ.go (fieldJ l (i + 1)) (fun x i => PJ.go (oneJ l (⟨#[59]⟩ : ByteArray) i) (fun _ i => locsJ f i (acc ++ [x])) (fun _ => acc ++ [x])) (fun x => acc ++ [x]) else .ok acc i
def procJ (f i : Nat) : PJ Pr := PJ.go (nameJ l i) (fun n i => PJ.go (oneJ l (⟨#[40]⟩ : ByteArray) i) (fun _ i => PJ.go (listJ l ⟨(⟨#[]⟩ : ByteArray), (⟨#[]⟩ : ByteArray)⟩ (⟨#[44]⟩ : ByteArray) (⟨#[41]⟩ : ByteArray) (fieldJ l) f i []) (fun ps i =>
  PJ.go (if isA l i ⟨#[123]⟩ = true then PJ.ok (⟨#[]⟩ : ByteArray) i else typJ l i) (fun r i => PJ.go (oneJ l ⟨#[123]⟩ i) (fun _ i => PJ.go (locsJ l f i []) (fun ls i =>
  PJ.go (stmtsJ l f i []) (fun b i => .ok ⟨n, ps, r, ls, b⟩ i) (fun b => ⟨n, ps, r, ls, b⟩)) (fun ls => ⟨n, ps, r, ls, []⟩)) (fun _ => ⟨n, ps, r, [], []⟩)) (fun r => ⟨n, ps, r, [], []⟩)) (fun ps => ⟨n, ps, (⟨#[]⟩ : ByteArray), [], []⟩)) (fun _ => ⟨n, [], (⟨#[]⟩ : ByteArray), [], []⟩)) (fun n => ⟨n, [], (⟨#[]⟩ : ByteArray), [], []⟩)
def formulaJ (f i : Nat) : PJ Ex := PJ.go (oneJ l (⟨#[61]⟩ : ByteArray) i) (fun _ i => exprJ l f 0 i) (fun _ => E0)
def measureJ (f i : Nat) : PJ Ms := PJ.go (nameJ l i) (fun n i => PJ.go (oneJ l (⟨#[40]⟩ : ByteArray) i) (fun _ i => PJ.go (nameJ l i) (fun t i => PJ.go (oneJ l (⟨#[41]⟩ : ByteArray) i) (fun _ i => PJ.go (oneJ l (⟨#[110, 105, 108]⟩ : ByteArray) i) (fun _ i =>
  PJ.go (intJ l (if isA l i (⟨#[45]⟩ : ByteArray) = true then i + 1 else i)) (fun z i' => PJ.go (formulaJ l f i') (fun x j => .ok ⟨n, t, if isA l i (⟨#[45]⟩ : ByteArray) = true then -z else z, x⟩ j) (fun x => ⟨n, t, if isA l i (⟨#[45]⟩ : ByteArray) = true then -z else z, x⟩)) (fun _ => ⟨n, t, 0, E0⟩))
  (fun _ => ⟨n, t, 0, E0⟩)) (fun _ => ⟨n, t, 0, E0⟩)) (fun t => ⟨n, t, 0, E0⟩)) (fun _ => ⟨n, (⟨#[]⟩ : ByteArray), 0, E0⟩)) (fun n => ⟨n, (⟨#[]⟩ : ByteArray), 0, E0⟩)
def itemJ (f i : Nat) (d : Desc) : PJ Desc :=
  if isA l i (⟨#[116, 121, 112, 101]⟩ : ByteArray) = true then PJ.go (nameJ l (i + 1)) (fun n i => PJ.go (oneJ l ⟨#[123]⟩ i) (fun _ i => PJ.go (listJ l ⟨(⟨#[]⟩ : ByteArray), (⟨#[]⟩ : ByteArray)⟩ (⟨#[59]⟩ : ByteArray) ⟨#[125]⟩ (fieldJ l) f i []) (fun fs i => .ok { d with types := d.types ++ [⟨n, fs⟩] } i) (fun fs => { d with types := d.types ++ [⟨n, fs⟩] }))
    (fun _ => { d with types := d.types ++ [⟨n, []⟩] })) (fun n => { d with types := d.types ++ [⟨n, []⟩] })
  else if isA l i (⟨#[118, 97, 114]⟩ : ByteArray) = true then PJ.go (fieldJ l (i + 1)) (fun x i => .ok { d with globals := d.globals ++ [x] } i) (fun x => { d with globals := d.globals ++ [x] })
  else if isA l i (⟨#[112, 114, 111, 99]⟩ : ByteArray) = true then PJ.go (procJ l f (i + 1)) (fun p i => .ok { d with procs := d.procs ++ [p] } i) (fun p => { d with procs := d.procs ++ [p] })
  else if isA l i (⟨#[109, 101, 97, 115, 117, 114, 101]⟩ : ByteArray) = true then PJ.go (measureJ l f (i + 1)) (fun m i => .ok { d with measures := d.measures ++ [m] } i) (fun m => { d with measures := d.measures ++ [m] })
  else if isA l i (⟨#[105, 110, 118, 97, 114, 105, 97, 110, 116]⟩ : ByteArray) = true then PJ.go (nameJ l (i + 1)) (fun n i =>
    PJ.go (if isA l i (⟨#[40]⟩ : ByteArray) = true then PJ.go (nameJ l (i + 1)) (fun t i => PJ.go (oneJ l (⟨#[41]⟩ : ByteArray) i) (fun _ i => .ok t i) (fun _ => t)) (fun t => t) else PJ.ok (⟨#[]⟩ : ByteArray) i) (fun t i => PJ.go (formulaJ l f i) (fun x i => .ok { d with invs := d.invs ++ [⟨n, t, x⟩] } i) (fun x => { d with invs := d.invs ++ [⟨n, t, x⟩] }))
      (fun t => { d with invs := d.invs ++ [⟨n, t, E0⟩] })) (fun n => { d with invs := d.invs ++ [⟨n, (⟨#[]⟩ : ByteArray), E0⟩] })
  else if isA l i (⟨#[112, 111, 116, 101, 110, 116, 105, 97, 108]⟩ : ByteArray) = true then PJ.go (if isA l (i + 1) (⟨#[61]⟩ : ByteArray) = true then PJ.ok (⟨#[]⟩ : ByteArray) (i + 1) else nameJ l (i + 1)) (fun t i => PJ.go (formulaJ l f i) (fun x i => .ok { d with pots := d.pots ++ [⟨t, x⟩] } i) (fun x => { d with pots := d.pots ++ [⟨t, x⟩] })) (fun t => { d with pots := d.pots ++ [⟨t, E0⟩] })
  else if isA l i (⟨#[98, 111, 117, 110, 100]⟩ : ByteArray) = true then PJ.go (nameJ l (i + 1)) (fun n i => PJ.go (formulaJ l f i) (fun x i => .ok { d with bounds := d.bounds ++ [⟨n, x⟩] } i) (fun x => { d with bounds := d.bounds ++ [⟨n, x⟩] })) (fun n => { d with bounds := d.bounds ++ [⟨n, E0⟩] })
  else .no d i
def itemsJ (f : Nat) : Nat → Nat → Desc → PJ Desc
  | 0, _, _ => none
  | g + 1, i, d => if isA l i ⟨#[125]⟩ = true then .ok d (i + 1) else PJ.go (itemJ l f i d) (fun d i => itemsJ f g i d) (fun d => d)
def descJ (f : Nat) : PJ Desc := PJ.go (oneJ l (⟨#[100, 101, 115, 99]⟩ : ByteArray) 0) (fun _ i => PJ.go (nameJ l i) (fun n i => PJ.go (oneJ l ⟨#[123]⟩ i) (fun _ i => itemsJ l f f i ⟨n, [], [], [], [], [], [], []⟩) (fun _ => ⟨n, [], [], [], [], [], [], []⟩)) (fun n => ⟨n, [], [], [], [], [], [], []⟩)) (fun _ => ⟨(⟨#[]⟩ : ByteArray), [], [], [], [], [], [], []⟩)
variable {l}
theorem er_one (s : Str) (i : Nat) : PJ.er (oneJ l s i) = oneA l s i := by unfold oneJ oneA; split <;> rfl
theorem er_name (i : Nat) : PJ.er (nameJ l i) = nameA l i := by
  unfold nameJ nameA; cases l[i]? with
  | none => rfl
  | some t => simp only [er_ite, er_ok, er_no]
theorem er_int (i : Nat) : PJ.er (intJ l i) = intA l i := by
  unfold intJ intA; cases l[i]? with
  | none => rfl
  | some t => simp only [er_ite, er_ok, er_no]
theorem er_typ (i : Nat) : PJ.er (typJ l i) = typA l i := by unfold typJ typA; simp only [er_ite, er_ok, er_name]
theorem er_field (i : Nat) : PJ.er (fieldJ l i) = fieldA l i := by unfold fieldJ fieldA; simp only [er_go, er_name, er_typ, er_ok]
theorem er_list {α : Type} (z : α) (sep fin : Str) (one : Nat → PJ α) : ∀ (f i : Nat) (acc : List α), PJ.er (listJ l z sep fin one f i acc) = listA l sep fin (fun i => PJ.er (one i)) f i acc
  | 0, _, _ => rfl
  | f + 1, i, acc => by
    simp only [listJ, listA, er_ite, er_go, er_ok, er_one]
    congr 1; congr 1; funext _ i; congr 1; funext x i
    exact er_list z sep fin one f i _
theorem er_expr : ∀ f : Nat, (∀ n i, PJ.er (exprJ l f n i) = exprA l f n i) ∧ (∀ n x i, PJ.er (moreJ l f n x i) = moreA l f n x i) ∧ (∀ i, PJ.er (postJ l f i) = postA l f i) ∧ (∀ x i, PJ.er (dotsJ l f x i) = dotsA l f x i) ∧
    (∀ i a, PJ.er (argsJ l f i a) = argsP l f i a) ∧ (∀ k i a, PJ.er (partsJ l f k i a) = partsA l f k i a) ∧ (∀ i, PJ.er (primJ l f i) = primA l f i) := by
  intro f
  induction f with
  | zero => exact ⟨fun _ _ => by simp only [exprJ, exprA]; rfl, fun _ _ _ => by simp only [moreJ, moreA]; rfl, fun _ => by simp only [postJ, postA]; rfl, fun _ _ => by simp only [dotsJ, dotsA]; rfl, fun _ _ => by simp only [argsJ, argsP]; rfl, fun _ _ _ => by simp only [partsJ, partsA]; rfl, fun _ => by simp only [primJ, primA]; rfl⟩
  | succ f ih =>
    obtain ⟨h1, h2, h3, h4, h5, h6, h7⟩ := ih
    refine ⟨fun n i => ?_, fun n x i => ?_, fun i => ?_, fun x i => ?_, fun i a => ?_, fun k i a => ?_, fun i => ?_⟩
    · simp only [exprJ, exprA, er_ite, er_go, er_ok, h1, h2, h3]
    · simp only [moreJ, moreA]
      cases opA l i n with
      | none => rfl
      | some op => simp only [er_ite, er_go, er_ok, h1, h2]
    · simp only [postJ, postA, er_go, h7, h4]
    · simp only [dotsJ, dotsA, er_ite, er_go, er_ok, er_name, h4]
    · simp only [argsJ, argsP, er_ite, er_go, er_ok, er_one, h1, h5]
    · simp only [partsJ, partsA, er_ite, er_go, er_ok, er_one, h1, h6]
    · simp only [primJ, primA]
      cases l[i]? with
      | none => rfl
      | some t => simp only [er_ite, er_go, er_ok, er_no, er_one, er_name, h1, h5, h6]
theorem er_stmt : ∀ f : Nat, (∀ i a, PJ.er (stmtsJ l f i a) = stmtsA l f i a) ∧ (∀ i, PJ.er (blockJ l f i) = blockA l f i) ∧ (∀ i, PJ.er (stmtJ l f i) = stmtA l f i) := by
  intro f
  induction f with
  | zero => exact ⟨fun _ _ => by simp only [stmtsJ, stmtsA]; rfl, fun _ => by simp only [blockJ, blockA]; rfl, fun _ => by simp only [stmtJ, stmtA]; rfl⟩
  | succ f ih =>
    obtain ⟨h1, h2, h3⟩ := ih
    have hE := (er_expr (l := l) f).1
    have hP := (er_expr (l := l) f).2.2.1
    refine ⟨fun i a => ?_, fun i => ?_, fun i => ?_⟩
    · simp only [stmtsJ, stmtsA, er_ite, er_go, er_ok, h1, h3]
    · simp only [blockJ, blockA, er_go, er_one, h1]
    · simp only [stmtJ, stmtA, er_ite, er_go, er_ok, er_no, er_one, hE, hP, h2]
theorem er_locs : ∀ (f i : Nat) (acc : List Fld), PJ.er (locsJ l f i acc) = locsA l f i acc
  | 0, _, _ => rfl
  | f + 1, i, acc => by simp only [locsJ, locsA, er_ite, er_go, er_ok, er_one, er_field, er_locs f]
theorem er_listF (sep fin : Str) (f i : Nat) (acc : List Fld) : PJ.er (listJ l ⟨(⟨#[]⟩ : ByteArray), (⟨#[]⟩ : ByteArray)⟩ sep fin (fieldJ l) f i acc) = listA l sep fin (fieldA l) f i acc := by
  rw [er_list]; congr 1; funext i; exact er_field i
theorem er_formula (f i : Nat) : PJ.er (formulaJ l f i) = formulaA l f i := by simp only [formulaJ, formulaA, er_go, er_one, (er_expr f).1]
theorem er_proc (f i : Nat) : PJ.er (procJ l f i) = procA l f i := by
  simp only [procJ, procA, er_go, er_ite, er_ok, er_one, er_name, er_typ, er_listF, er_locs, (er_stmt f).1]
theorem er_measure (f i : Nat) : PJ.er (measureJ l f i) = measureA l f i := by
  simp only [measureJ, measureA, er_go, er_ok, er_one, er_name, er_int, er_formula]
theorem er_item (f i : Nat) (d : Desc) : PJ.er (itemJ l f i d) = itemA l f i d := by
  simp only [itemJ, itemA, er_go, er_ite, er_ok, er_no, er_one, er_name, er_field, er_listF, er_formula, er_proc, er_measure]
theorem er_items (f : Nat) : ∀ (g i : Nat) (d : Desc), PJ.er (itemsJ l f g i d) = itemsA l f g i d
  | 0, _, _ => rfl
  | g + 1, i, d => by simp only [itemsJ, itemsA, er_ite, er_ok, er_go, er_item, er_items f g]
theorem er_desc (f : Nat) : PJ.er (descJ l f) = descA l f := by simp only [descJ, descA, er_go, er_one, er_name, er_items]
end
end Hw.Pa
