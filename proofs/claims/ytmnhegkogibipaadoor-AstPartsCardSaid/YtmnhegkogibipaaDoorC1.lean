/- The seat's tables of types. -/
import Derived.Test.YtmnhegkogibipaaDoorProg
import Derived.Test.YtmnhegkogibipaaDoorE2
import Derived.KernelRfl
import Derived.Shelf.Strings.Fields
import Derived.Test.YtmnhegkogibipaaDoorE3
set_option linter.unusedVariables false
set_option linter.unusedSimpArgs false
namespace Hw.D
open Go Go.Proofs
def tabs : Tabs :=
{ sh := (.nd (.nd (.nd (.nd (.nd (.nd (.nd .lf 2 none .lf) 3 none .lf) 4 none (.nd .lf 5 none .lf)) 9 none (.nd (.nd .lf 20 none .lf) 21 none (.nd .lf 22 none .lf))) 24 (some 4) (.nd (.nd (.nd .lf 25 none .lf) 28 none (.nd .lf 33 none .lf)) 36 none (.nd (.nd .lf 37 none .lf) 38 none (.nd .lf 39 none .lf)))) 40 none (.nd (.nd (.nd (.nd (.nd .lf 41 none .lf) 42 none .lf) 44 (some 8) (.nd .lf 47 none .lf)) 52 none (.nd (.nd .lf 54 none .lf) 59 none (.nd .lf 61 (some 1) .lf))) 65 (some 2) (.nd (.nd (.nd .lf 67 none .lf) 69 (some 5) (.nd .lf 71 none .lf)) 73 (some 7) (.nd (.nd .lf 75 (some 6) .lf) 77 (some 5) (.nd .lf 79 (some 5) .lf))))) 82 (some 2) (.nd (.nd (.nd (.nd (.nd (.nd .lf 84 none .lf) 88 (some 5) .lf) 89 none (.nd .lf 90 none .lf)) 92 none (.nd (.nd .lf 94 none .lf) 96 none (.nd .lf 98 none .lf))) 109 none (.nd (.nd (.nd .lf 115 none .lf) 118 (some 3) (.nd .lf 119 (some 33) .lf)) 125 none (.nd (.nd .lf 126 none .lf) 129 none (.nd .lf 132 (some 24) .lf)))) 138 none (.nd (.nd (.nd (.nd (.nd .lf 142 (some 20) .lf) 143 (some 65) .lf) 149 (some 256) (.nd .lf 151 none .lf)) 152 (some 32) (.nd (.nd .lf 153 (some 64) .lf) 154 none (.nd .lf 156 (some 2) .lf))) 158 none (.nd (.nd (.nd .lf 159 none .lf) 160 none (.nd .lf 162 (some 3) .lf)) 164 (some 3) (.nd (.nd .lf 167 (some 3) .lf) 169 none (.nd .lf 170 none .lf))))))
  fo := (.nd (.nd (.nd (.nd (.nd .lf 24 (.nd (.nd (.nd .lf 0 0 .lf) 1 1 .lf) 2 2 (.nd .lf 3 3 .lf)) .lf) 44 (.nd (.nd (.nd (.nd .lf 0 0 .lf) 1 1 .lf) 2 2 (.nd .lf 3 3 .lf)) 4 4 (.nd (.nd .lf 5 5 .lf) 6 6 (.nd .lf 7 7 .lf))) .lf) 61 (.nd .lf 0 0 .lf) (.nd .lf 65 (.nd (.nd .lf 0 0 .lf) 1 1 .lf) .lf)) 69 (.nd (.nd (.nd .lf 0 0 .lf) 1 1 .lf) 2 2 (.nd (.nd .lf 3 3 .lf) 4 4 .lf)) (.nd (.nd .lf 73 (.nd (.nd (.nd .lf 0 0 .lf) 1 1 .lf) 2 2 (.nd .lf 3 3 .lf)) .lf) 75 (.nd (.nd .lf 0 0 .lf) 1 1 (.nd .lf 2 2 .lf)) (.nd .lf 77 (.nd (.nd .lf 0 0 .lf) 1 1 .lf) .lf))) 79 (.nd (.nd .lf 0 0 .lf) 1 1 .lf) (.nd (.nd (.nd .lf 82 (.nd (.nd .lf 0 0 .lf) 1 1 .lf) .lf) 88 (.nd (.nd (.nd .lf 0 0 .lf) 1 1 .lf) 2 2 (.nd (.nd .lf 3 3 .lf) 4 4 .lf)) (.nd .lf 118 (.nd (.nd .lf 0 0 .lf) 1 1 (.nd .lf 2 2 .lf)) .lf)) 156 (.nd (.nd .lf 0 0 .lf) 1 1 .lf) (.nd (.nd .lf 162 (.nd (.nd .lf 0 0 .lf) 1 1 (.nd .lf 2 2 .lf)) .lf) 164 (.nd (.nd .lf 0 0 .lf) 1 1 (.nd .lf 2 2 .lf)) (.nd .lf 167 (.nd (.nd .lf 0 0 .lf) 1 1 (.nd .lf 2 2 .lf)) .lf))))
  es := (.nd (.nd (.nd (.nd .lf 22 (24, 4) .lf) 36 (65, 2) (.nd .lf 37 (82, 2) .lf)) 38 (69, 5) (.nd (.nd .lf 39 (73, 7) .lf) 40 (75, 6) (.nd .lf 41 (77, 5) .lf))) 42 (79, 5) (.nd (.nd (.nd .lf 54 (5, 1) .lf) 67 (88, 5) (.nd .lf 138 (9, 1) .lf)) 154 (156, 2) (.nd (.nd .lf 159 (164, 3) .lf) 160 (167, 3) .lf)))
  zs := (.nd (.nd (.nd (.nd (.nd (.nd (.nd .lf 2 [(.int .i64)] .lf) 3 [(.int .i64)] .lf) 4 [.bool] (.nd .lf 5 [(.int .u8)] .lf)) 9 [.str] (.nd (.nd .lf 20 [.nif] .lf) 21 [(.int .i32)] (.nd .lf 22 [.slice] .lf))) 24 [(.int .i64), (.int .i64), .str, .slice] (.nd (.nd (.nd .lf 25 [(.int .u16)] .lf) 28 [(.int .i64)] (.nd .lf 33 [.nfunc] .lf)) 36 [.slice] (.nd (.nd .lf 37 [.slice] .lf) 38 [.slice] (.nd .lf 39 [.slice] .lf)))) 40 [.slice] (.nd (.nd (.nd (.nd .lf 41 [.slice] .lf) 42 [.slice] (.nd .lf 44 [.str, .slice, .slice, .slice, .slice, .slice, .slice, .slice] .lf)) 47 [.nfunc] (.nd (.nd .lf 52 [.ptr] .lf) 54 [.slice] (.nd .lf 59 [.ptr] .lf))) 61 [(.int .i64)] (.nd (.nd (.nd .lf 65 [.str, .slice] .lf) 67 [.slice] (.nd .lf 69 [.str, .slice, .str, .slice, .slice] .lf)) 71 [.nfunc] (.nd (.nd .lf 73 [.str, .str, (.int .i64), (.int .i64), (.int .i64), .str, .slice] .lf) 75 [.str, .str, (.int .i64), (.int .i64), .str, .slice] (.nd .lf 77 [.str, (.int .i64), (.int .i64), .str, .slice] .lf))))) 79 [.str, (.int .i64), (.int .i64), .str, .slice] (.nd (.nd (.nd (.nd (.nd .lf 82 [.str, .str] .lf) 84 [.nfunc] (.nd .lf 88 [(.int .i64), .str, .slice, .slice, .slice] .lf)) 89 [.nfunc] (.nd (.nd .lf 90 [.nfunc] .lf) 92 [.nfunc] (.nd .lf 94 [.nfunc] .lf))) 96 [.nfunc] (.nd (.nd (.nd .lf 98 [.nfunc] .lf) 109 [.map] (.nd .lf 115 [.nfunc] .lf)) 118 [(.int .i64), (.int .i64), .str] (.nd (.nd .lf 119 [(.int .i64), (.int .i64), .str, (.int .i64), (.int .i64), .str, (.int .i64), (.int .i64), .str, (.int .i64), (.int .i64), .str, (.int .i64), (.int .i64), .str, (.int .i64), (.int .i64), .str, (.int .i64), (.int .i64), .str, (.int .i64), (.int .i64), .str, (.int .i64), (.int .i64), .str, (.int .i64), (.int .i64), .str, (.int .i64), (.int .i64), .str] .lf) 125 [(.int .u64)] (.nd .lf 126 [(.int .u64)] .lf)))) 129 [(.int .u32)] (.nd (.nd (.nd (.nd .lf 132 [(.int .u8), (.int .u8), (.int .u8), (.int .u8), (.int .u8), (.int .u8), (.int .u8), (.int .u8), (.int .u8), (.int .u8), (.int .u8), (.int .u8), (.int .u8), (.int .u8), (.int .u8), (.int .u8), (.int .u8), (.int .u8), (.int .u8), (.int .u8), (.int .u8), (.int .u8), (.int .u8), (.int .u8)] .lf) 138 [.slice] (.nd .lf 142 [(.int .u64), (.int .u64), (.int .u64), (.int .u64), (.int .u64), (.int .u64), (.int .u64), (.int .u64), (.int .u64), (.int .u64), (.int .u64), (.int .u64), (.int .u64), (.int .u64), (.int .u64), (.int .u64), (.int .u64), (.int .u64), (.int .u64), (.int .u64)] .lf)) 151 [.nfunc] (.nd (.nd .lf 152 [(.int .u8), (.int .u8), (.int .u8), (.int .u8), (.int .u8), (.int .u8), (.int .u8), (.int .u8), (.int .u8), (.int .u8), (.int .u8), (.int .u8), (.int .u8), (.int .u8), (.int .u8), (.int .u8), (.int .u8), (.int .u8), (.int .u8), (.int .u8), (.int .u8), (.int .u8), (.int .u8), (.int .u8), (.int .u8), (.int .u8), (.int .u8), (.int .u8), (.int .u8), (.int .u8), (.int .u8), (.int .u8)] .lf) 154 [.slice] (.nd .lf 156 [(.int .i64), (.int .i64)] .lf))) 158 [.ptr] (.nd (.nd (.nd .lf 159 [.slice] .lf) 160 [.slice] (.nd .lf 162 [.slice, .slice, (.int .i64)] .lf)) 164 [(.int .u16), (.int .u16), (.int .u16)] (.nd (.nd .lf 167 [(.int .u32), (.int .u32), (.int .u32)] .lf) 169 [.ptr] (.nd .lf 170 [.ptr] .lf))))))
  pl := (.nd (.nd (.nd (.nd (.nd .lf 24 [(0, 1), (1, 1), (2, 1), (3, 1)] .lf) 44 [(0, 1), (1, 1), (2, 1), (3, 1), (4, 1), (5, 1), (6, 1), (7, 1)] .lf) 61 [(0, 1)] (.nd .lf 65 [(0, 1), (1, 1)] .lf)) 69 [(0, 1), (1, 1), (2, 1), (3, 1), (4, 1)] (.nd (.nd .lf 73 [(0, 1), (1, 1), (2, 1), (3, 4)] .lf) 75 [(0, 1), (1, 1), (2, 4)] (.nd .lf 77 [(0, 1), (1, 4)] .lf))) 79 [(0, 1), (1, 4)] (.nd (.nd (.nd .lf 82 [(0, 1), (1, 1)] .lf) 88 [(0, 1), (1, 1), (2, 1), (3, 1), (4, 1)] (.nd .lf 118 [(0, 1), (1, 1), (2, 1)] .lf)) 156 [(0, 1), (1, 1)] (.nd (.nd .lf 162 [(0, 1), (1, 1), (2, 1)] .lf) 164 [(0, 1), (1, 1), (2, 1)] (.nd .lf 167 [(0, 1), (1, 1), (2, 1)] .lf))))
  str := (.nd .lf 9 () .lf)
  ik := (.nd (.nd (.nd (.nd .lf 2 .i64 .lf) 3 .i64 .lf) 5 .u8 (.nd .lf 21 .i32 .lf)) 25 .u16 (.nd (.nd (.nd .lf 28 .i64 .lf) 125 .u64 .lf) 126 .u64 (.nd .lf 129 .u32 .lf))) }
theorem tabs_ok : tabs.check Tryd.prog = true := by kernel_rfl
theorem mixed : Tryd.prog.follows .mixedOrders = true := by kernel_rfl
noncomputable def T : Ty Tryd.prog := tabs.ty tabs_ok mixed
end Hw.D
/- The library's functions at this program: their numbers. -/
namespace Hw.D
open Go Go.Proofs Go.Shelf
def lays157_ren : Go.Shelf.Ren := ⟨fun | 157 => 109 | 229 => 116 | 199 => 117 | 261 => 118 | 311 => 119 | 312 => 120 | n => n, fun | 9 => 9 | 31 => 138 | 3 => 3 | 5 => 5 | 4 => 4 | 119 => 149 | 0 => 0 | 40 => 151 | 152 => 154 | 21 => 21 | 154 => 156 | 51 => 129 | 141 => 158 | 196 => 162 | 193 => 159 | 198 => 164 | 49 => 25 | 194 => 160 | 201 => 167 | 226 => 169 | 46 => 125 | 227 => 170 | n => n, fun | 0 => 2 | 6 => 5 | n => n⟩
theorem lays157 : Go.Proofs.Lays.n157 Tryd.prog lays157_ren where
  mixed := by kernel_rfl
  f157 := Tryd.func109.trans (congrArg some (by kernel_rfl))
  f199 := Tryd.func117.trans (congrArg some (by kernel_rfl))
  f229 := Tryd.func116.trans (congrArg some (by kernel_rfl))
  f261 := Tryd.func118.trans (congrArg some (by kernel_rfl))
  f311 := Tryd.func119.trans (congrArg some (by kernel_rfl))
  f312 := Tryd.func120.trans (congrArg some (by kernel_rfl))
  t0 := Tryd.underlying0
  a0 := Tryd.isAgg0
  z0 := Tryd.sizeOf0
  v0 := Tryd.zeroValue0
  t3 := Tryd.underlying3
  a3 := Tryd.isAgg3
  z3 := Tryd.sizeOf3
  v3 := Tryd.zeroValue3
  t4 := Tryd.underlying4
  a4 := Tryd.isAgg4
  z4 := Tryd.sizeOf4
  v4 := Tryd.zeroValue4
  t5 := Tryd.underlying5
  a5 := Tryd.isAgg5
  z5 := Tryd.sizeOf5
  v5 := Tryd.zeroValue5
  t9 := Tryd.underlying9
  a9 := Tryd.isAgg9
  z9 := Tryd.sizeOf9
  v9 := Tryd.zeroValue9
  t21 := Tryd.underlying21
  a21 := Tryd.isAgg21
  z21 := Tryd.sizeOf21
  v21 := Tryd.zeroValue21
  t31 := Tryd.underlying138
  a31 := Tryd.isAgg138
  z31 := Tryd.sizeOf138
  v31 := Tryd.zeroValue138
  t40 := Tryd.underlying151
  a40 := Tryd.isAgg151
  z40 := Tryd.sizeOf151
  v40 := Tryd.zeroValue151
  t46 := Tryd.underlying125
  a46 := Tryd.isAgg125
  z46 := Tryd.sizeOf125
  v46 := Tryd.zeroValue125
  t49 := Tryd.underlying25
  a49 := Tryd.isAgg25
  z49 := Tryd.sizeOf25
  v49 := Tryd.zeroValue25
  t51 := Tryd.underlying129
  a51 := Tryd.isAgg129
  z51 := Tryd.sizeOf129
  v51 := Tryd.zeroValue129
  t119 := Tryd.underlying149
  a119 := Tryd.isAgg149
  z119 := Tryd.sizeOf149
  t141 := Tryd.underlying158
  a141 := Tryd.isAgg158
  z141 := Tryd.sizeOf158
  v141 := Tryd.zeroValue158
  t152 := Tryd.underlying154
  a152 := Tryd.isAgg154
  z152 := Tryd.sizeOf154
  v152 := Tryd.zeroValue154
  t154 := Tryd.underlying156
  a154 := Tryd.isAgg156
  z154 := Tryd.sizeOf156
  v154 := Tryd.zeroValue156
  t193 := Tryd.underlying159
  a193 := Tryd.isAgg159
  z193 := Tryd.sizeOf159
  v193 := Tryd.zeroValue159
  t194 := Tryd.underlying160
  a194 := Tryd.isAgg160
  z194 := Tryd.sizeOf160
  v194 := Tryd.zeroValue160
  t196 := Tryd.underlying162
  a196 := Tryd.isAgg162
  z196 := Tryd.sizeOf162
  v196 := Tryd.zeroValue162
  t198 := Tryd.underlying164
  a198 := Tryd.isAgg164
  z198 := Tryd.sizeOf164
  v198 := Tryd.zeroValue164
  t201 := Tryd.underlying167
  a201 := Tryd.isAgg167
  z201 := Tryd.sizeOf167
  v201 := Tryd.zeroValue167
  t226 := Tryd.underlying169
  a226 := Tryd.isAgg169
  z226 := Tryd.sizeOf169
  v226 := Tryd.zeroValue169
  t227 := Tryd.underlying170
  a227 := Tryd.isAgg170
  z227 := Tryd.sizeOf170
  v227 := Tryd.zeroValue170
  g0 := by kernel_rfl
  g6 := by kernel_rfl
end Hw.D
/- The readings of the seat's plain types: what a reading of an argument says of its cells. Printed by rd.py. -/
namespace Hw.D
open Go Go.Proofs Hw.M
section
variable {H : Type} {enc : TypeId × Value → H} {w : World} {base : Nat} {spare : Nat → Bool} {held : Bool}
theorem rd_strS (n : Nat) : Rd enc Tryd.prog w base spare held n 9 (fun s : ByteArray => [ks s]) := rd_str (by kernel_rfl)
theorem rd_intS (n : Nat) : Rd enc Tryd.prog w base spare held n 3 (fun i : Int => [ki i]) := rd_int (by kernel_rfl)
theorem rd_strs (n : Nat) : Rd enc Tryd.prog w base spare held n 138 (fun l => [.sl 1 (List.map strR l)]) := rd_slice (c := 1) (by kernel_rfl) (by kernel_rfl) (by decide) fun m _ => rd_strS m
theorem rd_exR (n : Nat) : Rd enc Tryd.prog w base spare held n 24 exprR := by
  induction n using Nat.strongRecOn with
  | _ n ih =>
  intro cs x h
  obtain ⟨m, rfl, c0, r0, x0, rfl, h0, c1, r1, x1, rfl, h1, c2, r2, x2, rfl, h2, c3, r3, x3, rfl, h3, rfl⟩ := trod_pieces (l := [(3, 1), (3, 1), (9, 1), (22, 1)]) (by kernel_rfl) h
  obtain ⟨a0, k0⟩ := rd_intS m c0 x0 h0
  obtain ⟨a1, k1⟩ := rd_intS m c1 x1 h1
  obtain ⟨a2, k2⟩ := rd_strS m c2 x2 h2
  obtain ⟨a3, k3⟩ := rd_slice (c := 4) (R := exprR) (by kernel_rfl) (by kernel_rfl) (by decide) (fun k hk => ih k (by omega)) c3 x3 h3
  refine ⟨.mk a0 a1 a2 a3, ?_⟩
  rw [exprR_eq]
  exact (k0.app (k1.app (k2.app (k3.app (show CellsM (memOf w) [] [] from trivial)))))
theorem rd_ex (n : Nat) : Rd enc Tryd.prog w base spare held n 24 exprC := fun cs x h => by
  obtain ⟨a, k⟩ := rd_exR n cs x h
  exact ⟨a, by rw [exprR_eq] at k; exact k⟩
theorem rd_exs (n : Nat) : Rd enc Tryd.prog w base spare held n 22 (fun l => [.sl 4 (List.map exprR l)]) := rd_slice (c := 4) (by kernel_rfl) (by kernel_rfl) (by decide) fun m _ => rd_exR m
theorem rd_stR (n : Nat) : Rd enc Tryd.prog w base spare held n 88 stmtR := by
  induction n using Nat.strongRecOn with
  | _ n ih =>
  intro cs x h
  obtain ⟨m, rfl, c0, r0, x0, rfl, h0, c1, r1, x1, rfl, h1, c2, r2, x2, rfl, h2, c3, r3, x3, rfl, h3, c4, r4, x4, rfl, h4, rfl⟩ := trod_pieces (l := [(3, 1), (9, 1), (22, 1), (67, 1), (67, 1)]) (by kernel_rfl) h
  obtain ⟨a0, k0⟩ := rd_intS m c0 x0 h0
  obtain ⟨a1, k1⟩ := rd_strS m c1 x1 h1
  obtain ⟨a2, k2⟩ := rd_exs m c2 x2 h2
  obtain ⟨a3, k3⟩ := rd_slice (c := 5) (R := stmtR) (by kernel_rfl) (by kernel_rfl) (by decide) (fun k hk => ih k (by omega)) c3 x3 h3
  obtain ⟨a4, k4⟩ := rd_slice (c := 5) (R := stmtR) (by kernel_rfl) (by kernel_rfl) (by decide) (fun k hk => ih k (by omega)) c4 x4 h4
  refine ⟨.mk a0 a1 a2 a3 a4, ?_⟩
  rw [stmtR_eq]
  exact (k0.app (k1.app (k2.app (k3.app (k4.app (show CellsM (memOf w) [] [] from trivial))))))
theorem rd_st (n : Nat) : Rd enc Tryd.prog w base spare held n 88 stmtC := fun cs x h => by
  obtain ⟨a, k⟩ := rd_stR n cs x h
  exact ⟨a, by rw [stmtR_eq] at k; exact k⟩
theorem rd_sts (n : Nat) : Rd enc Tryd.prog w base spare held n 67 (fun l => [.sl 5 (List.map stmtR l)]) := rd_slice (c := 5) (by kernel_rfl) (by kernel_rfl) (by decide) fun m _ => rd_stR m
theorem rd_fld (n : Nat) : Rd enc Tryd.prog w base spare held n 82 fieldR := by
  intro cs x h
  obtain ⟨m, rfl, c0, r0, x0, rfl, h0, c1, r1, x1, rfl, h1, rfl⟩ := trod_pieces (l := [(9, 1), (9, 1)]) (by kernel_rfl) h
  obtain ⟨a0, k0⟩ := rd_strS m c0 x0 h0
  obtain ⟨a1, k1⟩ := rd_strS m c1 x1 h1
  refine ⟨⟨a0, a1⟩, ?_⟩
  exact (k0.app (k1.app (show CellsM (memOf w) [] [] from trivial)))
theorem rd_flds (n : Nat) : Rd enc Tryd.prog w base spare held n 37 (fun l => [.sl 2 (List.map fieldR l)]) := rd_slice (c := 2) (by kernel_rfl) (by kernel_rfl) (by decide) fun m _ => rd_fld m
theorem rd_nt (n : Nat) : Rd enc Tryd.prog w base spare held n 65 nodeTR := by
  intro cs x h
  obtain ⟨m, rfl, c0, r0, x0, rfl, h0, c1, r1, x1, rfl, h1, rfl⟩ := trod_pieces (l := [(9, 1), (37, 1)]) (by kernel_rfl) h
  obtain ⟨a0, k0⟩ := rd_strS m c0 x0 h0
  obtain ⟨a1, k1⟩ := rd_flds m c1 x1 h1
  refine ⟨⟨a0, a1⟩, ?_⟩
  exact (k0.app (k1.app (show CellsM (memOf w) [] [] from trivial)))
theorem rd_nts (n : Nat) : Rd enc Tryd.prog w base spare held n 36 (fun l => [.sl 2 (List.map nodeTR l)]) := rd_slice (c := 2) (by kernel_rfl) (by kernel_rfl) (by decide) fun m _ => rd_nt m
theorem rd_pr (n : Nat) : Rd enc Tryd.prog w base spare held n 69 procR := by
  intro cs x h
  obtain ⟨m, rfl, c0, r0, x0, rfl, h0, c1, r1, x1, rfl, h1, c2, r2, x2, rfl, h2, c3, r3, x3, rfl, h3, c4, r4, x4, rfl, h4, rfl⟩ := trod_pieces (l := [(9, 1), (37, 1), (9, 1), (37, 1), (67, 1)]) (by kernel_rfl) h
  obtain ⟨a0, k0⟩ := rd_strS m c0 x0 h0
  obtain ⟨a1, k1⟩ := rd_flds m c1 x1 h1
  obtain ⟨a2, k2⟩ := rd_strS m c2 x2 h2
  obtain ⟨a3, k3⟩ := rd_flds m c3 x3 h3
  obtain ⟨a4, k4⟩ := rd_sts m c4 x4 h4
  refine ⟨⟨a0, a1, a2, a3, a4⟩, ?_⟩
  exact (k0.app (k1.app (k2.app (k3.app (k4.app (show CellsM (memOf w) [] [] from trivial))))))
theorem rd_prs (n : Nat) : Rd enc Tryd.prog w base spare held n 38 (fun l => [.sl 5 (List.map procR l)]) := rd_slice (c := 5) (by kernel_rfl) (by kernel_rfl) (by decide) fun m _ => rd_pr m
theorem rd_ms (n : Nat) : Rd enc Tryd.prog w base spare held n 73 measureR := by
  intro cs x h
  obtain ⟨m, rfl, c0, r0, x0, rfl, h0, c1, r1, x1, rfl, h1, c2, r2, x2, rfl, h2, c3, r3, x3, rfl, h3, rfl⟩ := trod_pieces (l := [(9, 1), (9, 1), (3, 1), (24, 4)]) (by kernel_rfl) h
  obtain ⟨a0, k0⟩ := rd_strS m c0 x0 h0
  obtain ⟨a1, k1⟩ := rd_strS m c1 x1 h1
  obtain ⟨a2, k2⟩ := rd_intS m c2 x2 h2
  obtain ⟨a3, k3⟩ := rd_ex m c3 x3 h3
  refine ⟨⟨a0, a1, a2, a3⟩, ?_⟩
  exact (k0.app (k1.app (k2.app (k3.app (show CellsM (memOf w) [] [] from trivial)))))
theorem rd_mss (n : Nat) : Rd enc Tryd.prog w base spare held n 39 (fun l => [.sl 7 (List.map measureR l)]) := rd_slice (c := 7) (by kernel_rfl) (by kernel_rfl) (by decide) fun m _ => rd_ms m
theorem rd_iv (n : Nat) : Rd enc Tryd.prog w base spare held n 75 invR := by
  intro cs x h
  obtain ⟨m, rfl, c0, r0, x0, rfl, h0, c1, r1, x1, rfl, h1, c2, r2, x2, rfl, h2, rfl⟩ := trod_pieces (l := [(9, 1), (9, 1), (24, 4)]) (by kernel_rfl) h
  obtain ⟨a0, k0⟩ := rd_strS m c0 x0 h0
  obtain ⟨a1, k1⟩ := rd_strS m c1 x1 h1
  obtain ⟨a2, k2⟩ := rd_ex m c2 x2 h2
  refine ⟨⟨a0, a1, a2⟩, ?_⟩
  exact (k0.app (k1.app (k2.app (show CellsM (memOf w) [] [] from trivial))))
theorem rd_ivs (n : Nat) : Rd enc Tryd.prog w base spare held n 40 (fun l => [.sl 6 (List.map invR l)]) := rd_slice (c := 6) (by kernel_rfl) (by kernel_rfl) (by decide) fun m _ => rd_iv m
theorem rd_pt (n : Nat) : Rd enc Tryd.prog w base spare held n 77 potR := by
  intro cs x h
  obtain ⟨m, rfl, c0, r0, x0, rfl, h0, c1, r1, x1, rfl, h1, rfl⟩ := trod_pieces (l := [(9, 1), (24, 4)]) (by kernel_rfl) h
  obtain ⟨a0, k0⟩ := rd_strS m c0 x0 h0
  obtain ⟨a1, k1⟩ := rd_ex m c1 x1 h1
  refine ⟨⟨a0, a1⟩, ?_⟩
  exact (k0.app (k1.app (show CellsM (memOf w) [] [] from trivial)))
theorem rd_pts (n : Nat) : Rd enc Tryd.prog w base spare held n 41 (fun l => [.sl 5 (List.map potR l)]) := rd_slice (c := 5) (by kernel_rfl) (by kernel_rfl) (by decide) fun m _ => rd_pt m
theorem rd_bd (n : Nat) : Rd enc Tryd.prog w base spare held n 79 boundR := by
  intro cs x h
  obtain ⟨m, rfl, c0, r0, x0, rfl, h0, c1, r1, x1, rfl, h1, rfl⟩ := trod_pieces (l := [(9, 1), (24, 4)]) (by kernel_rfl) h
  obtain ⟨a0, k0⟩ := rd_strS m c0 x0 h0
  obtain ⟨a1, k1⟩ := rd_ex m c1 x1 h1
  refine ⟨⟨a0, a1⟩, ?_⟩
  exact (k0.app (k1.app (show CellsM (memOf w) [] [] from trivial)))
theorem rd_bds (n : Nat) : Rd enc Tryd.prog w base spare held n 42 (fun l => [.sl 5 (List.map boundR l)]) := rd_slice (c := 5) (by kernel_rfl) (by kernel_rfl) (by decide) fun m _ => rd_bd m
theorem rd_desc (n : Nat) : Rd enc Tryd.prog w base spare held n 44 descR := by
  intro cs x h
  obtain ⟨m, rfl, c0, r0, x0, rfl, h0, c1, r1, x1, rfl, h1, c2, r2, x2, rfl, h2, c3, r3, x3, rfl, h3, c4, r4, x4, rfl, h4, c5, r5, x5, rfl, h5, c6, r6, x6, rfl, h6, c7, r7, x7, rfl, h7, rfl⟩ := trod_pieces (l := [(9, 1), (36, 1), (37, 1), (38, 1), (39, 1), (40, 1), (41, 1), (42, 1)]) (by kernel_rfl) h
  obtain ⟨a0, k0⟩ := rd_strS m c0 x0 h0
  obtain ⟨a1, k1⟩ := rd_nts m c1 x1 h1
  obtain ⟨a2, k2⟩ := rd_flds m c2 x2 h2
  obtain ⟨a3, k3⟩ := rd_prs m c3 x3 h3
  obtain ⟨a4, k4⟩ := rd_mss m c4 x4 h4
  obtain ⟨a5, k5⟩ := rd_ivs m c5 x5 h5
  obtain ⟨a6, k6⟩ := rd_pts m c6 x6 h6
  obtain ⟨a7, k7⟩ := rd_bds m c7 x7 h7
  refine ⟨⟨a0, a1, a2, a3, a4, a5, a6, a7⟩, ?_⟩
  exact (k0.app (k1.app (k2.app (k3.app (k4.app (k5.app (k6.app (k7.app (show CellsM (memOf w) [] [] from trivial)))))))))
end
end Hw.D
namespace Hw.D
open Go Go.Proofs Hw.M

abbrev uc (c : Int) : S := .one (.p (.k (.int .u8 c)))
def isLetter (c : Int) : Bool := (decide (97 ≤ c) && decide (c ≤ 122)) || (decide (65 ≤ c) && decide (c ≤ 90))
def isDigit (c : Int) : Bool := decide (48 ≤ c) && decide (c ≤ 57)
def isWord (c : Int) : Bool := (isLetter c || isDigit c) || decide (c = 95)

theorem letter_ok (c : Int) : FnOK Tryd.prog 99 [uc c] [] (.bq (isLetter c)) [] := by
  refine fn_ok T Tryd.func99 (by kernel_rfl) rfl rfl rfl rfl fun C hC => ?_
  repeat' first
    | refine g_go T hC true 400 rfl rfl ?_
    | refine g_cond rfl (fun h => ?_) (fun h => ?_)
    | refine g_end T hC (by kernel_rfl) ?_
    | refine g_splitD (fun h => ?_) (fun h => ?_)
    | refine g_splitG rfl rfl rfl (fun h => ?_) (fun h => ?_)
    | refine g_splitP rfl rfl (fun h => ?_) (fun h => ?_)
    | refine g_retq T (.inl rfl) rfl ?_
    | refine g_retl T (.inl rfl) rfl ?_
  all_goals (simp_all [isLetter] <;> omega)
theorem digit_ok (c : Int) : FnOK Tryd.prog 110 [uc c] [] (.bq (isDigit c)) [] := by
  refine fn_ok T Tryd.func110 (by kernel_rfl) rfl rfl rfl rfl fun C hC => ?_
  repeat' first
    | refine g_go T hC true 400 rfl rfl ?_
    | refine g_cond rfl (fun h => ?_) (fun h => ?_)
    | refine g_end T hC (by kernel_rfl) ?_
    | refine g_splitD (fun h => ?_) (fun h => ?_)
    | refine g_splitG rfl rfl rfl (fun h => ?_) (fun h => ?_)
    | refine g_splitP rfl rfl (fun h => ?_) (fun h => ?_)
    | refine g_retq T (.inl rfl) rfl ?_
    | refine g_retl T (.inl rfl) rfl ?_
  all_goals (simp_all [isDigit] <;> omega)
theorem word_ok (c : Int) : FnOK Tryd.prog 100 [uc c] [] (.bq (isWord c)) [] := by
  refine fn_ok T Tryd.func100 (by kernel_rfl) rfl rfl rfl rfl fun C hC => ?_
  repeat' first
    | refine g_go T hC true 400 rfl rfl ?_
    | refine g_cond rfl (fun h => ?_) (fun h => ?_)
    | refine g_end T hC (by kernel_rfl) ?_
    | refine g_splitD (fun h => ?_) (fun h => ?_)
    | refine g_splitG rfl rfl rfl (fun h => ?_) (fun h => ?_)
    | refine g_splitP rfl rfl (fun h => ?_) (fun h => ?_)
    | refine g_retq T (.inl rfl) rfl ?_
    | refine g_retl T (.inl rfl) rfl ?_
    | refine g_call hC (letter_ok _) rfl rfl (LeSs.refl _) rfl rfl rfl ?_
    | refine g_call hC (digit_ok _) rfl rfl (LeSs.refl _) rfl rfl rfl ?_
  all_goals simp_all [isWord]

theorem has_ok (l : List Str) (s : Str) : FnOK Tryd.prog 111 [pS (strsP l), Sr s] [] (.bq (l.any fun x => decide (x = s))) [] := by
  refine fn_ok T Tryd.func111 (by kernel_rfl) rfl rfl rfl rfl fun C hC => ?_
  refine g_len 0 rfl fun hlen => ?_
  rw [List.length_map] at hlen
  repeat' first
    | refine g_go T hC true 400 rfl rfl ?_
    | refine g_cond rfl (fun h => ?_) (fun h => ?_)
    | refine g_end T hC (by kernel_rfl) ?_
    | refine g_splitD (fun h => ?_) (fun h => ?_)
    | refine g_splitG rfl rfl rfl (fun h => ?_) (fun h => ?_)
    | refine g_splitP rfl rfl (fun h => ?_) (fun h => ?_)
  refine g_loop (fun i : Nat => i ≤ l.length ∧ (l.take i).any (fun x => decide (x = s)) = false) (fun i => ([(0, pS (strsP l)), (1, Sr s), (5, I i)], [])) (fun i => l.length - i) hC
    0 ⟨Nat.zero_le _, by simp⟩ id ⟨rfl, ⟨rfl, rfl, rfl, trivial⟩, trivial, rfl, fun _ _ => rfl⟩ ?_
  rintro i ⟨hi, hn⟩
  refine g_run' T hC true 200 rfl ?_
  refine g_cond rfl (fun h => ?_) (fun h => ?_)
  · have hlt : i < l.length := by simpa using h
    obtain ⟨x, hx⟩ := exists_at hlt
    repeat' first
      | refine g_go T hC true 400 rfl rfl ?_
      | refine g_cond rfl (fun h => ?_) (fun h => ?_)
      | refine g_end T hC (by kernel_rfl) ?_
      | refine g_splitD (fun h => ?_) (fun h => ?_)
      | refine g_splitG rfl rfl rfl (fun h => ?_) (fun h => ?_)
      | refine g_splitP rfl rfl (fun h => ?_) (fun h => ?_)
      | refine g_idx T hC rfl rfl rfl (Int.natCast_nonneg _) (map_at (by assumption)) rfl rfl ?_
      | refine g_outR ?_
      | refine g_outE ?_
      | refine g_retq T (.inl rfl) rfl ?_
      | refine g_retl T (.inl rfl) rfl ?_
    · exact (any_yes hx h).symm
    · rw [wrap64 (by omega)]
      refine g_round (i + 1) ⟨by omega, ?_⟩ id (by omega) ⟨rfl, ⟨rfl, rfl, rfl, trivial⟩, trivial, rfl, fun _ _ => rfl⟩
      rw [any_take hx, hn, h]; rfl
  · have hge : ¬ i < l.length := by simpa using h
    repeat' first
      | refine g_go T hC true 400 rfl rfl ?_
      | refine g_cond rfl (fun h => ?_) (fun h => ?_)
      | refine g_end T hC (by kernel_rfl) ?_
      | refine g_splitD (fun h => ?_) (fun h => ?_)
      | refine g_splitG rfl rfl rfl (fun h => ?_) (fun h => ?_)
      | refine g_splitP rfl rfl (fun h => ?_) (fun h => ?_)
      | refine g_outE ?_
      | refine g_retl T (.inl rfl) rfl ?_
    exact (any_end (by omega) hn).symm

def keywords : List Str := [(⟨#[116, 121, 112, 101]⟩ : ByteArray), (⟨#[118, 97, 114]⟩ : ByteArray), (⟨#[112, 114, 111, 99]⟩ : ByteArray), (⟨#[108, 111, 99, 97, 108]⟩ : ByteArray), (⟨#[109, 101, 97, 115, 117, 114, 101]⟩ : ByteArray), (⟨#[105, 110, 118, 97, 114, 105, 97, 110, 116]⟩ : ByteArray), (⟨#[112, 111, 116, 101, 110, 116, 105, 97, 108]⟩ : ByteArray), (⟨#[98, 111, 117, 110, 100]⟩ : ByteArray), (⟨#[105, 102]⟩ : ByteArray), (⟨#[101, 108, 115, 101]⟩ : ByteArray), (⟨#[119, 104, 105, 108, 101]⟩ : ByteArray), (⟨#[114, 101, 116, 117, 114, 110]⟩ : ByteArray), (⟨#[110, 101, 119]⟩ : ByteArray), (⟨#[110, 105, 108]⟩ : ByteArray), (⟨#[116, 114, 117, 101]⟩ : ByteArray), (⟨#[102, 97, 108, 115, 101]⟩ : ByteArray), (⟨#[97, 110, 100]⟩ : ByteArray), (⟨#[111, 114]⟩ : ByteArray), (⟨#[110, 111, 116]⟩ : ByteArray), (⟨#[109, 97, 120]⟩ : ByteArray), (⟨#[109, 105, 110]⟩ : ByteArray), (⟨#[108, 111, 103]⟩ : ByteArray), (⟨#[105, 110, 116]⟩ : ByteArray), (⟨#[98, 111, 111, 108]⟩ : ByteArray), (⟨#[116, 104, 105, 115]⟩ : ByteArray), (⟨#[115, 111, 114, 116]⟩ : ByteArray), (⟨#[111, 112]⟩ : ByteArray), (⟨#[114, 117, 108, 101]⟩ : ByteArray), (⟨#[115, 112, 101, 99]⟩ : ByteArray), (⟨#[100, 101, 115, 99]⟩ : ByteArray), (⟨#[115, 99, 114, 105, 112, 116]⟩ : ByteArray)]
def isKeyword (s : Str) : Bool := keywords.any fun x => decide (x = s)
theorem keywords_ok : FnOK Tryd.prog 112 [] [] (pS (strsP keywords)) [] := by
  refine fn_ok T Tryd.func112 (by kernel_rfl) rfl rfl rfl rfl fun C hC => ?_
  repeat' first
    | refine g_go T hC true 400 rfl rfl ?_
    | refine g_cond rfl (fun h => ?_) (fun h => ?_)
    | refine g_end T hC (by kernel_rfl) ?_
    | refine g_splitD (fun h => ?_) (fun h => ?_)
    | refine g_splitG rfl rfl rfl (fun h => ?_) (fun h => ?_)
    | refine g_splitP rfl rfl (fun h => ?_) (fun h => ?_)
    | refine g_lit T hC rfl rfl rfl rfl rfl rfl rfl rfl rfl ?_
  exact g_fin ⟨.inl rfl, id, _, rfl, .refl _, trivial, rfl, rfl⟩
theorem isKeyword_ok (s : Str) : FnOK Tryd.prog 101 [Sr s] [] (.bq (isKeyword s)) [] := by
  refine fn_ok T Tryd.func101 (by kernel_rfl) rfl rfl rfl rfl fun C hC => ?_
  repeat' first
    | refine g_go T hC true 400 rfl rfl ?_
    | refine g_cond rfl (fun h => ?_) (fun h => ?_)
    | refine g_end T hC (by kernel_rfl) ?_
    | refine g_splitD (fun h => ?_) (fun h => ?_)
    | refine g_splitG rfl rfl rfl (fun h => ?_) (fun h => ?_)
    | refine g_splitP rfl rfl (fun h => ?_) (fun h => ?_)
    | refine g_call hC (keywords_ok) rfl rfl (LeSs.refl _) rfl rfl rfl ?_
    | refine g_call hC (has_ok _ _) rfl rfl (LeSs.refl _) rfl rfl rfl ?_
    | refine g_retq T (.inl rfl) rfl ?_
    | refine g_retl T (.inl rfl) rfl ?_
  rfl

/-- The bytes of a string. -/
def bytes (s : Str) : List Int := s.data.toList.map fun b => (b.toNat : Int)
theorem bytes_at {s : Str} {i : Nat} {c : Int} (h : (bytes s)[i]? = some c) : ∃ b : UInt8, s[((i : Nat) : Int).toNat]? = some b ∧ c = (b.toNat : Int) := by
  simp only [bytes, List.getElem?_map, Option.map_eq_some_iff] at h
  obtain ⟨b, hb, rfl⟩ := h
  refine ⟨b, ?_, rfl⟩
  have hlt : i < s.data.size := by
    have := (List.getElem?_eq_some_iff.1 hb).1
    simpa using this
  have : s.data[i] = b := by rw [Array.getElem?_toList, Array.getElem?_eq_getElem hlt] at hb; exact Option.some.inj hb
  have hlt' : i < s.size := hlt
  simp only [Int.toNat_natCast]
  rw [getElem?_pos s i hlt']
  exact congrArg some this
theorem bytes_len (s : Str) : (bytes s).length = s.size := by simp only [bytes, List.length_map, Array.length_toList]; rfl
/-- P1.1 -/
def isName (s : Str) : Bool := !decide (s.size = 0) && !decide (40 < s.size) && (match bytes s with | [] => false | c :: _ => isLetter c) && (bytes s).all isWord && !isKeyword s
theorem isName_ok (s : Str) : FnOK Tryd.prog 90 [Sr s] [] (.bq (isName s)) [] := by
  refine fn_ok T Tryd.func90 (by kernel_rfl) rfl rfl rfl rfl fun C hC => ?_
  have hbl := bytes_len s
  repeat' first
    | refine g_go T hC true 400 rfl rfl ?_
    | refine g_cond rfl (fun h => ?_) (fun h => ?_)
    | refine g_end T hC (by kernel_rfl) ?_
    | refine g_splitD (fun h => ?_) (fun h => ?_)
    | refine g_splitG rfl rfl rfl (fun h => ?_) (fun h => ?_)
    | refine g_splitP rfl rfl (fun h => ?_) (fun h => ?_)
  · repeat' first
      | refine g_go T hC true 400 rfl rfl ?_
      | refine g_cond rfl (fun h => ?_) (fun h => ?_)
      | refine g_end T hC (by kernel_rfl) ?_
      | refine g_splitD (fun h => ?_) (fun h => ?_)
      | refine g_splitG rfl rfl rfl (fun h => ?_) (fun h => ?_)
      | refine g_splitP rfl rfl (fun h => ?_) (fun h => ?_)
      | refine g_retl T (.inl rfl) rfl ?_
    simp_all [isName]
  · repeat' first
      | refine g_go T hC true 400 rfl rfl ?_
      | refine g_cond rfl (fun h => ?_) (fun h => ?_)
      | refine g_end T hC (by kernel_rfl) ?_
      | refine g_splitD (fun h => ?_) (fun h => ?_)
      | refine g_splitG rfl rfl rfl (fun h => ?_) (fun h => ?_)
      | refine g_splitP rfl rfl (fun h => ?_) (fun h => ?_)
      | refine g_retl T (.inl rfl) rfl ?_
    have h1 : 40 < s.size := by have := of_decide_eq_true h; omega
    simp [isName, h1]
  · rename_i h0
    have hs : 0 < (bytes s).length := by have := of_decide_eq_false h0; omega
    obtain ⟨c, hc⟩ := exists_at hs
    obtain ⟨b, hb, rfl⟩ := bytes_at hc
    refine g_idxS T hC rfl rfl rfl (Int.le_refl _) hb rfl rfl ?_
    repeat' first
      | refine g_go T hC true 400 rfl rfl ?_
      | refine g_cond rfl (fun h => ?_) (fun h => ?_)
      | refine g_end T hC (by kernel_rfl) ?_
      | refine g_splitD (fun h => ?_) (fun h => ?_)
      | refine g_splitG rfl rfl rfl (fun h => ?_) (fun h => ?_)
      | refine g_splitP rfl rfl (fun h => ?_) (fun h => ?_)
      | refine g_call hC (letter_ok _) rfl rfl (LeSs.refl _) rfl rfl rfl ?_
      | refine g_retl T (.inl rfl) rfl ?_
    · have hb0 : bytes s ≠ [] := fun e => by rw [e] at hs; simp at hs
      cases hbs : bytes s with
      | nil => exact absurd hbs hb0
      | cons c cs =>
        rw [hbs] at hc; simp only [List.getElem?_cons_zero, Option.some.injEq] at hc
        have hl : isLetter c = false := by rw [hc]; simpa using h
        simp [isName, hbs, hl]
    · have hnm : isName s = ((bytes s).all isWord && !isKeyword s) := by
        cases hbs : bytes s with
        | nil => rw [hbs] at hs; simp at hs
        | cons c cs =>
          have hc' := hc
          rw [hbs] at hc'; simp only [List.getElem?_cons_zero, Option.some.injEq] at hc'
          have hl : isLetter c = true := by rw [hc']; simpa using h
          have e1 : ¬ s.size = 0 := by rw [hbl] at hs; omega
          have e2 : ¬ 40 < s.size := by rename_i h2; have := of_decide_eq_false h2; omega
          simp only [isName, hbs, hl, e1, e2, decide_false, Bool.not_false, Bool.true_and]
      have hlen : s.size ≤ 40 := by rename_i h2; have := of_decide_eq_false h2; omega
      refine g_loop (fun i : Nat => i ≤ s.size ∧ ((bytes s).take i).all isWord = true) (fun i => ([(0, Sr s), (3, I i)], [])) (fun i => s.size - i) hC
        0 ⟨Nat.zero_le _, by simp⟩ id ⟨rfl, ⟨rfl, rfl, trivial⟩, trivial, rfl, fun _ _ => rfl⟩ ?_
      rintro i ⟨hi, hn⟩
      refine g_run' T hC true 200 rfl ?_
      refine g_cond rfl (fun h => ?_) (fun h => ?_)
      · have hlt : i < (bytes s).length := by rw [hbl]; have := of_decide_eq_true h; omega
        obtain ⟨c, hx⟩ := exists_at hlt
        obtain ⟨b, hb, rfl⟩ := bytes_at hx
        repeat' first
          | refine g_go T hC true 400 rfl rfl ?_
          | refine g_cond rfl (fun h => ?_) (fun h => ?_)
          | refine g_end T hC (by kernel_rfl) ?_
          | refine g_splitD (fun h => ?_) (fun h => ?_)
          | refine g_splitG rfl rfl rfl (fun h => ?_) (fun h => ?_)
          | refine g_splitP rfl rfl (fun h => ?_) (fun h => ?_)
          | refine g_idxS T hC rfl rfl rfl (Int.natCast_nonneg _) (by assumption) rfl rfl ?_
          | refine g_call hC (word_ok _) rfl rfl (LeSs.refl _) rfl rfl rfl ?_
          | refine g_outR ?_
          | refine g_retl T (.inl rfl) rfl ?_
        · have hw : isWord (b.toNat : Int) = false := by simpa using h
          rw [hnm, all_no hx hw]; rfl
        · have hw : isWord (b.toNat : Int) = true := by simpa using h
          rw [wrap64 (by omega)]
          refine g_round (i + 1) ⟨by omega, ?_⟩ id (by omega) ⟨rfl, ⟨rfl, rfl, trivial⟩, trivial, rfl, fun _ _ => rfl⟩
          rw [all_take hx, hn, hw]; rfl
      · have hge : s.size ≤ i := by have := of_decide_eq_false h; omega
        repeat' first
          | refine g_go T hC true 400 rfl rfl ?_
          | refine g_cond rfl (fun h => ?_) (fun h => ?_)
          | refine g_end T hC (by kernel_rfl) ?_
          | refine g_splitD (fun h => ?_) (fun h => ?_)
          | refine g_splitG rfl rfl rfl (fun h => ?_) (fun h => ?_)
          | refine g_splitP rfl rfl (fun h => ?_) (fun h => ?_)
          | refine g_outE ?_
          | refine g_call hC (isKeyword_ok _) rfl rfl (LeSs.refl _) rfl rfl rfl ?_
          | refine g_retq T (.inl rfl) rfl ?_
        rw [hnm, all_end (by rw [hbl]; exact hge) hn]; rfl
end Hw.D
namespace Hw.D
open Go Go.Proofs Hw.M

def isType (s : Str) : Bool := decide (s = (⟨#[105, 110, 116]⟩ : ByteArray)) || decide (s = (⟨#[98, 111, 111, 108]⟩ : ByteArray)) || isName s
def isOpen (s : Str) : Bool := decide (s = (⟨#[]⟩ : ByteArray)) || isName s
def fieldOk (f : Fld) : Bool := isName f.n && isType f.t
def fieldsOk (l : List Fld) (most : Int) : Bool := decide ((l.length : Int) ≤ most) && l.all fieldOk

end Hw.D
namespace Hw.D
open Go Go.Proofs Hw.M

def tyIdx (d : Desc) (s : Str) : Int := idxOf (fun t => decide (t.n = s)) d.types
def isPlain (s : Str) : Bool := decide (s = (⟨#[105, 110, 116]⟩ : ByteArray)) || decide (s = (⟨#[98, 111, 111, 108]⟩ : ByteArray))
def known (d : Desc) (f : Fld) : Bool := isPlain f.t || !decide (tyIdx d f.t < 0)
end Hw.D
namespace Hw.D
open Go Go.Proofs Hw.M

/-- P12: a value is right for a type. -/
def rightV (d : Desc) (m : Hp) (t : Str) (v : Int) : Bool :=
  if t = (⟨#[105, 110, 116]⟩ : ByteArray) then decide (-1099511627776 ≤ v) && decide (v ≤ 1099511627776)
  else if t = (⟨#[98, 111, 111, 108]⟩ : ByteArray) then decide (v = 0) || decide (v = 1)
  else decide (v = 0) || (decide (1 ≤ v) && decide (v ≤ m.n.length) && decide ((m.n[(v - 1).toNat]?).map (·.t) = some (tyIdx d t)))
/-- A memory is large. -/
def manyS (m : Hp) : Bool := decide (60 < (m.g.length : Int)) || decide (60 < (m.n.length : Int)) || m.n.any fun x => decide (60 < (x.f.length : Int))
def noneS (m : Hp) : Bool := decide ((m.g.length : Int) = 0) && decide ((m.n.length : Int) = 0)
/-- The memory without nodes. -/
def newHp (d : Desc) : Hp := ⟨List.replicate d.globals.length 0, []⟩
theorem newRow (n : Nat) : List.replicate n [PV.k (.int .i64 0)] = (List.replicate n (0 : Int)).map intR := by rw [List.map_replicate]; rfl
end Hw.D
