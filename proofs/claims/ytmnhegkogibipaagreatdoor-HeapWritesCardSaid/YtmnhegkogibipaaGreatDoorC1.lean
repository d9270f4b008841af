/- The seat's tables of types. -/
import Derived.Test.YtmnhegkogibipaaGreatDoorProg
import Derived.Test.YtmnhegkogibipaaGreatDoorE2
import Derived.KernelRfl
import Derived.Shelf.Strings.Fields
import Derived.Test.YtmnhegkogibipaaGreatDoorE3
set_option linter.unusedVariables false
set_option linter.unusedSimpArgs false
namespace Hw.Z
open Go Go.Proofs
def tabs : Tabs :=
{ sh := (.nd (.nd (.nd (.nd (.nd (.nd (.nd .lf 1 none .lf) 2 none .lf) 3 none (.nd (.nd .lf 4 none .lf) 5 none .lf)) 9 none (.nd (.nd (.nd .lf 20 none .lf) 21 none .lf) 22 none (.nd .lf 23 none .lf))) 24 none (.nd (.nd (.nd (.nd .lf 25 none .lf) 26 none .lf) 27 none (.nd (.nd .lf 28 none .lf) 30 (some 8) .lf)) 31 none (.nd (.nd (.nd .lf 32 none .lf) 34 (some 2) .lf) 37 none (.nd .lf 42 none .lf)))) 51 (some 2) (.nd (.nd (.nd (.nd (.nd .lf 57 (some 2) .lf) 58 none .lf) 60 (some 2) (.nd (.nd .lf 62 (some 2) .lf) 77 none .lf)) 89 none (.nd (.nd (.nd .lf 91 (some 5) .lf) 93 none .lf) 99 none (.nd .lf 102 none .lf))) 110 none (.nd (.nd (.nd (.nd .lf 113 none .lf) 117 none .lf) 119 (some 13) (.nd (.nd .lf 120 none .lf) 130 none .lf)) 132 none (.nd (.nd (.nd .lf 137 none .lf) 139 (some 4) .lf) 143 (some 7) (.nd .lf 146 (some 6) .lf))))) 148 (some 5) (.nd (.nd (.nd (.nd (.nd (.nd .lf 150 (some 5) .lf) 162 none .lf) 164 none (.nd (.nd .lf 170 none .lf) 175 (some 5) .lf)) 182 none (.nd (.nd (.nd .lf 184 none .lf) 189 none .lf) 201 none (.nd .lf 203 none .lf))) 205 (some 1) (.nd (.nd (.nd (.nd .lf 212 none .lf) 220 none .lf) 226 none (.nd (.nd .lf 228 none .lf) 230 (some 2) .lf)) 232 none (.nd (.nd (.nd .lf 247 none .lf) 254 none .lf) 258 (some 24) (.nd .lf 263 (some 3) .lf)))) 264 (some 33) (.nd (.nd (.nd (.nd (.nd .lf 265 none .lf) 270 none .lf) 276 (some 20) (.nd (.nd .lf 277 (some 65) .lf) 279 none .lf)) 286 (some 256) (.nd (.nd (.nd .lf 288 none .lf) 289 none .lf) 292 none (.nd .lf 294 (some 2) .lf))) 296 none (.nd (.nd (.nd (.nd .lf 297 (some 32) .lf) 298 (some 64) .lf) 299 none (.nd (.nd .lf 300 none .lf) 302 (some 3) .lf)) 303 none (.nd (.nd (.nd .lf 305 (some 3) .lf) 308 (some 3) .lf) 310 none (.nd .lf 311 none .lf))))))
  fo := (.nd (.nd (.nd (.nd (.nd .lf 30 (.nd (.nd (.nd (.nd .lf 0 0 .lf) 1 1 .lf) 2 2 (.nd .lf 3 3 .lf)) 4 4 (.nd (.nd .lf 5 5 .lf) 6 6 (.nd .lf 7 7 .lf))) .lf) 34 (.nd (.nd .lf 0 0 .lf) 1 1 .lf) .lf) 51 (.nd (.nd .lf 0 0 .lf) 1 1 .lf) (.nd (.nd .lf 57 (.nd (.nd .lf 0 0 .lf) 1 1 .lf) .lf) 60 (.nd (.nd .lf 0 0 .lf) 1 1 .lf) .lf)) 62 (.nd (.nd .lf 0 0 .lf) 1 1 .lf) (.nd (.nd (.nd .lf 91 (.nd (.nd (.nd .lf 0 0 .lf) 1 1 .lf) 2 2 (.nd (.nd .lf 3 3 .lf) 4 4 .lf)) .lf) 119 (.nd (.nd (.nd .lf 0 0 .lf) 1 8 .lf) 2 10 (.nd (.nd .lf 3 11 .lf) 4 12 .lf)) .lf) 139 (.nd (.nd (.nd .lf 0 0 .lf) 1 1 .lf) 2 2 (.nd .lf 3 3 .lf)) (.nd .lf 143 (.nd (.nd (.nd .lf 0 0 .lf) 1 1 .lf) 2 2 (.nd .lf 3 3 .lf)) .lf))) 146 (.nd (.nd .lf 0 0 .lf) 1 1 (.nd .lf 2 2 .lf)) (.nd (.nd (.nd (.nd .lf 148 (.nd (.nd .lf 0 0 .lf) 1 1 .lf) .lf) 150 (.nd (.nd .lf 0 0 .lf) 1 1 .lf) .lf) 175 (.nd (.nd (.nd .lf 0 0 .lf) 1 1 .lf) 2 2 (.nd (.nd .lf 3 3 .lf) 4 4 .lf)) (.nd (.nd .lf 205 (.nd .lf 0 0 .lf) .lf) 230 (.nd (.nd .lf 0 0 .lf) 1 1 .lf) .lf)) 263 (.nd (.nd .lf 0 0 .lf) 1 1 (.nd .lf 2 2 .lf)) (.nd (.nd (.nd .lf 294 (.nd (.nd .lf 0 0 .lf) 1 1 .lf) .lf) 302 (.nd (.nd .lf 0 0 .lf) 1 1 (.nd .lf 2 2 .lf)) .lf) 305 (.nd (.nd .lf 0 0 .lf) 1 1 (.nd .lf 2 2 .lf)) (.nd .lf 308 (.nd (.nd .lf 0 0 .lf) 1 1 (.nd .lf 2 2 .lf)) .lf))))
  es := (.nd (.nd (.nd (.nd (.nd .lf 22 (62, 2) .lf) 23 (57, 2) .lf) 24 (91, 5) (.nd .lf 25 (143, 7) .lf)) 26 (146, 6) (.nd (.nd .lf 27 (148, 5) .lf) 28 (150, 5) (.nd .lf 31 (3, 1) .lf))) 32 (60, 2) (.nd (.nd (.nd (.nd .lf 77 (5, 1) .lf) 89 (175, 5) .lf) 99 (9, 1) (.nd .lf 110 (34, 2) .lf)) 137 (139, 4) (.nd (.nd .lf 292 (294, 2) .lf) 299 (305, 3) (.nd .lf 300 (308, 3) .lf))))
  zs := (.nd (.nd (.nd (.nd (.nd (.nd (.nd .lf 1 [.nfunc] .lf) 2 [(.int .i64)] .lf) 3 [(.int .i64)] (.nd (.nd .lf 4 [.bool] .lf) 5 [(.int .u8)] .lf)) 9 [.str] (.nd (.nd (.nd .lf 20 [.nif] .lf) 21 [(.int .i32)] .lf) 22 [.slice] (.nd .lf 23 [.slice] .lf))) 24 [.slice] (.nd (.nd (.nd (.nd .lf 25 [.slice] .lf) 26 [.slice] .lf) 27 [.slice] (.nd (.nd .lf 28 [.slice] .lf) 30 [.str, .slice, .slice, .slice, .slice, .slice, .slice, .slice] .lf)) 31 [.slice] (.nd (.nd (.nd .lf 32 [.slice] .lf) 34 [.slice, .slice] .lf) 37 [(.int .i64)] (.nd .lf 42 [.nfunc] .lf)))) 51 [.slice, (.int .i64)] (.nd (.nd (.nd (.nd (.nd .lf 57 [.str, .str] .lf) 58 [.nfunc] .lf) 60 [(.int .i64), .slice] (.nd (.nd .lf 62 [.str, .slice] .lf) 77 [.slice] .lf)) 89 [.slice] (.nd (.nd (.nd .lf 91 [.str, .slice, .str, .slice, .slice] .lf) 93 [.ptr] .lf) 99 [.slice] (.nd .lf 102 [.nfunc] .lf))) 110 [.slice] (.nd (.nd (.nd (.nd .lf 113 [.map] .lf) 117 [.map] .lf) 119 [.str, .slice, .slice, .slice, .slice, .slice, .slice, .slice, .slice, .slice, .slice, .map, (.int .i64)] (.nd .lf 120 [.ptr] .lf)) 130 [.nfunc] (.nd (.nd (.nd .lf 132 [.nfunc] .lf) 137 [.slice] .lf) 139 [(.int .i64), (.int .i64), .str, .slice] (.nd .lf 143 [.str, .str, (.int .i64), (.int .i64), (.int .i64), .str, .slice] .lf))))) 146 [.str, .str, (.int .i64), (.int .i64), .str, .slice] (.nd (.nd (.nd (.nd (.nd (.nd .lf 148 [.str, (.int .i64), (.int .i64), .str, .slice] .lf) 150 [.str, (.int .i64), (.int .i64), .str, .slice] .lf) 162 [.nfunc] (.nd (.nd .lf 164 [.nfunc] .lf) 170 [.map] .lf)) 175 [(.int .i64), .str, .slice, .slice, .slice] (.nd (.nd (.nd .lf 182 [.nfunc] .lf) 184 [.nfunc] .lf) 189 [.nfunc] (.nd .lf 201 [.nfunc] .lf))) 203 [.ptr] (.nd (.nd (.nd (.nd .lf 205 [(.int .i64)] .lf) 212 [(.int .u64)] .lf) 220 [(.int .u64)] (.nd .lf 226 [.map] .lf)) 228 [.ptr] (.nd (.nd (.nd .lf 230 [.ptr, .slice] .lf) 232 [.nif] .lf) 247 [(.int .i64)] (.nd .lf 254 [(.int .u32)] .lf)))) 258 [(.int .u8), (.int .u8), (.int .u8), (.int .u8), (.int .u8), (.int .u8), (.int .u8), (.int .u8), (.int .u8), (.int .u8), (.int .u8), (.int .u8), (.int .u8), (.int .u8), (.int .u8), (.int .u8), (.int .u8), (.int .u8), (.int .u8), (.int .u8), (.int .u8), (.int .u8), (.int .u8), (.int .u8)] (.nd (.nd (.nd (.nd (.nd .lf 263 [(.int .i64), (.int .i64), .str] .lf) 264 [(.int .i64), (.int .i64), .str, (.int .i64), (.int .i64), .str, (.int .i64), (.int .i64), .str, (.int .i64), (.int .i64), .str, (.int .i64), (.int .i64), .str, (.int .i64), (.int .i64), .str, (.int .i64), (.int .i64), .str, (.int .i64), (.int .i64), .str, (.int .i64), (.int .i64), .str, (.int .i64), (.int .i64), .str, (.int .i64), (.int .i64), .str] .lf) 265 [.ptr] (.nd (.nd .lf 270 [(.int .u64)] .lf) 276 [(.int .u64), (.int .u64), (.int .u64), (.int .u64), (.int .u64), (.int .u64), (.int .u64), (.int .u64), (.int .u64), (.int .u64), (.int .u64), (.int .u64), (.int .u64), (.int .u64), (.int .u64), (.int .u64), (.int .u64), (.int .u64), (.int .u64), (.int .u64)] .lf)) 279 [.ptr] (.nd (.nd (.nd .lf 288 [.nfunc] .lf) 289 [.ptr] .lf) 292 [.slice] (.nd .lf 294 [(.int .i64), (.int .i64)] .lf))) 296 [.ptr] (.nd (.nd (.nd (.nd .lf 297 [(.int .u8), (.int .u8), (.int .u8), (.int .u8), (.int .u8), (.int .u8), (.int .u8), (.int .u8), (.int .u8), (.int .u8), (.int .u8), (.int .u8), (.int .u8), (.int .u8), (.int .u8), (.int .u8), (.int .u8), (.int .u8), (.int .u8), (.int .u8), (.int .u8), (.int .u8), (.int .u8), (.int .u8), (.int .u8), (.int .u8), (.int .u8), (.int .u8), (.int .u8), (.int .u8), (.int .u8), (.int .u8)] .lf) 299 [.slice] .lf) 300 [.slice] (.nd .lf 302 [.slice, .slice, (.int .i64)] .lf)) 303 [(.int .u16)] (.nd (.nd (.nd .lf 305 [(.int .u16), (.int .u16), (.int .u16)] .lf) 308 [(.int .u32), (.int .u32), (.int .u32)] .lf) 310 [.ptr] (.nd .lf 311 [.ptr] .lf))))))
  pl := (.nd (.nd (.nd (.nd (.nd .lf 30 [(0, 1), (1, 1), (2, 1), (3, 1), (4, 1), (5, 1), (6, 1), (7, 1)] .lf) 34 [(0, 1), (1, 1)] .lf) 51 [(0, 1), (1, 1)] (.nd (.nd .lf 57 [(0, 1), (1, 1)] .lf) 60 [(0, 1), (1, 1)] .lf)) 62 [(0, 1), (1, 1)] (.nd (.nd (.nd .lf 91 [(0, 1), (1, 1), (2, 1), (3, 1), (4, 1)] .lf) 119 [(0, 8), (8, 2), (10, 1), (11, 1), (12, 1)] .lf) 139 [(0, 1), (1, 1), (2, 1), (3, 1)] (.nd .lf 143 [(0, 1), (1, 1), (2, 1), (3, 4)] .lf))) 146 [(0, 1), (1, 1), (2, 4)] (.nd (.nd (.nd (.nd .lf 148 [(0, 1), (1, 4)] .lf) 150 [(0, 1), (1, 4)] .lf) 175 [(0, 1), (1, 1), (2, 1), (3, 1), (4, 1)] (.nd (.nd .lf 205 [(0, 1)] .lf) 230 [(0, 1), (1, 1)] .lf)) 263 [(0, 1), (1, 1), (2, 1)] (.nd (.nd (.nd .lf 294 [(0, 1), (1, 1)] .lf) 302 [(0, 1), (1, 1), (2, 1)] .lf) 305 [(0, 1), (1, 1), (2, 1)] (.nd .lf 308 [(0, 1), (1, 1), (2, 1)] .lf))))
  str := (.nd .lf 9 () .lf)
  ik := (.nd (.nd (.nd (.nd .lf 2 .i64 .lf) 3 .i64 .lf) 5 .u8 (.nd (.nd .lf 21 .i32 .lf) 37 .i64 .lf)) 212 .u64 (.nd (.nd (.nd .lf 220 .u64 .lf) 247 .i64 .lf) 254 .u32 (.nd (.nd .lf 270 .u64 .lf) 303 .u16 .lf))) }
theorem tabs_ok : tabs.check Tryz.prog = true := by kernel_rfl
theorem mixed : Tryz.prog.follows .mixedOrders = true := by kernel_rfl
noncomputable def T : Ty Tryz.prog := tabs.ty tabs_ok mixed
end Hw.Z
/- The library's functions at this program: their numbers. -/
namespace Hw.Z
open Go Go.Proofs Go.Shelf
def lays157_ren : Go.Shelf.Ren := ⟨fun | 157 => 243 | 229 => 259 | 199 => 260 | 261 => 266 | 311 => 267 | 312 => 268 | n => n, fun | 9 => 9 | 31 => 99 | 3 => 3 | 5 => 5 | 4 => 4 | 119 => 286 | 0 => 0 | 40 => 288 | 152 => 292 | 21 => 21 | 154 => 294 | 51 => 254 | 141 => 296 | 196 => 302 | 193 => 299 | 198 => 305 | 49 => 303 | 194 => 300 | 201 => 308 | 226 => 310 | 46 => 212 | 227 => 311 | n => n, fun | 0 => 1 | 6 => 3 | n => n⟩
theorem lays157 : Go.Proofs.Lays.n157 Tryz.prog lays157_ren where
  mixed := by kernel_rfl
  f157 := Tryz.func243.trans (congrArg some (by kernel_rfl))
  f199 := Tryz.func260.trans (congrArg some (by kernel_rfl))
  f229 := Tryz.func259.trans (congrArg some (by kernel_rfl))
  f261 := Tryz.func266.trans (congrArg some (by kernel_rfl))
  f311 := Tryz.func267.trans (congrArg some (by kernel_rfl))
  f312 := Tryz.func268.trans (congrArg some (by kernel_rfl))
  t0 := Tryz.underlying0
  a0 := Tryz.isAgg0
  z0 := Tryz.sizeOf0
  v0 := Tryz.zeroValue0
  t3 := Tryz.underlying3
  a3 := Tryz.isAgg3
  z3 := Tryz.sizeOf3
  v3 := Tryz.zeroValue3
  t4 := Tryz.underlying4
  a4 := Tryz.isAgg4
  z4 := Tryz.sizeOf4
  v4 := Tryz.zeroValue4
  t5 := Tryz.underlying5
  a5 := Tryz.isAgg5
  z5 := Tryz.sizeOf5
  v5 := Tryz.zeroValue5
  t9 := Tryz.underlying9
  a9 := Tryz.isAgg9
  z9 := Tryz.sizeOf9
  v9 := Tryz.zeroValue9
  t21 := Tryz.underlying21
  a21 := Tryz.isAgg21
  z21 := Tryz.sizeOf21
  v21 := Tryz.zeroValue21
  t31 := Tryz.underlying99
  a31 := Tryz.isAgg99
  z31 := Tryz.sizeOf99
  v31 := Tryz.zeroValue99
  t40 := Tryz.underlying288
  a40 := Tryz.isAgg288
  z40 := Tryz.sizeOf288
  v40 := Tryz.zeroValue288
  t46 := Tryz.underlying212
  a46 := Tryz.isAgg212
  z46 := Tryz.sizeOf212
  v46 := Tryz.zeroValue212
  t49 := Tryz.underlying303
  a49 := Tryz.isAgg303
  z49 := Tryz.sizeOf303
  v49 := Tryz.zeroValue303
  t51 := Tryz.underlying254
  a51 := Tryz.isAgg254
  z51 := Tryz.sizeOf254
  v51 := Tryz.zeroValue254
  t119 := Tryz.underlying286
  a119 := Tryz.isAgg286
  z119 := Tryz.sizeOf286
  t141 := Tryz.underlying296
  a141 := Tryz.isAgg296
  z141 := Tryz.sizeOf296
  v141 := Tryz.zeroValue296
  t152 := Tryz.underlying292
  a152 := Tryz.isAgg292
  z152 := Tryz.sizeOf292
  v152 := Tryz.zeroValue292
  t154 := Tryz.underlying294
  a154 := Tryz.isAgg294
  z154 := Tryz.sizeOf294
  v154 := Tryz.zeroValue294
  t193 := Tryz.underlying299
  a193 := Tryz.isAgg299
  z193 := Tryz.sizeOf299
  v193 := Tryz.zeroValue299
  t194 := Tryz.underlying300
  a194 := Tryz.isAgg300
  z194 := Tryz.sizeOf300
  v194 := Tryz.zeroValue300
  t196 := Tryz.underlying302
  a196 := Tryz.isAgg302
  z196 := Tryz.sizeOf302
  v196 := Tryz.zeroValue302
  t198 := Tryz.underlying305
  a198 := Tryz.isAgg305
  z198 := Tryz.sizeOf305
  v198 := Tryz.zeroValue305
  t201 := Tryz.underlying308
  a201 := Tryz.isAgg308
  z201 := Tryz.sizeOf308
  v201 := Tryz.zeroValue308
  t226 := Tryz.underlying310
  a226 := Tryz.isAgg310
  z226 := Tryz.sizeOf310
  v226 := Tryz.zeroValue310
  t227 := Tryz.underlying311
  a227 := Tryz.isAgg311
  z227 := Tryz.sizeOf311
  v227 := Tryz.zeroValue311
  g0 := by kernel_rfl
  g6 := by kernel_rfl
end Hw.Z
/- The readings of the seat's plain types: what a reading of an argument says of its cells. Printed by rd.py. -/
namespace Hw.Z
open Go Go.Proofs Hw.M
section
variable {H : Type} {enc : TypeId × Value → H} {w : World} {base : Nat} {spare : Nat → Bool} {held : Bool}
theorem rd_strS (n : Nat) : Rd enc Tryz.prog w base spare held n 9 (fun s : ByteArray => [ks s]) := rd_str (by kernel_rfl)
theorem rd_intS (n : Nat) : Rd enc Tryz.prog w base spare held n 3 (fun i : Int => [ki i]) := rd_int (by kernel_rfl)
theorem rd_ints (n : Nat) : Rd enc Tryz.prog w base spare held n 31 (fun l => [.sl 1 (List.map intR l)]) := rd_slice (c := 1) (by kernel_rfl) (by kernel_rfl) (by decide) fun m _ => rd_intS m
theorem rd_strs (n : Nat) : Rd enc Tryz.prog w base spare held n 99 (fun l => [.sl 1 (List.map strR l)]) := rd_slice (c := 1) (by kernel_rfl) (by kernel_rfl) (by decide) fun m _ => rd_strS m
theorem rd_exR (n : Nat) : Rd enc Tryz.prog w base spare held n 139 exprR := by
  induction n using Nat.strongRecOn with
  | _ n ih =>
  intro cs x h
  obtain ⟨m, rfl, c0, r0, x0, rfl, h0, c1, r1, x1, rfl, h1, c2, r2, x2, rfl, h2, c3, r3, x3, rfl, h3, rfl⟩ := trod_pieces (l := [(3, 1), (3, 1), (9, 1), (137, 1)]) (by kernel_rfl) h
  obtain ⟨a0, k0⟩ := rd_intS m c0 x0 h0
  obtain ⟨a1, k1⟩ := rd_intS m c1 x1 h1
  obtain ⟨a2, k2⟩ := rd_strS m c2 x2 h2
  obtain ⟨a3, k3⟩ := rd_slice (c := 4) (R := exprR) (by kernel_rfl) (by kernel_rfl) (by decide) (fun k hk => ih k (by omega)) c3 x3 h3
  refine ⟨.mk a0 a1 a2 a3, ?_⟩
  rw [exprR_eq]
  exact (k0.app (k1.app (k2.app (k3.app (show CellsM (memOf w) [] [] from trivial)))))
theorem rd_ex (n : Nat) : Rd enc Tryz.prog w base spare held n 139 exprC := fun cs x h => by
  obtain ⟨a, k⟩ := rd_exR n cs x h
  exact ⟨a, by rw [exprR_eq] at k; exact k⟩
theorem rd_exs (n : Nat) : Rd enc Tryz.prog w base spare held n 137 (fun l => [.sl 4 (List.map exprR l)]) := rd_slice (c := 4) (by kernel_rfl) (by kernel_rfl) (by decide) fun m _ => rd_exR m
theorem rd_stR (n : Nat) : Rd enc Tryz.prog w base spare held n 175 stmtR := by
  induction n using Nat.strongRecOn with
  | _ n ih =>
  intro cs x h
  obtain ⟨m, rfl, c0, r0, x0, rfl, h0, c1, r1, x1, rfl, h1, c2, r2, x2, rfl, h2, c3, r3, x3, rfl, h3, c4, r4, x4, rfl, h4, rfl⟩ := trod_pieces (l := [(3, 1), (9, 1), (137, 1), (89, 1), (89, 1)]) (by kernel_rfl) h
  obtain ⟨a0, k0⟩ := rd_intS m c0 x0 h0
  obtain ⟨a1, k1⟩ := rd_strS m c1 x1 h1
  obtain ⟨a2, k2⟩ := rd_exs m c2 x2 h2
  obtain ⟨a3, k3⟩ := rd_slice (c := 5) (R := stmtR) (by kernel_rfl) (by kernel_rfl) (by decide) (fun k hk => ih k (by omega)) c3 x3 h3
  obtain ⟨a4, k4⟩ := rd_slice (c := 5) (R := stmtR) (by kernel_rfl) (by kernel_rfl) (by decide) (fun k hk => ih k (by omega)) c4 x4 h4
  refine ⟨.mk a0 a1 a2 a3 a4, ?_⟩
  rw [stmtR_eq]
  exact (k0.app (k1.app (k2.app (k3.app (k4.app (show CellsM (memOf w) [] [] from trivial))))))
theorem rd_st (n : Nat) : Rd enc Tryz.prog w base spare held n 175 stmtC := fun cs x h => by
  obtain ⟨a, k⟩ := rd_stR n cs x h
  exact ⟨a, by rw [stmtR_eq] at k; exact k⟩
theorem rd_sts (n : Nat) : Rd enc Tryz.prog w base spare held n 89 (fun l => [.sl 5 (List.map stmtR l)]) := rd_slice (c := 5) (by kernel_rfl) (by kernel_rfl) (by decide) fun m _ => rd_stR m
theorem rd_fld (n : Nat) : Rd enc Tryz.prog w base spare held n 57 fieldR := by
  intro cs x h
  obtain ⟨m, rfl, c0, r0, x0, rfl, h0, c1, r1, x1, rfl, h1, rfl⟩ := trod_pieces (l := [(9, 1), (9, 1)]) (by kernel_rfl) h
  obtain ⟨a0, k0⟩ := rd_strS m c0 x0 h0
  obtain ⟨a1, k1⟩ := rd_strS m c1 x1 h1
  refine ⟨⟨a0, a1⟩, ?_⟩
  exact (k0.app (k1.app (show CellsM (memOf w) [] [] from trivial)))
theorem rd_flds (n : Nat) : Rd enc Tryz.prog w base spare held n 23 (fun l => [.sl 2 (List.map fieldR l)]) := rd_slice (c := 2) (by kernel_rfl) (by kernel_rfl) (by decide) fun m _ => rd_fld m
theorem rd_nt (n : Nat) : Rd enc Tryz.prog w base spare held n 62 nodeTR := by
  intro cs x h
  obtain ⟨m, rfl, c0, r0, x0, rfl, h0, c1, r1, x1, rfl, h1, rfl⟩ := trod_pieces (l := [(9, 1), (23, 1)]) (by kernel_rfl) h
  obtain ⟨a0, k0⟩ := rd_strS m c0 x0 h0
  obtain ⟨a1, k1⟩ := rd_flds m c1 x1 h1
  refine ⟨⟨a0, a1⟩, ?_⟩
  exact (k0.app (k1.app (show CellsM (memOf w) [] [] from trivial)))
theorem rd_nts (n : Nat) : Rd enc Tryz.prog w base spare held n 22 (fun l => [.sl 2 (List.map nodeTR l)]) := rd_slice (c := 2) (by kernel_rfl) (by kernel_rfl) (by decide) fun m _ => rd_nt m
theorem rd_pr (n : Nat) : Rd enc Tryz.prog w base spare held n 91 procR := by
  intro cs x h
  obtain ⟨m, rfl, c0, r0, x0, rfl, h0, c1, r1, x1, rfl, h1, c2, r2, x2, rfl, h2, c3, r3, x3, rfl, h3, c4, r4, x4, rfl, h4, rfl⟩ := trod_pieces (l := [(9, 1), (23, 1), (9, 1), (23, 1), (89, 1)]) (by kernel_rfl) h
  obtain ⟨a0, k0⟩ := rd_strS m c0 x0 h0
  obtain ⟨a1, k1⟩ := rd_flds m c1 x1 h1
  obtain ⟨a2, k2⟩ := rd_strS m c2 x2 h2
  obtain ⟨a3, k3⟩ := rd_flds m c3 x3 h3
  obtain ⟨a4, k4⟩ := rd_sts m c4 x4 h4
  refine ⟨⟨a0, a1, a2, a3, a4⟩, ?_⟩
  exact (k0.app (k1.app (k2.app (k3.app (k4.app (show CellsM (memOf w) [] [] from trivial))))))
theorem rd_prs (n : Nat) : Rd enc Tryz.prog w base spare held n 24 (fun l => [.sl 5 (List.map procR l)]) := rd_slice (c := 5) (by kernel_rfl) (by kernel_rfl) (by decide) fun m _ => rd_pr m
theorem rd_ms (n : Nat) : Rd enc Tryz.prog w base spare held n 143 measureR := by
  intro cs x h
  obtain ⟨m, rfl, c0, r0, x0, rfl, h0, c1, r1, x1, rfl, h1, c2, r2, x2, rfl, h2, c3, r3, x3, rfl, h3, rfl⟩ := trod_pieces (l := [(9, 1), (9, 1), (3, 1), (139, 4)]) (by kernel_rfl) h
  obtain ⟨a0, k0⟩ := rd_strS m c0 x0 h0
  obtain ⟨a1, k1⟩ := rd_strS m c1 x1 h1
  obtain ⟨a2, k2⟩ := rd_intS m c2 x2 h2
  obtain ⟨a3, k3⟩ := rd_ex m c3 x3 h3
  refine ⟨⟨a0, a1, a2, a3⟩, ?_⟩
  exact (k0.app (k1.app (k2.app (k3.app (show CellsM (memOf w) [] [] from trivial)))))
theorem rd_mss (n : Nat) : Rd enc Tryz.prog w base spare held n 25 (fun l => [.sl 7 (List.map measureR l)]) := rd_slice (c := 7) (by kernel_rfl) (by kernel_rfl) (by decide) fun m _ => rd_ms m
theorem rd_iv (n : Nat) : Rd enc Tryz.prog w base spare held n 146 invR := by
  intro cs x h
  obtain ⟨m, rfl, c0, r0, x0, rfl, h0, c1, r1, x1, rfl, h1, c2, r2, x2, rfl, h2, rfl⟩ := trod_pieces (l := [(9, 1), (9, 1), (139, 4)]) (by kernel_rfl) h
  obtain ⟨a0, k0⟩ := rd_strS m c0 x0 h0
  obtain ⟨a1, k1⟩ := rd_strS m c1 x1 h1
  obtain ⟨a2, k2⟩ := rd_ex m c2 x2 h2
  refine ⟨⟨a0, a1, a2⟩, ?_⟩
  exact (k0.app (k1.app (k2.app (show CellsM (memOf w) [] [] from trivial))))
theorem rd_ivs (n : Nat) : Rd enc Tryz.prog w base spare held n 26 (fun l => [.sl 6 (List.map invR l)]) := rd_slice (c := 6) (by kernel_rfl) (by kernel_rfl) (by decide) fun m _ => rd_iv m
theorem rd_pt (n : Nat) : Rd enc Tryz.prog w base spare held n 148 potR := by
  intro cs x h
  obtain ⟨m, rfl, c0, r0, x0, rfl, h0, c1, r1, x1, rfl, h1, rfl⟩ := trod_pieces (l := [(9, 1), (139, 4)]) (by kernel_rfl) h
  obtain ⟨a0, k0⟩ := rd_strS m c0 x0 h0
  obtain ⟨a1, k1⟩ := rd_ex m c1 x1 h1
  refine ⟨⟨a0, a1⟩, ?_⟩
  exact (k0.app (k1.app (show CellsM (memOf w) [] [] from trivial)))
theorem rd_pts (n : Nat) : Rd enc Tryz.prog w base spare held n 27 (fun l => [.sl 5 (List.map potR l)]) := rd_slice (c := 5) (by kernel_rfl) (by kernel_rfl) (by decide) fun m _ => rd_pt m
theorem rd_bd (n : Nat) : Rd enc Tryz.prog w base spare held n 150 boundR := by
  intro cs x h
  obtain ⟨m, rfl, c0, r0, x0, rfl, h0, c1, r1, x1, rfl, h1, rfl⟩ := trod_pieces (l := [(9, 1), (139, 4)]) (by kernel_rfl) h
  obtain ⟨a0, k0⟩ := rd_strS m c0 x0 h0
  obtain ⟨a1, k1⟩ := rd_ex m c1 x1 h1
  refine ⟨⟨a0, a1⟩, ?_⟩
  exact (k0.app (k1.app (show CellsM (memOf w) [] [] from trivial)))
theorem rd_bds (n : Nat) : Rd enc Tryz.prog w base spare held n 28 (fun l => [.sl 5 (List.map boundR l)]) := rd_slice (c := 5) (by kernel_rfl) (by kernel_rfl) (by decide) fun m _ => rd_bd m
theorem rd_desc (n : Nat) : Rd enc Tryz.prog w base spare held n 30 descR := by
  intro cs x h
  obtain ⟨m, rfl, c0, r0, x0, rfl, h0, c1, r1, x1, rfl, h1, c2, r2, x2, rfl, h2, c3, r3, x3, rfl, h3, c4, r4, x4, rfl, h4, c5, r5, x5, rfl, h5, c6, r6, x6, rfl, h6, c7, r7, x7, rfl, h7, rfl⟩ := trod_pieces (l := [(9, 1), (22, 1), (23, 1), (24, 1), (25, 1), (26, 1), (27, 1), (28, 1)]) (by kernel_rfl) h
  obtain ⟨a0, k0⟩ := rd_strS m c0 x0 h0
  obtain ⟨a1, k1⟩ := rd_nts m c1 x1 h1
  obtain ⟨a2, k2⟩ := rd_flds m c2 x2 h2
  obtain ⟨a3, k3⟩ := rd_prs m c3 x3 h3
  obtain ⟨a4, k4⟩ := rd_mss m c4 x4 h4
  obtain ⟨a5, k5⟩ := rd_ivs m c5 x5 h5
  obtain ⟨a6, k6⟩ := rd_pts m c6 x6 h6
  obtain ⟨a7, k7⟩ := rd_bds m c7 x7 h7
  refine ⟨⟨a0, a1, a2, a3, a4, a5, a6, a7⟩, ?_⟩
  exact (k0.app (k1.app (k2.app (k3.app (k4.app (k5.app (k6.app (k7.app (show CellsM (memOf w) [] [] from trivial)))))))))
theorem rd_nd (n : Nat) : Rd enc Tryz.prog w base spare held n 60 nodeR := by
  intro cs x h
  obtain ⟨m, rfl, c0, r0, x0, rfl, h0, c1, r1, x1, rfl, h1, rfl⟩ := trod_pieces (l := [(3, 1), (31, 1)]) (by kernel_rfl) h
  obtain ⟨a0, k0⟩ := rd_intS m c0 x0 h0
  obtain ⟨a1, k1⟩ := rd_ints m c1 x1 h1
  refine ⟨⟨a0, a1⟩, ?_⟩
  exact (k0.app (k1.app (show CellsM (memOf w) [] [] from trivial)))
theorem rd_nds (n : Nat) : Rd enc Tryz.prog w base spare held n 32 (fun l => [.sl 2 (List.map nodeR l)]) := rd_slice (c := 2) (by kernel_rfl) (by kernel_rfl) (by decide) fun m _ => rd_nd m
theorem rd_mem (n : Nat) : Rd enc Tryz.prog w base spare held n 34 memR := by
  intro cs x h
  obtain ⟨m, rfl, c0, r0, x0, rfl, h0, c1, r1, x1, rfl, h1, rfl⟩ := trod_pieces (l := [(31, 1), (32, 1)]) (by kernel_rfl) h
  obtain ⟨a0, k0⟩ := rd_ints m c0 x0 h0
  obtain ⟨a1, k1⟩ := rd_nds m c1 x1 h1
  refine ⟨⟨a0, a1⟩, ?_⟩
  exact (k0.app (k1.app (show CellsM (memOf w) [] [] from trivial)))
end
end Hw.Z
namespace Hw.Z
open Go Go.Proofs Hw.M

abbrev uc (c : Int) : S := .one (.p (.k (.int .u8 c)))
def isLetter (c : Int) : Bool := (decide (97 ≤ c) && decide (c ≤ 122)) || (decide (65 ≤ c) && decide (c ≤ 90))
def isDigit (c : Int) : Bool := decide (48 ≤ c) && decide (c ≤ 57)
def isWord (c : Int) : Bool := (isLetter c || isDigit c) || decide (c = 95)

theorem letter_ok (c : Int) : FnOK Tryz.prog 169 [uc c] [] (.bq (isLetter c)) [] := by
  refine fn_ok T Tryz.func169 (by kernel_rfl) rfl rfl rfl rfl fun C hC => ?_
  repeat' first
    | refine g_go T hC true 400 rfl rfl ?_
    | refine g_cond rfl (fun h => ?_) (fun h => ?_)
    | refine g_end T hC (by kernel_rfl) ?_
    | refine g_splitD (fun h => ?_) (fun h => ?_)
    | refine g_splitG rfl rfl rfl (fun h => ?_) (fun h => ?_)
    | refine g_splitP rfl rfl (fun h => ?_) (fun h => ?_)
    | refine g_retq T (.inl rfl) rfl ?_
    | refine g_retl T (.inl rfl) rfl ?_
  all_goals (simp_all [isLetter] <;> omega)
theorem digit_ok (c : Int) : FnOK Tryz.prog 212 [uc c] [] (.bq (isDigit c)) [] := by
  refine fn_ok T Tryz.func212 (by kernel_rfl) rfl rfl rfl rfl fun C hC => ?_
  repeat' first
    | refine g_go T hC true 400 rfl rfl ?_
    | refine g_cond rfl (fun h => ?_) (fun h => ?_)
    | refine g_end T hC (by kernel_rfl) ?_
    | refine g_splitD (fun h => ?_) (fun h => ?_)
    | refine g_splitG rfl rfl rfl (fun h => ?_) (fun h => ?_)
    | refine g_splitP rfl rfl (fun h => ?_) (fun h => ?_)
    | refine g_retq T (.inl rfl) rfl ?_
    | refine g_retl T (.inl rfl) rfl ?_
  all_goals (simp_all [isDigit] <;> omega)
theorem word_ok (c : Int) : FnOK Tryz.prog 170 [uc c] [] (.bq (isWord c)) [] := by
  refine fn_ok T Tryz.func170 (by kernel_rfl) rfl rfl rfl rfl fun C hC => ?_
  repeat' first
    | refine g_go T hC true 400 rfl rfl ?_
    | refine g_cond rfl (fun h => ?_) (fun h => ?_)
    | refine g_end T hC (by kernel_rfl) ?_
    | refine g_splitD (fun h => ?_) (fun h => ?_)
    | refine g_splitG rfl rfl rfl (fun h => ?_) (fun h => ?_)
    | refine g_splitP rfl rfl (fun h => ?_) (fun h => ?_)
    | refine g_retq T (.inl rfl) rfl ?_
    | refine g_retl T (.inl rfl) rfl ?_
    | refine g_call hC (letter_ok _) rfl rfl (LeSs.refl _) rfl rfl rfl ?_
    | refine g_call hC (digit_ok _) rfl rfl (LeSs.refl _) rfl rfl rfl ?_
  all_goals simp_all [isWord]

theorem has_ok (l : List Str) (s : Str) : FnOK Tryz.prog 213 [pS (strsP l), Sr s] [] (.bq (l.any fun x => decide (x = s))) [] := by
  refine fn_ok T Tryz.func213 (by kernel_rfl) rfl rfl rfl rfl fun C hC => ?_
  refine g_len 0 rfl fun hlen => ?_
  rw [List.length_map] at hlen
  repeat' first
    | refine g_go T hC true 400 rfl rfl ?_
    | refine g_cond rfl (fun h => ?_) (fun h => ?_)
    | refine g_end T hC (by kernel_rfl) ?_
    | refine g_splitD (fun h => ?_) (fun h => ?_)
    | refine g_splitG rfl rfl rfl (fun h => ?_) (fun h => ?_)
    | refine g_splitP rfl rfl (fun h => ?_) (fun h => ?_)
  refine g_loop (fun i : Nat => i ≤ l.length ∧ (l.take i).any (fun x => decide (x = s)) = false) (fun i => ([(0, pS (strsP l)), (1, Sr s), (5, I i)], [])) (fun i => l.length - i) hC
    0 ⟨Nat.zero_le _, by simp⟩ id ⟨rfl, ⟨rfl, rfl, rfl, trivial⟩, trivial, rfl, fun _ _ => rfl⟩ ?_
  rintro i ⟨hi, hn⟩
  refine g_run' T hC true 200 rfl ?_
  refine g_cond rfl (fun h => ?_) (fun h => ?_)
  · have hlt : i < l.length := by simpa using h
    obtain ⟨x, hx⟩ := exists_at hlt
    repeat' first
      | refine g_go T hC true 400 rfl rfl ?_
      | refine g_cond rfl (fun h => ?_) (fun h => ?_)
      | refine g_end T hC (by kernel_rfl) ?_
      | refine g_splitD (fun h => ?_) (fun h => ?_)
      | refine g_splitG rfl rfl rfl (fun h => ?_) (fun h => ?_)
      | refine g_splitP rfl rfl (fun h => ?_) (fun h => ?_)
      | refine g_idx T hC rfl rfl rfl (Int.natCast_nonneg _) (map_at (by assumption)) rfl rfl ?_
      | refine g_outR ?_
      | refine g_outE ?_
      | refine g_retq T (.inl rfl) rfl ?_
      | refine g_retl T (.inl rfl) rfl ?_
    · exact (any_yes hx h).symm
    · rw [wrap64 (by omega)]
      refine g_round (i + 1) ⟨by omega, ?_⟩ id (by omega) ⟨rfl, ⟨rfl, rfl, rfl, trivial⟩, trivial, rfl, fun _ _ => rfl⟩
      rw [any_take hx, hn, h]; rfl
  · have hge : ¬ i < l.length := by simpa using h
    repeat' first
      | refine g_go T hC true 400 rfl rfl ?_
      | refine g_cond rfl (fun h => ?_) (fun h => ?_)
      | refine g_end T hC (by kernel_rfl) ?_
      | refine g_splitD (fun h => ?_) (fun h => ?_)
      | refine g_splitG rfl rfl rfl (fun h => ?_) (fun h => ?_)
      | refine g_splitP rfl rfl (fun h => ?_) (fun h => ?_)
      | refine g_outE ?_
      | refine g_retl T (.inl rfl) rfl ?_
    exact (any_end (by omega) hn).symm

def keywords : List Str := [(⟨#[116, 121, 112, 101]⟩ : ByteArray), (⟨#[118, 97, 114]⟩ : ByteArray), (⟨#[112, 114, 111, 99]⟩ : ByteArray), (⟨#[108, 111, 99, 97, 108]⟩ : ByteArray), (⟨#[109, 101, 97, 115, 117, 114, 101]⟩ : ByteArray), (⟨#[105, 110, 118, 97, 114, 105, 97, 110, 116]⟩ : ByteArray), (⟨#[112, 111, 116, 101, 110, 116, 105, 97, 108]⟩ : ByteArray), (⟨#[98, 111, 117, 110, 100]⟩ : ByteArray), (⟨#[105, 102]⟩ : ByteArray), (⟨#[101, 108, 115, 101]⟩ : ByteArray), (⟨#[119, 104, 105, 108, 101]⟩ : ByteArray), (⟨#[114, 101, 116, 117, 114, 110]⟩ : ByteArray), (⟨#[110, 101, 119]⟩ : ByteArray), (⟨#[110, 105, 108]⟩ : ByteArray), (⟨#[116, 114, 117, 101]⟩ : ByteArray), (⟨#[102, 97, 108, 115, 101]⟩ : ByteArray), (⟨#[97, 110, 100]⟩ : ByteArray), (⟨#[111, 114]⟩ : ByteArray), (⟨#[110, 111, 116]⟩ : ByteArray), (⟨#[109, 97, 120]⟩ : ByteArray), (⟨#[109, 105, 110]⟩ : ByteArray), (⟨#[108, 111, 103]⟩ : ByteArray), (⟨#[105, 110, 116]⟩ : ByteArray), (⟨#[98, 111, 111, 108]⟩ : ByteArray), (⟨#[116, 104, 105, 115]⟩ : ByteArray), (⟨#[115, 111, 114, 116]⟩ : ByteArray), (⟨#[111, 112]⟩ : ByteArray), (⟨#[114, 117, 108, 101]⟩ : ByteArray), (⟨#[115, 112, 101, 99]⟩ : ByteArray), (⟨#[100, 101, 115, 99]⟩ : ByteArray), (⟨#[115, 99, 114, 105, 112, 116]⟩ : ByteArray)]
def isKeyword (s : Str) : Bool := keywords.any fun x => decide (x = s)
theorem keywords_ok : FnOK Tryz.prog 214 [] [] (pS (strsP keywords)) [] := by
  refine fn_ok T Tryz.func214 (by kernel_rfl) rfl rfl rfl rfl fun C hC => ?_
  repeat' first
    | refine g_go T hC true 400 rfl rfl ?_
    | refine g_cond rfl (fun h => ?_) (fun h => ?_)
    | refine g_end T hC (by kernel_rfl) ?_
    | refine g_splitD (fun h => ?_) (fun h => ?_)
    | refine g_splitG rfl rfl rfl (fun h => ?_) (fun h => ?_)
    | refine g_splitP rfl rfl (fun h => ?_) (fun h => ?_)
    | refine g_lit T hC rfl rfl rfl rfl rfl rfl rfl rfl rfl ?_
  exact g_fin ⟨.inl rfl, id, _, rfl, .refl _, trivial, rfl, rfl⟩
theorem isKeyword_ok (s : Str) : FnOK Tryz.prog 171 [Sr s] [] (.bq (isKeyword s)) [] := by
  refine fn_ok T Tryz.func171 (by kernel_rfl) rfl rfl rfl rfl fun C hC => ?_
  repeat' first
    | refine g_go T hC true 400 rfl rfl ?_
    | refine g_cond rfl (fun h => ?_) (fun h => ?_)
    | refine g_end T hC (by kernel_rfl) ?_
    | refine g_splitD (fun h => ?_) (fun h => ?_)
    | refine g_splitG rfl rfl rfl (fun h => ?_) (fun h => ?_)
    | refine g_splitP rfl rfl (fun h => ?_) (fun h => ?_)
    | refine g_call hC (keywords_ok) rfl rfl (LeSs.refl _) rfl rfl rfl ?_
    | refine g_call hC (has_ok _ _) rfl rfl (LeSs.refl _) rfl rfl rfl ?_
    | refine g_retq T (.inl rfl) rfl ?_
    | refine g_retl T (.inl rfl) rfl ?_
  rfl

/-- The bytes of a string. -/
def bytes (s : Str) : List Int := s.data.toList.map fun b => (b.toNat : Int)
theorem bytes_at {s : Str} {i : Nat} {c : Int} (h : (bytes s)[i]? = some c) : ∃ b : UInt8, s[((i : Nat) : Int).toNat]? = some b ∧ c = (b.toNat : Int) := by
  simp only [bytes, List.getElem?_map, Option.map_eq_some_iff] at h
  obtain ⟨b, hb, rfl⟩ := h
  refine ⟨b, ?_, rfl⟩
  have hlt : i < s.data.size := by
    have := (List.getElem?_eq_some_iff.1 hb).1
    simpa using this
  have : s.data[i] = b := by rw [Array.getElem?_toList, Array.getElem?_eq_getElem hlt] at hb; exact Option.some.inj hb
  have hlt' : i < s.size := hlt
  simp only [Int.toNat_natCast]
  rw [getElem?_pos s i hlt']
  exact congrArg some this
theorem bytes_len (s : Str) : (bytes s).length = s.size := by simp only [bytes, List.length_map, Array.length_toList]; rfl
/-- P1.1 -/
def isName (s : Str) : Bool := !decide (s.size = 0) && !decide (40 < s.size) && (match bytes s with | [] => false | c :: _ => isLetter c) && (bytes s).all isWord && !isKeyword s
theorem isName_ok (s : Str) : FnOK Tryz.prog 108 [Sr s] [] (.bq (isName s)) [] := by
  refine fn_ok T Tryz.func108 (by kernel_rfl) rfl rfl rfl rfl fun C hC => ?_
  have hbl := bytes_len s
  repeat' first
    | refine g_go T hC true 400 rfl rfl ?_
    | refine g_cond rfl (fun h => ?_) (fun h => ?_)
    | refine g_end T hC (by kernel_rfl) ?_
    | refine g_splitD (fun h => ?_) (fun h => ?_)
    | refine g_splitG rfl rfl rfl (fun h => ?_) (fun h => ?_)
    | refine g_splitP rfl rfl (fun h => ?_) (fun h => ?_)
  · repeat' first
      | refine g_go T hC true 400 rfl rfl ?_
      | refine g_cond rfl (fun h => ?_) (fun h => ?_)
      | refine g_end T hC (by kernel_rfl) ?_
      | refine g_splitD (fun h => ?_) (fun h => ?_)
      | refine g_splitG rfl rfl rfl (fun h => ?_) (fun h => ?_)
      | refine g_splitP rfl rfl (fun h => ?_) (fun h => ?_)
      | refine g_retl T (.inl rfl) rfl ?_
    simp_all [isName]
  · repeat' first
      | refine g_go T hC true 400 rfl rfl ?_
      | refine g_cond rfl (fun h => ?_) (fun h => ?_)
      | refine g_end T hC (by kernel_rfl) ?_
      | refine g_splitD (fun h => ?_) (fun h => ?_)
      | refine g_splitG rfl rfl rfl (fun h => ?_) (fun h => ?_)
      | refine g_splitP rfl rfl (fun h => ?_) (fun h => ?_)
      | refine g_retl T (.inl rfl) rfl ?_
    have h1 : 40 < s.size := by have := of_decide_eq_true h; omega
    simp [isName, h1]
  · rename_i h0
    have hs : 0 < (bytes s).length := by have := of_decide_eq_false h0; omega
    obtain ⟨c, hc⟩ := exists_at hs
    obtain ⟨b, hb, rfl⟩ := bytes_at hc
    refine g_idxS T hC rfl rfl rfl (Int.le_refl _) hb rfl rfl ?_
    repeat' first
      | refine g_go T hC true 400 rfl rfl ?_
      | refine g_cond rfl (fun h => ?_) (fun h => ?_)
      | refine g_end T hC (by kernel_rfl) ?_
      | refine g_splitD (fun h => ?_) (fun h => ?_)
      | refine g_splitG rfl rfl rfl (fun h => ?_) (fun h => ?_)
      | refine g_splitP rfl rfl (fun h => ?_) (fun h => ?_)
      | refine g_call hC (letter_ok _) rfl rfl (LeSs.refl _) rfl rfl rfl ?_
      | refine g_retl T (.inl rfl) rfl ?_
    · have hb0 : bytes s ≠ [] := fun e => by rw [e] at hs; simp at hs
      cases hbs : bytes s with
      | nil => exact absurd hbs hb0
      | cons c cs =>
        rw [hbs] at hc; simp only [List.getElem?_cons_zero, Option.some.injEq] at hc
        have hl : isLetter c = false := by rw [hc]; simpa using h
        simp [isName, hbs, hl]
    · have hnm : isName s = ((bytes s).all isWord && !isKeyword s) := by
        cases hbs : bytes s with
        | nil => rw [hbs] at hs; simp at hs
        | cons c cs =>
          have hc' := hc
          rw [hbs] at hc'; simp only [List.getElem?_cons_zero, Option.some.injEq] at hc'
          have hl : isLetter c = true := by rw [hc']; simpa using h
          have e1 : ¬ s.size = 0 := by rw [hbl] at hs; omega
          have e2 : ¬ 40 < s.size := by rename_i h2; have := of_decide_eq_false h2; omega
          simp only [isName, hbs, hl, e1, e2, decide_false, Bool.not_false, Bool.true_and]
      have hlen : s.size ≤ 40 := by rename_i h2; have := of_decide_eq_false h2; omega
      refine g_loop (fun i : Nat => i ≤ s.size ∧ ((bytes s).take i).all isWord = true) (fun i => ([(0, Sr s), (3, I i)], [])) (fun i => s.size - i) hC
        0 ⟨Nat.zero_le _, by simp⟩ id ⟨rfl, ⟨rfl, rfl, trivial⟩, trivial, rfl, fun _ _ => rfl⟩ ?_
      rintro i ⟨hi, hn⟩
      refine g_run' T hC true 200 rfl ?_
      refine g_cond rfl (fun h => ?_) (fun h => ?_)
      · have hlt : i < (bytes s).length := by rw [hbl]; have := of_decide_eq_true h; omega
        obtain ⟨c, hx⟩ := exists_at hlt
        obtain ⟨b, hb, rfl⟩ := bytes_at hx
        repeat' first
          | refine g_go T hC true 400 rfl rfl ?_
          | refine g_cond rfl (fun h => ?_) (fun h => ?_)
          | refine g_end T hC (by kernel_rfl) ?_
          | refine g_splitD (fun h => ?_) (fun h => ?_)
          | refine g_splitG rfl rfl rfl (fun h => ?_) (fun h => ?_)
          | refine g_splitP rfl rfl (fun h => ?_) (fun h => ?_)
          | refine g_idxS T hC rfl rfl rfl (Int.natCast_nonneg _) (by assumption) rfl rfl ?_
          | refine g_call hC (word_ok _) rfl rfl (LeSs.refl _) rfl rfl rfl ?_
          | refine g_outR ?_
          | refine g_retl T (.inl rfl) rfl ?_
        · have hw : isWord (b.toNat : Int) = false := by simpa using h
          rw [hnm, all_no hx hw]; rfl
        · have hw : isWord (b.toNat : Int) = true := by simpa using h
          rw [wrap64 (by omega)]
          refine g_round (i + 1) ⟨by omega, ?_⟩ id (by omega) ⟨rfl, ⟨rfl, rfl, trivial⟩, trivial, rfl, fun _ _ => rfl⟩
          rw [all_take hx, hn, hw]; rfl
      · have hge : s.size ≤ i := by have := of_decide_eq_false h; omega
        repeat' first
          | refine g_go T hC true 400 rfl rfl ?_
          | refine g_cond rfl (fun h => ?_) (fun h => ?_)
          | refine g_end T hC (by kernel_rfl) ?_
          | refine g_splitD (fun h => ?_) (fun h => ?_)
          | refine g_splitG rfl rfl rfl (fun h => ?_) (fun h => ?_)
          | refine g_splitP rfl rfl (fun h => ?_) (fun h => ?_)
          | refine g_outE ?_
          | refine g_call hC (isKeyword_ok _) rfl rfl (LeSs.refl _) rfl rfl rfl ?_
          | refine g_retq T (.inl rfl) rfl ?_
        rw [hnm, all_end (by rw [hbl]; exact hge) hn]; rfl
end Hw.Z
namespace Hw.Z
open Go Go.Proofs Hw.M

def isType (s : Str) : Bool := decide (s = (⟨#[105, 110, 116]⟩ : ByteArray)) || decide (s = (⟨#[98, 111, 111, 108]⟩ : ByteArray)) || isName s
def isOpen (s : Str) : Bool := decide (s = (⟨#[]⟩ : ByteArray)) || isName s
def fieldOk (f : Fld) : Bool := isName f.n && isType f.t
def fieldsOk (l : List Fld) (most : Int) : Bool := decide ((l.length : Int) ≤ most) && l.all fieldOk

theorem type_ok (s : Str) : FnOK Tryz.prog 122 [Sr s] [] (.bq (isType s)) [] := by
  refine fn_ok T Tryz.func122 (by kernel_rfl) rfl rfl rfl rfl fun C hC => ?_
  repeat' first
    | refine g_go T hC true 400 rfl rfl ?_
    | refine g_cond rfl (fun h => ?_) (fun h => ?_)
    | refine g_end T hC (by kernel_rfl) ?_
    | refine g_splitD (fun h => ?_) (fun h => ?_)
    | refine g_splitG rfl rfl rfl (fun h => ?_) (fun h => ?_)
    | refine g_splitP rfl rfl (fun h => ?_) (fun h => ?_)
    | refine g_call hC (isName_ok _) rfl rfl (LeSs.refl _) rfl rfl rfl ?_
    | refine g_retq T (.inl rfl) rfl ?_
    | refine g_retl T (.inl rfl) rfl ?_
  all_goals simp_all [isType]
theorem open_ok (s : Str) : FnOK Tryz.prog 173 [Sr s] [] (.bq (isOpen s)) [] := by
  refine fn_ok T Tryz.func173 (by kernel_rfl) rfl rfl rfl rfl fun C hC => ?_
  repeat' first
    | refine g_go T hC true 400 rfl rfl ?_
    | refine g_cond rfl (fun h => ?_) (fun h => ?_)
    | refine g_end T hC (by kernel_rfl) ?_
    | refine g_splitD (fun h => ?_) (fun h => ?_)
    | refine g_splitG rfl rfl rfl (fun h => ?_) (fun h => ?_)
    | refine g_splitP rfl rfl (fun h => ?_) (fun h => ?_)
    | refine g_call hC (isName_ok _) rfl rfl (LeSs.refl _) rfl rfl rfl ?_
    | refine g_retq T (.inl rfl) rfl ?_
    | refine g_retl T (.inl rfl) rfl ?_
  all_goals simp_all [isOpen]
theorem fields_ok (l : List Fld) (m : Int) : FnOK Tryz.prog 109 [pS (fieldsP l), I m] [] (.bq (fieldsOk l m)) [] := by
  refine fn_ok T Tryz.func109 (by kernel_rfl) rfl rfl rfl rfl fun C hC => ?_
  refine g_len 0 rfl fun hlen => ?_
  rw [List.length_map] at hlen
  repeat' first
    | refine g_go T hC true 400 rfl rfl ?_
    | refine g_cond rfl (fun h => ?_) (fun h => ?_)
    | refine g_end T hC (by kernel_rfl) ?_
    | refine g_splitD (fun h => ?_) (fun h => ?_)
    | refine g_splitG rfl rfl rfl (fun h => ?_) (fun h => ?_)
    | refine g_splitP rfl rfl (fun h => ?_) (fun h => ?_)
    | refine g_retl T (.inl rfl) rfl ?_
  · have := of_decide_eq_true h
    rw [List.length_map] at this
    have e : decide ((l.length : Int) ≤ m) = false := decide_eq_false (by omega)
    simp [fieldsOk, e]
  · have hm := of_decide_eq_false h
    rw [List.length_map] at hm
    have hfo : fieldsOk l m = l.all fieldOk := by
      have e : decide ((l.length : Int) ≤ m) = true := decide_eq_true (by omega)
      simp [fieldsOk, e]
    rw [hfo]
    refine g_loop (fun i : Nat => i ≤ l.length ∧ (l.take i).all fieldOk = true) (fun i => ([(0, pS (fieldsP l)), (1, I m), (5, I i)], [])) (fun i => l.length - i) hC
      0 ⟨Nat.zero_le _, by simp⟩ id ⟨rfl, ⟨rfl, rfl, rfl, trivial⟩, trivial, rfl, fun _ _ => rfl⟩ ?_
    rintro i ⟨hi, hn⟩
    refine g_run' T hC true 200 rfl ?_
    refine g_cond rfl (fun h => ?_) (fun h => ?_)
    · have hlt : i < l.length := by simpa using h
      obtain ⟨x, hx⟩ := exists_at hlt
      repeat' first
        | refine g_go T hC true 400 rfl rfl ?_
        | refine g_cond rfl (fun h => ?_) (fun h => ?_)
        | refine g_end T hC (by kernel_rfl) ?_
        | refine g_splitD (fun h => ?_) (fun h => ?_)
        | refine g_splitG rfl rfl rfl (fun h => ?_) (fun h => ?_)
        | refine g_splitP rfl rfl (fun h => ?_) (fun h => ?_)
        | refine g_idx T hC rfl rfl rfl (Int.natCast_nonneg _) (map_at (by assumption)) rfl rfl ?_
        | refine g_call hC (isName_ok _) rfl rfl (LeSs.refl _) rfl rfl rfl ?_
        | refine g_call hC (type_ok _) rfl rfl (LeSs.refl _) rfl rfl rfl ?_
        | refine g_outR ?_
        | refine g_retl T (.inl rfl) rfl ?_
      · have hp : fieldOk x = false := by simp_all [fieldOk]
        exact (all_no hx hp).symm
      · have hp : fieldOk x = false := by simp_all [fieldOk]
        exact (all_no hx hp).symm
      · have hp : fieldOk x = true := by simp_all [fieldOk]
        rw [wrap64 (by omega)]
        refine g_round (i + 1) ⟨by omega, ?_⟩ id (by omega) ⟨rfl, ⟨rfl, rfl, rfl, trivial⟩, trivial, rfl, fun _ _ => rfl⟩
        rw [all_take hx, hn, hp]; rfl
    · have hge : ¬ i < l.length := by simpa using h
      repeat' first
        | refine g_go T hC true 400 rfl rfl ?_
        | refine g_cond rfl (fun h => ?_) (fun h => ?_)
        | refine g_end T hC (by kernel_rfl) ?_
        | refine g_splitD (fun h => ?_) (fun h => ?_)
        | refine g_splitG rfl rfl rfl (fun h => ?_) (fun h => ?_)
        | refine g_splitP rfl rfl (fun h => ?_) (fun h => ?_)
        | refine g_outE ?_
        | refine g_retl T (.inl rfl) rfl ?_
      exact (all_end (by omega) hn).symm
end Hw.Z
namespace Hw.Z
open Go Go.Proofs Hw.M

theorem sameInts_ok (a b : List Int) : FnOK Tryz.prog 69 [pS (intsP a), pS (intsP b)] [] (.bq (decide (a = b))) [] := by
  refine fn_ok T Tryz.func69 (by kernel_rfl) rfl rfl rfl rfl fun C hC => ?_
  refine g_len 0 rfl fun hlen => ?_
  rw [List.length_map] at hlen
  repeat' first
    | refine g_go T hC true 400 rfl rfl ?_
    | refine g_cond rfl (fun h => ?_) (fun h => ?_)
    | refine g_end T hC (by kernel_rfl) ?_
    | refine g_splitD (fun h => ?_) (fun h => ?_)
    | refine g_splitG rfl rfl rfl (fun h => ?_) (fun h => ?_)
    | refine g_splitP rfl rfl (fun h => ?_) (fun h => ?_)
    | refine g_retl T (.inl rfl) rfl ?_
  · have := of_decide_eq_false (by simpa using h : decide (((a.map intR).length : Int) = ((b.map intR).length : Int)) = false)
    simp only [List.length_map] at this
    exact (decide_eq_false fun e => this (by rw [e])).symm
  · have hab : a.length = b.length := by
      have := of_decide_eq_true (by simpa using h : decide (((a.map intR).length : Int) = ((b.map intR).length : Int)) = true)
      simp only [List.length_map] at this; omega
    refine g_loop (fun i : Nat => i ≤ a.length ∧ a.take i = b.take i) (fun i => ([(0, pS (intsP a)), (1, pS (intsP b)), (5, I i)], [])) (fun i => a.length - i) hC
      0 ⟨Nat.zero_le _, by simp⟩ id ⟨rfl, ⟨rfl, rfl, rfl, trivial⟩, trivial, rfl, fun _ _ => rfl⟩ ?_
    rintro i ⟨hi, hn⟩
    refine g_run' T hC true 200 rfl ?_
    refine g_cond rfl (fun h => ?_) (fun h => ?_)
    · have hlt : i < a.length := by simpa using h
      obtain ⟨x, hx⟩ := exists_at hlt
      obtain ⟨y, hy⟩ := exists_at (hab ▸ hlt)
      repeat' first
        | refine g_go T hC true 400 rfl rfl ?_
        | refine g_cond rfl (fun h => ?_) (fun h => ?_)
        | refine g_end T hC (by kernel_rfl) ?_
        | refine g_splitD (fun h => ?_) (fun h => ?_)
        | refine g_splitG rfl rfl rfl (fun h => ?_) (fun h => ?_)
        | refine g_splitP rfl rfl (fun h => ?_) (fun h => ?_)
        | refine g_idx T hC rfl rfl rfl (Int.natCast_nonneg _) (map_at (by assumption)) rfl rfl ?_
        | refine g_outR ?_
        | refine g_retl T (.inl rfl) rfl ?_
      · have hxy : x ≠ y := by simpa using h
        exact (decide_eq_false fun e => hxy (by subst e; rw [hx] at hy; exact Option.some.inj hy)).symm
      · have hxy : x = y := by simpa using h
        subst hxy
        rw [wrap64 (by omega)]
        exact g_round (i + 1) ⟨by omega, take_eq hx hy hn⟩ id (by omega) ⟨rfl, ⟨rfl, rfl, rfl, trivial⟩, trivial, rfl, fun _ _ => rfl⟩
    · have hge : ¬ i < a.length := by simpa using h
      repeat' first
        | refine g_go T hC true 400 rfl rfl ?_
        | refine g_cond rfl (fun h => ?_) (fun h => ?_)
        | refine g_end T hC (by kernel_rfl) ?_
        | refine g_splitD (fun h => ?_) (fun h => ?_)
        | refine g_splitG rfl rfl rfl (fun h => ?_) (fun h => ?_)
        | refine g_splitP rfl rfl (fun h => ?_) (fun h => ?_)
        | refine g_outE ?_
        | refine g_retl T (.inl rfl) rfl ?_
      rw [List.take_of_length_le (by omega), List.take_of_length_le (by omega)] at hn
      exact (decide_eq_true hn).symm

def tyIdx (d : Desc) (s : Str) : Int := idxOf (fun t => decide (t.n = s)) d.types
theorem typeIndex_ok (d : Desc) (s : Str) : FnOK Tryz.prog 59 [aggS (descR d), Sr s] [] (I (tyIdx d s)) [] := by
  refine fn_ok T Tryz.func59 (by kernel_rfl) rfl rfl rfl rfl fun C hC => ?_
  refine g_lenA rfl 0 1 rfl rfl fun hlen => ?_
  rw [List.length_map] at hlen
  repeat' first
    | refine g_go T hC true 400 rfl rfl ?_
    | refine g_cond rfl (fun h => ?_) (fun h => ?_)
    | refine g_end T hC (by kernel_rfl) ?_
    | refine g_splitD (fun h => ?_) (fun h => ?_)
    | refine g_splitG rfl rfl rfl (fun h => ?_) (fun h => ?_)
    | refine g_splitP rfl rfl (fun h => ?_) (fun h => ?_)
  refine g_loop (fun i : Nat => i ≤ d.types.length ∧ (d.types.take i).any (fun t => decide (t.n = s)) = false) (fun i => ([(1, Sr s), (2, .one (.bx 1002 0)), (5, I i)], [(1002, some (.box ((descR d).map V.p)))])) (fun i => d.types.length - i) hC
    0 ⟨Nat.zero_le _, by simp⟩ id ⟨rfl, ⟨rfl, rfl, rfl, trivial⟩, ⟨rfl, trivial⟩, rfl, fun _ _ => rfl⟩ ?_
  rintro i ⟨hi, hn⟩
  refine g_run' T hC true 200 rfl ?_
  refine g_cond rfl (fun h => ?_) (fun h => ?_)
  · have hlt : i < d.types.length := by simpa using h
    obtain ⟨x, hx⟩ := exists_at hlt
    repeat' first
      | refine g_go T hC true 400 rfl rfl ?_
      | refine g_cond rfl (fun h => ?_) (fun h => ?_)
      | refine g_end T hC (by kernel_rfl) ?_
      | refine g_splitD (fun h => ?_) (fun h => ?_)
      | refine g_splitG rfl rfl rfl (fun h => ?_) (fun h => ?_)
      | refine g_splitP rfl rfl (fun h => ?_) (fun h => ?_)
      | refine g_idx T hC rfl rfl rfl (Int.natCast_nonneg _) (map_at (by assumption)) rfl rfl ?_
      | refine g_outR ?_
      | refine g_reti T (.inl rfl) rfl ?_
    · exact (idxOf_at hx (by simpa using h) hn).symm
    · rw [wrap64 (by omega)]
      refine g_round (i + 1) ⟨by omega, ?_⟩ id (by omega) ⟨rfl, ⟨rfl, rfl, rfl, trivial⟩, ⟨rfl, trivial⟩, rfl, fun _ _ => rfl⟩
      rw [any_take hx, hn, Bool.false_or]; simpa using h
  · have hge : ¬ i < d.types.length := by simpa using h
    repeat' first
      | refine g_go T hC true 400 rfl rfl ?_
      | refine g_cond rfl (fun h => ?_) (fun h => ?_)
      | refine g_end T hC (by kernel_rfl) ?_
      | refine g_splitD (fun h => ?_) (fun h => ?_)
      | refine g_splitG rfl rfl rfl (fun h => ?_) (fun h => ?_)
      | refine g_splitP rfl rfl (fun h => ?_) (fun h => ?_)
      | refine g_outE ?_
      | refine g_reti T (.inl rfl) rfl ?_
    exact (idxOf_no (any_end (by omega) hn)).symm

def isPlain (s : Str) : Bool := decide (s = (⟨#[105, 110, 116]⟩ : ByteArray)) || decide (s = (⟨#[98, 111, 111, 108]⟩ : ByteArray))
def known (d : Desc) (f : Fld) : Bool := isPlain f.t || !decide (tyIdx d f.t < 0)
theorem typed_ok (d : Desc) (l : List Fld) : FnOK Tryz.prog 68 [aggS (descR d), pS (fieldsP l)] [] (.bq (l.all (known d))) [] := by
  refine fn_ok T Tryz.func68 (by kernel_rfl) rfl rfl rfl rfl fun C hC => ?_
  refine g_len1 rfl 1 rfl fun hlen => ?_
  rw [List.length_map] at hlen
  repeat' first
    | refine g_go T hC true 400 rfl rfl ?_
    | refine g_cond rfl (fun h => ?_) (fun h => ?_)
    | refine g_end T hC (by kernel_rfl) ?_
    | refine g_splitD (fun h => ?_) (fun h => ?_)
    | refine g_splitG rfl rfl rfl (fun h => ?_) (fun h => ?_)
    | refine g_splitP rfl rfl (fun h => ?_) (fun h => ?_)
  refine g_loop (fun i : Nat => i ≤ l.length ∧ (l.take i).all (known d) = true) (fun i => ([(1, pS (fieldsP l)), (2, .one (.bx 1002 0)), (5, I i)], [(1002, some (.box ((descR d).map V.p)))])) (fun i => l.length - i) hC
    0 ⟨Nat.zero_le _, by simp⟩ id ⟨rfl, ⟨rfl, rfl, rfl, trivial⟩, ⟨rfl, trivial⟩, rfl, fun _ _ => rfl⟩ ?_
  rintro i ⟨hi, hn⟩
  refine g_run' T hC true 200 rfl ?_
  refine g_cond rfl (fun h => ?_) (fun h => ?_)
  · have hlt : i < l.length := by simpa using h
    obtain ⟨x, hx⟩ := exists_at hlt
    have go : known d x = true → (l.take (i + 1)).all (known d) = true := fun hp => by rw [all_take hx, hn, hp]; rfl
    repeat' first
      | refine g_go T hC true 400 rfl rfl ?_
      | refine g_cond rfl (fun h => ?_) (fun h => ?_)
      | refine g_end T hC (by kernel_rfl) ?_
      | refine g_splitD (fun h => ?_) (fun h => ?_)
      | refine g_splitG rfl rfl rfl (fun h => ?_) (fun h => ?_)
      | refine g_splitP rfl rfl (fun h => ?_) (fun h => ?_)
      | refine g_idx T hC rfl rfl rfl (Int.natCast_nonneg _) (map_at (by assumption)) rfl rfl ?_
      | refine g_call hC (typeIndex_ok _ _) rfl rfl (LeSs.refl _) rfl rfl rfl ?_
      | refine g_outR ?_
      | refine g_retl T (.inl rfl) rfl ?_
    · clear go; exact (all_no hx (by simp_all [known, isPlain])).symm
    all_goals
      rw [wrap64 (by omega)]
      refine g_round (i + 1) ⟨by omega, go ?_⟩ id (by omega) ⟨rfl, ⟨rfl, rfl, rfl, trivial⟩, ⟨rfl, trivial⟩, rfl, fun _ _ => rfl⟩
      clear go
      simp_all [known, isPlain]
  · have hge : ¬ i < l.length := by simpa using h
    repeat' first
      | refine g_go T hC true 400 rfl rfl ?_
      | refine g_cond rfl (fun h => ?_) (fun h => ?_)
      | refine g_end T hC (by kernel_rfl) ?_
      | refine g_splitD (fun h => ?_) (fun h => ?_)
      | refine g_splitG rfl rfl rfl (fun h => ?_) (fun h => ?_)
      | refine g_splitP rfl rfl (fun h => ?_) (fun h => ?_)
      | refine g_outE ?_
      | refine g_retl T (.inl rfl) rfl ?_
    exact (all_end (by omega) hn).symm

theorem equal_ok (a b : Hp) : FnOK Tryz.prog 19 [aggS (memR a), aggS (memR b)] [] (.bq (decide (a = b))) [] := by
  refine fn_ok T Tryz.func19 (by kernel_rfl) rfl rfl rfl rfl fun C hC => ?_
  refine g_lenA rfl 0 1 rfl rfl fun hlen => ?_
  rw [List.length_map] at hlen
  repeat' first
    | refine g_go T hC true 400 rfl rfl ?_
    | refine g_cond rfl (fun h => ?_) (fun h => ?_)
    | refine g_end T hC (by kernel_rfl) ?_
    | refine g_splitD (fun h => ?_) (fun h => ?_)
    | refine g_splitG rfl rfl rfl (fun h => ?_) (fun h => ?_)
    | refine g_splitP rfl rfl (fun h => ?_) (fun h => ?_)
    | refine g_call hC (sameInts_ok _ _) rfl rfl (LeSs.refl _) rfl rfl rfl ?_
    | refine g_retl T (.inl rfl) rfl ?_
  · have hg : a.g ≠ b.g := by simpa using h
    exact (decide_eq_false fun e => hg (by rw [e])).symm
  · have := of_decide_eq_false (by simpa using h : decide (((a.n.map nodeR).length : Int) = ((b.n.map nodeR).length : Int)) = false)
    simp only [List.length_map] at this
    exact (decide_eq_false fun e => this (by rw [e])).symm
  · have hab : a.n.length = b.n.length := by
      have := of_decide_eq_true (by simpa using h : decide (((a.n.map nodeR).length : Int) = ((b.n.map nodeR).length : Int)) = true)
      simp only [List.length_map] at this; omega
    rename_i hg0
    have hg : a.g = b.g := by simpa using hg0
    refine g_loop (fun i : Nat => i ≤ a.n.length ∧ a.n.take i = b.n.take i) (fun i => ([(2, .one (.bx 1002 0)), (3, .one (.bx 1003 0)), (5, I i)], [(1002, some (.box ((memR a).map V.p))), (1003, some (.box ((memR b).map V.p)))])) (fun i => a.n.length - i) hC
      0 ⟨Nat.zero_le _, by simp⟩ id ⟨rfl, ⟨rfl, rfl, rfl, trivial⟩, ⟨rfl, rfl, trivial⟩, rfl, fun _ _ => rfl⟩ ?_
    rintro i ⟨hi, hn⟩
    refine g_run' T hC true 200 rfl ?_
    refine g_cond rfl (fun h => ?_) (fun h => ?_)
    · have hlt : i < a.n.length := by simpa using h
      obtain ⟨x, hx⟩ := exists_at hlt
      obtain ⟨y, hy⟩ := exists_at (hab ▸ hlt)
      have no : x ≠ y → false = decide (a = b) := fun hxy => (decide_eq_false fun e => hxy (by subst e; rw [hx] at hy; exact Option.some.inj hy)).symm
      repeat' first
        | refine g_go T hC true 400 rfl rfl ?_
        | refine g_cond rfl (fun h => ?_) (fun h => ?_)
        | refine g_end T hC (by kernel_rfl) ?_
        | refine g_splitD (fun h => ?_) (fun h => ?_)
        | refine g_splitG rfl rfl rfl (fun h => ?_) (fun h => ?_)
        | refine g_splitP rfl rfl (fun h => ?_) (fun h => ?_)
        | refine g_idx T hC rfl rfl rfl (Int.natCast_nonneg _) (map_at (by assumption)) rfl rfl ?_
        | refine g_call hC (sameInts_ok _ _) rfl rfl (LeSs.refl _) rfl rfl rfl ?_
        | refine g_outR ?_
        | refine g_retl T (.inl rfl) rfl ?_
      · have hxy : x.t ≠ y.t := by simpa using h
        exact no fun e => hxy (by rw [e])
      · have hxy : x.f ≠ y.f := by simpa using h
        exact no fun e => hxy (by rw [e])
      · rename_i ht
        have h1 : x.t = y.t := by simpa using ht
        have h2 : x.f = y.f := by simpa using h
        have hxy : x = y := by cases x; cases y; simp_all
        subst hxy
        rw [wrap64 (by omega)]
        exact g_round (i + 1) ⟨by omega, take_eq hx hy hn⟩ id (by omega) ⟨rfl, ⟨rfl, rfl, rfl, trivial⟩, ⟨rfl, rfl, trivial⟩, rfl, fun _ _ => rfl⟩
    · have hge : ¬ i < a.n.length := by simpa using h
      repeat' first
        | refine g_go T hC true 400 rfl rfl ?_
        | refine g_cond rfl (fun h => ?_) (fun h => ?_)
        | refine g_end T hC (by kernel_rfl) ?_
        | refine g_splitD (fun h => ?_) (fun h => ?_)
        | refine g_splitG rfl rfl rfl (fun h => ?_) (fun h => ?_)
        | refine g_splitP rfl rfl (fun h => ?_) (fun h => ?_)
        | refine g_outE ?_
        | refine g_retl T (.inl rfl) rfl ?_
      rw [List.take_of_length_le (by omega), List.take_of_length_le (by omega)] at hn
      exact (decide_eq_true (by cases a; cases b; simp_all)).symm
end Hw.Z
namespace Hw.Z
open Go Go.Proofs Hw.M

/-- P12: a value is right for a type. -/
def rightV (d : Desc) (m : Hp) (t : Str) (v : Int) : Bool :=
  if t = (⟨#[105, 110, 116]⟩ : ByteArray) then decide (-1099511627776 ≤ v) && decide (v ≤ 1099511627776)
  else if t = (⟨#[98, 111, 111, 108]⟩ : ByteArray) then decide (v = 0) || decide (v = 1)
  else decide (v = 0) || (decide (1 ≤ v) && decide (v ≤ m.n.length) && decide ((m.n[(v - 1).toNat]?).map (·.t) = some (tyIdx d t)))
theorem right_ok (d : Desc) (m : Hp) (t : Str) (v : Int) : FnOK Tryz.prog 67 [aggS (descR d), aggS (memR m), Sr t, I v] [] (.bq (rightV d m t v)) [] := by
  refine fn_ok T Tryz.func67 (by kernel_rfl) rfl rfl rfl rfl fun C hC => ?_
  refine g_lenA rfl 1 1 rfl rfl fun hlen => ?_
  rw [List.length_map] at hlen
  repeat' first
    | refine g_go T hC true 400 rfl rfl ?_
    | refine g_cond rfl (fun h => ?_) (fun h => ?_)
    | refine g_end T hC (by kernel_rfl) ?_
    | refine g_splitD (fun h => ?_) (fun h => ?_)
    | refine g_splitG rfl rfl rfl (fun h => ?_) (fun h => ?_)
    | refine g_splitP rfl rfl (fun h => ?_) (fun h => ?_)
    | refine g_retl T (.inl rfl) rfl ?_
    | refine g_retq T (.inl rfl) rfl ?_
  case refine_2.refine_2.refine_2.refine_1.refine_1 =>
    rename_i ht hb h0 h1
    have hv1 := of_decide_eq_true h1
    have hv2 := of_decide_eq_true h
    rw [List.length_map] at hv2
    rw [wrap64 (by omega)]
    obtain ⟨x, hx⟩ := exists_at (l := m.n) (i := (v - 1).toNat) (by omega)
    refine g_idx T hC rfl rfl rfl (by omega) (map_atI hx) rfl rfl ?_
    repeat' first
      | refine g_go T hC true 400 rfl rfl ?_
      | refine g_cond rfl (fun h => ?_) (fun h => ?_)
      | refine g_end T hC (by kernel_rfl) ?_
      | refine g_splitD (fun h => ?_) (fun h => ?_)
      | refine g_splitG rfl rfl rfl (fun h => ?_) (fun h => ?_)
      | refine g_splitP rfl rfl (fun h => ?_) (fun h => ?_)
      | refine g_call hC (typeIndex_ok _ _) rfl rfl (LeSs.refl _) rfl rfl rfl ?_
      | refine g_retq T (.inl rfl) rfl ?_
    simp only [decide_eq_false_iff_not] at ht hb h0
    simp only [rightV, ht, hb, h0, hv1, hv2, hx, if_false, decide_false, decide_true, Bool.false_or, Bool.true_and, Option.map_some, Option.some.injEq]
  all_goals (simp_all [rightV] <;> omega)

/-- A memory is large. -/
def manyS (m : Hp) : Bool := decide (60 < (m.g.length : Int)) || decide (60 < (m.n.length : Int)) || m.n.any fun x => decide (60 < (x.f.length : Int))
theorem many_ok (m : Hp) : FnOK Tryz.prog 27 [aggS (memR m)] [] (.bq (manyS m)) [] := by
  refine fn_ok T Tryz.func27 (by kernel_rfl) rfl rfl rfl rfl fun C hC => ?_
  repeat' first
    | refine g_go T hC true 400 rfl rfl ?_
    | refine g_cond rfl (fun h => ?_) (fun h => ?_)
    | refine g_end T hC (by kernel_rfl) ?_
    | refine g_splitD (fun h => ?_) (fun h => ?_)
    | refine g_splitG rfl rfl rfl (fun h => ?_) (fun h => ?_)
    | refine g_splitP rfl rfl (fun h => ?_) (fun h => ?_)
    | refine g_retl T (.inl rfl) rfl ?_
  · rw [List.length_map] at h
    simp only [manyS, h, Bool.true_or]
  · rename_i h0
    rw [List.length_map] at h h0
    simp only [manyS, h, h0, Bool.true_or, Bool.or_true]
  · rename_i h0
    rw [List.length_map] at h h0
    have hlen : m.n.length ≤ 60 := by have := of_decide_eq_false h; omega
    have hm : manyS m = m.n.any fun x => decide (60 < (x.f.length : Int)) := by simp only [manyS, h, h0, Bool.false_or]
    rw [hm]
    refine g_loop (fun i : Nat => i ≤ m.n.length ∧ (m.n.take i).any (fun x => decide (60 < (x.f.length : Int))) = false) (fun i => ([(1, .one (.bx 1001 0)), (3, I i)], [(1001, some (.box ((memR m).map V.p)))])) (fun i => m.n.length - i) hC
      0 ⟨Nat.zero_le _, by simp⟩ id ⟨rfl, ⟨rfl, rfl, trivial⟩, ⟨rfl, trivial⟩, rfl, fun _ _ => rfl⟩ ?_
    rintro i ⟨hi, hn⟩
    refine g_run' T hC true 200 rfl ?_
    refine g_cond rfl (fun h => ?_) (fun h => ?_)
    · have hlt : i < m.n.length := by simpa using h
      obtain ⟨x, hx⟩ := exists_at hlt
      repeat' first
        | refine g_go T hC true 400 rfl rfl ?_
        | refine g_cond rfl (fun h => ?_) (fun h => ?_)
        | refine g_end T hC (by kernel_rfl) ?_
        | refine g_splitD (fun h => ?_) (fun h => ?_)
        | refine g_splitG rfl rfl rfl (fun h => ?_) (fun h => ?_)
        | refine g_splitP rfl rfl (fun h => ?_) (fun h => ?_)
        | refine g_idx T hC rfl rfl rfl (Int.natCast_nonneg _) (map_at (by assumption)) rfl rfl ?_
        | refine g_outR ?_
        | refine g_retl T (.inl rfl) rfl ?_
      · rw [List.length_map] at h
        exact (any_yes hx h).symm
      · rw [List.length_map] at h
        rw [wrap64 (by omega)]
        refine g_round (i + 1) ⟨by omega, ?_⟩ id (by omega) ⟨rfl, ⟨rfl, rfl, trivial⟩, ⟨rfl, trivial⟩, rfl, fun _ _ => rfl⟩
        rw [any_take hx, hn, h]; rfl
    · have hge : ¬ i < m.n.length := by simpa using h
      repeat' first
        | refine g_go T hC true 400 rfl rfl ?_
        | refine g_cond rfl (fun h => ?_) (fun h => ?_)
        | refine g_end T hC (by kernel_rfl) ?_
        | refine g_splitD (fun h => ?_) (fun h => ?_)
        | refine g_splitG rfl rfl rfl (fun h => ?_) (fun h => ?_)
        | refine g_splitP rfl rfl (fun h => ?_) (fun h => ?_)
        | refine g_outE ?_
        | refine g_retl T (.inl rfl) rfl ?_
      exact (any_end (by omega) hn).symm

def noneS (m : Hp) : Bool := decide ((m.g.length : Int) = 0) && decide ((m.n.length : Int) = 0)
theorem none_ok (m : Hp) : FnOK Tryz.prog 18 [aggS (memR m)] [] (.bq (noneS m)) [] := by
  refine fn_ok T Tryz.func18 (by kernel_rfl) rfl rfl rfl rfl fun C hC => ?_
  repeat' first
    | refine g_go T hC true 400 rfl rfl ?_
    | refine g_cond rfl (fun h => ?_) (fun h => ?_)
    | refine g_end T hC (by kernel_rfl) ?_
    | refine g_splitD (fun h => ?_) (fun h => ?_)
    | refine g_splitG rfl rfl rfl (fun h => ?_) (fun h => ?_)
    | refine g_splitP rfl rfl (fun h => ?_) (fun h => ?_)
    | refine g_retl T (.inl rfl) rfl ?_
    | refine g_retq T (.inl rfl) rfl ?_
  · rw [List.length_map] at h ⊢
    simp only [noneS, h, Bool.true_and]
  · rw [List.length_map] at h
    simp only [noneS, h, Bool.false_and]

/-- The memory without nodes. -/
def newHp (d : Desc) : Hp := ⟨List.replicate d.globals.length 0, []⟩
theorem newRow (n : Nat) : List.replicate n [PV.k (.int .i64 0)] = (List.replicate n (0 : Int)).map intR := by rw [List.map_replicate]; rfl
theorem refNew_ok (d : Desc) (hd : d.globals.length ≤ 1000) : FnOK Tryz.prog 20 [aggS (descR d)] [] (aggS (memR (newHp d))) [] := by
  refine fn_ok T Tryz.func20 (by kernel_rfl) rfl rfl rfl rfl fun C hC => ?_
  repeat' first
    | refine g_go T hC true 400 rfl rfl ?_
    | refine g_cond rfl (fun h => ?_) (fun h => ?_)
    | refine g_end T hC (by kernel_rfl) ?_
    | refine g_splitD (fun h => ?_) (fun h => ?_)
    | refine g_splitG rfl rfl rfl (fun h => ?_) (fun h => ?_)
    | refine g_splitP rfl rfl (fun h => ?_) (fun h => ?_)
  rw [List.length_map]
  refine g_zeros T hC (bytes := 8) d.globals.length rfl rfl rfl rfl rfl rfl (by kernel_rfl) rfl (by omega) rfl rfl ?_
  refine g_say 6 rfl (s' := pS (intsP (List.replicate d.globals.length 0))) (congrArg (fun r => S.one (.p (.sl 1 r))) (newRow _)) ?_
  repeat' first
    | refine g_go T hC true 400 rfl rfl ?_
    | refine g_cond rfl (fun h => ?_) (fun h => ?_)
    | refine g_end T hC (by kernel_rfl) ?_
    | refine g_splitD (fun h => ?_) (fun h => ?_)
    | refine g_splitG rfl rfl rfl (fun h => ?_) (fun h => ?_)
    | refine g_splitP rfl rfl (fun h => ?_) (fun h => ?_)
  refine g_fin ⟨.inl rfl, id, _, rfl, ?_, trivial, rfl, rfl⟩
  exact LeS.agg (.cons (.refl _) (.cons (.nil 2) .nil))
end Hw.Z
namespace Hw.Z
open Go Go.Proofs Hw.M

def partsS (op : Int) : Int :=
  if (decide (1 ≤ op) && decide (op ≤ 4)) || decide (op = 6) then 0
  else if ((decide (op = 5) || decide (op = 8)) || decide (op = 18)) || decide (op = 24) then 1
  else if op = 7 then -1
  else if op = 21 then 3
  else if decide (9 ≤ op) && decide (op ≤ 23) then 2
  else -2
theorem parts_ok (op : Int) : FnOK Tryz.prog 261 [I op] [] (I (partsS op)) [] := by
  refine fn_ok T Tryz.func261 (by kernel_rfl) rfl rfl rfl rfl fun C hC => ?_
  repeat' first
    | refine g_go T hC true 400 rfl rfl ?_
    | refine g_cond rfl (fun h => ?_) (fun h => ?_)
    | refine g_end T hC (by kernel_rfl) ?_
    | refine g_splitD (fun h => ?_) (fun h => ?_)
    | refine g_splitG rfl rfl rfl (fun h => ?_) (fun h => ?_)
    | refine g_splitP rfl rfl (fun h => ?_) (fun h => ?_)
    | refine g_reti T (.inl rfl) rfl ?_
  all_goals (simp only [partsS]; simp_all <;> omega)
def namedS (e : Ex) : Bool :=
  if e.op = 4 then decide (e.s = (⟨#[116, 104, 105, 115]⟩ : ByteArray)) || isName e.s
  else if e.op = 5 ∨ e.op = 6 ∨ e.op = 7 then isName e.s
  else decide (e.s = (⟨#[]⟩ : ByteArray))
theorem named_ok (e : Ex) : FnOK Tryz.prog 262 [aggS (exprC e)] [] (.bq (namedS e)) [] := by
  refine fn_ok T Tryz.func262 (by kernel_rfl) rfl rfl rfl rfl fun C hC => ?_
  repeat' first
    | refine g_go T hC true 400 rfl rfl ?_
    | refine g_cond rfl (fun h => ?_) (fun h => ?_)
    | refine g_end T hC (by kernel_rfl) ?_
    | refine g_splitD (fun h => ?_) (fun h => ?_)
    | refine g_splitG rfl rfl rfl (fun h => ?_) (fun h => ?_)
    | refine g_splitP rfl rfl (fun h => ?_) (fun h => ?_)
    | refine g_call hC (isName_ok _) rfl rfl (LeSs.refl _) rfl rfl rfl ?_
    | refine g_retl T (.inl rfl) rfl ?_
    | refine g_retq T (.inl rfl) rfl ?_
  all_goals simp_all [namedS]

def nodeS (e : Ex) : Bool :=
  !decide (partsS e.op = -2) && !(decide (0 ≤ partsS e.op) && !decide ((e.l.length : Int) = partsS e.op)) && !(decide (partsS e.op = -1) && decide (6 < (e.l.length : Int))) && namedS e &&
  (if e.op = 1 then decide (0 ≤ e.n) && decide (e.n ≤ 1099511627776) else if e.op = 2 then decide (e.n = 0) || decide (e.n = 1) else decide (e.n = 0))
theorem node_ok (e : Ex) : FnOK Tryz.prog 244 [aggS (exprC e)] [] (.bq (nodeS e)) [] := by
  refine fn_ok T Tryz.func244 (by kernel_rfl) rfl rfl rfl rfl fun C hC => ?_
  repeat' first
    | refine g_go T hC true 400 rfl rfl ?_
    | refine g_cond rfl (fun h => ?_) (fun h => ?_)
    | refine g_end T hC (by kernel_rfl) ?_
    | refine g_splitD (fun h => ?_) (fun h => ?_)
    | refine g_splitG rfl rfl rfl (fun h => ?_) (fun h => ?_)
    | refine g_splitP rfl rfl (fun h => ?_) (fun h => ?_)
    | refine g_call hC (parts_ok _) rfl rfl (LeSs.refl _) rfl rfl rfl ?_
    | refine g_call hC (named_ok _) rfl rfl (LeSs.refl _) rfl rfl rfl ?_
    | refine g_retl T (.inl rfl) rfl ?_
    | refine g_retq T (.inl rfl) rfl ?_
  all_goals (try simp only [List.length_map] at *)
  all_goals (simp_all [nodeS] <;> omega)

mutual
/-- The number of nodes, as it is counted: more than 1000 if the expression is not valid. -/
def countS : Ex → Int → Int
  | .mk op n s l, d => if decide (60 < d) || !nodeS (.mk op n s l) then 1001 else countL l d 1
def countL : List Ex → Int → Int → Int
  | [], _, n => n
  | e :: es, d, n => if 1000 < n + countS e (d + 1) then n + countS e (d + 1) else countL es d (n + countS e (d + 1))
end
mutual
theorem countS_bound : ∀ (e : Ex) (d : Int), 1 ≤ countS e d ∧ countS e d ≤ 1001 + 1000 * (if d ≤ 60 then 61 - d else 0)
  | .mk op n s l, d => by
    simp only [countS]
    split
    · split <;> omega
    · rename_i h
      simp only [Bool.or_eq_true, decide_eq_true_eq, Bool.not_eq_true', not_or] at h
      have := countL_bound l d 1 (by omega) (by omega) (by omega)
      rw [if_pos (by omega)]; omega
theorem countL_bound : ∀ (l : List Ex) (d n : Int), 1 ≤ n → n ≤ 1000 → d ≤ 60 → 1 ≤ countL l d n ∧ countL l d n ≤ 1001 + 1000 * (61 - d)
  | [], d, n, h1, h2, h3 => by simp only [countL]; omega
  | e :: es, d, n, h1, h2, h3 => by
    simp only [countL]
    have hb := countS_bound e (d + 1)
    split at hb
    · split
      · omega
      · exact countL_bound es d _ (by omega) (by omega) h3
    · split
      · omega
      · exact countL_bound es d _ (by omega) (by omega) h3
end
end Hw.Z
