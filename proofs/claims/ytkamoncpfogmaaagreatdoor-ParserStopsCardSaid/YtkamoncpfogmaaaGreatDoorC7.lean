/- The engine and the contracts. -/
import Derived.Test.YtkamoncpfogmaaaGreatDoorC4
import Derived.Lib.ItoaMem
import Derived.Test.YtkamoncpfogmaaaGreatDoorProg
import Derived.KernelRfl
import Derived.Shelf.Strconv.Itoa3
import Derived.Test.YtkamoncpfogmaaaGreatDoorC2
import Derived.Test.YtkamoncpfogmaaaGreatDoorE3
import Derived.Shelf.Strings.BuilderK
import Derived.Test.YtkamoncpfogmaaaGreatDoorC1
import Derived.Test.YtkamoncpfogmaaaGreatDoorC5
import Derived.Test.YtkamoncpfogmaaaGreatDoorC6
import Derived.Lib.LaidTab
set_option linter.unusedVariables false
set_option linter.unusedSimpArgs false
namespace Hw.Pa
open Go Go.Proofs Go.Shelf Hw.M

def keyT (t : Tok) : Int × Str × Int := (t.k, t.t, t.n)
def sameT (a b : List Tok) : Bool := decide (a.map keyT = b.map keyT)
end Hw.Pa
namespace Hw.Pa
open Go Go.Proofs Go.Shelf Hw.M

def decB (u : Nat) : Str := ⟨(Lib.decDigits u).toArray⟩
def itoaB (n : Int) : Str := ⟨(Lib.itoa n).toArray⟩
theorem decB_size (u : Nat) : (decB u).size = Lib.nDigits u := by
  rw [← Lib.decDigits_length]; simp [decB, ByteArray.size]
theorem nDigits_le {u : Nat} (h : u < 18446744073709551616) : Lib.nDigits u ≤ 20 := by
  rcases Nat.eq_zero_or_pos u with rfl | h1
  · rw [Lib.nDigits_small (by omega)]; omega
  · have := Lib.numDigits_eq u h1 h
    split at this <;> omega
theorem itoaB_nonneg {n : Int} (h : 0 ≤ n) : itoaB n = decB n.toNat := by simp only [itoaB, Lib.itoa, if_neg (show ¬ n < 0 by omega), decB]
theorem itoaB_neg {n : Int} (h : n < 0) : itoaB n = (⟨#[45]⟩ : Str) ++ decB n.natAbs := by
  simp only [itoaB, Lib.itoa, if_pos h, decB]
  apply ByteArray.ext
  rw [ByteArray.data_append]
  apply Array.toList_inj.1
  simp
theorem callOK {f : FuncId} {fn : Func} (h : Tryz.prog.funcs[f]? = some fn) (h1 : (fn.name == "runtime.NumGoroutine") = false) (h2 : fn.body.isNone = false) : CallOK Tryz.prog f := ⟨fn, h, h1, h2⟩
end Hw.Pa
/- The library's functions at this program: their numbers. -/
namespace Hw.Pa
open Go Go.Proofs Go.Shelf
def laysItoa_ren : Go.Shelf.Ren := ⟨fun | 171 => 59 | 243 => 99 | 246 => 142 | 283 => 162 | 284 => 163 | 285 => 164 | 286 => 165 | 129 => 182 | 317 => 181 | 318 => 183 | 319 => 184 | 320 => 185 | 337 => 192 | 338 => 193 | n => n, fun | 3 => 3 | 9 => 9 | 2 => 2 | 4 => 4 | 171 => 197 | 0 => 0 | 53 => 198 | 37 => 118 | 5 => 5 | 173 => 201 | 212 => 221 | 51 => 222 | 20 => 20 | 213 => 223 | 46 => 194 | 232 => 253 | 233 => 254 | n => n, fun | 17 => 2 | 18 => 6 | 19 => 7 | n => n⟩
theorem laysItoa : Go.Proofs.LaysM.n171 Tryz.prog laysItoa_ren where
  mixed := by kernel_rfl
  f129 := Tryz.func182.trans (congrArg some (by kernel_rfl))
  f171 := Tryz.func59.trans (congrArg some (by kernel_rfl))
  f243 := Tryz.func99.trans (congrArg some (by kernel_rfl))
  f246 := Tryz.func142.trans (congrArg some (by kernel_rfl))
  f283 := Tryz.func162.trans (congrArg some (by kernel_rfl))
  f284 := Tryz.func163.trans (congrArg some (by kernel_rfl))
  f285 := Tryz.func164.trans (congrArg some (by kernel_rfl))
  f286 := Tryz.func165.trans (congrArg some (by kernel_rfl))
  f317 := Tryz.func181.trans (congrArg some (by kernel_rfl))
  f318 := Tryz.func183.trans (congrArg some (by kernel_rfl))
  f319 := Tryz.func184.trans (congrArg some (by kernel_rfl))
  f320 := Tryz.func185.trans (congrArg some (by kernel_rfl))
  f337 := Tryz.func192.trans (congrArg some (by kernel_rfl))
  f338 := Tryz.func193.trans (congrArg some (by kernel_rfl))
  t0 := Tryz.underlying0
  a0 := Tryz.isAgg0
  z0 := Tryz.sizeOf0
  v0 := Tryz.zeroValue0
  t2 := Tryz.underlying2
  a2 := Tryz.isAgg2
  z2 := Tryz.sizeOf2
  v2 := Tryz.zeroValue2
  t3 := Tryz.underlying3
  a3 := Tryz.isAgg3
  z3 := Tryz.sizeOf3
  v3 := Tryz.zeroValue3
  t4 := Tryz.underlying4
  a4 := Tryz.isAgg4
  z4 := Tryz.sizeOf4
  v4 := Tryz.zeroValue4
  t5 := Tryz.underlying5
  a5 := Tryz.isAgg5
  z5 := Tryz.sizeOf5
  v5 := Tryz.zeroValue5
  t9 := Tryz.underlying9
  a9 := Tryz.isAgg9
  z9 := Tryz.sizeOf9
  v9 := Tryz.zeroValue9
  t20 := Tryz.underlying20
  a20 := Tryz.isAgg20
  z20 := Tryz.sizeOf20
  v20 := Tryz.zeroValue20
  t37 := Tryz.underlying118
  a37 := Tryz.isAgg118
  z37 := Tryz.sizeOf118
  v37 := Tryz.zeroValue118
  t46 := Tryz.underlying194
  a46 := Tryz.isAgg194
  z46 := Tryz.sizeOf194
  v46 := Tryz.zeroValue194
  t51 := Tryz.underlying222
  a51 := Tryz.isAgg222
  z51 := Tryz.sizeOf222
  v51 := Tryz.zeroValue222
  t53 := Tryz.underlying198
  a53 := Tryz.isAgg198
  z53 := Tryz.sizeOf198
  v53 := Tryz.zeroValue198
  t171 := Tryz.underlying197
  a171 := Tryz.isAgg197
  z171 := Tryz.sizeOf197
  v171 := Tryz.zeroValue197
  t173 := Tryz.underlying201
  a173 := Tryz.isAgg201
  z173 := Tryz.sizeOf201
  v173 := Tryz.zeroValue201
  t212 := Tryz.underlying221
  a212 := Tryz.isAgg221
  z212 := Tryz.sizeOf221
  v212 := Tryz.zeroValue221
  t213 := Tryz.underlying223
  a213 := Tryz.isAgg223
  z213 := Tryz.sizeOf223
  t232 := Tryz.underlying253
  a232 := Tryz.isAgg253
  z232 := Tryz.sizeOf253
  v232 := Tryz.zeroValue253
  t233 := Tryz.underlying254
  a233 := Tryz.isAgg254
  z233 := Tryz.sizeOf254
  v233 := Tryz.zeroValue254
  g17 := by kernel_rfl
  g18 := by kernel_rfl
  g19 := by kernel_rfl
  i0 := by kernel_rfl
  i2 := by kernel_rfl
  i3 := by kernel_rfl
  i4 := by kernel_rfl
  i5 := by kernel_rfl
  i9 := by kernel_rfl
  i20 := by kernel_rfl
  i37 := by kernel_rfl
  i46 := by kernel_rfl
  i51 := by kernel_rfl
  i53 := by kernel_rfl
  i171 := by kernel_rfl
  i173 := by kernel_rfl
  i212 := by kernel_rfl
  i232 := by kernel_rfl
  i233 := by kernel_rfl
  m17 := by kernel_rfl
  m18 := by kernel_rfl
  m19 := by kernel_rfl
end Hw.Pa
namespace Hw.Pa
open Go Go.Proofs Go.Shelf Hw.M

theorem itoa_ok (n : Int) (h0 : -9223372036854775808 ≤ n) (h1 : n ≤ 9223372036854775807) : FnOK Tryz.prog 59 [I n] [] (Sr (itoaB n)) [] :=
  @fn_belowL _ _ [.int .i64 n] _ (callOK Tryz.func59 (by kernel_rfl) (by kernel_rfl)) (fun w hw => by
    obtain ⟨el, fz, hb⟩ := hw.2.2 _ (List.mem_cons_self ..)
    have htab : Lib.TabIs Tryz.prog w "internal/strconv.uint64pow10" .u64 Lib.pow10Tab := by
      unfold Lib.TabIs World.var?
      rw [show (Tryz.prog).globalNamed "internal/strconv.uint64pow10" = some 2 by kernel_rfl]
      simp only [Option.bind_some]
      rw [hb]
      rfl
    refine (Any.strconv_Itoa laysItoa n h0 h1 w htab).mono ?_
    rintro e w' ⟨he, k, os, rfl⟩
    exact ⟨he, ⟨rfl, rfl, rfl, by show w.heap.size ≤ (w.heap ++ os).size; simp, fun b hb => by show (w.heap ++ os)[b]? = _; rw [Array.getElem?_append_left hb]⟩⟩) rfl
end Hw.Pa
namespace Hw.Pa
open Go Go.Proofs Go.Shelf Hw.M

theorem itoaB_size {n : Int} (h0 : -4611686018427387904 ≤ n) (h1 : n ≤ 4611686018427387904) : (itoaB n).size ≤ 21 := by
  by_cases h : n < 0
  · rw [itoaB_neg h, size_app, decB_size]
    have := nDigits_le (u := n.natAbs) (by omega)
    have : ByteArray.size ⟨#[45]⟩ = 1 := rfl
    omega
  · rw [itoaB_nonneg (by omega), decB_size]
    have := nDigits_le (u := n.toNat) (by omega)
    omega
end Hw.Pa
namespace Hw.Pa
open Go Go.Proofs Go.Shelf Hw.M

def okAt (n i : Nat) (t : Tok) : Bool := validF t && !(decide (t.k = 5) && decide ((i : Int) < (n : Int) - 1))
def okJ (l : List Tok) : Prop := ∀ i t, l[i]? = some t → okAt l.length i t = true
def txtS (t : Tok) : Str := if t.k = 2 then itoaB t.n else t.t
def accJ : List Tok → Nat → Str → Str
  | [], _, a => a
  | t :: r, i, a => if t.k = 5 then a else accJ r (i + 1) (a ++ (if 0 < i then (⟨#[32]⟩ : ByteArray) else (⟨#[]⟩ : ByteArray)) ++ txtS t)
def preJ (i : Nat) (a : Str) : Str := a ++ (if 0 < i then (⟨#[32]⟩ : ByteArray) else (⟨#[]⟩ : ByteArray))
theorem app_nil (a : Str) : a ++ ((⟨#[]⟩ : ByteArray) : Str) = a := by
  apply ByteArray.ext
  rw [ByteArray.data_append]
  simp
theorem accJ_cons (t : Tok) (r : List Tok) (i : Nat) (a : Str) : accJ (t :: r) i a = if t.k = 5 then a else accJ r (i + 1) (a ++ (if 0 < i then (⟨#[32]⟩ : ByteArray) else (⟨#[]⟩ : ByteArray)) ++ txtS t) := rfl
theorem accJ_size : ∀ (l : List Tok) (i : Nat) (a : Str), a.size ≤ (accJ l i a).size
  | [], _, a => Nat.le_refl _
  | t :: r, i, a => by
    unfold accJ
    split
    · exact Nat.le_refl _
    · refine Nat.le_trans ?_ (accJ_size r (i + 1) _)
      rw [size_app, size_app]; omega
end Hw.Pa
namespace Hw.Pa
open Go Go.Proofs Go.Shelf Hw.M

end Hw.Pa
/- The engine, part BM: strings.Builder: what its functions do to its block and its buffer's, and nothing else. -/
namespace Hw
open Go Go.Proofs Go.Shelf Go.RowKit

def BldAt (T e : TypeId) (b : Nat) (p v : Value) (s : ByteArray) (w : World) : Prop :=
  w.heap[b]? = some (.cells #[p, v] T (0, 0)) ∧ w.ownsRowF 0 e 1 v (Lib.strCells s).length (Lib.strCells s) ∧ v.ownBlock ≠ some b ∧ (s.size = 0 → v = .slice none 0 0)
structure Kp (b : Nat) (v v' : Value) (w w' : World) : Prop where
  block : ∀ c, c < w.heap.size → c ≠ b → v.ownBlock ≠ some c → w'.heap[c]? = w.heap[c]?
  size : w.heap.size ≤ w'.heap.size
  os : w'.os = w.os
  tape : w'.tape = w.tape
  output : w'.output = w.output
  own : ∀ g, v'.ownBlock = some g → w.heap.size ≤ g ∨ v.ownBlock = some g
theorem Kp.refl (b : Nat) (v : Value) (w : World) : Kp b v v w w := ⟨fun _ _ _ _ => rfl, Nat.le_refl _, rfl, rfl, rfl, fun _ h => .inr h⟩
theorem Kp.trans {b : Nat} {v v' v2 : Value} {w w' w2 : World} (h : Kp b v v' w w') (h2 : Kp b v' v2 w' w2) : Kp b v v2 w w2 :=
  ⟨fun c hc hb hv => (h2.block c (Nat.lt_of_lt_of_le hc h.size) hb fun e => (h.own c e).elim (fun h3 => by omega) hv).trans (h.block c hc hb hv), Nat.le_trans h.size h2.size, h2.os.trans h.os, h2.tape.trans h.tape, h2.output.trans h.output,
    fun g hg => (h2.own g hg).elim (fun h3 => .inl (Nat.le_trans h.size h3)) (h.own g)⟩
theorem Kp.set {b : Nat} (v : Value) (w : World) (j : Nat) (u : Value) : Kp b v v w (w.setCell ⟨b, j, none⟩ u) :=
  ⟨fun c _ hb _ => Below.heap_setCell _ _ _ _ hb, by simp [World.setCell], rfl, rfl, rfl, fun _ h => .inr h⟩
theorem Kp.grown {b : Nat} {v v' : Value} {w w' : World} (h : w.grownBy w' v.ownBlock) (hv : ∀ g, v'.ownBlock = some g → w.heap.size ≤ g ∨ v.ownBlock = some g) : Kp b v v' w w' :=
  ⟨fun c hc _ hne => h.block c hc fun e => hne e.symm, h.size, h.os, h.tape, h.output, hv⟩
theorem Kp.alloc (b : Nat) (v : Value) (w : World) (o : Obj) : Kp b v v w (w.alloc o) :=
  ⟨fun c hc _ _ => Lib.alloc_old w o c hc, by simp, rfl, rfl, rfl, fun _ h => .inr h⟩
theorem BldAt.atF {T e : TypeId} {b : Nat} {p v : Value} {s : ByteArray} {w : World} (h : BldAt T e b p v s w) : Lib.BuilderAtF T e 0 b p (Lib.strCells s) w := ⟨Nat.zero_le _, v, h.1, h.2.1, h.2.2.1⟩
theorem BldAt.lt {T e : TypeId} {b : Nat} {p v : Value} {s : ByteArray} {w : World} (h : BldAt T e b p v s w) : b < w.heap.size := h.atF.lt

theorem BldAt.used {T e : TypeId} {b : Nat} {p v : Value} {s : ByteArray} {w : World} (h : BldAt T e b p v s w) (q : Value) : BldAt T e b q v s (w.setCell ⟨b, 0, none⟩ q) := by
  obtain ⟨hb, hown, hne, hn0⟩ := h
  refine ⟨?_, ?_, hne, hn0⟩
  · simp [World.setCell, Array.getElem?_modify, hb]
  · exact hown.kept (row := some b) ⟨rfl, rfl, rfl, by simp [World.setCell], fun k _ hk => Below.heap_setCell _ _ _ _ (fun e => hk (by simp [e]))⟩ (Or.inr hne)
theorem BldAt.put {T e : TypeId} {b : Nat} {p v v' : Value} {s : ByteArray} {w : World} (hb : w.heap[b]? = some (.cells #[p, v] T (0, 0))) (hown : w.ownsRowF 0 e 1 v' (Lib.strCells s).length (Lib.strCells s)) (hTe : T ≠ e) (hn0 : s.size = 0 → v' = .slice none 0 0) :
    BldAt T e b p v' s (w.setCell ⟨b, 1, none⟩ v') := by
  have hne := Lib.ownBlock_neF hown hb hTe
  refine ⟨?_, ?_, hne, hn0⟩
  · simp [World.setCell, Array.getElem?_modify, hb]
  · exact hown.kept (row := some b) ⟨rfl, rfl, rfl, by simp [World.setCell], fun k _ hk => Below.heap_setCell _ _ _ _ (fun e => hk (by simp [e]))⟩ (Or.inr hne)

theorem app_strX {P : Program} (w : World) (t u ty e : TypeId) (i : TypeInfo) (ht : P.underlying t = some (.slice e)) (hu : P.underlying u = some .string) (hi : P.info? e = some i) (hz : i.zero = some (.int .u8 0))
    (hsize : i.size = 1) (hby : i.bytes = 1) (v : Value) (n : Nat) (xs : List Value) (hown : w.ownsRowF 0 e 1 v n xs) (s : ByteArray) (h63 : n + s.size ≤ maxLen) (hbytes : n + s.size ≤ 140737488355328) :
    ∃ v' w', (Builtin.append_ #[t, u] ty #[v, .string s]).run P w = .ok v' w' ∧ w'.ownsRowF 0 e 1 v' (n + s.size) (xs ++ Lib.strCells s) ∧ w.grownBy w' v.ownBlock ∧ (∀ g, v'.ownBlock = some g → w.heap.size ≤ g ∨ v.ownBlock = some g) ∧ (v = .slice none 0 0 → s.size = 0 → v' = .slice none 0 0) := by
  obtain ⟨v', w', r1, r2, r3, r4⟩ := Lib.run_append_own_stringF (P := P) w 0 t u ty e i ht hu hi hz hsize hby v n xs hown s h63 hbytes (Nat.zero_le _)
  refine ⟨v', w', r1, r2, r3, ?_, fun x y => r4.2 ⟨x, y⟩⟩
  rcases hown.2 with ⟨rfl, rfl⟩ | ⟨g, cap, cur, fz, rfl, hbg, hg, hfz, hnc, hcm, hcs, htake⟩
  · obtain ⟨v2, w2, q1, q2, _⟩ := Lib.run_append_own_stringF (P := P) w w.heap.size t u ty e i ht hu hi hz hsize hby _ 0 xs ⟨hown.1, .inl ⟨rfl, rfl⟩⟩ s h63 hbytes (Nat.le_refl _)
    rw [r1] at q1
    simp only [Result.ok.injEq] at q1
    obtain ⟨rfl, rfl⟩ := q1
    exact fun g hg => .inl (q2.lt g hg).1
  · by_cases hroom : n + s.size ≤ cap
    · have hr := Lib.run_append_room_stringF (P := P) w t u ty e i ht hu hi hsize g n cap cur fz hg (by simpa using hfz) s hroom (by omega)
      rw [r1] at hr
      simp only [Result.ok.injEq] at hr
      obtain ⟨rfl, _⟩ := hr
      exact fun g' hg' => .inr hg'
    · have hr := Lib.run_append_grow_string (P := P) w t u ty e i (.int .u8 0) ht hu hi hz ⟨g, 0, none⟩ n cap xs (by rw [hsize]; simpa using hown.1) (hown.cells (g := g) rfl) s (by omega) (by simp only [maxLen] at h63; omega) (by rw [hby]; exact growslice_fits (by omega) (by omega))
      rw [r1] at hr
      simp only [Result.ok.injEq] at hr
      obtain ⟨rfl, _⟩ := hr
      intro g' hg'
      simp only [Value.ownBlock, Option.some.injEq] at hg'
      exact .inl (by omega)
theorem app_slX {P : Program} (w : World) (t ty e : TypeId) (i : TypeInfo) (ht : P.underlying t = some (.slice e)) (hi : P.info? e = some i) (hz : i.zero = some (.int .u8 0))
    (hsize : i.size = 1) (hby : i.bytes = 1) (v : Value) (n : Nat) (xs : List Value) (hown : w.ownsRowF 0 e 1 v n xs) (a : Addr) (m c : Nat) (news : List Value) (hl : news.length = m * 1) (hnews : ∀ j u, news[j]? = some u → w.cell? (a.add j) = some u) (h1 : ∀ u ∈ news, u.oneCell' = true)
    (h63 : n + m ≤ maxLen) (hbytes : n + m ≤ 140737488355328) :
    ∃ v' w', (Builtin.append_ #[t, t] ty #[v, .slice (some a) m c]).run P w = .ok v' w' ∧ w'.ownsRowF 0 e 1 v' (n + m) (xs ++ news) ∧ w.grownBy w' v.ownBlock ∧ (∀ g, v'.ownBlock = some g → w.heap.size ≤ g ∨ v.ownBlock = some g) ∧ True := by
  obtain ⟨v', w', r1, r2, r3, r4⟩ := run_append_ownF (P := P) w 0 t ty e i (.int .u8 0) 1 1 ht hi hz hsize hby rfl (by decide) v n xs hown a m c news hl hnews h1 h63 (by omega) (Nat.zero_le _)
  refine ⟨v', w', r1, r2, r3, ?_, trivial⟩
  rcases hown.2 with ⟨rfl, rfl⟩ | ⟨g, cap, cur, fz, rfl, hbg, hg, hfz, hnc, hcm, hcs, htake⟩
  · obtain ⟨v2, w2, q1, q2, _⟩ := run_append_ownF (P := P) w w.heap.size t ty e i (.int .u8 0) 1 1 ht hi hz hsize hby rfl (by decide) _ 0 xs ⟨hown.1, .inl ⟨rfl, rfl⟩⟩ a m c news hl hnews h1 h63 (by omega) (Nat.le_refl _)
    rw [r1] at q1
    simp only [Result.ok.injEq] at q1
    obtain ⟨rfl, rfl⟩ := q1
    exact fun g hg => .inl (q2.lt g hg).1
  · by_cases hroom : n + m ≤ cap
    · have hr := run_append_roomF (P := P) w t ty e i ht hi g n cap cur fz hg (by rw [hsize]; exact hfz) a m c news (by rw [hsize]; exact hl) hnews h1 hroom (by rw [hsize, hl, hcs]; omega)
      rw [r1] at hr
      simp only [Result.ok.injEq] at hr
      obtain ⟨rfl, _⟩ := hr
      exact fun g' hg' => .inr hg'
    · have hr := run_append_grow (P := P) w t ty e i (.int .u8 0) ht hi hz ⟨g, 0, none⟩ n cap xs (by rw [hsize]; exact hown.1) (hown.cells (g := g) rfl) a m c news (by rw [hsize]; exact hl) hnews (by omega) (by simp only [maxLen] at h63; omega) (by rw [hby]; exact growslice_fits (by omega) (by omega))
      rw [r1] at hr
      simp only [Result.ok.injEq] at hr
      obtain ⟨rfl, _⟩ := hr
      intro g' hg'
      simp only [Value.ownBlock, Option.some.injEq] at hg'
      exact .inl (by omega)

section
variable {P : Program} {ρ : Ren}
structure BldL (P : Program) (ρ : Ren) : Prop extends Lays.n169 P ρ where
  f166 : P.funcs[ρ.f 166]? = some (Body.n166 ρ)
  e240 : ∀ args w, (callFunc (ρ.f 240) args).run P w = .ok (.enter (ρ.f 240) args) w
  chk : ∀ {b : Nat} {p v : Value} {s : ByteArray} {w : World}, (p = .pointer none ∨ p = .pointer (some ⟨b, 0, none⟩)) → BldAt (ρ.t 72) (ρ.t 5) b p v s w →
    Calls P (ρ.f 240) #[.pointer (some ⟨b, 0, none⟩)] w fun e w' => e = .returned (.tuple #[]) ∧ BldAt (ρ.t 72) (ρ.t 5) b (.pointer (some ⟨b, 0, none⟩)) v s w' ∧ Kp b v v w w'
  t4 : P.underlying (ρ.t 4) = some (TypeDesc.bool)
  a4 : ∀ w, (isAgg (ρ.t 4)).run P w = .ok false w
  z4 : ∀ w, (Go.sizeOf (ρ.t 4)).run P w = .ok 1 w
  v4 : ∀ w, (zeroValue (ρ.t 4)).run P w = .ok (Value.bool false) w
  t164 : P.underlying (ρ.t 164) = some (TypeDesc.unsafePointer)
  a164 : ∀ w, (isAgg (ρ.t 164)).run P w = .ok false w
  z164 : ∀ w, (Go.sizeOf (ρ.t 164)).run P w = .ok 1 w
  v164 : ∀ w, (zeroValue (ρ.t 164)).run P w = .ok (Value.pointer none) w

theorem wp_app_str (w : World) {ops : Array Oper} {rest : List Oper} {o : Oper} {a : Act} {Q : Exit → Act → World → Prop} (hgd : o.guard = none) (sl x : Operand) (t u : TypeId)
    (ho : o.op = .call { callee := .builtin .append, args := #[sl, x], argTypes := #[t, u] }) (e : TypeId) (i : TypeInfo) (ht : P.underlying t = some (.slice e)) (hu : P.underlying u = some .string) (hi : P.info? e = some i) (hz : i.zero = some (.int .u8 0))
    (hsize : i.size = 1) (hby : i.bytes = 1) (v : Value) (n : Nat) (xs : List Value) (hs : a.eval sl = v) (hown : w.ownsRowF 0 e 1 v n xs) (s : ByteArray) (hx : a.eval x = .string s) (h63 : n + s.size ≤ maxLen) (hbytes : n + s.size ≤ 140737488355328)
    (h : ∀ v' w', w'.ownsRowF 0 e 1 v' (n + s.size) (xs ++ Lib.strCells s) → w.grownBy w' v.ownBlock → (∀ g, v'.ownBlock = some g → w.heap.size ≤ g ∨ v.ownBlock = some g) → (v = .slice none 0 0 → s.size = 0 → v' = .slice none 0 0) → wpList P ops Q rest (a.put o.dst v') w') : wpList P ops Q (o :: rest) a w := by
  refine wpList_plain hgd fun K hK => ?_
  obtain ⟨v', w', hr, h2, h3, h4, h5⟩ := app_strX (P := P) w t u o.type e i ht hu hi hz hsize hby v n xs hown s h63 hbytes
  unfold Oper.wp execOp
  simp only [ho, resolve, invoke, builtin, Sem.run_bind, Sem.run_pure, Result.andThen_ok, List.map_toArray, List.map_cons, List.map_nil, hs, hx, hr]
  exact hK _ _ (h v' w' h2 h3 h4 h5)
theorem wp_app_sl (w : World) {ops : Array Oper} {rest : List Oper} {o : Oper} {a : Act} {Q : Exit → Act → World → Prop} (hgd : o.guard = none) (sl x : Operand) (t : TypeId)
    (ho : o.op = .call { callee := .builtin .append, args := #[sl, x], argTypes := #[t, t] }) (e : TypeId) (i : TypeInfo) (ht : P.underlying t = some (.slice e)) (hi : P.info? e = some i) (hz : i.zero = some (.int .u8 0))
    (hsize : i.size = 1) (hby : i.bytes = 1) (v : Value) (n : Nat) (xs : List Value) (hs : a.eval sl = v) (hown : w.ownsRowF 0 e 1 v n xs) (ad : Addr) (m c : Nat) (news : List Value) (hx : a.eval x = .slice (some ad) m c) (hl : news.length = m * 1)
    (hnews : ∀ j u, news[j]? = some u → w.cell? (ad.add j) = some u) (h1 : ∀ u ∈ news, u.oneCell' = true) (h63 : n + m ≤ maxLen) (hbytes : n + m ≤ 140737488355328)
    (h : ∀ v' w', w'.ownsRowF 0 e 1 v' (n + m) (xs ++ news) → w.grownBy w' v.ownBlock → (∀ g, v'.ownBlock = some g → w.heap.size ≤ g ∨ v.ownBlock = some g) → wpList P ops Q rest (a.put o.dst v') w') : wpList P ops Q (o :: rest) a w := by
  refine wpList_plain hgd fun K hK => ?_
  obtain ⟨v', w', hr, h2, h3, h4, _⟩ := app_slX (P := P) w t o.type e i ht hi hz hsize hby v n xs hown ad m c news hl hnews h1 h63 hbytes
  unfold Oper.wp execOp
  simp only [ho, resolve, invoke, builtin, Sem.run_bind, Sem.run_pure, Result.andThen_ok, List.map_toArray, List.map_cons, List.map_nil, hs, hx, hr]
  exact hK _ _ (h v' w' h2 h3 h4)

theorem app0 {s t : ByteArray} (h : (s ++ t).size = 0) : s.size = 0 ∧ t.size = 0 := by rw [size_app] at h; omega
theorem strCells_app (s t : ByteArray) : Lib.strCells (s ++ t) = Lib.strCells s ++ Lib.strCells t := by
  simp [Lib.strCells, ByteArray.data_append]

set_option maxHeartbeats 2000000 in
set_option maxRecDepth 100000 in
theorem bld_ws (L : BldL P ρ) (X : Builder.Extra P ρ) {b : Nat} {p v : Value} {s : ByteArray} {w : World} (hp : p = .pointer none ∨ p = .pointer (some ⟨b, 0, none⟩)) (h : BldAt (ρ.t 72) (ρ.t 5) b p v s w) (t : ByteArray) (hlen : s.size + t.size ≤ 140737488355328) :
    Calls P (ρ.f 166) #[.pointer (some ⟨b, 0, none⟩), .string t] w fun e w' => e = .returned (.tuple #[.int .i64 t.size, .nilIface]) ∧ ∃ v', BldAt (ρ.t 72) (ρ.t 5) b (.pointer (some ⟨b, 0, none⟩)) v' (s ++ t) w' ∧ Kp b v v' w w' := by
  obtain ⟨i0, hi, hz0, hz1, hz2⟩ := info_parts X.infoByte
  have mixed := L.mixed
  have t72 := L.t72; have a72 := L.a72; have z72 := L.z72; have v72 := L.v72; have u72 := run_underlying L.t72
  have t70 := L.t70; have a70 := L.a70; have z70 := L.z70; have v70 := L.v70; have u70 := run_underlying L.t70
  have t37 := L.t37; have a37 := L.a37; have z37 := L.z37; have v37 := L.v37; have u37 := run_underlying L.t37
  have t3 := L.t3; have a3 := L.a3; have z3 := L.z3; have v3 := L.v3; have u3 := run_underlying L.t3
  have t9 := L.t9; have a9 := L.a9; have z9 := L.z9; have v9 := L.v9; have u9 := run_underlying L.t9
  have t4 := L.t4; have a4 := L.a4; have z4 := L.z4; have v4 := L.v4; have u4 := run_underlying L.t4
  have t164 := L.t164; have a164 := L.a164; have z164 := L.z164; have v164 := L.v164; have u164 := run_underlying L.t164
  have t5 := X.t5; have a5 := X.a5; have z5 := X.z5; have v5 := X.v5; have u5 := run_underlying X.t5
  have e240 := L.e240
  go_enter L.f166, Body.n166_ntmps ρ
  go_wp2_with (go_at_fn (ρ.f 240); refine (L.chk hp h).mono ?_)
  rintro e w1 ⟨rfl, h1, k1⟩
  have hlt := h1.lt
  obtain ⟨hbk, hown, hne, hn0⟩ := h1
  have c0 : w1.cell? ⟨b, 0, none⟩ = some (.pointer (some ⟨b, 0, none⟩)) := by rw [Lib.cell_of_heap hbk]; rfl
  have c1 : w1.cell? ⟨b, 1, none⟩ = some v := by rw [Lib.cell_of_heap hbk]; rfl
  go_wp2_with (at_builtin; refine wp_app_str _ rfl _ _ (ρ.t 37) (ρ.t 9) rfl (ρ.t 5) i0 L.t37 L.t9 hi hz0 hz1 hz2 _ _ _ rfl hown t rfl ?c3 ?c4 ?_)
  case c3 => unfold maxLen; rw [Lib.strCells_length]; omega
  case c4 => rw [Lib.strCells_length]; omega
  intro v' w2 hown' hgrow hv' hv0
  have hb2 : w2.heap[b]? = some (.cells #[.pointer (some ⟨b, 0, none⟩), v] (ρ.t 72) (0, 0)) := by
    rw [hgrow.block b hlt (fun e => hne e.symm)]
    exact hbk
  have d0 : w2.cell? ⟨b, 0, none⟩ = some (.pointer (some ⟨b, 0, none⟩)) := by rw [Lib.cell_of_heap hb2]; rfl
  have d1 : w2.cell? ⟨b, 1, none⟩ = some v := by rw [Lib.cell_of_heap hb2]; rfl
  have f1 : w2.frozen? ⟨b, 1, none⟩ = false := Lib.frozen_of_heap hb2 1
  have k2 : Kp b v v' w1 w2 := Kp.grown hgrow hv'
  obtain ⟨ao, n', cap, rfl⟩ : ∃ ao n' cap, v' = .slice ao n' cap := by
    rcases hown'.2 with ⟨hv, _⟩ | ⟨g, cap, cur, fz, hv, _⟩
    · exact ⟨_, _, _, hv⟩
    · exact ⟨_, _, _, hv⟩
  go_wp2
  go_ret2
  refine ⟨rfl, _, BldAt.put hb2 (s := s ++ t) ?_ X.neB5 (fun h0 => hv0 (hn0 (app0 h0).1) (ByteArray.size_eq_zero_iff.1 (app0 h0).2)), (k1.trans k2).trans (Kp.set _ _ _ _)⟩
  rw [strCells_app, List.length_append, Lib.strCells_length t]
  exact hown'

set_option maxHeartbeats 2000000 in
set_option maxRecDepth 100000 in
theorem bld_wb (L : BldL P ρ) (f167 : P.funcs[ρ.f 167]? = some (Body.n167 ρ)) (X : Builder.Extra P ρ) {b : Nat} {p v : Value} {s : ByteArray} {w : World} (hp : p = .pointer none ∨ p = .pointer (some ⟨b, 0, none⟩)) (h : BldAt (ρ.t 72) (ρ.t 5) b p v s w) (c : UInt8) (hlen : s.size + 1 ≤ 140737488355328) :
    Calls P (ρ.f 167) #[.pointer (some ⟨b, 0, none⟩), .int .u8 c.toNat] w fun e w' => e = .returned .nilIface ∧ ∃ v', BldAt (ρ.t 72) (ρ.t 5) b (.pointer (some ⟨b, 0, none⟩)) v' (s ++ ⟨#[c]⟩) w' ∧ Kp b v v' w w' := by
  obtain ⟨i0, hi, hz0, hz1, hz2⟩ := info_parts X.infoByte
  have mixed := L.mixed
  have t72 := L.t72; have a72 := L.a72; have z72 := L.z72; have v72 := L.v72; have u72 := run_underlying L.t72
  have t70 := L.t70; have a70 := L.a70; have z70 := L.z70; have v70 := L.v70; have u70 := run_underlying L.t70
  have t5 := X.t5; have a5 := X.a5; have z5 := X.z5; have v5 := X.v5; have u5 := run_underlying X.t5
  have t37 := L.t37; have a37 := L.a37; have z37 := L.z37; have v37 := L.v37; have u37 := run_underlying L.t37
  have t9 := L.t9; have a9 := L.a9; have z9 := L.z9; have v9 := L.v9; have u9 := run_underlying L.t9
  have t4 := L.t4; have a4 := L.a4; have z4 := L.z4; have v4 := L.v4; have u4 := run_underlying L.t4
  have t164 := L.t164; have a164 := L.a164; have z164 := L.z164; have v164 := L.v164; have u164 := run_underlying L.t164
  have e240 := L.e240
  go_enter f167, Body.n167_ntmps ρ
  go_wp2_with (go_at_fn (ρ.f 240); refine (L.chk hp h).mono ?_)
  rintro e w1 ⟨rfl, h1, k1⟩
  have hlt := h1.lt
  obtain ⟨hbk, hown, hne, hn0⟩ := h1
  have c0 : w1.cell? ⟨b, 0, none⟩ = some (.pointer (some ⟨b, 0, none⟩)) := by rw [Lib.cell_of_heap hbk]; rfl
  have c1 : w1.cell? ⟨b, 1, none⟩ = some v := by rw [Lib.cell_of_heap hbk]; rfl
  go_wp2_with (at_builtin; refine wp_app_sl _ rfl _ _ (ρ.t 37) rfl (ρ.t 5) i0 L.t37 hi hz0 hz1 hz2 _ _ _ rfl (hown.alloc _) ⟨w1.heap.size, 0, none⟩ 1 1 [.int .u8 c.toNat] rfl rfl ?c1 ?c2 ?c3 ?c4 ?_)
  case c1 =>
    intro j u hj
    match j, hj with
    | 0, hj => simp at hj; subst hj; simp [Addr.add]
  case c2 => intro u hu; simp at hu; subst hu; rfl
  case c3 => unfold maxLen; rw [Lib.strCells_length]; omega
  case c4 => rw [Lib.strCells_length]; omega
  intro v' w2 hown' hgrow hv'
  have hb2 : w2.heap[b]? = some (.cells #[.pointer (some ⟨b, 0, none⟩), v] (ρ.t 72) (0, 0)) := by
    rw [hgrow.block b (by simp; omega) (fun e => hne e.symm), Lib.alloc_old w1 _ b hlt]
    exact hbk
  have d0 : w2.cell? ⟨b, 0, none⟩ = some (.pointer (some ⟨b, 0, none⟩)) := by rw [Lib.cell_of_heap hb2]; rfl
  have d1 : w2.cell? ⟨b, 1, none⟩ = some v := by rw [Lib.cell_of_heap hb2]; rfl
  have f1 : w2.frozen? ⟨b, 1, none⟩ = false := Lib.frozen_of_heap hb2 1
  have k2 := (Kp.alloc b v w1 _).trans (Kp.grown (b := b) hgrow (fun g hg => (hv' g hg).imp (fun h => by simpa using h) id))
  obtain ⟨ao, n', cap, rfl⟩ : ∃ ao n' cap, v' = .slice ao n' cap := by
    rcases hown'.2 with ⟨hv, _⟩ | ⟨g, cap, cur, fz, hv, _⟩
    · exact ⟨_, _, _, hv⟩
    · exact ⟨_, _, _, hv⟩
  go_wp2
  go_ret
  refine ⟨rfl, _, BldAt.put hb2 (s := s ++ ⟨#[c]⟩) ?_ X.neB5 (fun h0 => absurd h0 (by rw [size_app]; exact Nat.succ_ne_zero _)), (k1.trans k2).trans (Kp.set _ _ _ _)⟩
  rw [strCells_app, List.length_append]
  exact hown'
theorem bld_len (l170 : Lays.n170 P ρ) {b : Nat} {p v : Value} {s : ByteArray} {w : World} (hp : p = .pointer none ∨ p = .pointer (some ⟨b, 0, none⟩)) (h : BldAt (ρ.t 72) (ρ.t 5) b p v s w) :
    Calls P (ρ.f 170) #[.pointer (some ⟨b, 0, none⟩)] w fun e w' => e = .returned (.int .i64 s.size) ∧ w' = w := by
  have := Any.Builder_Len_f l170 0 b (Lib.strCells s) w (by
    rcases hp with rfl | rfl
    · exact .inl h.atF
    · exact .inr h.atF)
  rw [Lib.strCells_length] at this
  exact this
theorem Kp.freeze {b g : Nat} {v : Value} (hv : v.ownBlock = some g) (w : World) (n : Nat) : Kp b v v w (w.drew.freeze ⟨g, 0, none⟩ n) := by
  unfold World.freeze
  split
  · exact ⟨fun _ _ _ _ => rfl, Nat.le_refl _, rfl, rfl, rfl, fun _ h => .inr h⟩
  · refine ⟨fun c _ _ hne => ?_, by rw [Array.size_modify]; exact Nat.le_refl _, rfl, rfl, rfl, fun _ h => .inr h⟩
    rw [hv] at hne
    simp only [Array.getElem?_modify]
    rw [if_neg (fun e => hne (by rw [e]))]
    rfl
set_option maxHeartbeats 1000000 in
set_option maxRecDepth 100000 in
theorem bld_str (L : BldL P ρ) (X : Builder.Extra P ρ) {b : Nat} {p v : Value} {s : ByteArray} {w : World} (h : BldAt (ρ.t 72) (ρ.t 5) b p v s w) :
    Calls P (ρ.f 169) #[.pointer (some ⟨b, 0, none⟩)] w fun e w' => e = .returned (.string s) ∧ Kp b v v w w' := by
  obtain ⟨hbk, hown, hne, hn0⟩ := h
  by_cases h0 : s.size = 0
  · have hv := hn0 h0
    subst hv
    have hs : s = ⟨#[]⟩ := ByteArray.size_eq_zero_iff.1 h0
    refine (Any.Builder_String_nil L.ton169 X w.heap.size b p w hbk).mono ?_
    rintro e w' ⟨rfl, hb⟩
    exact ⟨by rw [hs], fun c hc _ _ => hb.block c hc, hb.size, hb.os, hb.tape, hb.output, fun _ h => .inr h⟩
  have hl : s.data.toList ≠ [] := fun e => h0 (by rw [← Lib.strCells_length, Lib.strCells, e]; rfl)
  have hsz : s.data.toList.length = s.size := by rw [Array.length_toList]; rfl
  rw [Lib.strCells_length] at hown
  obtain ⟨g, cap, cur, fz, rfl, hg, hfz, hnc, hcm, hcs, htake⟩ : ∃ g cap cur fz, v = .slice (some ⟨g, 0, none⟩) s.size cap ∧ w.heap[g]? = some (.cells cur (ρ.t 5) fz) ∧ fz.2 ≤ s.size * 1 ∧ s.size ≤ cap ∧ cap ≤ maxLen ∧ cur.size = cap * 1 ∧ cur.toList.take (s.size * 1) = Lib.strCells s := by
    rcases hown.2 with ⟨_, hz⟩ | ⟨g, cap, cur, fz, hv, _, r⟩
    · exact absurd hz h0
    · exact ⟨g, cap, cur, fz, hv, r⟩
  have c1 : w.drew.cell? ⟨b, 1, none⟩ = some (.slice (some ⟨g, 0, none⟩) s.size cap) := by
    have : w.drew.heap[b]? = some (.cells #[p, .slice (some ⟨g, 0, none⟩) s.size cap] (ρ.t 72) (0, 0)) := hbk
    rw [Lib.cell_of_heap this]; rfl
  have hSD : (Builtin.unsafeSliceData_ #[(ρ.t 37)] (ρ.t 127) #[.slice (some ⟨g, 0, none⟩) s.size cap]).run P w.drew = .ok (.pointer (some ⟨g, 0, none⟩)) w.drew :=
    Lib.run_unsafeSliceData_row _ _ _ _ _ _ (by omega)
  have hUS : (Builtin.unsafeString_ #[(ρ.t 127), (ρ.t 3)] (ρ.t 9) #[.pointer (some ⟨g, 0, none⟩), .int .i64 s.size]).run P w.drew = .ok (.string s) (w.drew.freeze ⟨g, 0, none⟩ s.size) := by
    have := Lib.run_unsafeString_row (P := P) w.drew (ρ.t 127) (ρ.t 3) (ρ.t 9) (ρ.t 5) L.t127 X.cellsByte g cur.size (by have hg' : w.drew.heap[g]? = some (.cells cur (ρ.t 5) fz) := hg; simp [World.shape?, hg']) s.data.toList hl (by omega) (by unfold maxLen at hcm; omega) (fun j x hx => by
      have := hown.cells (g := g) rfl j (.int .u8 x.toNat) (by simp [Lib.strCells, hx])
      exact this)
    rw [hsz] at this
    exact this
  have mixed := L.mixed
  have t72 := L.t72; have a72 := L.a72; have z72 := L.z72; have v72 := L.v72; have u72 := run_underlying L.t72
  have t70 := L.t70; have a70 := L.a70; have z70 := L.z70; have v70 := L.v70; have u70 := run_underlying L.t70
  have t37 := L.t37; have a37 := L.a37; have z37 := L.z37; have v37 := L.v37; have u37 := run_underlying L.t37
  have t127 := L.t127; have a127 := L.a127; have z127 := L.z127; have v127 := L.v127; have u127 := run_underlying L.t127
  have t3 := L.t3; have a3 := L.a3; have z3 := L.z3; have v3 := L.v3; have u3 := run_underlying L.t3
  have t9 := L.t9; have a9 := L.a9; have z9 := L.z9; have v9 := L.v9; have u9 := run_underlying L.t9
  have t5 := X.t5; have a5 := X.a5; have z5 := X.z5; have v5 := X.v5; have u5 := run_underlying X.t5
  go_enter L.f169, Body.n169_ntmps ρ
  go_wp2
  go_region_o
  all_goals (go_wp2; go_ret; exact ⟨rfl, Kp.freeze rfl w _⟩)
end

theorem own_blk (v : Value) (h : ∃ (a : Option Addr) (n c : Nat), v = .slice a n c) : blk v = v.ownBlock := by
  obtain ⟨a, n, c, rfl⟩ := h
  cases a <;> rfl
theorem owned_sl {w : World} {e : TypeId} {v : Value} {n : Nat} {xs : List Value} (h : w.ownsRowF 0 e 1 v n xs) : ∃ (a : Option Addr) (n c : Nat), v = .slice a n c := by
  rcases h.2 with ⟨hv, _⟩ | ⟨g, cap, cur, fz, hv, _⟩
  · exact ⟨_, _, _, hv⟩
  · exact ⟨_, _, _, hv⟩
theorem bk_bld {b : Nat} {v : Value} {c : Nat} (hv : ∃ (a : Option Addr) (n c : Nat), v = .slice a n c) : Bk (.tuple [Value.pointer (some ⟨b, 0, none⟩), v].toArray) c ↔ c = b ∨ v.ownBlock = some c := by
  rw [← own_blk v hv]
  constructor
  · rintro ⟨x, hx, hb⟩
    have hx' : x = Value.pointer (some ⟨b, 0, none⟩) ∨ x = v := by simpa using hx
    rcases hx' with rfl | rfl
    · simp only [blk, Option.some.injEq] at hb; exact .inl hb.symm
    · exact .inr hb
  · rintro (rfl | h)
    · exact ⟨Value.pointer (some ⟨c, 0, none⟩), by simp, rfl⟩
    · exact ⟨v, by simp, h⟩

theorem fn_bld {P : Program} {f : FuncId} {T e : TypeId} {b : Nat} {s s' : ByteArray} {av : List Value} {r : Value} (hc : CallOK P f)
    (h : ∀ (p v : Value) (w : World), GOw w → (p = .pointer none ∨ p = .pointer (some ⟨b, 0, none⟩)) → BldAt T e b p v s w → Calls P f (.pointer (some ⟨b, 0, none⟩) :: av).toArray w fun x w' => x = .returned r ∧
      ∃ p' v', (p' = .pointer none ∨ p' = .pointer (some ⟨b, 0, none⟩)) ∧ BldAt T e b p' v' s' w' ∧ Kp b v v' w w')
    {res : S} (hr : ∀ M ρ, RepS M ρ res r) : FnOK P f (.one (.p (.k (.pointer (some ⟨b, 0, none⟩)))) :: av.map fun a => .one (.p (.k a))) [(0, .bld T e b s)] res [(1, .bld T e b s')] := by
  refine ⟨hc, fun M ρ w xs hx ht hI hG => ?_⟩
  match xs, hx with
  | [], hx => simp [RepSs] at hx
  | x :: xs, hx =>
    simp only [RepSs, RepS, RepV, RepPV] at hx
    obtain ⟨⟨rfl, _⟩, hxs⟩ := hx
    obtain rfl := reps_k hxs
    obtain ⟨p, v, h1, hp, hb⟩ := ht.res 0 (.bld T e b s) (by simp [tb, tg])
    have hv := owned_sl hb.2.1
    have hown : ∀ c, Owns (tb [(0, .bld T e b s)]) ρ c ↔ c = b ∨ v.ownBlock = some c := fun c => by
      rw [← bk_bld hv, ← h1]
      constructor
      · rintro ⟨i, r, hi, hbk⟩
        simp only [tb, tg_cons] at hi
        split at hi
        · rename_i e; rw [e]; exact hbk
        · cases hi
      · exact fun hbk => ⟨0, .bld T e b s, by simp [tb, tg], hbk⟩
    refine (h p v w (gow_of hI hG) hp hb).mono fun ex w' ⟨he, p', v', hp', hb', hk⟩ => ?_
    have hv' := owned_sl hb'.2.1
    have w1 : upd ρ 1 (.tuple [Value.pointer (some ⟨b, 0, none⟩), v'].toArray) 1 = .tuple [Value.pointer (some ⟨b, 0, none⟩), v'].toArray := upd_same _ _ _
    have one : ∀ i q, tg (tb [(1, .bld T e b s')]) i = some q → i = 1 ∧ q = .bld T e b s' := fun i q hi => by
      simp only [tb, tg_cons] at hi
      split at hi
      · rename_i e; exact ⟨e.symm, (Option.some.inj hi).symm⟩
      · cases hi
    have mI : ∀ c o u, M c o = some u → c ≠ b ∧ v.ownBlock ≠ some c := fun c o u hu => by
      have hn : ¬ Owns (tb [(0, .bld T e b s)]) ρ c := fun ⟨i, q, hi, hbk⟩ => by rw [ht.own i q c hi hbk o] at hu; cases hu
      rw [hown] at hn
      exact ⟨fun e => hn (.inl e), fun e => hn (.inr e)⟩
    have nowM : ∀ c, c = b ∨ v'.ownBlock = some c → ∀ o, M c o = none := fun c hc o => by
      cases hm : M c o with
      | none => rfl
      | some u =>
        have := mI c o u hm
        have hlt := cell_lt (hI c o u hm)
        rcases hc with rfl | hc
        · exact absurd rfl this.1
        · rcases hk.own c hc with h3 | h3
          · omega
          · exact absurd h3 this.2
    refine ⟨r, M, upd ρ 1 (.tuple [Value.pointer (some ⟨b, 0, none⟩), v'].toArray), he, hr _ _, ⟨fun i q hi => ?_, fun i j ri rj c hi hj hne => ?_, fun i q c hi hc o => ?_⟩, fun c o u hu => ?_, MLe.refl M, fun c o u hu => .inl hu, fun c hc => ?_, fun c hc hn => ?_, hk.size, hk.os, hk.tape, hk.output, fun id hid => ?_⟩
    · obtain ⟨rfl, rfl⟩ := one i q hi
      exact ⟨p', v', w1, hp', hb'⟩
    · exact absurd ((one i ri hi).1.trans (one j rj hj).1.symm) hne
    · obtain ⟨rfl, rfl⟩ := one i q hi
      rw [w1, bk_bld hv'] at hc
      exact nowM c hc o
    · rw [cell_of_heap (hk.block c (cell_lt (hI c o u hu)) (mI c o u hu).1 (mI c o u hu).2)]; exact hI c o u hu
    · obtain ⟨i, q, hi, hbk⟩ := hc
      obtain ⟨rfl, rfl⟩ := one i q hi
      rw [w1, bk_bld hv'] at hbk
      rw [hown]
      rcases hbk with h3 | h3
      · exact .inr (.inl h3)
      · exact (hk.own c h3).imp id .inr
    · rw [hown] at hn
      exact hk.block c hc (fun e => hn (.inl e)) fun e => hn (.inr e)
    · simp only [RL.ids, List.mem_cons, List.mem_nil_iff, or_false] at hid
      subst hid; exact upd_other (by decide)
theorem fn_bldX {P : Program} {f : FuncId} {T e : TypeId} {b : Nat} {s : ByteArray} {r : Value} (hc : CallOK P f)
    (h : ∀ (p v : Value) (w : World), GOw w → (p = .pointer none ∨ p = .pointer (some ⟨b, 0, none⟩)) → BldAt T e b p v s w → Calls P f #[.pointer (some ⟨b, 0, none⟩)] w fun x w' => x = .returned r ∧ Kp b v v w w')
    {res : S} (hr : ∀ M ρ, RepS M ρ res r) : FnOK P f [.one (.p (.k (.pointer (some ⟨b, 0, none⟩))))] [(0, .bld T e b s)] res [] := by
  refine ⟨hc, fun M ρ w xs hx ht hI hG => ?_⟩
  match xs, hx with
  | [], hx => simp [RepSs] at hx
  | _ :: _ :: _, hx => simp [RepSs] at hx
  | [x], hx =>
    simp only [RepSs, RepS, RepV, RepPV] at hx
    obtain ⟨⟨rfl, _⟩, _⟩ := hx
    obtain ⟨p, v, h1, hp, hb⟩ := ht.res 0 (.bld T e b s) (by simp [tb, tg])
    have hv := owned_sl hb.2.1
    have hown : ∀ c, Owns (tb [(0, .bld T e b s)]) ρ c ↔ c = b ∨ v.ownBlock = some c := fun c => by
      rw [← bk_bld hv, ← h1]
      constructor
      · rintro ⟨i, r, hi, hbk⟩
        simp only [tb, tg_cons] at hi
        split at hi
        · rename_i e; rw [e]; exact hbk
        · cases hi
      · exact fun hbk => ⟨0, .bld T e b s, by simp [tb, tg], hbk⟩
    have mI : ∀ c o u, M c o = some u → c ≠ b ∧ v.ownBlock ≠ some c := fun c o u hu => by
      have hn : ¬ Owns (tb [(0, .bld T e b s)]) ρ c := fun ⟨i, q, hi, hbk⟩ => by rw [ht.own i q c hi hbk o] at hu; cases hu
      rw [hown] at hn
      exact ⟨fun e => hn (.inl e), fun e => hn (.inr e)⟩
    refine (h p v w (gow_of hI hG) hp hb).mono fun ex w' ⟨he, hk⟩ => ?_
    refine ⟨r, M, ρ, he, hr _ _, ⟨fun i q hi => (by cases hi), fun i j ri rj c hi => (by cases hi), fun i q c hi => (by cases hi)⟩, fun c o u hu => ?_, MLe.refl M, fun c o u hu => .inl hu, fun c hc => ?_, fun c hc hn => ?_, hk.size, hk.os, hk.tape, hk.output, fun id hid => rfl⟩
    · rw [cell_of_heap (hk.block c (cell_lt (hI c o u hu)) (mI c o u hu).1 (mI c o u hu).2)]; exact hI c o u hu
    · obtain ⟨i, q, hi, _⟩ := hc; cases hi
    · rw [hown] at hn
      exact hk.block c hc (fun e => hn (.inl e)) fun e => hn (.inr e)
abbrev Bp (b : Nat) : S := .one (.p (.k (.pointer (some ⟨b, 0, none⟩))))
section
variable {P : Program} {C : Ctx} {k : List Frm} {n : Nat} {sl : Slots} {tab : Tab} {Q : Exit → St → Prop} {all : Array Oper} {rest : List Oper}
theorem g_newBld {d : Nat} {t ty : TypeId} {ps : String} {af : Array Edge} (hC : C.low) (e : TypeId) (hz : zeroV P t = some [.p (.k (.pointer none)), .p (.k (.slice none 0 0))]) (hd : Nat.blt d n = true) (hf : freshB (1000 + d) ⟨n, sl, tab⟩ = true)
    (g : ∀ b : Nat, Goal P C (.ops all rest none) k n ((d, Bp b) :: sl) ((1000 + d, some (.bld t e b ByteArray.empty)) :: tab) Q) : Goal P C (.ops all (⟨some d, .alloc t, ty, ps, af, none⟩ :: rest) none) k n sl tab Q := by
  refine fun M ρ a w hH => wpList_step fun K hK => ?_
  simp only [Region.wanted, if_true]
  have hfr : Fresh C (1000 + d) ⟨n, sl, tab⟩ := fresh_of hf (hC.none (by omega))
  obtain ⟨zv, hz1, hz2, _⟩ := zeroV_spec hz M ρ w
  have hz4 : zv.cells = #[Value.pointer none, .slice none 0 0] := by
    generalize hL : zv.cells.toList = L at hz2
    match L, hz2 with
    | [], hz2 => simp [RepVs] at hz2
    | [_], hz2 => simp [RepVs] at hz2
    | _ :: _ :: _ :: _, hz2 => simp [RepVs] at hz2
    | [x, y], hz2 =>
      simp only [RepVs, RepV, RepPV] at hz2
      rw [hz2.1.1, hz2.2.1.1] at hL
      rw [← Array.toArray_toList (xs := zv.cells), hL]
  have hrun : (execOp a.eval ⟨some d, .alloc t, ty, ps, af, none⟩).run P w = .ok (.value (.pointer (some ⟨w.heap.size, 0, none⟩))) (w.alloc (.cells zv.cells t)) := by
    simp [execOp, Instr.alloc, newVar, newRow, hz1]
  unfold Oper.wp
  rw [hrun, Oper.upon_value]
  refine hK _ _ (g w.heap.size M _ _ _ (hH.alloc (st := ⟨n, sl, tab⟩) (d := some d) (v := Bp w.heap.size) (id := 1000 + d) (r' := .bld t e w.heap.size ByteArray.empty) (val := .tuple [Value.pointer (some ⟨w.heap.size, 0, none⟩), .slice none 0 0].toArray) (fun b hb => ?_) hfr
    ⟨.pointer none, .slice none 0 0, upd_same _ _ _, .inl rfl, by rw [hz4]; exact heap_push_new w _, ⟨rfl, .inl ⟨rfl, rfl⟩⟩, by simp [Value.ownBlock], fun _ => rfl⟩ ?_ hd))
  · rw [bk_bld ⟨_, _, _, rfl⟩] at hb
    rcases hb with rfl | hb
    · rfl
    · cases hb
  · simp only [RepS, RepV, RepPV]; exact ⟨trivial, rfl⟩
end
end Hw
namespace Hw.Pa
open Go Go.Proofs Go.Shelf Hw.M

def bldR : Go.Shelf.Ren := ⟨fun | 166 => 58 | 167 => 57 | 169 => 61 | 170 => 60 | 240 => 98 | n => n, fun | 75 => 122 | 0 => 0 | 3 => 3 | 4 => 4 | 5 => 5 | 9 => 9 | 37 => 118 | 70 => 117 | 72 => 120 | 127 => 154 | 164 => 184 | n => n, fun n => n⟩
theorem bldX : Builder.Extra Tryz.prog bldR where
  sizeBuilder := by kernel_rfl
  liesBuilder := by kernel_rfl
  t5 := Tryz.underlying5
  a5 := Tryz.isAgg5
  z5 := Tryz.sizeOf5
  v5 := Tryz.zeroValue5
  infoByte := by kernel_rfl
  cellsByte := by kernel_rfl
  sizeByte := by kernel_rfl
  neB5 := by decide
set_option maxHeartbeats 1000000 in
set_option maxRecDepth 100000 in
theorem bld_chk {b : Nat} {p v : Value} {s : ByteArray} {w : World} (hp : p = .pointer none ∨ p = .pointer (some ⟨b, 0, none⟩)) (h : BldAt (bldR.t 72) (bldR.t 5) b p v s w) :
    Calls Tryz.prog (bldR.f 240) #[.pointer (some ⟨b, 0, none⟩)] w fun e w' => e = .returned (.tuple #[]) ∧ BldAt (bldR.t 72) (bldR.t 5) b (.pointer (some ⟨b, 0, none⟩)) v s w' ∧ Kp b v v w w' := by
  obtain ⟨j, hj, hjs⟩ := Option.map_eq_some_iff.1 bldX.sizeBuilder
  rcases hp with rfl | rfl
  · have h0 := h.atF.cell0
    have hsh := h.atF.shape
    have hfz := h.atF.frozen0
    refine Calls.mono (R := fun e w' => e = .returned (.tuple #[]) ∧ w' = w.setCell ⟨b, 0, none⟩ (.pointer (some ⟨b, 0, none⟩))) ?_ ?_
    · go_enter Tryz.func98, Tryz.ntmps98
      go_wp2
      rw [Lib.run_to_unsafe w ⟨b, 0, none⟩ Tryz.underlying117 Tryz.underlying184 hj (by rw [hjs]; decide) hsh (Nat.zero_lt_succ 1)]
      simp only [Result.andThen]
      rw [Oper.upon_value]
      go_wp2
      rw [run_callFunc_extern Tryz.func141 (by kernel_rfl) (by kernel_rfl) (by kernel_rfl) (e := Extern.AbiNoEscape.same) (by kernel_rfl)]
      rw [Lib.run_noEscape]
      simp only [Result.andThen]
      rw [Oper.upon_value]
      go_wp2
      rw [Lib.run_from_unsafe w ⟨b, 0, none⟩ Tryz.underlying184 Tryz.underlying117 hj hsh bldX.liesBuilder]
      simp only [Result.andThen]
      rw [Oper.upon_value]
      go_wp2
      go_end0
      exact ⟨rfl, rfl⟩
    · rintro e w' ⟨rfl, rfl⟩
      exact ⟨rfl, h.used _, Kp.set _ _ _ _⟩
  · have h0 := h.atF.cell0
    refine Calls.mono (R := fun e w' => e = .returned (.tuple #[]) ∧ w' = w) ?_ ?_
    · go_enter Tryz.func98, Tryz.ntmps98
      go_wp2
      rw [Lib.run_neq_ptr_same w _ Tryz.underlying117 hj]
      go_wp2
      go_end0
      exact ⟨rfl, rfl⟩
    · rintro e w' ⟨rfl, rfl⟩
      exact ⟨rfl, h, Kp.refl _ _ _⟩
theorem bldL : BldL Tryz.prog bldR where
  mixed := by kernel_rfl
  f169 := Tryz.func61.trans (congrArg some (by kernel_rfl))
  f166 := Tryz.func58.trans (congrArg some (by kernel_rfl))
  e240 := enters_of Tryz.func98 (by kernel_rfl) rfl
  chk := bld_chk
  t0 := Tryz.underlying0
  a0 := Tryz.isAgg0
  z0 := Tryz.sizeOf0
  v0 := Tryz.zeroValue0
  t3 := Tryz.underlying3
  a3 := Tryz.isAgg3
  z3 := Tryz.sizeOf3
  v3 := Tryz.zeroValue3
  t4 := Tryz.underlying4
  a4 := Tryz.isAgg4
  z4 := Tryz.sizeOf4
  v4 := Tryz.zeroValue4
  t9 := Tryz.underlying9
  a9 := Tryz.isAgg9
  z9 := Tryz.sizeOf9
  v9 := Tryz.zeroValue9
  t37 := Tryz.underlying118
  a37 := Tryz.isAgg118
  z37 := Tryz.sizeOf118
  v37 := Tryz.zeroValue118
  t70 := Tryz.underlying117
  a70 := Tryz.isAgg117
  z70 := Tryz.sizeOf117
  v70 := Tryz.zeroValue117
  t72 := Tryz.underlying120
  a72 := Tryz.isAgg120
  z72 := Tryz.sizeOf120
  v72 := Tryz.zeroValue120
  t127 := Tryz.underlying154
  a127 := Tryz.isAgg154
  z127 := Tryz.sizeOf154
  v127 := Tryz.zeroValue154
  t164 := Tryz.underlying184
  a164 := Tryz.isAgg184
  z164 := Tryz.sizeOf184
  v164 := Tryz.zeroValue184
theorem bf167 : Tryz.prog.funcs[bldR.f 167]? = some (Body.n167 bldR) := Tryz.func57.trans (congrArg some (by kernel_rfl))
theorem bl170 : Lays.n170 Tryz.prog bldR := {
    mixed := by kernel_rfl
    f170 := Tryz.func60.trans (congrArg some (by kernel_rfl))
    t0 := Tryz.underlying0
    a0 := Tryz.isAgg0
    z0 := Tryz.sizeOf0
    v0 := Tryz.zeroValue0
    t3 := Tryz.underlying3
    a3 := Tryz.isAgg3
    z3 := Tryz.sizeOf3
    v3 := Tryz.zeroValue3
    t37 := Tryz.underlying118
    a37 := Tryz.isAgg118
    z37 := Tryz.sizeOf118
    v37 := Tryz.zeroValue118
    t70 := Tryz.underlying117
    a70 := Tryz.isAgg117
    z70 := Tryz.sizeOf117
    v70 := Tryz.zeroValue117
    t72 := Tryz.underlying120
    a72 := Tryz.isAgg120
    z72 := Tryz.sizeOf120
    v72 := Tryz.zeroValue120
  }
abbrev Bd (b : Nat) (s : ByteArray) : Res := .bld 120 5 b s
theorem ws_ok (b : Nat) (s t : Str) (h : s.size + t.size ≤ 140737488355328) : FnOK Tryz.prog 58 [Bp b, Sr t] [(0, Bd b s)] (.tup [I t.size, .one (.p (.k .nilIface))]) [(1, Bd b (s ++ t))] :=
  fn_bld (av := [.string t]) (callOKL Tryz.func58 (by kernel_rfl) (by kernel_rfl)) (fun p v w _ hp hb => (bld_ws bldL bldX hp hb t h).mono fun e w' ⟨he, v', h1, h2⟩ => ⟨he, _, v', .inr rfl, h1, h2⟩)
    fun M ρ => by simp only [RepS]; exact ⟨_, rfl, by simp only [RepSs, RepS, RepV, RepPV]; exact ⟨⟨trivial, rfl⟩, ⟨trivial, rfl⟩, trivial⟩⟩
theorem wb_ok (b : Nat) (s : Str) (c : UInt8) (h : s.size + 1 ≤ 140737488355328) : FnOK Tryz.prog 57 [Bp b, Kk .u8 c.toNat] [(0, Bd b s)] (.one (.p (.k .nilIface))) [(1, Bd b (s ++ ⟨#[c]⟩))] :=
  fn_bld (av := [.int .u8 c.toNat]) (callOKL Tryz.func57 (by kernel_rfl) (by kernel_rfl)) (fun p v w _ hp hb => (bld_wb bldL bf167 bldX hp hb c h).mono fun e w' ⟨he, v', h1, h2⟩ => ⟨he, _, v', .inr rfl, h1, h2⟩)
    fun M ρ => by simp only [RepS, RepV, RepPV]; exact ⟨trivial, rfl⟩
theorem bl_ok (b : Nat) (s : ByteArray) : FnOK Tryz.prog 60 [Bp b] [(0, Bd b s)] (I s.size) [(1, Bd b s)] :=
  fn_bld (av := []) (callOKL Tryz.func60 (by kernel_rfl) (by kernel_rfl)) (fun p v w _ hp hb => (bld_len bl170 hp hb).mono fun e w' ⟨he, h1⟩ => ⟨he, p, v, hp, by rw [h1]; exact hb, by rw [h1]; exact Kp.refl _ _ _⟩)
    fun M ρ => by simp only [RepS, RepV, RepPV]; exact ⟨trivial, rfl⟩
theorem bs_ok (b : Nat) (s : ByteArray) : FnOK Tryz.prog 61 [Bp b] [(0, Bd b s)] (Sr s) [] :=
  fn_bldX (callOKL Tryz.func61 (by kernel_rfl) (by kernel_rfl)) (fun p v w _ _ hb => bld_str bldL bldX hb)
    fun M ρ => by simp only [RepS, RepV, RepPV]; exact ⟨trivial, rfl⟩
end Hw.Pa
namespace Hw.Pa
open Go Go.Proofs Go.Shelf Hw.M

theorem lJoin_yes (l : List Tok) (hl : l.length ≤ 1000000) (hok : okJ l) (hsz : (accJ l 0 (⟨#[]⟩ : ByteArray)).size ≤ 65536) : FnOK Tryz.prog 21 [pS (toksP l)] [] (.tup [Sr (accJ l 0 (⟨#[]⟩ : ByteArray)), I 0]) [] := by
  refine fn_ok T Tryz.func21 (by kernel_rfl) rfl rfl rfl rfl fun C hC => ?_
  repeat' first | refine g_go T hC true 400 rfl rfl ?_ | refine g_cond rfl (fun h => ?_) (fun h => ?_) | refine g_splitG rfl rfl rfl (fun h => ?_) (fun h => ?_) | refine g_splitP rfl rfl (fun h => ?_) (fun h => ?_)
  rw [List.length_map]
  refine g_loop (fun j : Nat => j ≤ l.length) (fun j => ([(0, pS (toksP l)), (9, pS (toksP l)), (10, I l.length), (11, I j)], [])) (fun j => l.length - j) hC
    0 (Nat.zero_le _) id ⟨rfl, ⟨rfl, rfl, rfl, rfl, trivial⟩, trivial, rfl, fun _ _ => rfl⟩ ?_
  intro j hj
  refine g_run' T hC true 200 rfl ?_
  refine g_cond rfl (fun h => ?_) (fun h => ?_)
  · have hlt : j < l.length := by have := of_decide_eq_true h; omega
    clear h
    obtain ⟨u, hu⟩ := exists_at hlt
    have hV := lexValid_ok u
    have hok' := hok j u hu
    have w1 : IntKind.i64.wrap ((l.length : Int) - 1) = (l.length : Int) - 1 := wrap64 (by omega)
    unfold okAt at hok'
    generalize validF u = v at hV hok'
    repeat' first | refine g_go T hC true 400 rfl rfl ?_ | refine g_cond rfl (fun h => ?_) (fun h => ?_) | refine g_splitG rfl rfl rfl (fun h => ?_) (fun h => ?_) | refine g_splitP rfl rfl (fun h => ?_) (fun h => ?_) | refine g_idx T hC rfl rfl rfl (Int.natCast_nonneg _) (map_at (by assumption)) rfl rfl ?_ | refine g_call hC (hV) rfl rfl (LeSs.refl _) rfl rfl rfl ?_ | refine g_outR ?_
    all_goals (try simp only [List.length_map] at *)
    all_goals (try rw [w1] at *)
    all_goals first
      | (rw [wrapS (by omega)]
         exact g_round (j + 1) hlt id (by omega) ⟨rfl, ⟨rfl, rfl, rfl, rfl, trivial⟩, trivial, rfl, fun _ _ => rfl⟩)
      | (exfalso; simp_all; done)
      | (exfalso; simp_all; omega)
  · repeat' first | refine g_go T hC true 400 rfl rfl ?_ | refine g_cond rfl (fun h => ?_) (fun h => ?_) | refine g_splitG rfl rfl rfl (fun h => ?_) (fun h => ?_) | refine g_splitP rfl rfl (fun h => ?_) (fun h => ?_) | refine g_outE ?_ | (refine g_newBld hC 5 (by kernel_rfl) rfl rfl (fun b => ?_))
    rw [List.length_map]
    refine g_loop (fun q : Nat × Str => q.1 ≤ l.length ∧ accJ (l.drop q.1) q.1 q.2 = accJ l 0 (⟨#[]⟩ : ByteArray)) (fun q => ([(32, pS (toksP l)), (33, I l.length), (34, I q.1), (6, Bp b)], [(101, some (Bd b q.2))])) (fun q => l.length - q.1) hC
      (0, (⟨#[]⟩ : ByteArray)) ⟨Nat.zero_le _, rfl⟩ (mvU 101 1006) ⟨rfl, ⟨rfl, rfl, rfl, rfl, trivial⟩, ⟨rfl, trivial⟩, rfl, fun i hi => mvU_low (by omega) hi⟩ ?_
    clear h hj
    rintro ⟨j, a⟩ ⟨hj, ha⟩
    simp only at hj ha
    refine g_run' T hC true 200 rfl ?_
    refine g_cond rfl (fun h => ?_) (fun h => ?_)
    rotate_left
    · have hge : ¬ j < l.length := by have := of_decide_eq_false h; omega
      rw [List.drop_of_length_le (by omega)] at ha
      rw [← ha]
      have hS := bs_ok b a
      repeat' first | refine g_go T hC true 400 rfl rfl ?_ | refine g_cond rfl (fun h => ?_) (fun h => ?_) | refine g_splitG rfl rfl rfl (fun h => ?_) (fun h => ?_) | refine g_splitP rfl rfl (fun h => ?_) (fun h => ?_) | refine g_outE ?_ | refine g_callR hC (hS) (nm [101]) rfl rfl (LeSs.refl _) rfl rfl rfl rfl rfl rfl rfl rfl ?_
      exact g_fin ⟨.inl rfl, id, _, rfl, .refl _, trivial, rfl, rfl⟩
    have hlt : j < l.length := by have := of_decide_eq_true h; omega
    clear h
    obtain ⟨u, hu⟩ := exists_at hlt
    rw [drop_at hu, accJ_cons] at ha
    by_cases h5 : u.k = 5
    · rw [if_pos h5] at ha
      rw [← ha]
      have hS := bs_ok b a
      repeat' first | refine g_go T hC true 400 rfl rfl ?_ | (exfalso; exact absurd h5 (of_decide_eq_false h)) | refine g_cond rfl (fun h => ?_) (fun h => ?_) | refine g_splitG rfl rfl rfl (fun h => ?_) (fun h => ?_) | refine g_splitP rfl rfl (fun h => ?_) (fun h => ?_) | refine g_idx T hC rfl rfl rfl (Int.natCast_nonneg _) (map_at (by assumption)) rfl rfl ?_ | refine g_outE ?_ | refine g_callR hC (hS) (nm [101]) rfl rfl (LeSs.refl _) rfl rfl rfl rfl rfl rfl rfl rfl ?_
      exact g_fin ⟨.inl rfl, id, _, rfl, .refl _, trivial, rfl, rfl⟩
    rw [if_neg h5] at ha
    have hz := accJ_size (l.drop (j + 1)) (j + 1) (a ++ (if 0 < j then (⟨#[32]⟩ : ByteArray) else (⟨#[]⟩ : ByteArray)) ++ txtS u)
    rw [ha, size_app, size_app] at hz
    unfold txtS at hz ha
    have hv := hok j u hu
    unfold okAt validF at hv
    have hb1 : ((⟨#[32]⟩ : ByteArray) : Str).size = 1 := rfl
    have hb0 : ((⟨#[]⟩ : ByteArray) : Str).size = 0 := rfl
    by_cases hk2 : u.k = 2
    · rw [if_pos hk2] at hz ha
      have hn : 0 ≤ u.n ∧ u.n ≤ 1099511627776 := by
        rw [hk2] at hv
        simp at hv
        omega
      have hD := itoa_ok u.n (by omega) (by omega)
      clear hv
      by_cases hj0 : 0 < j
      · rw [if_pos hj0] at hz ha
        rw [hb1] at hz
        have hB := wb_ok b a 32 (by omega)
        have hW := ws_ok b (a ++ (⟨#[32]⟩ : ByteArray)) (itoaB u.n) (by rw [size_app, hb1]; omega)
        have hN := bl_ok b ((a ++ (⟨#[32]⟩ : ByteArray)) ++ itoaB u.n)
        repeat' first | refine g_go T hC true 400 rfl rfl ?_ | (exfalso; have h2 := of_decide_eq_false h; omega) | (exfalso; have h2 := of_decide_eq_true h; omega) | refine g_cond rfl (fun h => ?_) (fun h => ?_) | refine g_splitG rfl rfl rfl (fun h => ?_) (fun h => ?_) | refine g_splitP rfl rfl (fun h => ?_) (fun h => ?_) | refine g_idx T hC rfl rfl rfl (Int.natCast_nonneg _) (map_at (by assumption)) rfl rfl ?_ | refine g_callR hC (hB) (nm [101, 102]) rfl rfl (LeSs.refl _) rfl rfl rfl rfl rfl rfl rfl rfl ?_ | refine g_call hC (hD) rfl rfl (LeSs.refl _) rfl rfl rfl ?_ | refine g_callR hC (hW) (nm [102, 103]) rfl rfl (LeSs.refl _) rfl rfl rfl rfl rfl rfl rfl rfl ?_ | refine g_callR hC (hN) (nm [103, 104]) rfl rfl (LeSs.refl _) rfl rfl rfl rfl rfl rfl rfl rfl ?_ | refine g_outR ?_
        all_goals first
          | (exfalso; have h2 := of_decide_eq_true h; rw [size_app] at h2; (try rw [size_app] at h2); omega)
          | (rw [wrapS (by omega)]
             exact g_round (j + 1, (a ++ (⟨#[32]⟩ : ByteArray)) ++ itoaB u.n) ⟨by simp only; omega, by simpa using ha⟩ (mvU 101 104) (by simp only; omega) ⟨rfl, ⟨rfl, rfl, rfl, rfl, trivial⟩, ⟨rfl, trivial⟩, rfl, fun i hi => mvU_low (by omega) hi⟩)
      · rw [if_neg hj0] at hz ha
        rw [app_nil a] at ha
        have hW := ws_ok b a (itoaB u.n) (by omega)
        have hN := bl_ok b (a ++ itoaB u.n)
        repeat' first | refine g_go T hC true 400 rfl rfl ?_ | (exfalso; have h2 := of_decide_eq_false h; omega) | (exfalso; have h2 := of_decide_eq_true h; omega) | refine g_cond rfl (fun h => ?_) (fun h => ?_) | refine g_splitG rfl rfl rfl (fun h => ?_) (fun h => ?_) | refine g_splitP rfl rfl (fun h => ?_) (fun h => ?_) | refine g_idx T hC rfl rfl rfl (Int.natCast_nonneg _) (map_at (by assumption)) rfl rfl ?_ | refine g_call hC (hD) rfl rfl (LeSs.refl _) rfl rfl rfl ?_ | refine g_callR hC (hW) (nm [101, 102]) rfl rfl (LeSs.refl _) rfl rfl rfl rfl rfl rfl rfl rfl ?_ | refine g_callR hC (hN) (nm [102, 103]) rfl rfl (LeSs.refl _) rfl rfl rfl rfl rfl rfl rfl rfl ?_ | refine g_outR ?_
        all_goals first
          | (exfalso; have h2 := of_decide_eq_true h; rw [size_app] at h2; (try rw [size_app] at h2); omega)
          | (rw [wrapS (by omega)]
             exact g_round (j + 1, a ++ itoaB u.n) ⟨by simp only; omega, by simpa using ha⟩ (mvU 101 103) (by simp only; omega) ⟨rfl, ⟨rfl, rfl, rfl, rfl, trivial⟩, ⟨rfl, trivial⟩, rfl, fun i hi => mvU_low (by omega) hi⟩)
    · rw [if_neg hk2] at hz ha
      clear hv
      by_cases hj0 : 0 < j
      · rw [if_pos hj0] at hz ha
        rw [hb1] at hz
        have hB := wb_ok b a 32 (by omega)
        have hW := ws_ok b (a ++ (⟨#[32]⟩ : ByteArray)) (u.t) (by rw [size_app, hb1]; omega)
        have hN := bl_ok b ((a ++ (⟨#[32]⟩ : ByteArray)) ++ u.t)
        repeat' first | refine g_go T hC true 400 rfl rfl ?_ | (exfalso; have h2 := of_decide_eq_false h; omega) | (exfalso; have h2 := of_decide_eq_true h; omega) | refine g_cond rfl (fun h => ?_) (fun h => ?_) | refine g_splitG rfl rfl rfl (fun h => ?_) (fun h => ?_) | refine g_splitP rfl rfl (fun h => ?_) (fun h => ?_) | refine g_idx T hC rfl rfl rfl (Int.natCast_nonneg _) (map_at (by assumption)) rfl rfl ?_ | refine g_callR hC (hB) (nm [101, 102]) rfl rfl (LeSs.refl _) rfl rfl rfl rfl rfl rfl rfl rfl ?_ | refine g_callR hC (hW) (nm [102, 103]) rfl rfl (LeSs.refl _) rfl rfl rfl rfl rfl rfl rfl rfl ?_ | refine g_callR hC (hN) (nm [103, 104]) rfl rfl (LeSs.refl _) rfl rfl rfl rfl rfl rfl rfl rfl ?_ | refine g_outR ?_
        all_goals first
          | (exfalso; have h2 := of_decide_eq_true h; rw [size_app] at h2; (try rw [size_app] at h2); omega)
          | (rw [wrapS (by omega)]
             exact g_round (j + 1, (a ++ (⟨#[32]⟩ : ByteArray)) ++ u.t) ⟨by simp only; omega, by simpa using ha⟩ (mvU 101 104) (by simp only; omega) ⟨rfl, ⟨rfl, rfl, rfl, rfl, trivial⟩, ⟨rfl, trivial⟩, rfl, fun i hi => mvU_low (by omega) hi⟩)
      · rw [if_neg hj0] at hz ha
        rw [app_nil a] at ha
        have hW := ws_ok b a (u.t) (by omega)
        have hN := bl_ok b (a ++ u.t)
        repeat' first | refine g_go T hC true 400 rfl rfl ?_ | (exfalso; have h2 := of_decide_eq_false h; omega) | (exfalso; have h2 := of_decide_eq_true h; omega) | refine g_cond rfl (fun h => ?_) (fun h => ?_) | refine g_splitG rfl rfl rfl (fun h => ?_) (fun h => ?_) | refine g_splitP rfl rfl (fun h => ?_) (fun h => ?_) | refine g_idx T hC rfl rfl rfl (Int.natCast_nonneg _) (map_at (by assumption)) rfl rfl ?_ | refine g_callR hC (hW) (nm [101, 102]) rfl rfl (LeSs.refl _) rfl rfl rfl rfl rfl rfl rfl rfl ?_ | refine g_callR hC (hN) (nm [102, 103]) rfl rfl (LeSs.refl _) rfl rfl rfl rfl rfl rfl rfl rfl ?_ | refine g_outR ?_
        all_goals first
          | (exfalso; have h2 := of_decide_eq_true h; rw [size_app] at h2; (try rw [size_app] at h2); omega)
          | (rw [wrapS (by omega)]
             exact g_round (j + 1, a ++ u.t) ⟨by simp only; omega, by simpa using ha⟩ (mvU 101 103) (by simp only; omega) ⟨rfl, ⟨rfl, rfl, rfl, rfl, trivial⟩, ⟨rfl, trivial⟩, rfl, fun i hi => mvU_low (by omega) hi⟩)
end Hw.Pa
namespace Hw.Pa
open Go Go.Proofs Hw.M

def validT (t : Tok) : Bool :=
  if t.k = 1 then isName t.t && decide (t.n = 0) else if t.k = 3 then isKeyword t.t && decide (t.n = 0) else if t.k = 4 then (syms.any fun y => decide (y = t.t)) && decide (t.n = 0)
  else if t.k = 2 then decide (t.t = (⟨#[]⟩ : ByteArray)) && decide (0 ≤ t.n) && decide (t.n ≤ 1099511627776) else decide (t.k = 5) && decide (t.t = (⟨#[]⟩ : ByteArray)) && decide (t.n = 0)
def bare (t : Tok) : Int × Str × Int := (t.k, t.t, t.n)
def txtT (t : Tok) : By := if t.k = 2 then lst (itoaB t.n) else lst t.t

theorem natV_append : ∀ (a b : By) (n : Nat), natV (a ++ b) n = natV b (natV a n)
  | [], _, _ => rfl
  | x :: a, b, n => by simp only [List.cons_append, natV]; exact natV_append a b _
theorem dig_byte {d : Nat} (h : d < 10) : (UInt8.ofNat (48 + d)).toNat = 48 + d := by simp [UInt8.toNat_ofNat']; omega
theorem dec_facts : ∀ (k u : Nat), u < k → (Lib.decDigits u).all dB = true ∧ natV (Lib.decDigits u) 0 = u ∧ (∃ c r, Lib.decDigits u = c :: r ∧ (c = 48 → u = 0 ∧ r = [])) := by
  intro k
  induction k with
  | zero => intro u h; omega
  | succ k ih =>
    intro u hu
    by_cases h : u < 10
    · rw [Lib.decDigits_one h]
      have hd := dig_byte h
      refine ⟨?_, ?_, _, _, rfl, fun e => ?_⟩
      · simp only [List.all_cons, List.all_nil, Bool.and_true]; exact dB_iff.2 (by omega)
      · simp only [natV, hd]; omega
      · have := congrArg UInt8.toNat e
        rw [hd] at this
        have h48 : (48 : UInt8).toNat = 48 := rfl
        exact ⟨by omega, rfl⟩
    · have e : Lib.decDigits u = Lib.decDigits (u / 10) ++ [UInt8.ofNat (48 + u % 10)] := by rw [Lib.decDigits, dif_neg h]
      obtain ⟨h1, h2, c, r, h3, h4⟩ := ih (u / 10) (by omega)
      have hd := dig_byte (d := u % 10) (by omega)
      rw [e]
      refine ⟨?_, ?_, c, r ++ [UInt8.ofNat (48 + u % 10)], by rw [h3]; rfl, fun e => ?_⟩
      · rw [List.all_append, h1]; simp only [List.all_cons, List.all_nil, Bool.and_true, Bool.true_and]; exact dB_iff.2 (by omega)
      · rw [natV_append, h2]; simp only [natV, hd]; omega
      · have := (h4 e).1; omega
theorem itoa_bytes {n : Int} (h : 0 ≤ n) : lst (itoaB n) = Lib.decDigits n.toNat := by rw [itoaB_nonneg h]; simp [lst, decB]
theorem dB_wB {b : UInt8} (h : dB b = true) : wB b = true := by
  unfold wB isWord
  unfold dB at h
  simp [h]
theorem word_not {c : UInt8} (h : wB c = true) : blB c = false ∧ c ≠ 35 := by
  have hc := class_word c.toNat
  unfold wB at h
  rw [h] at hc
  refine ⟨decide_eq_false fun e => ?_, fun e => ?_⟩
  · rw [e] at hc; simp at hc
  · subst e; revert h; decide
theorem takeWhile_all {p : UInt8 → Bool} {u r : By} (hu : u.all p = true) (hr : r = [] ∨ ∃ c r', r = c :: r' ∧ p c = false) : (u ++ r).takeWhile p = u := by
  induction u with
  | nil =>
    rcases hr with rfl | ⟨c, r', rfl, hc⟩
    · rfl
    · simp [List.takeWhile_cons, hc]
  | cons x u ih =>
    simp only [List.all_cons, Bool.and_eq_true] at hu
    rw [List.cons_append, List.takeWhile_cons, if_pos hu.1, ih hu.2]
theorem tk_word {u r : By} {t : Int × Str × Int} (hne : u ≠ []) (hu : u.all wB = true) (hr : r = [] ∨ ∃ c r', r = c :: r' ∧ wB c = false) (ht : clsT u = some t) : tk (u ++ r) = some (u.length, some t) := by
  cases u with
  | nil => exact absurd rfl hne
  | cons c u =>
    have hc : wB c = true := by simp only [List.all_cons, Bool.and_eq_true] at hu; exact hu.1
    have htw := takeWhile_all hu hr
    obtain ⟨n1, n2⟩ := word_not hc
    rw [List.cons_append] at htw ⊢
    simp only [tk, n1, Bool.false_eq_true, if_false, if_neg n2, hc, if_true, htw, ht, Option.map_some]
def sepC (c : UInt8) : Bool := !wB c && decide (c ≠ 61) && decide (c ≠ 62)
def Sep (r : By) : Prop := r = [] ∨ ∃ c r', r = c :: r' ∧ sepC c = true
theorem Sep.word {r : By} (h : Sep r) : r = [] ∨ ∃ c r', r = c :: r' ∧ wB c = false := by
  rcases h with h | ⟨c, r', h1, h2⟩
  · exact .inl h
  · refine .inr ⟨c, r', h1, ?_⟩
    simp only [sepC, Bool.and_eq_true, Bool.not_eq_true'] at h2
    exact h2.1.1
theorem kw_words : ∀ y ∈ keywords, (lst y).all wB = true ∧ lst y ≠ [] ∧ (∀ c, (lst y).head? = some c → dB c = false) := by decide +kernel
theorem name_words {s : Str} (h : isName s = true) : (lst s).all wB = true ∧ lst s ≠ [] ∧ isKeyword s = false := by
  simp only [isName, Bool.and_eq_true, Bool.not_eq_true', decide_eq_false_iff_not] at h
  obtain ⟨⟨⟨⟨h1, _⟩, _⟩, h4⟩, h5⟩ := h
  refine ⟨?_, fun e => h1 ?_, h5⟩
  · rw [List.all_eq_true] at h4 ⊢
    intro c hc
    exact h4 _ (List.mem_map.2 ⟨c, hc, rfl⟩)
  · rw [← lst_len, e]; rfl
theorem find_congr {α : Type} {p q : α → Bool} : ∀ {l : List α}, (∀ x ∈ l, p x = q x) → l.find? p = l.find? q
  | [], _ => rfl
  | x :: l, h => by
    rw [List.find?_cons, List.find?_cons, h x (by simp), find_congr fun y hy => h y (by simp [hy])]
theorem symL_two (a b : UInt8) (r : By) : symL (a :: b :: r) = symL [a, b] := find_congr fun y hy => by
  have h2 := (syms_size y hy).2
  rw [← lst_len] at h2
  match lst y, h2 with
  | [], _ => rfl
  | [u], _ => rfl
  | [u, v], _ => rfl
  | _ :: _ :: _ :: _, h2 => simp at h2
theorem sym_alone : ∀ y ∈ syms, symL (lst y) = some y := by decide +kernel
theorem sym_then : ∀ y ∈ syms, ∀ i : Fin 256, UInt8.ofNat i.val ≠ 61 → UInt8.ofNat i.val ≠ 62 → symL ((lst y ++ [UInt8.ofNat i.val]).take 2) = some y := by decide +kernel
theorem sym_cl : ∀ y ∈ syms, (match lst y with | [] => false | c :: _ => !blB c && decide (c ≠ 35) && !wB c) = true := by decide +kernel
theorem symL_sep {y : Str} (hy : y ∈ syms) {r : By} (hr : Sep r) : symL (lst y ++ r) = some y := by
  rcases hr with rfl | ⟨c, r', rfl, hc⟩
  · rw [List.append_nil]; exact sym_alone y hy
  · simp only [sepC, Bool.and_eq_true, decide_eq_true_eq] at hc
    have hci : UInt8.ofNat c.toNat = c := by simp
    have h := sym_then y hy ⟨c.toNat, c.toNat_lt⟩ (by simp only [hci]; exact hc.1.2) (by simp only [hci]; exact hc.2)
    simp only [hci] at h
    have h1 := (syms_size y hy).1
    have h2 := (syms_size y hy).2
    rw [← lst_len] at h1 h2
    match hl : lst y, h1, h2 with
    | [], h1, _ => simp at h1
    | [u], _, _ =>
      rw [hl] at h
      rw [List.cons_append, List.nil_append, symL_two]
      exact h
    | [u, v], _, _ =>
      rw [hl] at h
      rw [List.cons_append, List.cons_append, List.nil_append, symL_two]
      exact h
    | _ :: _ :: _ :: _, _, h2 => simp at h2
theorem tk_sym {y : Str} (hy : y ∈ syms) {r : By} (hr : Sep r) : tk (lst y ++ r) = some ((lst y).length, some (4, y, 0)) := by
  have hs := symL_sep hy hr
  have hc := sym_cl y hy
  match hl : lst y, hc with
  | [], hc => simp at hc
  | c :: u, hc =>
    rw [hl] at hs
    simp only [Bool.and_eq_true, Bool.not_eq_true', decide_eq_true_eq] at hc
    obtain ⟨⟨h1, h2⟩, h3⟩ := hc
    rw [List.cons_append] at hs ⊢
    simp only [tk, h1, Bool.false_eq_true, if_false, if_neg h2, h3, hs, Option.map_some, ← hl, lst_len]
theorem tk_tok {t : Tok} (hv : validT t = true) (h5 : t.k ≠ 5) {r : By} (hr : Sep r) : tk (txtT t ++ r) = some ((txtT t).length, some (bare t)) ∧ txtT t ≠ [] ∧ ∀ b ∈ txtT t, b ≠ 10 := by
  have nl : ∀ {u : By}, u.all wB = true → ∀ b ∈ u, b ≠ 10 := fun {u} h b hb e => by
    rw [List.all_eq_true] at h
    have := h b hb
    subst e; revert this; decide
  unfold validT at hv
  by_cases k1 : t.k = 1
  · rw [if_pos k1] at hv
    simp only [Bool.and_eq_true, decide_eq_true_eq] at hv
    obtain ⟨w1, w2, w3⟩ := name_words hv.1
    have e : txtT t = lst t.t := by simp only [txtT, if_neg (show ¬ t.k = 2 by omega)]
    rw [e]
    refine ⟨tk_word w2 w1 hr.word ?_, w2, nl w1⟩
    unfold clsT bare
    rw [str_lst, if_neg (by simp [w3]), if_pos hv.1, k1, hv.2]
  rw [if_neg k1] at hv
  by_cases k3 : t.k = 3
  · rw [if_pos k3] at hv
    simp only [Bool.and_eq_true, decide_eq_true_eq] at hv
    have hm : t.t ∈ keywords := by
      have := hv.1
      unfold isKeyword at this
      obtain ⟨y, hy, e⟩ := List.any_eq_true.1 this
      rw [← of_decide_eq_true e]; exact hy
    obtain ⟨w1, w2, _⟩ := kw_words _ hm
    have e : txtT t = lst t.t := by simp only [txtT, if_neg (show ¬ t.k = 2 by omega)]
    rw [e]
    refine ⟨tk_word w2 w1 hr.word ?_, w2, nl w1⟩
    unfold clsT bare
    rw [str_lst, if_pos hv.1, k3, hv.2]
  rw [if_neg k3] at hv
  by_cases k4 : t.k = 4
  · rw [if_pos k4] at hv
    simp only [Bool.and_eq_true, decide_eq_true_eq] at hv
    obtain ⟨y, hy, e⟩ := List.any_eq_true.1 hv.1
    have hm : t.t ∈ syms := by rw [← of_decide_eq_true e]; exact hy
    have e : txtT t = lst t.t := by simp only [txtT, if_neg (show ¬ t.k = 2 by omega)]
    rw [e]
    have hs := syms_size _ hm
    refine ⟨?_, fun e => ?_, ?_⟩
    · rw [tk_sym hm hr]; unfold bare; rw [k4, hv.2]
    · rw [← lst_len, e] at hs; simp at hs
    · have : ∀ y ∈ syms, ∀ b ∈ lst y, b ≠ 10 := by decide +kernel
      exact this _ hm
  rw [if_neg k4] at hv
  by_cases k2 : t.k = 2
  · rw [if_pos k2] at hv
    simp only [Bool.and_eq_true, decide_eq_true_eq] at hv
    obtain ⟨⟨ht, hn0⟩, hn1⟩ := hv
    have e : txtT t = Lib.decDigits t.n.toNat := by simp only [txtT, if_pos k2]; exact itoa_bytes hn0
    rw [e]
    obtain ⟨d1, d2, c, u, d3, d4⟩ := dec_facts (t.n.toNat + 1) t.n.toNat (by omega)
    generalize Lib.decDigits t.n.toNat = w at d1 d2 d3
    have w1 : w.all wB = true := by rw [List.all_eq_true] at d1 ⊢; exact fun b hb => dB_wB (d1 b hb)
    have w2 : w ≠ [] := by rw [d3]; simp
    refine ⟨tk_word w2 w1 hr.word ?_, w2, nl w1⟩
    have hdc : dB c = true := by rw [d3] at d1; simp only [List.all_cons, Bool.and_eq_true] at d1; exact d1.1
    have nk : isKeyword (strOf w) = false := by
      cases hk : isKeyword (strOf w) with
      | false => rfl
      | true =>
        exfalso
        unfold isKeyword at hk
        obtain ⟨y, hy, e⟩ := List.any_eq_true.1 hk
        have := (kw_words y hy).2.2 c (by rw [of_decide_eq_true e, lst_str, d3]; rfl)
        rw [hdc] at this; cases this
    have nn : isName (strOf w) = false := by
      cases hk : isName (strOf w) with
      | false => rfl
      | true =>
        exfalso
        simp only [isName, Bool.and_eq_true] at hk
        have h3 := hk.1.1.2
        have hb : bytes (strOf w) = (c.toNat : Int) :: u.map fun b => (b.toNat : Int) := by
          show (lst (strOf w)).map _ = _
          rw [lst_str, d3]; rfl
        rw [hb] at h3
        have hl : isLetter (c.toNat : Int) = true := h3
        have := dB_iff.1 hdc
        unfold isLetter at hl
        simp only [Bool.or_eq_true, Bool.and_eq_true, decide_eq_true_eq] at hl
        omega
    have hv : numV w 0 = t.n := by
      have := numV_nat w 0 d1
      rw [d2] at this
      have e0 : ((0 : Nat) : Int) = 0 := rfl
      rw [e0] at this
      omega
    have hok : numOk w = true := by
      unfold numOk
      simp only [Bool.and_eq_true, Bool.not_eq_true', decide_eq_false_iff_not, decide_eq_true_eq, Bool.and_eq_false_iff]
      refine ⟨⟨⟨w2, ?_⟩, d1⟩, by rw [hv]; exact hn1⟩
      by_cases h48 : c = 48
      · left
        rw [d3, (d4 h48).2]; simp
      · right
        rw [d3]; simp only [List.head?_cons, Option.some.injEq]; exact h48
    unfold clsT bare
    rw [if_neg (by simp [nk]), if_neg (by simp [nn]), if_pos hok, hv, k2, ht]
  · rw [if_neg k2] at hv
    simp only [Bool.and_eq_true, decide_eq_true_eq] at hv
    exact absurd hv.1.1 h5
end Hw.Pa
namespace Hw.Pa
open Go Go.Proofs Go.Shelf Hw.M

theorem valid_eq (t : Tok) : validT t = validF t := by
  unfold validT validF symIn
  by_cases k1 : t.k = 1
  · rw [if_pos k1, if_pos k1]
  rw [if_neg k1, if_neg k1]
  by_cases k3 : t.k = 3
  · rw [if_pos k3, if_pos k3]
  rw [if_neg k3, if_neg k3]
  by_cases k4 : t.k = 4
  · rw [if_pos k4, if_pos k4]
  rw [if_neg k4, if_neg k4]
  by_cases k2 : t.k = 2
  · rw [if_pos k2, if_pos k2, Bool.and_assoc]
  rw [if_neg k2, if_neg k2]
  by_cases k5 : t.k = 5
  · rw [if_pos k5, decide_eq_true k5, Bool.true_and]
  · rw [if_neg k5, decide_eq_false k5, Bool.false_and, Bool.false_and]
theorem lst_app (a b : Str) : lst (a ++ b) = lst a ++ lst b := by simp [lst, ByteArray.data_append]
theorem txt_lst (t : Tok) : lst (txtS t) = txtT t := by unfold txtS txtT; split <;> rfl
theorem lxx_tok {t : Tok} (hv : validF t = true) (h5 : t.k ≠ 5) {r : By} (hr : Sep r) (p : Int × Int) (out : List Tok) : ∃ u p', keyT u = keyT t ∧ lxx (txtT t ++ r) p out = lxx r p' (out ++ [u]) := by
  obtain ⟨h1, _, _⟩ := tk_tok (by rw [valid_eq]; exact hv) h5 hr
  refine ⟨tokAt p (bare t), ((txtT t ++ r).take (txtT t).length).foldl mv p, rfl, ?_⟩
  rw [lxx_step p out h1, List.drop_left]
  rfl
theorem lxx_blank {c : UInt8} (hb : blB c = true) (r : By) (p : Int × Int) (out : List Tok) : lxx (c :: r) p out = lxx r (mv p c) out := by
  have := step_blank (l := c :: r) (i := 0) p out rfl hb
  simpa using this
def Gap (g : By) : Prop := ∀ r p out, ∃ p', lxx (g ++ r) p out = lxx r p' out
theorem Gap.nil : Gap [] := fun r p _ => ⟨p, rfl⟩
def okL : List Tok → Prop
  | [] => True
  | t :: r => validF t = true ∧ (t.k = 5 → r = []) ∧ okL r
theorem okL_of : ∀ (l : List Tok) (n k : Nat), n = k + l.length → (∀ i t, l[i]? = some t → okAt n (k + i) t = true) → okL l
  | [], _, _, _, _ => trivial
  | t :: r, n, k, hn, h => by
    rw [List.length_cons] at hn
    refine ⟨?_, fun h5 => ?_, okL_of r n (k + 1) (by omega) fun i u hi => ?_⟩
    · have := h 0 t rfl
      unfold okAt at this
      simp only [Bool.and_eq_true] at this
      exact this.1
    · have := h 0 t rfl
      unfold okAt at this
      rw [h5] at this
      simp only [Bool.and_eq_true, Bool.not_eq_true', Bool.and_eq_false_iff, decide_eq_false_iff_not] at this
      cases r with
      | nil => rfl
      | cons a b => exfalso; rcases this.2 with h2 | h2
                    · exact absurd h2 (by simp)
                    · rw [List.length_cons] at hn; omega
    · have := h (i + 1) u (by simpa using hi)
      rwa [show k + (i + 1) = k + 1 + i by omega] at this
theorem okL_J {l : List Tok} (h : okJ l) : okL l := okL_of l l.length 0 (by omega) fun i t hi => by rw [Nat.zero_add]; exact h i t hi
def joinL : List Tok → Nat → By
  | [], _ => []
  | t :: r, i => if t.k = 5 then [] else (if 0 < i then [32] else []) ++ txtT t ++ joinL r (i + 1)
theorem accJ_lst : ∀ (l : List Tok) (i : Nat) (a : Str), lst (accJ l i a) = lst a ++ joinL l i
  | [], i, a => by simp [accJ, joinL]
  | t :: r, i, a => by
    rw [accJ_cons, joinL]
    by_cases h5 : t.k = 5
    · rw [if_pos h5, if_pos h5, List.append_nil]
    · rw [if_neg h5, if_neg h5, accJ_lst r (i + 1), lst_app, lst_app, txt_lst]
      have : lst (if 0 < i then (⟨#[32]⟩ : ByteArray) else (⟨#[]⟩ : ByteArray) : Str) = (if 0 < i then [32] else []) := by split <;> rfl
      rw [this]
      simp only [List.append_assoc]
theorem joinL_sep : ∀ (l : List Tok) (i : Nat), 0 < i → Sep (joinL l i)
  | [], _, _ => .inl rfl
  | t :: r, i, h => by
    rw [joinL]
    by_cases h5 : t.k = 5
    · rw [if_pos h5]; exact .inl rfl
    · rw [if_neg h5, if_pos h]; exact .inr ⟨32, _, rfl, by decide⟩
def endT : Tok := ⟨5, (⟨#[]⟩ : ByteArray), 0, 0, 0⟩
def withEnd (l : List Tok) : List Tok := if l.getLast?.map Tok.k = some 5 then l else l ++ [endT]
theorem withEnd_cons {t : Tok} {r : List Tok} (h : t.k = 5 → r = []) (h5 : t.k ≠ 5) : withEnd (t :: r) = t :: withEnd r := by
  unfold withEnd
  cases r with
  | nil => simp [h5]
  | cons a b =>
    rw [List.getLast?_cons_cons]
    split <;> rfl
theorem valid_end {t : Tok} (h : validF t = true) (h5 : t.k = 5) : keyT t = keyT endT := by
  unfold validF at h
  rw [h5] at h
  simp at h
  unfold keyT endT
  rw [h5, h.1, h.2]
theorem back : ∀ (l : List Tok) (i : Nat) (p : Int × Int) (out : List Tok), okL l → ∃ o, lxx (joinL l i) p out = (o, (0, 0), 0) ∧ o.map keyT = out.map keyT ++ (withEnd l).map keyT
  | [], i, p, out, _ => ⟨_, lxx_nil p out, by simp [withEnd, keyT, endT]⟩
  | t :: r, i, p, out, h => by
    obtain ⟨h1, h2, h3⟩ := h
    rw [joinL]
    by_cases h5 : t.k = 5
    · rw [if_pos h5]
      refine ⟨_, lxx_nil p out, ?_⟩
      have hr := h2 h5
      subst hr
      have e : withEnd [t] = [t] := by simp [withEnd, h5]
      rw [e, List.map_append, List.map_singleton, List.map_singleton, valid_end h1 h5]
      rfl
    · rw [if_neg h5, withEnd_cons h2 h5]
      have hs := joinL_sep r (i + 1) (Nat.succ_pos i)
      have main : ∀ p, ∃ o, lxx (txtT t ++ joinL r (i + 1)) p out = (o, (0, 0), 0) ∧ o.map keyT = out.map keyT ++ (t :: withEnd r).map keyT := fun p => by
        obtain ⟨u, p', hk, e⟩ := lxx_tok h1 h5 hs p out
        obtain ⟨o, e2, e3⟩ := back r (i + 1) p' (out ++ [u]) h3
        exact ⟨o, e.trans e2, by rw [e3]; simp [hk]⟩
      by_cases hi : 0 < i
      · rw [if_pos hi, List.append_assoc, List.singleton_append, lxx_blank (by decide)]
        exact main _
      · rw [if_neg hi, List.nil_append]
        exact main p
theorem join_back {l : List Tok} (ho : okJ l) (hz : (accJ l 0 (⟨#[]⟩ : ByteArray)).size ≤ 65536) : ∃ o, tokensS (accJ l 0 (⟨#[]⟩ : ByteArray)) = (o, (0, 0), 0) ∧ o.map keyT = (withEnd l).map keyT := by
  unfold tokensS
  rw [if_neg (by omega), accJ_lst]
  obtain ⟨o, e1, e2⟩ := back l 0 (1, 1) [] (okL_J ho)
  exact ⟨o, e1, by simpa using e2⟩
end Hw.Pa
namespace Hw.Pa
open Go Go.Proofs Hw.M

def szT : List Tok → Nat
  | [] => 0
  | t :: r => (txtT t).length + szT r
theorem szT_app (a b : List Tok) : szT (a ++ b) = szT a + szT b := by
  induction a with
  | nil => simp [szT]
  | cons x a ih => simp only [List.cons_append, szT, ih]; omega
theorem szT_take (l : List Tok) (i : Nat) : szT (l.take i) ≤ szT l := by
  conv => rhs; rw [← List.take_append_drop i l]
  rw [szT_app]; omega
theorem tk_size {l : By} {n : Nat} {t : Int × Str × Int} (h : tk l = some (n, some t)) (p : Int × Int) : (txtT (tokAt p t)).length ≤ 21 * n := by
  have hp := tk_pos h
  cases l with
  | nil => cases h
  | cons c r =>
    simp only [tk] at h
    split at h
    · simp at h
    · split at h
      · simp at h
      · split at h
        · rw [Option.map_eq_some_iff] at h
          obtain ⟨u, hu, h⟩ := h
          simp only [Prod.mk.injEq, Option.some.injEq] at h
          obtain ⟨h1, rfl⟩ := h
          unfold clsT at hu
          split at hu
          · simp only [Option.some.injEq] at hu
            subst hu
            unfold txtT tokAt
            rw [if_neg (show ¬ (3 : Int) = 2 by decide), lst_str]
            omega
          · split at hu
            · simp only [Option.some.injEq] at hu
              subst hu
              unfold txtT tokAt
              rw [if_neg (show ¬ (1 : Int) = 2 by decide), lst_str]
              omega
            · split at hu
              · rename_i hn
                simp only [Option.some.injEq] at hu
                subst hu
                unfold numOk at hn
                simp only [Bool.and_eq_true, decide_eq_true_eq] at hn
                have h0 := numV_ge hn.1.2
                unfold txtT tokAt
                rw [if_pos rfl, lst_len]
                have := itoaB_size (n := numV (List.takeWhile wB (c :: r)) 0) (by omega) (by omega)
                simp only at this ⊢
                omega
              · cases hu
        · rw [Option.map_eq_some_iff] at h
          obtain ⟨y, hy, h⟩ := h
          simp only [Prod.mk.injEq, Option.some.injEq] at h
          obtain ⟨h1, rfl⟩ := h
          unfold txtT tokAt
          rw [if_neg (show ¬ (4 : Int) = 2 by decide), lst_len]
          simp only at h1 ⊢
          omega
theorem lx_sz : ∀ (f : Nat) (l : By) (p : Int × Int) (out : List Tok), szT (lx f l p out).1 ≤ szT out + 21 * l.length
  | 0, _, _, _ => by simp [lx, szT]
  | _ + 1, [], p, out => by
    simp only [lx, szT_app]
    have : szT [(⟨5, (⟨#[]⟩ : ByteArray), 0, p.1, p.2⟩ : Tok)] = 0 := rfl
    omega
  | f + 1, c :: r, p, out => by
    simp only [lx]
    cases e : tk (c :: r) with
    | none => simp [szT]
    | some x =>
      obtain ⟨n, o⟩ := x
      have hp := tk_pos e
      simp only
      have h := lx_sz f ((c :: r).drop n) (((c :: r).take n).foldl mv p) (out ++ (o.map (tokAt p)).toList)
      have hd : ((c :: r).drop n).length = (c :: r).length - n := List.length_drop
      rw [szT_app, hd] at h
      cases o with
      | none =>
        have : szT ((none : Option (Int × Str × Int)).map (tokAt p)).toList = 0 := rfl
        omega
      | some t =>
        have h2 := tk_size e p
        have h3 : szT ((some t).map (tokAt p)).toList = (txtT (tokAt p t)).length := by simp [szT]
        omega
theorem tokens_sz (s : Str) : szT (tokensS s).1 ≤ 21 * s.size := by
  unfold tokensS
  split
  · simp [szT]
  · have := lx_sz ((lst s).length + 1) (lst s) (1, 1) []
    unfold lxx
    rw [lst_len] at this ⊢
    simpa [szT] using this
theorem joinL_len : ∀ (l : List Tok) (i : Nat), (joinL l i).length ≤ szT l + l.length
  | [], _ => by simp [joinL]
  | t :: r, i => by
    have h := joinL_len r (i + 1)
    rw [joinL]
    split
    · simp
    · simp only [List.length_append, szT, List.length_cons]
      split <;> simp only [List.length_cons, List.length_nil] <;> omega
theorem accJ_len (l : List Tok) : (accJ l 0 (⟨#[]⟩ : ByteArray)).size = (joinL l 0).length := by
  rw [← lst_len, accJ_lst]; simp [lst]
theorem mvs_line : ∀ (u : By) (p : Int × Int), (∀ b ∈ u, b ≠ 10) → u.foldl mv p = (p.1, p.2 + u.length)
  | [], p, _ => by simp
  | c :: u, p, h => by
    rw [List.foldl_cons, mvs_line u (mv p c) fun b hb => h b (List.mem_cons_of_mem _ hb)]
    unfold mv
    rw [if_neg (h c List.mem_cons_self)]
    simp only [List.length_cons]
    congr 1
    omega
theorem lxx_at {t : Tok} (hv : validF t = true) (h5 : t.k ≠ 5) {r : By} (hr : Sep r) (p : Int × Int) (out : List Tok) :
    lxx (txtT t ++ r) p out = lxx r (p.1, p.2 + (txtT t).length) (out ++ [⟨t.k, t.t, t.n, p.1, p.2⟩]) := by
  obtain ⟨h1, _, h3⟩ := tk_tok (by rw [valid_eq]; exact hv) h5 hr
  rw [lxx_step p out h1, List.drop_left, List.take_left, mvs_line _ _ h3]
  rfl
theorem joinL_app : ∀ (a b : List Tok) (i : Nat), (∀ t ∈ a, t.k ≠ 5) → joinL (a ++ b) i = joinL a i ++ joinL b (i + a.length)
  | [], b, i, _ => by simp [joinL]
  | t :: a, b, i, h => by
    rw [List.cons_append, joinL, joinL, if_neg (h t List.mem_cons_self), if_neg (h t List.mem_cons_self), joinL_app a b (i + 1) fun u hu => h u (List.mem_cons_of_mem _ hu)]
    simp only [List.length_cons, List.append_assoc]
    rw [show i + 1 + a.length = i + (a.length + 1) by omega]
theorem lxx_pre : ∀ (L : List Tok) (i : Nat) (p : Int × Int) (out : List Tok) (r : By), (∀ t ∈ L, validF t = true ∧ t.k ≠ 5) → Sep r →
    ∃ o, lxx (joinL L i ++ r) p out = lxx r (p.1, p.2 + (joinL L i).length) (out ++ o) ∧ o.map keyT = L.map keyT
  | [], i, p, out, r, _, _ => ⟨[], by simp [joinL], rfl⟩
  | t :: L, i, p, out, r, h, hr => by
    obtain ⟨hv, h5⟩ := h t List.mem_cons_self
    have hL : ∀ u ∈ L, validF u = true ∧ u.k ≠ 5 := fun u hu => h u (List.mem_cons_of_mem _ hu)
    have hs : Sep (joinL L (i + 1) ++ r) := by
      rcases joinL_sep L (i + 1) (Nat.succ_pos i) with e | ⟨c, r', e, hc⟩
      · rw [e]; exact hr
      · rw [e]; exact .inr ⟨c, r' ++ r, rfl, hc⟩
    rw [joinL, if_neg h5]
    have main : ∀ q, ∃ o, lxx (txtT t ++ (joinL L (i + 1) ++ r)) q out = lxx r (q.1, q.2 + (txtT t).length + (joinL L (i + 1)).length) (out ++ o) ∧ o.map keyT = (t :: L).map keyT := fun q => by
      rw [lxx_at hv h5 hs]
      obtain ⟨o, e1, e2⟩ := lxx_pre L (i + 1) (q.1, q.2 + (txtT t).length) (out ++ [⟨t.k, t.t, t.n, q.1, q.2⟩]) r hL hr
      exact ⟨⟨t.k, t.t, t.n, q.1, q.2⟩ :: o, by rw [e1]; simp, by simp [e2, keyT]⟩
    by_cases hi : 0 < i
    · rw [if_pos hi]
      simp only [List.append_assoc, List.singleton_append]
      rw [List.cons_append, lxx_blank (by decide)]
      obtain ⟨o, e1, e2⟩ := main (mv p 32)
      refine ⟨o, ?_, e2⟩
      rw [e1]
      have : mv p 32 = (p.1, p.2 + 1) := by unfold mv; rw [if_neg (by decide)]
      rw [this]
      simp only [List.length_cons, List.length_append]
      congr 2
      omega
    · rw [if_neg hi]
      simp only [List.nil_append, List.append_assoc]
      obtain ⟨o, e1, e2⟩ := main p
      refine ⟨o, ?_, e2⟩
      rw [e1]
      simp only [List.length_append]
      congr 2
      omega
theorem lx_ext : ∀ (f : Nat) (l : By) (p : Int × Int) (out o : List Tok), lx f l p out = (o, (0, 0), 0) → l.length < f → ∃ r, o = out ++ r
  | 0, l, _, _, _, _, hf => absurd hf (Nat.not_lt_zero _)
  | _ + 1, [], p, out, o, h, _ => by
    simp only [lx, Prod.mk.injEq] at h
    exact ⟨_, h.1.symm⟩
  | f + 1, c :: r, p, out, o, h, hf => by
    simp only [lx] at h
    cases e : tk (c :: r) with
    | none => rw [e] at h; simp at h
    | some x =>
      obtain ⟨n, q⟩ := x
      rw [e] at h
      simp only at h
      have hp := tk_pos e
      have hd : ((c :: r).drop n).length = (c :: r).length - n := List.length_drop
      obtain ⟨r2, e2⟩ := lx_ext f _ _ _ _ h (by rw [hd]; omega)
      exact ⟨(q.map (tokAt p)).toList ++ r2, by rw [e2, List.append_assoc]⟩
end Hw.Pa
namespace Hw.Pa
open Go Go.Proofs Hw.M

def MG {α : Type} (i : Nat) (r : PA α) : Prop := (∀ x k, r = .ok x k → i ≤ k) ∧ (∀ k, r = .no k → i ≤ k)
section
variable {α β : Type}
theorem MG.ok {x : α} {i k : Nat} (h : i ≤ k) : MG i (PA.ok x k) := ⟨(fun _ _ e => by cases e; exact h), fun _ e => by cases e⟩
theorem MG.no {i k : Nat} (h : i ≤ k) : MG i (PA.no k : PA α) := ⟨(fun _ _ e => by cases e), fun _ e => by cases e; exact h⟩
theorem MG.out {i : Nat} : MG i (PA.out : PA α) := ⟨(fun _ _ e => by cases e), fun _ e => by cases e⟩
theorem MG.mono {i k : Nat} {r : PA α} (h : i ≤ k) (hr : MG k r) : MG i r := ⟨fun x j e => Nat.le_trans h (hr.1 x j e), fun j e => Nat.le_trans h (hr.2 j e)⟩
theorem MG.bind {i : Nat} {r : PA α} {f : α → Nat → PA β} (h : MG i r) (hf : ∀ y k, MG k (f y k)) : MG i (r.bind f) := by
  cases r with
  | ok y k => exact (hf y k).mono (h.1 y k rfl)
  | no k => exact .no (h.2 k rfl)
  | out => exact .out
theorem MG.ite {i : Nat} {c : Prop} [Decidable c] {a b : PA α} (h1 : MG i a) (h2 : MG i b) : MG i (if c then a else b) := by split <;> assumption
def CC (J : Nat) (r r' : PA α) : Prop :=
  (∀ x k, r = .ok x k → (k < J → r' = .out ∨ r' = r) ∧ (J ≤ k → MG J r')) ∧ (∀ k, r = .no k → (k < J → r' = .out ∨ r' = r) ∧ (J ≤ k → MG J r'))
theorem CC.refl {J : Nat} {r : PA α} : CC J r r :=
  ⟨fun _ _ e => ⟨fun _ => .inr rfl, fun h => by subst e; exact .ok h⟩, fun _ e => ⟨fun _ => .inr rfl, fun h => by subst e; exact .no h⟩⟩
theorem CC.out {J : Nat} {r' : PA α} : CC J .out r' := ⟨(fun _ _ e => by cases e), fun _ e => by cases e⟩
theorem CC.outR {J : Nat} {r : PA α} : CC J r .out := ⟨fun _ _ _ => ⟨fun _ => .inl rfl, fun _ => .out⟩, fun _ _ => ⟨fun _ => .inl rfl, fun _ => .out⟩⟩
theorem CC.start {J i : Nat} {r r' : PA α} (h1 : MG i r) (h2 : MG i r') (h : i < J → CC J r r') : CC J r r' := by
  by_cases hi : i < J
  · exact h hi
  · have hm : MG J r' := h2.mono (by omega)
    exact ⟨fun x k e => ⟨fun hk => absurd (h1.1 x k e) (by omega), fun _ => hm⟩, fun k e => ⟨fun hk => absurd (h1.2 k e) (by omega), fun _ => hm⟩⟩
theorem CC.bind {J : Nat} {r r' : PA α} {f f' : α → Nat → PA β} (h : CC J r r') (hm : ∀ y k, MG k (f y k)) (hm' : ∀ y k, MG k (f' y k)) (hf : ∀ y k, k < J → CC J (f y k) (f' y k)) : CC J (r.bind f) (r'.bind f') := by
  cases r with
  | out => exact .out
  | no k =>
    obtain ⟨h1, h2⟩ := h.2 k rfl
    by_cases hk : k < J
    · rcases h1 hk with e | e
      · rw [e]; exact .outR
      · rw [e]; exact .refl
    · have := (h2 (by omega)).bind (f := f') hm'
      exact ⟨(fun _ _ e => by cases e), fun k' e => by cases e; exact ⟨fun h => absurd h hk, fun _ => this⟩⟩
  | ok y k =>
    obtain ⟨h1, h2⟩ := h.1 y k rfl
    by_cases hk : k < J
    · rcases h1 hk with e | e
      · rw [e]; exact .outR
      · rw [e]; exact hf y k hk
    · have h3 := (h2 (by omega)).bind (f := f') hm'
      have h4 := hm y k
      exact ⟨fun x j e => ⟨fun hj => absurd (h4.1 x j e) (by omega), fun _ => h3⟩, fun j e => ⟨fun hj => absurd (h4.2 j e) (by omega), fun _ => h3⟩⟩
theorem CC.ite {J : Nat} {c c' : Prop} [Decidable c] [Decidable c'] {a b a' b' : PA α} (hc : c ↔ c') (h1 : c → CC J a a') (h2 : ¬c → CC J b b') : CC J (if c then a else b) (if c' then a' else b') := by
  by_cases h : c
  · rw [if_pos h, if_pos (hc.1 h)]; exact h1 h
  · rw [if_neg h, if_neg (fun e => h (hc.2 e))]; exact h2 h
end
section
variable {l : List Tok}
theorem MG.one (s : Str) (i : Nat) : MG i (oneA l s i) := .ite (.ok (Nat.le_succ _)) (.no (Nat.le_refl _))
theorem MG.name (i : Nat) : MG i (nameA l i) := by
  unfold nameA
  split
  · exact .ite (.ok (Nat.le_succ _)) (.no (Nat.le_refl _))
  · exact .no (Nat.le_refl _)
theorem MG.int (i : Nat) : MG i (intA l i) := by
  unfold intA
  split
  · exact .ite (.ok (Nat.le_succ _)) (.no (Nat.le_refl _))
  · exact .no (Nat.le_refl _)
theorem MG.typ (i : Nat) : MG i (typA l i) := .ite (.ok (Nat.le_succ _)) (.ite (.ok (Nat.le_succ _)) (.name i))
theorem MG.field (i : Nat) : MG i (fieldA l i) := (MG.name i).bind fun _ k => (MG.typ k).bind fun _ _ => .ok (Nat.le_refl _)
theorem MG.sep (s : Str) (n i : Nat) : MG i (if n = 0 then PA.ok () i else oneA l s i) := .ite (.ok (Nat.le_refl _)) (.one s i)
theorem MG.list {α : Type} (sep fin : Str) (one : Nat → PA α) (ho : ∀ i, MG i (one i)) : ∀ (f i : Nat) (acc : List α), MG i (listA l sep fin one f i acc)
  | 0, _, _ => .out
  | f + 1, i, acc => by
    simp only [listA]
    exact .ite (.ok (Nat.le_succ _)) ((MG.sep _ _ _).bind fun _ k => (ho k).bind fun _ k => MG.list sep fin one ho f k _)
theorem expr_mg : ∀ f : Nat, (∀ n i, MG i (exprA l f n i)) ∧ (∀ n x i, MG i (moreA l f n x i)) ∧ (∀ i, MG i (postA l f i)) ∧ (∀ x i, MG i (dotsA l f x i)) ∧
    (∀ i a, MG i (argsP l f i a)) ∧ (∀ k i a, MG i (partsA l f k i a)) ∧ (∀ i, MG i (primA l f i)) := by
  intro f
  induction f with
  | zero => exact ⟨fun _ _ => by simp only [exprA]; exact .out, fun _ _ _ => by simp only [moreA]; exact .out, fun _ => by simp only [postA]; exact .out, fun _ _ => by simp only [dotsA]; exact .out, fun _ _ => by simp only [argsP]; exact .out, fun _ _ _ => by simp only [partsA]; exact .out, fun _ => by simp only [primA]; exact .out⟩
  | succ f ih =>
    obtain ⟨h1, h2, h3, h4, h5, h6, h7⟩ := ih
    have s1 : ∀ i : Nat, i ≤ i + 1 := fun _ => Nat.le_succ _
    refine ⟨fun n i => ?_, fun n x i => ?_, fun i => ?_, fun x i => ?_, fun i a => ?_, fun k i a => ?_, fun i => ?_⟩
    · simp only [exprA]
      exact .ite (.ite (((h1 _ _).mono (s1 i)).bind fun _ _ => .ok (Nat.le_refl _)) (h1 _ _)) (.ite (.ite (((h1 _ _).mono (s1 i)).bind fun _ _ => .ok (Nat.le_refl _)) (h3 _)) ((h1 _ _).bind fun _ k => h2 _ _ k))
    · simp only [moreA]
      split
      · exact .ok (Nat.le_refl _)
      · exact ((h1 _ _).mono (s1 i)).bind fun _ k => .ite (.ok (Nat.le_refl _)) (h2 _ _ k)
    · simp only [postA]; exact (h7 i).bind fun _ k => h4 _ k
    · simp only [dotsA]; exact .ite (((MG.name _).mono (s1 i)).bind fun _ k => h4 _ k) (.ok (Nat.le_refl _))
    · simp only [argsP]; exact .ite (.ok (s1 i)) ((MG.sep _ _ _).bind fun _ k => (h1 _ k).bind fun _ k => h5 k _)
    · simp only [partsA]; exact .ite ((MG.one _ _).bind fun _ _ => .ok (Nat.le_refl _)) ((MG.one _ _).bind fun _ k => (h1 _ k).bind fun _ k => h6 _ k _)
    · simp only [primA]
      split
      · exact .no (Nat.le_refl _)
      · have s2 : i ≤ i + 2 := by omega
        refine .ite (.ok (s1 i)) (.ite (.ite (((h5 _ _).mono s2).bind fun _ _ => .ok (Nat.le_refl _)) (.ok (s1 i))) ?_)
        refine .ite (.ok (s1 i)) (.ite (.ok (s1 i)) (.ite (.ok (s1 i)) (.ite (.ok (s1 i)) (.ite (((MG.name _).mono (s1 i)).bind fun _ _ => .ok (Nat.le_refl _)) ?_))))
        refine .ite (((h6 _ _ _).mono (s1 i)).bind fun _ _ => .ok (Nat.le_refl _)) (.ite (((h6 _ _ _).mono (s1 i)).bind fun _ _ => .ok (Nat.le_refl _)) (.ite (((h6 _ _ _).mono (s1 i)).bind fun _ _ => .ok (Nat.le_refl _)) (.ite (((h6 _ _ _).mono (s1 i)).bind fun _ _ => .ok (Nat.le_refl _)) ?_)))
        exact .ite (((h1 _ _).mono (s1 i)).bind fun _ k => (MG.one _ k).bind fun _ _ => .ok (Nat.le_refl _)) (.no (Nat.le_refl _))
theorem stmt_mg : ∀ f : Nat, (∀ i a, MG i (stmtsA l f i a)) ∧ (∀ i, MG i (blockA l f i)) ∧ (∀ i, MG i (stmtA l f i)) := by
  intro f
  induction f with
  | zero => exact ⟨fun _ _ => by simp only [stmtsA]; exact .out, fun _ => by simp only [blockA]; exact .out, fun _ => by simp only [stmtA]; exact .out⟩
  | succ f ih =>
    obtain ⟨h1, h2, h3⟩ := ih
    have hE := (expr_mg (l := l) f).1
    have hP := (expr_mg (l := l) f).2.2.1
    have s1 : ∀ i : Nat, i ≤ i + 1 := fun _ => Nat.le_succ _
    refine ⟨fun i a => ?_, fun i => ?_, fun i => ?_⟩
    · simp only [stmtsA]; exact .ite (.ok (s1 i)) ((h3 i).bind fun _ k => h1 k _)
    · simp only [blockA]; exact (MG.one _ _).bind fun _ k => h1 k _
    · simp only [stmtA]
      refine .ite (((hE _ _).mono (s1 i)).bind fun _ k => (h2 k).bind fun _ k => .ite (((h2 _).mono (s1 k)).bind fun _ _ => .ok (Nat.le_refl _)) (.ok (Nat.le_refl _))) ?_
      refine .ite (((hE _ _).mono (s1 i)).bind fun _ k => (h2 k).bind fun _ _ => .ok (Nat.le_refl _)) ?_
      refine .ite (.ite (.ok (by omega)) (((hE _ _).mono (s1 i)).bind fun _ k => (MG.one _ k).bind fun _ _ => .ok (Nat.le_refl _))) ?_
      exact (hP i).bind fun _ k => .ite (((hE _ _).mono (s1 k)).bind fun _ k => (MG.one _ k).bind fun _ _ => .ok (Nat.le_refl _)) (.ite (((hE _ _).mono (s1 k)).bind fun _ k => (MG.one _ k).bind fun _ _ => .ok (Nat.le_refl _)) (.ite ((MG.one _ k).bind fun _ _ => .ok (Nat.le_refl _)) (.no (Nat.le_refl _))))
theorem locs_mg : ∀ (f i : Nat) (acc : List Fld), MG i (locsA l f i acc)
  | 0, _, _ => .out
  | f + 1, i, acc => by
    simp only [locsA]
    exact .ite (((MG.field _).mono (Nat.le_succ i)).bind fun _ k => (MG.one _ k).bind fun _ k => locs_mg f k _) (.ok (Nat.le_refl _))
theorem proc_mg (f i : Nat) : MG i (procA l f i) :=
  (MG.name i).bind fun _ k => (MG.one _ k).bind fun _ k => (MG.list _ _ _ (fun i => .field i) f k _).bind fun _ k => (MG.ite (.ok (Nat.le_refl _)) (.typ k)).bind fun _ k => (MG.one _ k).bind fun _ k => (locs_mg f k _).bind fun _ k => ((stmt_mg f).1 k _).bind fun _ _ => .ok (Nat.le_refl _)
theorem formula_mg (f i : Nat) : MG i (formulaA l f i) := (MG.one _ i).bind fun _ k => (expr_mg f).1 _ k
theorem measure_mg (f i : Nat) : MG i (measureA l f i) :=
  (MG.name i).bind fun _ k => (MG.one _ k).bind fun _ k => (MG.name k).bind fun _ k => (MG.one _ k).bind fun _ k => (MG.one _ k).bind fun _ k =>
    ((MG.int _).mono (by split <;> omega)).bind fun _ k => (formula_mg f k).bind fun _ _ => .ok (Nat.le_refl _)
theorem item_mg (f i : Nat) (d : Desc) : MG i (itemA l f i d) := by
  have s1 : i ≤ i + 1 := Nat.le_succ _
  unfold itemA
  refine .ite (((MG.name _).mono s1).bind fun _ k => (MG.one _ k).bind fun _ k => (MG.list _ _ _ (fun i => .field i) f k _).bind fun _ _ => .ok (Nat.le_refl _)) ?_
  refine .ite (((MG.field _).mono s1).bind fun _ _ => .ok (Nat.le_refl _)) (.ite (((proc_mg f _).mono s1).bind fun _ _ => .ok (Nat.le_refl _)) (.ite (((measure_mg f _).mono s1).bind fun _ _ => .ok (Nat.le_refl _)) ?_))
  refine .ite (((MG.name _).mono s1).bind fun _ k => (MG.ite (((MG.name _).mono (Nat.le_succ k)).bind fun _ k => (MG.one _ k).bind fun _ _ => .ok (Nat.le_refl _)) (.ok (Nat.le_refl _))).bind fun _ k => (formula_mg f k).bind fun _ _ => .ok (Nat.le_refl _)) ?_
  refine .ite (((MG.ite (.ok (Nat.le_refl _)) (.name _)).mono s1).bind fun _ k => (formula_mg f k).bind fun _ _ => .ok (Nat.le_refl _)) ?_
  exact .ite (((MG.name _).mono s1).bind fun _ k => (formula_mg f k).bind fun _ _ => .ok (Nat.le_refl _)) (.no (Nat.le_refl _))
theorem items_mg (f : Nat) : ∀ (g i : Nat) (d : Desc), MG i (itemsA l f g i d)
  | 0, _, _ => .out
  | g + 1, i, d => by
    simp only [itemsA]
    exact .ite (.ok (Nat.le_succ _)) ((item_mg f i d).bind fun _ k => items_mg f g k _)
end
end Hw.Pa
namespace Hw.Pa
open Go Go.Proofs Hw.M

def AG (J : Nat) (l l' : List Tok) : Prop := ∀ i, i < J → (l[i]?).map keyT = (l'[i]?).map keyT
section
variable {J : Nat} {l l' : List Tok} (ha : AG J l l')
include ha
theorem isA_ag {i : Nat} (hi : i < J) (s : Str) : isA l i s = isA l' i s := by
  have h := ha i hi
  unfold isA
  cases h1 : l[i]? with
  | none =>
    cases h2 : l'[i]? with
    | none => rfl
    | some u => rw [h1, h2] at h; cases h
  | some t =>
    cases h2 : l'[i]? with
    | none => rw [h1, h2] at h; cases h
    | some u =>
      rw [h1, h2] at h
      simp only [Option.map_some, Option.some.injEq, keyT, Prod.mk.injEq] at h
      simp only [h.1, h.2.1]
theorem isA_ag' {i : Nat} (hi : i < J) (s : Str) : isA l i s = true ↔ isA l' i s = true := by rw [isA_ag ha hi]
theorem CC.one (s : Str) (i : Nat) : CC J (oneA l s i) (oneA l' s i) :=
  .start (MG.one s i) (MG.one s i) fun hi => .ite (isA_ag' ha hi s) (fun _ => .refl) fun _ => .refl
theorem CC.name (i : Nat) : CC J (nameA l i) (nameA l' i) := by
  refine .start (.name i) (.name i) fun hi => ?_
  have h := ha i hi
  unfold nameA
  cases h1 : l[i]? with
  | none =>
    cases h2 : l'[i]? with
    | none => exact .refl
    | some u => rw [h1, h2] at h; cases h
  | some t =>
    cases h2 : l'[i]? with
    | none => rw [h1, h2] at h; cases h
    | some u =>
      rw [h1, h2] at h
      simp only [Option.map_some, Option.some.injEq, keyT, Prod.mk.injEq] at h
      simp only [h.1, h.2.1]
      exact .refl
theorem CC.int (i : Nat) : CC J (intA l i) (intA l' i) := by
  refine .start (.int i) (.int i) fun hi => ?_
  have h := ha i hi
  unfold intA
  cases h1 : l[i]? with
  | none =>
    cases h2 : l'[i]? with
    | none => exact .refl
    | some u => rw [h1, h2] at h; cases h
  | some t =>
    cases h2 : l'[i]? with
    | none => rw [h1, h2] at h; cases h
    | some u =>
      rw [h1, h2] at h
      simp only [Option.map_some, Option.some.injEq, keyT, Prod.mk.injEq] at h
      simp only [h.1, h.2.2]
      exact .refl
theorem CC.typ (i : Nat) : CC J (typA l i) (typA l' i) :=
  .start (.typ i) (.typ i) fun hi => .ite (isA_ag' ha hi _) (fun _ => .refl) fun _ => .ite (isA_ag' ha hi _) (fun _ => .refl) fun _ => .name ha i
theorem CC.field (i : Nat) : CC J (fieldA l i) (fieldA l' i) :=
  (CC.name ha i).bind (fun _ k => (MG.typ k).bind fun _ _ => .ok (Nat.le_refl _)) (fun _ k => (MG.typ k).bind fun _ _ => .ok (Nat.le_refl _)) fun _ k _ =>
    (CC.typ ha k).bind (fun _ _ => .ok (Nat.le_refl _)) (fun _ _ => .ok (Nat.le_refl _)) fun _ _ _ => .refl
theorem CC.sep (s : Str) (n i : Nat) : CC J (if n = 0 then PA.ok () i else oneA l s i) (if n = 0 then PA.ok () i else oneA l' s i) := .ite Iff.rfl (fun _ => .refl) fun _ => .one ha s i
theorem CC.list {α : Type} (sep fin : Str) (one one' : Nat → PA α) (ho : ∀ i, MG i (one i)) (ho' : ∀ i, MG i (one' i)) (hc : ∀ i, CC J (one i) (one' i)) : ∀ (f f' i : Nat) (acc : List α), CC J (listA l sep fin one f i acc) (listA l' sep fin one' f' i acc)
  | 0, _, _, _ => .out
  | _ + 1, 0, _, _ => .outR
  | f + 1, f' + 1, i, acc => by
    refine .start (MG.list _ _ _ ho _ _ _) (MG.list _ _ _ ho' _ _ _) fun hi => ?_
    simp only [listA]
    refine .ite (isA_ag' ha hi _) (fun _ => .refl) fun _ => (CC.sep ha _ _ _).bind (fun _ k => (ho k).bind fun _ k => MG.list _ _ _ ho _ _ _) (fun _ k => (ho' k).bind fun _ k => MG.list _ _ _ ho' _ _ _) fun _ k _ =>
      (hc k).bind (fun _ k => MG.list _ _ _ ho _ _ _) (fun _ k => MG.list _ _ _ ho' _ _ _) fun _ k _ => CC.list sep fin one one' ho ho' hc f f' k _
theorem opA_ag {i : Nat} (hi : i < J) (n : Nat) : opA l i n = opA l' i n := by
  unfold opA
  congr 1
  congr 1
  funext p
  rw [isA_ag ha hi]
theorem expr_cc : ∀ f f' : Nat, (∀ n i, CC J (exprA l f n i) (exprA l' f' n i)) ∧ (∀ n x i, CC J (moreA l f n x i) (moreA l' f' n x i)) ∧ (∀ i, CC J (postA l f i) (postA l' f' i)) ∧ (∀ x i, CC J (dotsA l f x i) (dotsA l' f' x i)) ∧
    (∀ i a, CC J (argsP l f i a) (argsP l' f' i a)) ∧ (∀ k i a, CC J (partsA l f k i a) (partsA l' f' k i a)) ∧ (∀ i, CC J (primA l f i) (primA l' f' i)) := by
  intro f
  induction f with
  | zero => intro f'; exact ⟨fun _ _ => by simp only [exprA]; exact .out, fun _ _ _ => by simp only [moreA]; exact .out, fun _ => by simp only [postA]; exact .out, fun _ _ => by simp only [dotsA]; exact .out, fun _ _ => by simp only [argsP]; exact .out, fun _ _ _ => by simp only [partsA]; exact .out, fun _ => by simp only [primA]; exact .out⟩
  | succ f ih =>
    intro f'
    cases f' with
    | zero => exact ⟨fun _ _ => by simp only [exprA]; exact .outR, fun _ _ _ => by simp only [moreA]; exact .outR, fun _ => by simp only [postA]; exact .outR, fun _ _ => by simp only [dotsA]; exact .outR, fun _ _ => by simp only [argsP]; exact .outR, fun _ _ _ => by simp only [partsA]; exact .outR, fun _ => by simp only [primA]; exact .outR⟩
    | succ f' =>
    obtain ⟨h1, h2, h3, h4, h5, h6, h7⟩ := ih f'
    obtain ⟨m1, m2, m3, m4, m5, m6, m7⟩ := expr_mg (l := l) f
    obtain ⟨k1, k2, k3, k4, k5, k6, k7⟩ := expr_mg (l := l') f'
    have M := expr_mg (l := l) (f + 1)
    have K := expr_mg (l := l') (f' + 1)
    have O : ∀ {α : Type} {x : α} {k : Nat}, MG k (PA.ok x k) := fun {_ _ _} => .ok (Nat.le_refl _)
    refine ⟨fun n i => .start (M.1 n i) (K.1 n i) fun hi => ?_, fun n x i => .start (M.2.1 n x i) (K.2.1 n x i) fun hi => ?_, fun i => ?_, fun x i => .start (M.2.2.2.1 x i) (K.2.2.2.1 x i) fun hi => ?_, fun i a => .start (M.2.2.2.2.1 i a) (K.2.2.2.2.1 i a) fun hi => ?_, fun k i a => ?_, fun i => .start (M.2.2.2.2.2.2 i) (K.2.2.2.2.2.2 i) fun hi => ?_⟩
    · simp only [exprA]
      exact .ite Iff.rfl (fun _ => .ite (isA_ag' ha hi _) (fun _ => (h1 _ _).bind (fun _ _ => O) (fun _ _ => O) fun _ _ _ => .refl) fun _ => h1 _ _) fun _ =>
        .ite Iff.rfl (fun _ => .ite (isA_ag' ha hi _) (fun _ => (h1 _ _).bind (fun _ _ => O) (fun _ _ => O) fun _ _ _ => .refl) fun _ => h3 _) fun _ =>
          (h1 _ _).bind (fun _ k => m2 _ _ k) (fun _ k => k2 _ _ k) fun _ k _ => h2 _ _ k
    · simp only [moreA]
      rw [opA_ag ha hi]
      split
      · exact .refl
      · exact (h1 _ _).bind (fun _ k => .ite O (m2 _ _ k)) (fun _ k => .ite O (k2 _ _ k)) fun _ k _ => .ite Iff.rfl (fun _ => .refl) fun _ => h2 _ _ k
    · simp only [postA]; exact (h7 i).bind (fun _ k => m4 _ k) (fun _ k => k4 _ k) fun _ k _ => h4 _ k
    · simp only [dotsA]; exact .ite (isA_ag' ha hi _) (fun _ => (CC.name ha _).bind (fun _ k => m4 _ k) (fun _ k => k4 _ k) fun _ k _ => h4 _ k) fun _ => .refl
    · simp only [argsP]
      exact .ite (isA_ag' ha hi _) (fun _ => .refl) fun _ => (CC.sep ha _ _ _).bind (fun _ k => (m1 _ k).bind fun _ k => m5 k _) (fun _ k => (k1 _ k).bind fun _ k => k5 k _) fun _ k _ =>
        (h1 _ k).bind (fun _ k => m5 k _) (fun _ k => k5 k _) fun _ k _ => h5 k _
    · simp only [partsA]
      exact .ite Iff.rfl (fun _ => (CC.one ha _ _).bind (fun _ _ => O) (fun _ _ => O) fun _ _ _ => .refl) fun _ => (CC.one ha _ _).bind (fun _ k => (m1 _ k).bind fun _ k => m6 _ k _) (fun _ k => (k1 _ k).bind fun _ k => k6 _ k _) fun _ k _ =>
        (h1 _ k).bind (fun _ k => m6 _ k _) (fun _ k => k6 _ k _) fun _ k _ => h6 _ k _
    · simp only [primA]
      have h := ha i hi
      cases e1 : l[i]? with
      | none =>
        cases e2 : l'[i]? with
        | none => exact .refl
        | some u => rw [e1, e2] at h; cases h
      | some t =>
        cases e2 : l'[i]? with
        | none => rw [e1, e2] at h; cases h
        | some u =>
          rw [e1, e2] at h
          simp only [Option.map_some, Option.some.injEq, keyT, Prod.mk.injEq] at h
          obtain ⟨q1, q2, q3⟩ := h
          simp only [q1, q2, q3]
          have A := fun s => isA_ag' ha hi s
          have B : ∀ {r r' : PA (List Ex)} {g : List Ex → Ex}, CC J r r' → CC J (r.bind fun a i => .ok (g a) i) (r'.bind fun a i => .ok (g a) i) := fun {_ _ _} h => h.bind (fun _ _ => O) (fun _ _ => O) fun _ _ _ => .refl
          refine .ite Iff.rfl (fun _ => .refl) fun _ => .ite Iff.rfl (fun _ => ?_) fun _ => ?_
          · have s2 : i + 1 ≤ i + 2 := by omega
            exact .start (i := i + 1) (.ite (((m5 _ _).mono s2).bind fun _ _ => O) O) (.ite (((k5 _ _).mono s2).bind fun _ _ => O) O) fun hi2 => .ite (isA_ag' ha hi2 _) (fun _ => B (h5 _ _)) fun _ => .refl
          refine .ite (A _) (fun _ => .refl) fun _ => .ite (A _) (fun _ => .refl) fun _ => .ite (A _) (fun _ => .refl) fun _ => .ite (A _) (fun _ => .refl) fun _ => .ite (A _) (fun _ => (CC.name ha _).bind (fun _ _ => O) (fun _ _ => O) fun _ _ _ => .refl) fun _ => ?_
          refine .ite (A _) (fun _ => B (h6 _ _ _)) fun _ => .ite (A _) (fun _ => B (h6 _ _ _)) fun _ => .ite (A _) (fun _ => B (h6 _ _ _)) fun _ => .ite (A _) (fun _ => B (h6 _ _ _)) fun _ => ?_
          exact .ite (A _) (fun _ => (h1 _ _).bind (fun _ k => (MG.one _ k).bind fun _ _ => O) (fun _ k => (MG.one _ k).bind fun _ _ => O) fun _ k _ => (CC.one ha _ k).bind (fun _ _ => O) (fun _ _ => O) fun _ _ _ => .refl) fun _ => .refl
end
end Hw.Pa
namespace Hw.Pa
open Go Go.Proofs Hw.M

theorem mO {α : Type} {x : α} {k : Nat} : MG k (PA.ok x k) := .ok (Nat.le_refl _)
section
variable {J : Nat} {l l' : List Tok} (ha : AG J l l')
include ha
theorem CC.fin {α β : Type} {r r' : PA α} {g : α → β} (h : CC J r r') : CC J (r.bind fun a i => .ok (g a) i) (r'.bind fun a i => .ok (g a) i) := have _ := ha; h.bind (fun _ _ => mO) (fun _ _ => mO) fun _ _ _ => .refl
theorem stmt_cc : ∀ f f' : Nat, (∀ i a, CC J (stmtsA l f i a) (stmtsA l' f' i a)) ∧ (∀ i, CC J (blockA l f i) (blockA l' f' i)) ∧ (∀ i, CC J (stmtA l f i) (stmtA l' f' i)) := by
  intro f
  induction f with
  | zero => intro f'; exact ⟨fun _ _ => by simp only [stmtsA]; exact .out, fun _ => by simp only [blockA]; exact .out, fun _ => by simp only [stmtA]; exact .out⟩
  | succ f ih =>
    intro f'
    cases f' with
    | zero => exact ⟨fun _ _ => by simp only [stmtsA]; exact .outR, fun _ => by simp only [blockA]; exact .outR, fun _ => by simp only [stmtA]; exact .outR⟩
    | succ f' =>
    obtain ⟨h1, h2, h3⟩ := ih f'
    obtain ⟨m1, m2, m3⟩ := stmt_mg (l := l) f
    obtain ⟨k1, k2, k3⟩ := stmt_mg (l := l') f'
    have M := stmt_mg (l := l) (f + 1)
    have K := stmt_mg (l := l') (f' + 1)
    have hE := (expr_cc ha f f').1
    have hP := (expr_cc ha f f').2.2.1
    have mE := (expr_mg (l := l) f).1
    have kE := (expr_mg (l := l') f').1
    have s1 : ∀ i : Nat, i ≤ i + 1 := fun _ => Nat.le_succ _
    have semi : ∀ {α : Type} (x : α) (k : Nat), CC J ((oneA l (⟨#[59]⟩ : ByteArray) k).bind fun _ i => PA.ok x i) ((oneA l' (⟨#[59]⟩ : ByteArray) k).bind fun _ i => PA.ok x i) := fun {_} x k => (CC.one ha _ k).bind (fun _ _ => mO) (fun _ _ => mO) fun _ _ _ => .refl
    have msemi : ∀ {α : Type} (x : α) (k : Nat), MG k ((oneA l (⟨#[59]⟩ : ByteArray) k).bind fun _ i => PA.ok x i) := fun {_} x k => (MG.one _ k).bind fun _ _ => mO
    have ksemi : ∀ {α : Type} (x : α) (k : Nat), MG k ((oneA l' (⟨#[59]⟩ : ByteArray) k).bind fun _ i => PA.ok x i) := fun {_} x k => (MG.one _ k).bind fun _ _ => mO
    refine ⟨fun i a => .start (M.1 i a) (K.1 i a) fun hi => ?_, fun i => ?_, fun i => .start (M.2.2 i) (K.2.2 i) fun hi => ?_⟩
    · simp only [stmtsA]; exact .ite (isA_ag' ha hi _) (fun _ => .refl) fun _ => (h3 i).bind (fun _ k => m1 k _) (fun _ k => k1 k _) fun _ k _ => h1 k _
    · simp only [blockA]; exact (CC.one ha _ _).bind (fun _ k => m1 k _) (fun _ k => k1 k _) fun _ k _ => h1 k _
    · simp only [stmtA]
      have A := fun s => isA_ag' ha hi s
      refine .ite (A _) (fun _ => ?_) fun _ => .ite (A _) (fun _ => ?_) fun _ => .ite (A _) (fun _ => ?_) fun _ => ?_
      · exact (hE _ _).bind (fun _ k => (m2 k).bind fun _ k => .ite (((m2 _).mono (s1 k)).bind fun _ _ => mO) mO) (fun _ k => (k2 k).bind fun _ k => .ite (((k2 _).mono (s1 k)).bind fun _ _ => mO) mO) fun _ k _ =>
          (h2 k).bind (fun _ k => .ite (((m2 _).mono (s1 k)).bind fun _ _ => mO) mO) (fun _ k => .ite (((k2 _).mono (s1 k)).bind fun _ _ => mO) mO) fun _ k hk =>
            .ite (isA_ag' ha hk _) (fun _ => CC.fin ha (h2 _)) fun _ => .refl
      · exact (hE _ _).bind (fun _ k => (m2 k).bind fun _ k => mO) (fun _ k => (k2 k).bind fun _ k => mO) fun _ k _ => CC.fin ha (h2 k)
      · refine .start (i := i + 1) (.ite (.ok (by omega)) ((mE _ _).bind fun _ k => msemi _ k)) (.ite (.ok (by omega)) ((kE _ _).bind fun _ k => ksemi _ k)) fun hi2 => ?_
        exact .ite (isA_ag' ha hi2 _) (fun _ => .refl) fun _ => (hE _ _).bind (fun _ k => msemi _ k) (fun _ k => ksemi _ k) fun _ k _ => semi _ k
      · refine (hP i).bind (fun _ k => .ite (((mE _ _).mono (s1 k)).bind fun _ k => msemi _ k) (.ite (((mE _ _).mono (s1 k)).bind fun _ k => msemi _ k) (.ite (msemi _ k) (.no (Nat.le_refl _)))))
          (fun _ k => .ite (((kE _ _).mono (s1 k)).bind fun _ k => ksemi _ k) (.ite (((kE _ _).mono (s1 k)).bind fun _ k => ksemi _ k) (.ite (ksemi _ k) (.no (Nat.le_refl _))))) fun x k hk => ?_
        exact .ite (by rw [isA_ag ha hk]) (fun _ => (hE _ _).bind (fun _ k => msemi _ k) (fun _ k => ksemi _ k) fun _ k _ => semi _ k) fun _ =>
          .ite (by rw [isA_ag ha hk]) (fun _ => (hE _ _).bind (fun _ k => msemi _ k) (fun _ k => ksemi _ k) fun _ k _ => semi _ k) fun _ => .ite Iff.rfl (fun _ => semi _ k) fun _ => .refl
theorem locs_cc : ∀ (f f' i : Nat) (acc : List Fld), CC J (locsA l f i acc) (locsA l' f' i acc)
  | 0, _, _, _ => .out
  | _ + 1, 0, _, _ => .outR
  | f + 1, f' + 1, i, acc => by
    refine .start (locs_mg _ _ _) (locs_mg _ _ _) fun hi => ?_
    simp only [locsA]
    exact .ite (isA_ag' ha hi _) (fun _ => (CC.field ha _).bind (fun _ k => (MG.one _ k).bind fun _ k => locs_mg f k _) (fun _ k => (MG.one _ k).bind fun _ k => locs_mg f' k _) fun _ k _ =>
      (CC.one ha _ k).bind (fun _ k => locs_mg f k _) (fun _ k => locs_mg f' k _) fun _ k _ => locs_cc f f' k _) fun _ => .refl
theorem fields_cc (sep fin : Str) (f f' i : Nat) (acc : List Fld) : CC J (listA l sep fin (fieldA l) f i acc) (listA l' sep fin (fieldA l') f' i acc) := CC.list ha sep fin _ _ (fun i => .field i) (fun i => .field i) (CC.field ha) f f' i acc
theorem formula_cc (f f' i : Nat) : CC J (formulaA l f i) (formulaA l' f' i) := (CC.one ha _ i).bind (fun _ k => (expr_mg f).1 _ k) (fun _ k => (expr_mg f').1 _ k) fun _ k _ => (expr_cc ha f f').1 _ k
theorem proc_cc (f f' i : Nat) : CC J (procA l f i) (procA l' f' i) := by
  unfold procA
  have m7 : ∀ {l : List Tok} (f : Nat) (n : Str) (ps : List Fld) (r : Str) (ls : List Fld) (k : Nat), MG k ((stmtsA l f k []).bind fun b i => PA.ok (⟨n, ps, r, ls, b⟩ : Pr) i) := fun f _ _ _ _ k => ((stmt_mg f).1 k _).bind fun _ _ => mO
  have m6 : ∀ {l : List Tok} (f : Nat) (n : Str) (ps : List Fld) (r : Str) (k : Nat), MG k ((locsA l f k []).bind fun ls i => (stmtsA l f i []).bind fun b i => PA.ok (⟨n, ps, r, ls, b⟩ : Pr) i) := fun f _ _ _ k => (locs_mg f k _).bind fun _ k => m7 f _ _ _ _ k
  have m5 : ∀ {l : List Tok} (f : Nat) (n : Str) (ps : List Fld) (r : Str) (k : Nat), MG k ((oneA l ⟨#[123]⟩ k).bind fun _ i => (locsA l f i []).bind fun ls i => (stmtsA l f i []).bind fun b i => PA.ok (⟨n, ps, r, ls, b⟩ : Pr) i) := fun f _ _ _ k => (MG.one _ k).bind fun _ k => m6 f _ _ _ k
  have m4 : ∀ {l : List Tok} (f : Nat) (n : Str) (ps : List Fld) (k : Nat), MG k ((if isA l k ⟨#[123]⟩ = true then PA.ok (⟨#[]⟩ : ByteArray) k else typA l k).bind fun r i => (oneA l ⟨#[123]⟩ i).bind fun _ i => (locsA l f i []).bind fun ls i => (stmtsA l f i []).bind fun b i => PA.ok (⟨n, ps, r, ls, b⟩ : Pr) i) :=
    fun f _ _ k => (MG.ite mO (.typ k)).bind fun _ k => m5 f _ _ _ k
  refine (CC.name ha i).bind (fun _ k => (MG.one _ k).bind fun _ k => (MG.list _ _ _ (fun i => .field i) f k _).bind fun _ k => m4 f _ _ k) (fun _ k => (MG.one _ k).bind fun _ k => (MG.list _ _ _ (fun i => .field i) f' k _).bind fun _ k => m4 f' _ _ k) fun n k _ => ?_
  refine (CC.one ha _ k).bind (fun _ k => (MG.list _ _ _ (fun i => .field i) f k _).bind fun _ k => m4 f _ _ k) (fun _ k => (MG.list _ _ _ (fun i => .field i) f' k _).bind fun _ k => m4 f' _ _ k) fun _ k _ => ?_
  refine (fields_cc ha _ _ f f' k _).bind (fun _ k => m4 f _ _ k) (fun _ k => m4 f' _ _ k) fun ps k hk => ?_
  refine (CC.ite (isA_ag' ha hk _) (fun _ => .refl) fun _ => .typ ha k).bind (fun _ k => m5 f _ _ _ k) (fun _ k => m5 f' _ _ _ k) fun r k _ => ?_
  refine (CC.one ha _ k).bind (fun _ k => m6 f _ _ _ k) (fun _ k => m6 f' _ _ _ k) fun _ k _ => ?_
  exact (locs_cc ha f f' k _).bind (fun _ k => m7 f _ _ _ _ k) (fun _ k => m7 f' _ _ _ _ k) fun ls k _ => CC.fin ha ((stmt_cc ha f f').1 k _)
theorem measure_cc (f f' i : Nat) : CC J (measureA l f i) (measureA l' f' i) := by
  unfold measureA
  have m7 : ∀ {l : List Tok} (f : Nat) (n t : Str) (z : Int) (k : Nat), MG k ((formulaA l f k).bind fun x j => PA.ok (⟨n, t, z, x⟩ : Ms) j) := fun f _ _ _ k => (formula_mg f k).bind fun _ _ => mO
  have m6 : ∀ {l : List Tok} (f : Nat) (n t : Str) (k : Nat), MG k ((intA l (if isA l k (⟨#[45]⟩ : ByteArray) = true then k + 1 else k)).bind fun z i' => (formulaA l f i').bind fun x j => PA.ok (⟨n, t, if isA l k (⟨#[45]⟩ : ByteArray) = true then -z else z, x⟩ : Ms) j) :=
    fun f _ _ k => ((MG.int _).mono (by split <;> omega)).bind fun _ k => m7 f _ _ _ k
  refine (CC.name ha i).bind (fun _ k => (MG.one _ k).bind fun _ k => (MG.name k).bind fun _ k => (MG.one _ k).bind fun _ k => (MG.one _ k).bind fun _ k => m6 f _ _ k) (fun _ k => (MG.one _ k).bind fun _ k => (MG.name k).bind fun _ k => (MG.one _ k).bind fun _ k => (MG.one _ k).bind fun _ k => m6 f' _ _ k) fun n k _ => ?_
  refine (CC.one ha _ k).bind (fun _ k => (MG.name k).bind fun _ k => (MG.one _ k).bind fun _ k => (MG.one _ k).bind fun _ k => m6 f _ _ k) (fun _ k => (MG.name k).bind fun _ k => (MG.one _ k).bind fun _ k => (MG.one _ k).bind fun _ k => m6 f' _ _ k) fun _ k _ => ?_
  refine (CC.name ha k).bind (fun _ k => (MG.one _ k).bind fun _ k => (MG.one _ k).bind fun _ k => m6 f _ _ k) (fun _ k => (MG.one _ k).bind fun _ k => (MG.one _ k).bind fun _ k => m6 f' _ _ k) fun t k _ => ?_
  refine (CC.one ha _ k).bind (fun _ k => (MG.one _ k).bind fun _ k => m6 f _ _ k) (fun _ k => (MG.one _ k).bind fun _ k => m6 f' _ _ k) fun _ k _ => ?_
  refine (CC.one ha _ k).bind (fun _ k => m6 f _ _ k) (fun _ k => m6 f' _ _ k) fun _ k hk => ?_
  rw [isA_ag ha hk]
  exact (CC.int ha _).bind (fun _ k => m7 f _ _ _ k) (fun _ k => m7 f' _ _ _ k) fun _ k _ => CC.fin ha (formula_cc ha f f' k)
theorem item_cc (f f' i : Nat) (d : Desc) : CC J (itemA l f i d) (itemA l' f' i d) := by
  refine .start (item_mg f i d) (item_mg f' i d) fun hi => ?_
  have A := fun s => isA_ag' ha hi s
  have s1 : ∀ i : Nat, i ≤ i + 1 := fun _ => Nat.le_succ _
  have mf : ∀ {l : List Tok} {α : Type} (f : Nat) (g : Ex → α) (k : Nat), MG k ((formulaA l f k).bind fun x i => PA.ok (g x) i) := fun {_ _} f _ k => (formula_mg f k).bind fun _ _ => mO
  have mi : ∀ {l : List Tok} (k : Nat), MG k (if isA l k (⟨#[40]⟩ : ByteArray) = true then (nameA l (k + 1)).bind fun t i => (oneA l (⟨#[41]⟩ : ByteArray) i).bind fun _ i => PA.ok t i else PA.ok (⟨#[]⟩ : ByteArray) k) := fun k => .ite (((MG.name _).mono (s1 k)).bind fun _ k => (MG.one _ k).bind fun _ _ => mO) mO
  unfold itemA
  refine .ite (A _) (fun _ => ?_) fun _ => .ite (A _) (fun _ => CC.fin ha (CC.field ha _)) fun _ => .ite (A _) (fun _ => CC.fin ha (proc_cc ha f f' _)) fun _ => .ite (A _) (fun _ => CC.fin ha (measure_cc ha f f' _)) fun _ => .ite (A _) (fun _ => ?_) fun _ => .ite (A _) (fun _ => ?_) fun _ => .ite (A _) (fun _ => ?_) fun _ => .refl
  · exact (CC.name ha _).bind (fun _ k => (MG.one _ k).bind fun _ k => (MG.list _ _ _ (fun i => .field i) f k _).bind fun _ _ => mO) (fun _ k => (MG.one _ k).bind fun _ k => (MG.list _ _ _ (fun i => .field i) f' k _).bind fun _ _ => mO) fun _ k _ =>
      (CC.one ha _ k).bind (fun _ k => (MG.list _ _ _ (fun i => .field i) f k _).bind fun _ _ => mO) (fun _ k => (MG.list _ _ _ (fun i => .field i) f' k _).bind fun _ _ => mO) fun _ k _ => CC.fin ha (fields_cc ha _ _ f f' k _)
  · refine (CC.name ha _).bind (fun _ k => (mi k).bind fun _ k => mf f _ k) (fun _ k => (mi k).bind fun _ k => mf f' _ k) fun _ k hk => ?_
    refine (CC.ite (isA_ag' ha hk _) (fun _ => (CC.name ha _).bind (fun _ k => (MG.one _ k).bind fun _ _ => mO) (fun _ k => (MG.one _ k).bind fun _ _ => mO) fun t k _ => (CC.one ha _ k).bind (fun _ _ => mO) (fun _ _ => mO) fun _ _ _ => .refl) fun _ => .refl).bind (fun _ k => mf f _ k) (fun _ k => mf f' _ k) fun _ k _ => CC.fin ha (formula_cc ha f f' k)
  · refine (CC.start (i := i + 1) (.ite mO (.name _)) (.ite mO (.name _)) fun hi2 => .ite (isA_ag' ha hi2 _) (fun _ => .refl) fun _ => .name ha _).bind (fun _ k => mf f _ k) (fun _ k => mf f' _ k) fun _ k _ => CC.fin ha (formula_cc ha f f' k)
  · exact (CC.name ha _).bind (fun _ k => mf f _ k) (fun _ k => mf f' _ k) fun _ k _ => CC.fin ha (formula_cc ha f f' k)
theorem items_cc (f f' : Nat) : ∀ (g g' i : Nat) (d : Desc), CC J (itemsA l f g i d) (itemsA l' f' g' i d)
  | 0, _, _, _ => .out
  | _ + 1, 0, _, _ => .outR
  | g + 1, g' + 1, i, d => by
    refine .start (items_mg f _ _ _) (items_mg f' _ _ _) fun hi => ?_
    simp only [itemsA]
    exact .ite (isA_ag' ha hi _) (fun _ => .refl) fun _ => (item_cc ha f f' i d).bind (fun _ k => items_mg f g k _) (fun _ k => items_mg f' g' k _) fun d k _ => items_cc f f' g g' k d
theorem desc_cc (f f' : Nat) : CC J (descA l f) (descA l' f') := by
  unfold descA
  refine (CC.one ha _ 0).bind (fun _ k => (MG.name k).bind fun _ k => (MG.one _ k).bind fun _ k => items_mg f f k _) (fun _ k => (MG.name k).bind fun _ k => (MG.one _ k).bind fun _ k => items_mg f' f' k _) fun _ k _ => ?_
  refine (CC.name ha k).bind (fun _ k => (MG.one _ k).bind fun _ k => items_mg f f k _) (fun _ k => (MG.one _ k).bind fun _ k => items_mg f' f' k _) fun _ k _ => ?_
  exact (CC.one ha _ k).bind (fun _ k => items_mg f f k _) (fun _ k => items_mg f' f' k _) fun _ k _ => items_cc ha f f' f f' k _
end
end Hw.Pa
namespace Hw.Pa
open Go Go.Proofs Hw.M

theorem keys_get {a b : List Tok} (h : a.map keyT = b.map keyT) (k : Nat) : (a[k]?).map keyT = (b[k]?).map keyT := by
  rw [← List.getElem?_map, ← List.getElem?_map, h]
structure Stop (s : Str) (l o : List Tok) (i : Nat) (t : Tok) : Prop where
  tok : tokensS s = (l, (0, 0), 0)
  good : GoodL l
  eq : ∃ q : Int × Int, l = o ++ [⟨5, (⟨#[]⟩ : ByteArray), 0, q.1, q.2⟩] ∧ InvT o q
  at_ : o[i]? = some t
  place : (descTop s).2.1 = (t.ln, t.cl)
  ans : descA l (10 * l.length + 13) = .no i ∨ ∃ x, descA l (10 * l.length + 13) = .ok x i
theorem stop_of (s : Str) (hs : s.size ≤ 65536) (h7 : (descTop s).2.2 = 7) (h0 : (tokensS s).2.2 = 0) : ∃ l o i t, Stop s l o i t := by
  rcases tokens_cases s hs with ⟨o, q, h1, h2, h3⟩ | ⟨q, h1⟩
  rotate_left
  · rw [h1] at h0; cases h0
  have hg := tok_good h2 (by omega : o.length ≤ 65536)
  generalize hl : o ++ [(⟨5, (⟨#[]⟩ : ByteArray), 0, q.1, q.2⟩ : Tok)] = l at h1 hg
  have hT : descTop s = topD l := by unfold descTop; rw [h1]; exact if_pos rfl
  have hlast : ∀ (i : Nat) (t : Tok), l[i]? = some t → t.k ≠ 5 → o[i]? = some t := fun i t ht hk => by
    rw [← hl] at ht
    rcases Nat.lt_or_ge i o.length with h | h
    · rwa [List.getElem?_append_left h] at ht
    · rw [List.getElem?_append_right h] at ht
      have : i - o.length = 0 := by
        have := (List.getElem?_eq_some_iff.1 ht).1
        simp only [List.length_singleton] at this
        omega
      rw [this] at ht
      simp only [List.getElem?_cons_zero, Option.some.injEq] at ht
      subst ht
      exact absurd rfl hk
  rw [hT] at h7
  have key : ∃ i t, l[i]? = some t ∧ t.k ≠ 5 ∧ (topD l).2.1 = (t.ln, t.cl) ∧ (descA l (10 * l.length + 13) = .no i ∨ ∃ x, descA l (10 * l.length + 13) = .ok x i) := by
    unfold topD at h7 ⊢
    cases hx : descA l (10 * l.length + 13) with
    | out => rw [hx] at h7; cases h7
    | no j =>
      rw [hx] at h7
      simp only at h7 ⊢
      cases ht : l[j]? with
      | none => rw [ht] at h7; cases h7
      | some t =>
        rw [ht] at h7
        simp only at h7 ⊢
        by_cases h5 : t.k = 5
        · rw [if_pos h5] at h7; cases h7
        · exact ⟨j, t, ht, h5, rfl, .inl rfl⟩
    | ok x j =>
      rw [hx] at h7
      simp only at h7 ⊢
      cases ht : l[j]? with
      | none => rw [ht] at h7; cases h7
      | some t =>
        rw [ht] at h7
        simp only at h7 ⊢
        by_cases h5 : t.k = 5
        · rw [if_pos h5] at h7
          split at h7 <;> cases h7
        · rw [if_neg h5]
          exact ⟨j, t, ht, h5, rfl, .inr ⟨x, rfl⟩⟩
  obtain ⟨i, t, ht, hk, hp, hans⟩ := key
  exact ⟨l, o, i, t, h1, hg, ⟨q, hl.symm, h2⟩, hlast i t ht hk, by rw [hT]; exact hp, hans⟩
section
variable {s : Str} {l o : List Tok} {i : Nat} {t : Tok} (hS : Stop s l o i t)
include hS
theorem Stop.lt : i < o.length := (List.getElem?_eq_some_iff.1 hS.at_).1
theorem Stop.take {k : Nat} (hk : k ≤ o.length) : l.take k = o.take k := by
  obtain ⟨q, e, _⟩ := hS.eq
  rw [e, List.take_append_of_le_length hk]
theorem Stop.valid {u : Tok} (hu : u ∈ o) : validF u = true ∧ u.k ≠ 5 := by
  obtain ⟨q, _, h⟩ := hS.eq
  exact ⟨(h.each u hu).1, (h.each u hu).2.1⟩
theorem Stop.get : l[i]? = some t := by
  obtain ⟨q, e, _⟩ := hS.eq
  rw [e, List.getElem?_append_left hS.lt]
  exact hS.at_
theorem Stop.asc : ∀ (d j : Nat) (u v : Tok), o[j]? = some u → o[j + d + 1]? = some v → ltP (posT u) (posT v)
  | 0, j, u, v, hu, hv => by
    obtain ⟨q, _, h⟩ := hS.eq
    exact h.asc j u v hu hv
  | d + 1, j, u, v, hu, hv => by
    obtain ⟨q, _, h⟩ := hS.eq
    have hlt := (List.getElem?_eq_some_iff.1 hv).1
    obtain ⟨w, hw⟩ := exists_at (l := o) (i := j + d + 1) (by omega)
    exact (Stop.asc d j u w hu hw).trans (h.asc (j + d + 1) w v hw hv)
theorem Stop.first {j : Nat} {u : Tok} (hj : j < i) (hu : l[j]? = some u) : ¬ (u.ln = t.ln ∧ u.cl = t.cl) := by
  have hi := hS.lt
  have hu' : o[j]? = some u := by
    obtain ⟨q, e, _⟩ := hS.eq
    rw [e, List.getElem?_append_left (by omega)] at hu
    exact hu
  have ht : o[j + (i - j - 1) + 1]? = some t := by rw [show j + (i - j - 1) + 1 = i by omega]; exact hS.at_
  have h := hS.asc (i - j - 1) j u t hu' ht
  unfold ltP posT at h
  simp only at h
  omega
theorem Stop.okJ {k : Nat} (hk : k ≤ o.length) : okJ (l.take k) := fun j u hu => by
  rw [hS.take hk] at hu
  have hm : u ∈ o := List.mem_of_mem_take (List.mem_of_getElem? hu)
  obtain ⟨h1, h2⟩ := hS.valid hm
  unfold okAt
  rw [h1, decide_eq_false h2]
  rfl
theorem Stop.size {k : Nat} (hs : s.size ≤ 2000) (hk : k ≤ o.length) : (accJ (l.take k) 0 (⟨#[]⟩ : ByteArray)).size ≤ 45000 := by
  rw [accJ_len]
  have h1 := joinL_len (l.take k) 0
  have h2 := szT_take l k
  have h3 := tokens_sz s
  rw [hS.tok] at h3
  have h4 : l.length ≤ s.size + 1 := by
    rcases tokens_good s with ⟨l2, e, _, h⟩ | ⟨q, e, h, h74⟩
    · rw [hS.tok] at e
      simp only [Prod.mk.injEq, and_true] at e
      rw [e]; exact h
    · rw [hS.tok] at h
      simp only [Prod.mk.injEq] at h
      omega
  have h5 : (l.take k).length ≤ l.length := by rw [List.length_take]; omega
  simp only at h3
  omega
theorem Stop.begin (hs : s.size ≤ 2000) : (descTop (accJ (l.take i) 0 (⟨#[]⟩ : ByteArray))).2.2 = 8 ∨ (descTop (accJ (l.take i) 0 (⟨#[]⟩ : ByteArray))).2.2 = 0 ∨ (descTop (accJ (l.take i) 0 (⟨#[]⟩ : ByteArray))).2.2 = 4 := by
  have hi := hS.lt
  obtain ⟨o2, e1, e2⟩ := join_back (hS.okJ (by omega : i ≤ o.length)) (by have := hS.size hs (by omega : i ≤ o.length); omega)
  have hw : withEnd (l.take i) = l.take i ++ [endT] := by
    unfold withEnd
    rw [if_neg]
    intro h
    rw [hS.take (by omega)] at h
    rw [List.getLast?_eq_getElem?] at h
    rw [Option.map_eq_some_iff] at h
    obtain ⟨u, hu, h5⟩ := h
    exact (hS.valid (List.mem_of_mem_take (List.mem_of_getElem? hu))).2 h5
  rw [hw] at e2
  have hlen : (l.take i).length = i := by rw [hS.take (by omega), List.length_take]; omega
  have hlen2 : o2.length = i + 1 := by
    have := congrArg List.length e2
    rw [List.length_map, List.length_map, List.length_append, hlen] at this
    exact this
  have hg : GoodL o2 := by
    rcases tokens_good (accJ (l.take i) 0 (⟨#[]⟩ : ByteArray)) with ⟨l2, e, h, _⟩ | ⟨q, e, h, h74⟩
    · rw [e1] at e
      simp only [Prod.mk.injEq, and_true] at e
      rw [e]; exact h
    · rw [e1] at h
      simp only [Prod.mk.injEq] at h
      omega
  have hag : AG i l o2 := fun k hk => by
    rw [keys_get e2 k, List.getElem?_append_left (by omega), List.getElem?_take, if_pos hk]
  have h5 : ∀ u, o2[i]? = some u → u.k = 5 := fun u hu => by
    have h := keys_get e2 i
    rw [hu, List.getElem?_append_right (by omega), hlen, Nat.sub_self] at h
    simp only [List.getElem?_cons_zero, Option.map_some, Option.some.injEq, keyT, endT, Prod.mk.injEq] at h
    exact h.1
  have hcc := desc_cc hag (10 * l.length + 13) (10 * o2.length + 13)
  have hmg : MG i (descA o2 (10 * o2.length + 13)) := by
    rcases hS.ans with e | ⟨x, e⟩
    · exact (hcc.2 i e).2 (Nat.le_refl _)
    · exact (hcc.1 x i e).2 (Nat.le_refl _)
  have hrg : RA o2 (descA o2 (10 * o2.length + 13)) := by
    rw [← er_desc]
    exact .er (.go (.one hg (by omega) _) fun _ _ hk => .go (.name hg hk) fun _ _ hk => .go (.one hg hk _) fun _ _ hk => items_rg hg _ _ _ _ hk)
  have hout := desc_out (l := o2) (f := 10 * o2.length + 13) (by omega)
  have hT : descTop (accJ (l.take i) 0 (⟨#[]⟩ : ByteArray)) = topD o2 := by unfold descTop; rw [e1]; exact if_pos rfl
  rw [hT]
  unfold topD
  cases hx : descA o2 (10 * o2.length + 13) with
  | out => exact absurd hx hout
  | no j =>
    have a := hmg.2 j hx
    have b := hrg.2 j hx
    obtain rfl : j = i := by omega
    obtain ⟨u, hu⟩ := exists_at b
    simp only [hu, h5 u hu, if_true]
    first
      | exact .inl rfl
      | exact .inl trivial
  | ok x j =>
    have a := hmg.1 x j hx
    have b := hrg.1 x j hx
    obtain rfl : j = i := by omega
    obtain ⟨u, hu⟩ := exists_at b
    simp only [hu, h5 u hu, if_true]
    split
    · first
        | exact .inr (.inl rfl)
        | exact .inr (.inl trivial)
    · first
        | exact .inr (.inr rfl)
        | exact .inr (.inr trivial)
theorem Stop.upto (hs : s.size ≤ 2000) {m : Str} {b : By} (hm : lst m = joinL (l.take (i + 1)) 0 ++ 32 :: b) (hmz : m.size ≤ 65536) (h0 : (tokensS m).2.2 = 0) :
    (descTop m).2.2 = 7 ∧ (descTop m).2.1 = (1, 1 + ((accJ (l.take i) 0 (⟨#[]⟩ : ByteArray)).size : Int) + (if 0 < i then 1 else 0)) := by
  have hi := hS.lt
  have hget := hS.at_
  have hL0 : ∀ u ∈ l.take i, validF u = true ∧ u.k ≠ 5 := fun u hu => by rw [hS.take (by omega)] at hu; exact hS.valid (List.mem_of_mem_take hu)
  obtain ⟨hv, h5⟩ := hS.valid (List.mem_of_getElem? hget)
  have hlen : (l.take i).length = i := by rw [hS.take (by omega), List.length_take]; omega
  have htk : l.take (i + 1) = l.take i ++ [t] := by rw [List.take_add_one, hS.get]; rfl
  have hJ : joinL (l.take (i + 1)) 0 = joinL (l.take i) 0 ++ ((if 0 < i then [32] else []) ++ txtT t) := by
    rw [htk, joinL_app _ _ _ fun u hu => (hL0 u hu).2, Nat.zero_add, hlen, joinL, if_neg h5]
    simp [joinL]
  have hsp : Sep (32 :: b) := .inr ⟨32, b, rfl, by decide⟩
  have hmain : ∃ o1 p3, lxx (lst m) (1, 1) [] = lxx (32 :: b) p3 (o1 ++ [⟨t.k, t.t, t.n, 1, 1 + ((joinL (l.take i) 0).length : Int) + (if 0 < i then 1 else 0)⟩]) ∧ o1.map keyT = (l.take i).map keyT := by
    rw [hm, hJ]
    by_cases h : 0 < i
    · rw [if_pos h, if_pos h]
      simp only [List.append_assoc, List.singleton_append]
      obtain ⟨o1, e1, e2⟩ := lxx_pre (l.take i) 0 (1, 1) [] (32 :: (txtT t ++ 32 :: b)) hL0 (.inr ⟨32, _, rfl, by decide⟩)
      refine ⟨o1, (1, 1 + ((joinL (l.take i) 0).length : Int) + 1 + ((txtT t).length : Int)), ?_, e2⟩
      simp only [List.cons_append]
      rw [e1, lxx_blank (by decide), lxx_at hv h5 hsp]
      have : ∀ p : Int × Int, mv p 32 = (p.1, p.2 + 1) := fun p => by unfold mv; rw [if_neg (by decide)]
      rw [this]
      rfl
    · have h0i : i = 0 := by omega
      rw [if_neg h, if_neg h]
      simp only [h0i, List.take_zero, joinL, List.nil_append, List.length_nil]
      refine ⟨[], (1, 1 + ((txtT t).length : Int)), ?_, rfl⟩
      rw [lxx_at hv h5 hsp]
      rfl
  obtain ⟨o1, p3, e1, e2⟩ := hmain
  have hlen1 : o1.length = i := by have := congrArg List.length e2; rw [List.length_map, List.length_map, hlen] at this; exact this
  have hgt : ∃ l2, tokensS m = (l2, (0, 0), 0) ∧ GoodL l2 := by
    rcases tokens_good m with ⟨l2, e, h, _⟩ | ⟨q, e, h, h74⟩
    · exact ⟨l2, e, h⟩
    · rw [h] at h0
      simp only at h0
      omega
  obtain ⟨l2, ht2, hg2⟩ := hgt
  have hx2 : ∃ r, l2 = (o1 ++ [⟨t.k, t.t, t.n, 1, 1 + ((joinL (l.take i) 0).length : Int) + (if 0 < i then 1 else 0)⟩]) ++ r := by
    have e3 := ht2
    unfold tokensS at e3
    rw [if_neg (by omega), e1] at e3
    exact lx_ext _ _ _ _ _ e3 (Nat.lt_succ_self _)
  obtain ⟨r, hr⟩ := hx2
  have hu : l2[i]? = some ⟨t.k, t.t, t.n, 1, 1 + ((joinL (l.take i) 0).length : Int) + (if 0 < i then 1 else 0)⟩ := by
    rw [hr, List.append_assoc, List.getElem?_append_right (by omega), hlen1, Nat.sub_self]
    rfl
  have hag : AG (i + 1) l l2 := fun k hk => by
    by_cases h : k < i
    · rw [hr, List.append_assoc, List.getElem?_append_left (by omega), keys_get e2 k, List.getElem?_take, if_pos h]
    · obtain rfl : k = i := by omega
      rw [hu, hS.get]
      rfl
  have hcc := desc_cc hag (10 * l.length + 13) (10 * l2.length + 13)
  have hout := desc_out (l := l2) (f := 10 * l2.length + 13) (by omega)
  have hT : descTop m = topD l2 := by unfold descTop; rw [ht2]; exact if_pos rfl
  rw [hT, accJ_len]
  unfold topD
  rcases hS.ans with e | ⟨x, e⟩
  · rcases (hcc.2 i e).1 (Nat.lt_succ_self _) with h | h
    · exact absurd h hout
    · rw [h, e]
      simp only [hu, if_neg h5]
      exact ⟨trivial, trivial⟩
  · rcases (hcc.1 x i e).1 (Nat.lt_succ_self _) with h | h
    · exact absurd h hout
    · rw [h, e]
      simp only [hu, if_neg h5]
      exact ⟨trivial, trivial⟩
end
end Hw.Pa
namespace Hw.Pa
open Go Go.Proofs Hw.M

theorem tokW_idx (f : FuncId) (q1 q2 : Int) (l : List Tok) (p : Tok → Unit → Bool) (nx : Tok → Unit → Unit) (inv : Unit → Prop)
    (hf : ∀ x ∈ l, ∀ s : Unit, inv s → FnOK Tryz.prog f [aggS (tokR x), .one (.bx 0 0)] [(0, .box [.p (ki q1), .p (ki q2)])] (.bq (p x s)) ((fun s : Unit => [(0, .box [.p (ki q1), .p (ki q2)])]) (nx x s)) ∧ (p x s = false → inv (nx x s))) (s : Unit) (hs : inv s) :
    FnOK Tryz.prog 22 [pS (.sl 5 (l.map tokR)), .one (.cl f [] [.bx 0 0])] [(0, .box [.p (ki q1), .p (ki q2)])] (I (idxR p nx l 0 s).1) ((fun s : Unit => [(0, .box [.p (ki q1), .p (ki q2)])]) (idxR p nx l 0 s).2) := by
  refine fn_ok T Tryz.func22 (by kernel_rfl) rfl rfl rfl rfl fun C hC => ?_
  have hs0 := hs
  refine g_len 0 rfl fun hl => ?_
  rw [List.length_map] at hl
  repeat' first | refine g_go T hC true 400 rfl rfl ?_ | refine g_cond rfl (fun h => ?_) (fun h => ?_)
  rw [List.length_map]
  refine g_loop (fun q : Nat × Unit => q.1 ≤ l.length ∧ inv q.2 ∧ idxR p nx (l.drop q.1) q.1 q.2 = idxR p nx l 0 s) (fun q => (fun s : Unit => ([(0, pS (.sl 5 (l.map tokR))), (1, .one (.cl f [] [.bx 0 0])), (7, I l.length), (8, I q.1)], [(0, some (.box [.p (ki q1), .p (ki q2)]))])) q.2) (fun q => l.length - q.1) hC
    (0, s) ⟨Nat.zero_le _, hs, rfl⟩ id ⟨rfl, ⟨rfl, rfl, rfl, rfl, trivial⟩, ⟨rfl, trivial⟩, rfl, fun _ _ => rfl⟩ ?_
  generalize idxR p nx l 0 s = res
  clear hs hs0
  rintro ⟨i, s⟩ ⟨hi, hv, hn⟩
  simp only at hi hv hn
  refine g_run' T hC true 200 rfl ?_
  refine g_cond rfl (fun hh => ?_) (fun hh => ?_)
  · have hlt : i < l.length := by simpa using hh
    clear hh
    obtain ⟨x, hx⟩ := exists_at hlt
    rw [drop_at hx] at hn
    simp only [idxR] at hn
    have hv2 := (hf x (List.mem_of_getElem? hx) s hv).2
    repeat' first | refine g_go T hC true 400 rfl rfl ?_ | refine g_cond rfl (fun h => ?_) (fun h => ?_) | refine g_idx T hC rfl rfl rfl (Int.natCast_nonneg _) (map_at hx) rfl rfl ?_ | refine g_callR hC (hf x (List.mem_of_getElem? hx) s hv).1 id rfl rfl (LeSs.refl _) rfl rfl rfl rfl rfl rfl rfl rfl ?_ | refine g_outR ?_
    · rw [if_pos (by assumption)] at hn
      subst hn
      exact g_fin ⟨.inl rfl, id, _, rfl, .refl _, ⟨rfl, trivial⟩, rfl, rfl⟩
    · have hpf : p x s = false := by assumption
      rw [hpf] at hn
      simp only [Bool.false_eq_true, if_false] at hn
      rw [wrap64 (by omega)]
      exact g_round (i + 1, nx x s) ⟨by simp only; omega, hv2 hpf, hn⟩ id (by simp only; omega) ⟨rfl, ⟨rfl, rfl, rfl, rfl, trivial⟩, ⟨rfl, trivial⟩, rfl, fun _ _ => rfl⟩
  · have hge : ¬ i < l.length := by simpa using hh
    rw [List.drop_eq_nil_of_le (by omega)] at hn
    simp only [idxR] at hn
    subst hn
    repeat' first | refine g_go T hC true 400 rfl rfl ?_ | refine g_cond rfl (fun h => ?_) (fun h => ?_) | refine g_outE ?_
    exact g_fin ⟨.inl rfl, id, _, rfl, .refl _, ⟨rfl, trivial⟩, rfl, rfl⟩
theorem stops1_ok (q1 q2 : Int) (x : Tok) : FnOK Tryz.prog 23 [aggS (tokR x), .one (.bx 0 0)] [(0, .box [.p (ki q1), .p (ki q2)])] (.bq (decide (x.ln = q1) && decide (x.cl = q2))) [(0, .box [.p (ki q1), .p (ki q2)])] := by
  obtain ⟨k, t, n, ln, cl⟩ := x
  refine fn_ok T Tryz.func23 (by kernel_rfl) rfl rfl rfl rfl fun C hC => ?_
  repeat' first | refine g_go T hC true 400 rfl rfl ?_ | refine g_cond rfl (fun h => ?_) (fun h => ?_) | (refine g_eqF hC [.i .i64, .i .i64] [.i .i64 ln, .i .i64 cl] [.i .i64 q1, .i .i64 q2] rfl rfl (by kernel_rfl) (by kernel_rfl) rfl rfl (by kernel_rfl) rfl rfl ?_)
  all_goals first
    | exact g_fin ⟨.inl rfl, id, _, rfl, .qq (by simp [Bool.decide_and]), ⟨rfl, trivial⟩, rfl, rfl⟩
    | exact g_fin ⟨.inl rfl, id, _, rfl, .qb (by simp_all), ⟨rfl, trivial⟩, rfl, rfl⟩
section
variable {s : Str} {l o : List Tok} {i : Nat} {t : Tok} (hS : Stop s l o i t)
include hS
theorem Stop.only {j : Nat} {u : Tok} (hu : l[j]? = some u) (h1 : u.ln = t.ln) (h2 : u.cl = t.cl) : j = i := by
  rcases Nat.lt_trichotomy j i with h | h | h
  · exact absurd ⟨h1, h2⟩ (hS.first h hu)
  · exact h
  · exfalso
    obtain ⟨q, e, hI⟩ := hS.eq
    by_cases hj : j < o.length
    · rw [e, List.getElem?_append_left hj] at hu
      have hv : o[i + (j - i - 1) + 1]? = some u := by rw [show i + (j - i - 1) + 1 = j by omega]; exact hu
      have := hS.asc (j - i - 1) i t u hS.at_ hv
      unfold ltP posT at this
      simp only at this
      omega
    · rw [e, List.getElem?_append_right (by omega)] at hu
      have hlt := (List.getElem?_eq_some_iff.1 hu).1
      simp only [List.length_singleton] at hlt
      rw [show j - o.length = 0 by omega] at hu
      simp only [List.getElem?_cons_zero, Option.some.injEq] at hu
      subst hu
      have := (hI.each t (List.mem_of_getElem? hS.at_)).2.2.2.2
      unfold ltP posT at this
      simp only at this h1 h2
      omega
theorem Stop.idx : FnOK Tryz.prog 22 [pS (toksP l), .one (.cl 23 [] [.bx 0 0])] [(0, .box [.p (ki t.ln), .p (ki t.cl)])] (I (i : Nat)) [(0, .box [.p (ki t.ln), .p (ki t.cl)])] := by
  have h := tokW_idx 23 t.ln t.cl l (fun x _ => decide (x.ln = t.ln) && decide (x.cl = t.cl)) (fun _ s => s) (fun _ => True) (fun x hx s _ => ⟨stops1_ok t.ln t.cl x, fun _ => trivial⟩) () trivial
  have e : (idxR (fun (x : Tok) (_ : Unit) => decide (x.ln = t.ln) && decide (x.cl = t.cl)) (fun _ s => s) l 0 ()).1 = ((i : Nat) : Int) := by
    rcases idx_find (fun x : Tok => decide (x.ln = t.ln) && decide (x.cl = t.cl)) l 0 with ⟨h1, _⟩ | ⟨y, j, h1, h2, h3⟩
    · exfalso
      rw [List.find?_eq_none] at h1
      exact h1 t (List.mem_of_getElem? hS.get) (by simp)
    · have hy := List.find?_some h1
      simp only [Bool.and_eq_true, decide_eq_true_eq] at hy
      obtain rfl := hS.only h2 hy.1 hy.2
      rw [h3, Nat.zero_add]
  rw [e] at h
  exact h
end
set_option maxHeartbeats 2000000 in
theorem parserStops_ok (s more : Str) : FnOK Tryz.prog 6 [Sr s, Sr more] [] (.bq true) [] := by
  by_cases hs : s.size ≤ 2000
  rotate_left
  · refine fn_ok T Tryz.func6 (by kernel_rfl) rfl rfl rfl rfl fun C hC => ?_
    repeat' first | refine g_go T hC true 400 rfl rfl ?_ | (exfalso; have h2 := of_decide_eq_false h; omega) | (exfalso; simp at h; done) | refine g_cond rfl (fun h => ?_) (fun h => ?_) | refine g_splitG rfl rfl rfl (fun h => ?_) (fun h => ?_) | refine g_splitP rfl rfl (fun h => ?_) (fun h => ?_) | refine g_call hC (awake10_ok) rfl rfl (LeSs.refl _) rfl rfl rfl ?_ | refine g_retl T (.inl rfl) rfl ?_
    all_goals rfl
  by_cases hm : more.size ≤ 200
  rotate_left
  · refine fn_ok T Tryz.func6 (by kernel_rfl) rfl rfl rfl rfl fun C hC => ?_
    repeat' first | refine g_go T hC true 400 rfl rfl ?_ | (exfalso; have h2 := of_decide_eq_false h; omega) | (exfalso; have h2 := of_decide_eq_true h; omega) | (exfalso; simp at h; done) | refine g_cond rfl (fun h => ?_) (fun h => ?_) | refine g_splitG rfl rfl rfl (fun h => ?_) (fun h => ?_) | refine g_splitP rfl rfl (fun h => ?_) (fun h => ?_) | refine g_call hC (awake10_ok) rfl rfl (LeSs.refl _) rfl rfl rfl ?_ | refine g_retl T (.inl rfl) rfl ?_
    all_goals rfl
  have hP := parserParse_ok s (by omega)
  have hT := lexTokens_ok s (by omega)
  have hStop := stop_of s (by omega)
  by_cases h7 : (descTop s).2.2 = 7
  rotate_left
  · generalize descTop s = R at hP h7
    obtain ⟨x1, ⟨p1, p2⟩, e1⟩ := R
    generalize tokensS s = R2 at hT
    obtain ⟨l, ⟨q1, q2⟩, f⟩ := R2
    simp only at hP h7 hT
    clear hStop
    refine fn_ok T Tryz.func6 (by kernel_rfl) rfl rfl rfl rfl fun C hC => ?_
    repeat' first | refine g_go T hC true 400 rfl rfl ?_ | (exfalso; simp at h; contradiction) | (exfalso; have h2 := of_decide_eq_true h; omega) | (exfalso; simp at h; done) | refine g_cond rfl (fun h => ?_) (fun h => ?_) | refine g_splitG rfl rfl rfl (fun h => ?_) (fun h => ?_) | refine g_splitP rfl rfl (fun h => ?_) (fun h => ?_) | refine g_call hC (awake10_ok) rfl rfl (LeSs.refl _) rfl rfl rfl ?_ | refine g_call hC (hP) rfl rfl (LeSs.refl _) rfl rfl rfl ?_ | refine g_call hC (hT) rfl rfl (LeSs.refl _) rfl rfl rfl ?_ | refine g_retl T (.inl rfl) rfl ?_
    all_goals rfl
  by_cases h0 : (tokensS s).2.2 = 0
  rotate_left
  · generalize descTop s = R at hP h7
    obtain ⟨x1, ⟨p1, p2⟩, e1⟩ := R
    generalize tokensS s = R2 at hT h0
    obtain ⟨l, ⟨q1, q2⟩, f⟩ := R2
    simp only at hP h7 hT h0
    subst h7
    clear hStop
    refine fn_ok T Tryz.func6 (by kernel_rfl) rfl rfl rfl rfl fun C hC => ?_
    repeat' first | refine g_go T hC true 400 rfl rfl ?_ | (exfalso; simp at h; contradiction) | (exfalso; have h2 := of_decide_eq_true h; omega) | (exfalso; simp at h; done) | refine g_cond rfl (fun h => ?_) (fun h => ?_) | refine g_splitG rfl rfl rfl (fun h => ?_) (fun h => ?_) | refine g_splitP rfl rfl (fun h => ?_) (fun h => ?_) | refine g_call hC (awake10_ok) rfl rfl (LeSs.refl _) rfl rfl rfl ?_ | refine g_call hC (hP) rfl rfl (LeSs.refl _) rfl rfl rfl ?_ | refine g_call hC (hT) rfl rfl (LeSs.refl _) rfl rfl rfl ?_ | refine g_retl T (.inl rfl) rfl ?_
    all_goals rfl
  obtain ⟨l, o, i, t, hS⟩ := hStop h7 h0
  have hi := hS.lt
  have hll := hS.good.len
  have hpl := hS.place
  have hget := hS.get
  have hn5 : ¬ t.k = 5 := (hS.valid (List.mem_of_getElem? hS.at_)).2
  have hle : l.length ≤ 2001 := by
    rcases tokens_good s with ⟨l2, e, _, h⟩ | ⟨q, e, h, h74⟩
    · rw [hS.tok] at e
      simp only [Prod.mk.injEq, and_true] at e
      rw [e]; omega
    · rw [hS.tok] at h
      simp only [Prod.mk.injEq] at h
      omega
  have hol : o.length < l.length := by
    obtain ⟨q, e, _⟩ := hS.eq
    rw [e]; simp
  have hX := hS.idx
  have hz1 := hS.size hs (by omega : i ≤ o.length)
  have hz2 := hS.size hs (by omega : i + 1 ≤ o.length)
  have hJ1 := lJoin_yes (l.take i) (by rw [List.length_take]; omega) (hS.okJ (by omega)) (by omega)
  have hJ2 := lJoin_yes (l.take (i + 1)) (by rw [List.length_take]; omega) (hS.okJ (by omega)) (by omega)
  have hB := hS.begin hs
  have hU : ∀ m : Str, lst m = joinL (l.take (i + 1)) 0 ++ 32 :: lst more → m.size ≤ 65536 → (tokensS m).2.2 = 0 → (descTop m).2.2 = 7 ∧ (descTop m).2.1 = (1, 1 + ((accJ (l.take i) 0 (⟨#[]⟩ : ByteArray)).size : Int) + (if 0 < i then 1 else 0)) := fun m h1 h2 h3 => hS.upto hs h1 h2 h3
  have hlst : lst (accJ (l.take (i + 1)) 0 (⟨#[]⟩ : ByteArray) ++ (⟨#[32]⟩ : ByteArray) ++ more) = joinL (l.take (i + 1)) 0 ++ 32 :: lst more := by
    rw [lst_app, lst_app, accJ_lst]
    simp [lst]
  rw [hS.tok] at hT
  simp only at hT
  clear hStop
  generalize hA1 : accJ (l.take i) 0 (⟨#[]⟩ : ByteArray) = A1 at hz1 hJ1 hB hU
  generalize hA2 : accJ (l.take (i + 1)) 0 (⟨#[]⟩ : ByteArray) = A2 at hz2 hJ2 hlst
  have hPB := parserParse_ok A1 (by omega)
  have hsz : (A2 ++ (⟨#[32]⟩ : ByteArray) ++ more).size ≤ 65536 := by
    rw [size_app, size_app]
    have : ((⟨#[32]⟩ : ByteArray) : Str).size = 1 := rfl
    omega
  have hPM := parserParse_ok (A2 ++ (⟨#[32]⟩ : ByteArray) ++ more) (by omega)
  have hTM := lexTokens_ok (A2 ++ (⟨#[32]⟩ : ByteArray) ++ more) (by omega)
  have hU := hU _ hlst hsz
  have hEr : (tokensS (A2 ++ (⟨#[32]⟩ : ByteArray) ++ more)).2.2 ≠ 0 → (descTop (A2 ++ (⟨#[32]⟩ : ByteArray) ++ more)).2.2 = (tokensS (A2 ++ (⟨#[32]⟩ : ByteArray) ++ more)).2.2 := fun h => by unfold descTop; rw [if_neg h]
  generalize descTop (A2 ++ (⟨#[32]⟩ : ByteArray) ++ more) = R3 at hPM hU hEr
  generalize tokensS (A2 ++ (⟨#[32]⟩ : ByteArray) ++ more) = R4 at hTM hU hEr
  generalize descTop A1 = R5 at hPB hB
  generalize descTop s = R1 at hP h7 hpl
  obtain ⟨x1, ⟨p1, p2⟩, e1⟩ := R1
  obtain ⟨x3, ⟨c1, c2⟩, k3⟩ := R3
  obtain ⟨l3, ⟨d1, d2⟩, f3⟩ := R4
  obtain ⟨x5, ⟨b1, b2⟩, k5⟩ := R5
  simp only [Prod.mk.injEq] at hP h7 hpl hPM hTM hPB hB hU hEr
  obtain ⟨rfl, rfl⟩ := hpl
  subst h7
  clear hlst hS
  have hw : IntKind.i64.wrap ((i : Int) + 1) = ((i + 1 : Nat) : Int) := wrapS (by omega)
  have hwA : IntKind.i64.wrap (1 + (A1.size : Int)) = 1 + (A1.size : Int) := wrap64 (by omega)
  have hwB : IntKind.i64.wrap (1 + (A1.size : Int) + 1) = 1 + (A1.size : Int) + 1 := wrap64 (by omega)
  have hsp : ((⟨#[32]⟩ : ByteArray) : Str).size = 1 := rfl
  clear hsz
  by_cases hf : f3 = 0
  · subst hf
    obtain ⟨rfl, rfl, rfl⟩ := hU rfl
    clear hEr hU
    rcases hB with rfl | rfl | rfl
    all_goals
      by_cases hi0 : 0 < i
      · refine fn_ok T Tryz.func6 (by kernel_rfl) rfl rfl rfl rfl fun C hC => ?_
        repeat' first | refine g_go T hC true 400 rfl rfl ?_ | (exfalso; simp at h; contradiction) | (exfalso; have h2 := of_decide_eq_true h; (try simp only [List.length_map] at h2); omega) | (exfalso; have h2 := of_decide_eq_false h; omega) | (exfalso; simp at h; done) | refine g_cond rfl (fun h => ?_) (fun h => ?_) | refine g_splitG rfl rfl rfl (fun h => ?_) (fun h => ?_) | refine g_splitP rfl rfl (fun h => ?_) (fun h => ?_) | refine g_call hC (awake10_ok) rfl rfl (LeSs.refl _) rfl rfl rfl ?_ | refine g_call hC (hP) rfl rfl (LeSs.refl _) rfl rfl rfl ?_ | refine g_call hC (hT) rfl rfl (LeSs.refl _) rfl rfl rfl ?_ | refine g_idx T hC rfl rfl rfl (Int.natCast_nonneg _) (map_at hget) rfl rfl ?_ | refine g_callR hC (hX) (nm [1006]) rfl rfl (LeSs.refl _) rfl rfl rfl rfl rfl rfl rfl rfl ?_ | (refine g_partH T hC ((l.take i).map tokR) rfl rfl rfl (Int.natCast_nonneg _) (by rw [List.length_map]; omega) (by rw [Int.toNat_natCast, List.map_take]) rfl rfl ?_) | refine g_call hC (hJ1) rfl rfl (LeSs.refl _) rfl rfl rfl ?_ | (refine g_partH T hC ((l.take (i + 1)).map tokR) (j := IntKind.i64.wrap ((i : Int) + 1)) rfl rfl rfl (by rw [hw]; exact Int.natCast_nonneg _) (by rw [hw, List.length_map]; omega) (by rw [hw, Int.toNat_natCast, List.map_take]) rfl rfl ?_) | refine g_call hC (hJ2) rfl rfl (LeSs.refl _) rfl rfl rfl ?_ | refine g_call hC (hPB) rfl rfl (LeSs.refl _) rfl rfl rfl ?_ | (refine g_cat hC rfl rfl (by omega) rfl rfl ?_) | (refine g_cat hC rfl rfl (by rw [size_app]; omega) rfl rfl ?_) | refine g_call hC (hPM) rfl rfl (LeSs.refl _) rfl rfl rfl ?_ | refine g_call hC (hTM) rfl rfl (LeSs.refl _) rfl rfl rfl ?_ | (refine g_eqF hC [.i .i64, .i .i64] [.i .i64 1, .i .i64 (1 + (A1.size : Int) + if 0 < i then 1 else 0)] [.i .i64 1, .i .i64 (IntKind.i64.wrap (IntKind.i64.wrap (1 + (A1.size : Int)) + 1))] rfl rfl (by kernel_rfl) (by kernel_rfl) rfl rfl (by kernel_rfl) rfl rfl ?_) | refine g_retq T (.inl rfl) rfl ?_ | refine g_retl T (.inl rfl) rfl ?_
        all_goals first
          | rfl
          | (rw [hwA, hwB, if_pos hi0]; exact decide_eq_true rfl)
          | (exfalso; rw [hwA, hwB, if_pos hi0] at h; simp at h; done)
          | (simp; done)
          | skip
      · refine fn_ok T Tryz.func6 (by kernel_rfl) rfl rfl rfl rfl fun C hC => ?_
        repeat' first | refine g_go T hC true 400 rfl rfl ?_ | (exfalso; simp at h; contradiction) | (exfalso; have h2 := of_decide_eq_true h; (try simp only [List.length_map] at h2); omega) | (exfalso; simp at h; done) | refine g_cond rfl (fun h => ?_) (fun h => ?_) | refine g_splitG rfl rfl rfl (fun h => ?_) (fun h => ?_) | refine g_splitP rfl rfl (fun h => ?_) (fun h => ?_) | refine g_call hC (awake10_ok) rfl rfl (LeSs.refl _) rfl rfl rfl ?_ | refine g_call hC (hP) rfl rfl (LeSs.refl _) rfl rfl rfl ?_ | refine g_call hC (hT) rfl rfl (LeSs.refl _) rfl rfl rfl ?_ | refine g_idx T hC rfl rfl rfl (Int.natCast_nonneg _) (map_at hget) rfl rfl ?_ | refine g_callR hC (hX) (nm [1006]) rfl rfl (LeSs.refl _) rfl rfl rfl rfl rfl rfl rfl rfl ?_ | (refine g_partH T hC ((l.take i).map tokR) rfl rfl rfl (Int.natCast_nonneg _) (by rw [List.length_map]; omega) (by rw [Int.toNat_natCast, List.map_take]) rfl rfl ?_) | refine g_call hC (hJ1) rfl rfl (LeSs.refl _) rfl rfl rfl ?_ | (refine g_partH T hC ((l.take (i + 1)).map tokR) (j := IntKind.i64.wrap ((i : Int) + 1)) rfl rfl rfl (by rw [hw]; exact Int.natCast_nonneg _) (by rw [hw, List.length_map]; omega) (by rw [hw, Int.toNat_natCast, List.map_take]) rfl rfl ?_) | refine g_call hC (hJ2) rfl rfl (LeSs.refl _) rfl rfl rfl ?_ | refine g_call hC (hPB) rfl rfl (LeSs.refl _) rfl rfl rfl ?_ | (refine g_cat hC rfl rfl (by omega) rfl rfl ?_) | (refine g_cat hC rfl rfl (by rw [size_app]; omega) rfl rfl ?_) | refine g_call hC (hPM) rfl rfl (LeSs.refl _) rfl rfl rfl ?_ | refine g_call hC (hTM) rfl rfl (LeSs.refl _) rfl rfl rfl ?_ | (refine g_eqF hC [.i .i64, .i .i64] [.i .i64 1, .i .i64 (1 + (A1.size : Int) + if 0 < i then 1 else 0)] [.i .i64 1, .i .i64 (IntKind.i64.wrap (1 + (A1.size : Int)))] rfl rfl (by kernel_rfl) (by kernel_rfl) rfl rfl (by kernel_rfl) rfl rfl ?_) | refine g_retq T (.inl rfl) rfl ?_ | refine g_retl T (.inl rfl) rfl ?_
        all_goals first
          | rfl
          | (rw [hwA, if_neg hi0, Int.add_zero]; exact decide_eq_true rfl)
          | (exfalso; rw [hwA, if_neg hi0, Int.add_zero] at h; simp at h; done)
          | (simp; done)
          | skip
  · have hk3 := hEr hf
    subst hk3
    clear hEr hU
    rcases hB with rfl | rfl | rfl
    all_goals
      refine fn_ok T Tryz.func6 (by kernel_rfl) rfl rfl rfl rfl fun C hC => ?_
      repeat' first | refine g_go T hC true 400 rfl rfl ?_ | (exfalso; simp at h; contradiction) | (exfalso; have h2 := of_decide_eq_true h; (try simp only [List.length_map] at h2); omega) | (exfalso; simp at h; done) | refine g_cond rfl (fun h => ?_) (fun h => ?_) | refine g_splitG rfl rfl rfl (fun h => ?_) (fun h => ?_) | refine g_splitP rfl rfl (fun h => ?_) (fun h => ?_) | refine g_call hC (awake10_ok) rfl rfl (LeSs.refl _) rfl rfl rfl ?_ | refine g_call hC (hP) rfl rfl (LeSs.refl _) rfl rfl rfl ?_ | refine g_call hC (hT) rfl rfl (LeSs.refl _) rfl rfl rfl ?_ | refine g_idx T hC rfl rfl rfl (Int.natCast_nonneg _) (map_at hget) rfl rfl ?_ | refine g_callR hC (hX) (nm [1006]) rfl rfl (LeSs.refl _) rfl rfl rfl rfl rfl rfl rfl rfl ?_ | (refine g_partH T hC ((l.take i).map tokR) rfl rfl rfl (Int.natCast_nonneg _) (by rw [List.length_map]; omega) (by rw [Int.toNat_natCast, List.map_take]) rfl rfl ?_) | refine g_call hC (hJ1) rfl rfl (LeSs.refl _) rfl rfl rfl ?_ | (refine g_partH T hC ((l.take (i + 1)).map tokR) (j := IntKind.i64.wrap ((i : Int) + 1)) rfl rfl rfl (by rw [hw]; exact Int.natCast_nonneg _) (by rw [hw, List.length_map]; omega) (by rw [hw, Int.toNat_natCast, List.map_take]) rfl rfl ?_) | refine g_call hC (hJ2) rfl rfl (LeSs.refl _) rfl rfl rfl ?_ | refine g_call hC (hPB) rfl rfl (LeSs.refl _) rfl rfl rfl ?_ | (refine g_cat hC rfl rfl (by omega) rfl rfl ?_) | (refine g_cat hC rfl rfl (by rw [size_app]; omega) rfl rfl ?_) | refine g_call hC (hPM) rfl rfl (LeSs.refl _) rfl rfl rfl ?_ | refine g_call hC (hTM) rfl rfl (LeSs.refl _) rfl rfl rfl ?_ | refine g_retq T (.inl rfl) rfl ?_ | refine g_retl T (.inl rfl) rfl ?_
      all_goals first
        | rfl
        | exact decide_eq_true rfl
        | (simp; done)
        | skip
end Hw.Pa
/- A laid variable that holds an interface value. -/
namespace Hw
open Go Go.Proofs
theorem iface_cell {P : Program} {W : World} {name nm : String} {d : DataW Unit} {rest : List (String × DataW Unit)} {g : Nat} {t : TypeId} {ms : Array (String × TypeId)}
    (hg : P.globalNamed name = some g) (hty : (P.globals[g]?).map (·.type) = some t) (ht : P.underlying t = some (.interface ms)) (h : laidMet P ((name, .iface nm d) :: rest) W) : ∃ u v, memOf W g 0 = some (.iface u v) := by
  obtain ⟨ps, ⟨g', t', cs, fuel, p, q, hg', ht', hvar, hd, _, _⟩, _⟩ := h
  obtain rfl := Option.some.inj (hg.symm.trans hg')
  obtain rfl := Option.some.inj (hty.symm.trans ht')
  have hc := World.var?_cell hg hvar 0
  unfold memOf
  rw [hc]
  cases fuel with
  | zero => simp [DataW.trod] at hd
  | succ fuel =>
    rw [← Array.getElem?_toList]
    generalize cs.toList = l at hd
    match l, hd with
    | [], hd => simp [DataW.trod, ht] at hd
    | v :: w :: r, hd => simp [DataW.trod, ht] at hd
    | [v], hd =>
      cases v with
      | iface u x => exact ⟨u, x, rfl⟩
      | _ => simp [DataW.trod, ht] at hd
end Hw
