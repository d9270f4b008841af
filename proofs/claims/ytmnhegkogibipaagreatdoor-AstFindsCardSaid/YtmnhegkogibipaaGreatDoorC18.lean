/- The library's functions at this program: their numbers. -/
import Derived.Test.YtmnhegkogibipaaGreatDoorProg
import Derived.KernelRfl
import Derived.Shelf.Sort.AssemblysIn
import Derived.Test.YtmnhegkogibipaaGreatDoorC17
import Derived.Test.YtmnhegkogibipaaGreatDoorC7
import Derived.Shelf.Slices.In.SortNone
import Derived.Sort.Walk0
import Derived.Test.YtmnhegkogibipaaGreatDoorC6
set_option linter.unusedVariables false
set_option linter.unusedSimpArgs false
namespace Hw.Z
open Go Go.Proofs Go.Shelf
def laysSort_ren : Go.Shelf.Ren := ⟨fun | 190 => 121 | 125 => 179 | 258 => 178 | 128 => 226 | 129 => 227 | 302 => 217 | 303 => 218 | 304 => 219 | 305 => 220 | 306 => 221 | 307 => 222 | 308 => 223 | 309 => 224 | 310 => 225 | 333 => 245 | 329 => 246 | 330 => 247 | 334 => 248 | 335 => 249 | 336 => 250 | 344 => 263 | n => n, fun | 31 => 99 | 9 => 9 | 3 => 3 | 46 => 212 | 0 => 0 | 51 => 254 | 53 => 220 | 4 => 4 | 183 => 248 | 182 => 247 | 131 => 181 | 5 => 5 | 218 => 270 | 222 => 93 | 228 => 289 | 229 => 290 | n => n, fun | n => n⟩
theorem laysSort : Go.Proofs.Lays.n190 Tryz.prog laysSort_ren where
  mixed := by kernel_rfl
  f125 := Tryz.func179.trans (congrArg some (by kernel_rfl))
  f128 := Tryz.func226.trans (congrArg some (by kernel_rfl))
  f129 := Tryz.func227.trans (congrArg some (by kernel_rfl))
  f190 := Tryz.func121.trans (congrArg some (by kernel_rfl))
  f258 := Tryz.func178.trans (congrArg some (by kernel_rfl))
  f302 := Tryz.func217.trans (congrArg some (by kernel_rfl))
  f303 := Tryz.func218.trans (congrArg some (by kernel_rfl))
  f304 := Tryz.func219.trans (congrArg some (by kernel_rfl))
  f305 := Tryz.func220.trans (congrArg some (by kernel_rfl))
  f306 := Tryz.func221.trans (congrArg some (by kernel_rfl))
  f307 := Tryz.func222.trans (congrArg some (by kernel_rfl))
  f308 := Tryz.func223.trans (congrArg some (by kernel_rfl))
  f309 := Tryz.func224.trans (congrArg some (by kernel_rfl))
  f310 := Tryz.func225.trans (congrArg some (by kernel_rfl))
  f329 := Tryz.func246.trans (congrArg some (by kernel_rfl))
  f330 := Tryz.func247.trans (congrArg some (by kernel_rfl))
  f333 := Tryz.func245.trans (congrArg some (by kernel_rfl))
  f334 := Tryz.func248.trans (congrArg some (by kernel_rfl))
  f335 := Tryz.func249.trans (congrArg some (by kernel_rfl))
  f336 := Tryz.func250.trans (congrArg some (by kernel_rfl))
  f344 := Tryz.func263.trans (congrArg some (by kernel_rfl))
  t0 := Tryz.underlying0
  a0 := Tryz.isAgg0
  z0 := Tryz.sizeOf0
  v0 := Tryz.zeroValue0
  t3 := Tryz.underlying3
  a3 := Tryz.isAgg3
  z3 := Tryz.sizeOf3
  v3 := Tryz.zeroValue3
  t4 := Tryz.underlying4
  a4 := Tryz.isAgg4
  z4 := Tryz.sizeOf4
  v4 := Tryz.zeroValue4
  t5 := Tryz.underlying5
  a5 := Tryz.isAgg5
  z5 := Tryz.sizeOf5
  v5 := Tryz.zeroValue5
  t9 := Tryz.underlying9
  a9 := Tryz.isAgg9
  z9 := Tryz.sizeOf9
  v9 := Tryz.zeroValue9
  t31 := Tryz.underlying99
  a31 := Tryz.isAgg99
  z31 := Tryz.sizeOf99
  v31 := Tryz.zeroValue99
  t46 := Tryz.underlying212
  a46 := Tryz.isAgg212
  z46 := Tryz.sizeOf212
  v46 := Tryz.zeroValue212
  t51 := Tryz.underlying254
  a51 := Tryz.isAgg254
  z51 := Tryz.sizeOf254
  v51 := Tryz.zeroValue254
  t53 := Tryz.underlying220
  a53 := Tryz.isAgg220
  z53 := Tryz.sizeOf220
  v53 := Tryz.zeroValue220
  t131 := Tryz.underlying181
  a131 := Tryz.isAgg181
  z131 := Tryz.sizeOf181
  v131 := Tryz.zeroValue181
  t182 := Tryz.underlying247
  a182 := Tryz.isAgg247
  z182 := Tryz.sizeOf247
  v182 := Tryz.zeroValue247
  t183 := Tryz.underlying248
  a183 := Tryz.isAgg248
  z183 := Tryz.sizeOf248
  v183 := Tryz.zeroValue248
  t218 := Tryz.underlying270
  a218 := Tryz.isAgg270
  z218 := Tryz.sizeOf270
  v218 := Tryz.zeroValue270
  t222 := Tryz.underlying93
  a222 := Tryz.isAgg93
  z222 := Tryz.sizeOf93
  v222 := Tryz.zeroValue93
  t228 := Tryz.underlying289
  a228 := Tryz.isAgg289
  z228 := Tryz.sizeOf289
  v228 := Tryz.zeroValue289
  t229 := Tryz.underlying290
  a229 := Tryz.isAgg290
  z229 := Tryz.sizeOf290
  v229 := Tryz.zeroValue290
end Hw.Z
namespace Hw.Z
open Go Go.Proofs Go.Shelf Hw.M

/-! slices.Sort of strings -/
def bytesOf (s : Str) : List UInt8 := s.data.toList
def ofBytes (b : List UInt8) : Str := ⟨b.toArray⟩
theorem of_bytes (s : Str) : ofBytes (bytesOf s) = s := by cases s; simp [ofBytes, bytesOf]
theorem bytes_of (b : List UInt8) : bytesOf (ofBytes b) = b := by simp [ofBytes, bytesOf]
def sortB (l : List Str) : List (List UInt8) := (l.map bytesOf).mergeSort fun x y => decide (x ≤ y)
def sortS (l : List Str) : List Str := (sortB l).map ofBytes
theorem sortS_len (l : List Str) : (sortS l).length = l.length := by simp [sortS, sortB, List.length_mergeSort]
theorem rep_strs (M : Mem) (ρ : Nat → Value) : ∀ l : List Str, RepVs M ρ ((l.map strR).flatten.map V.p) (l.map Value.string)
  | [] => by simp only [List.map_nil, List.flatten_nil, RepVs]
  | a :: l => by
    have ih := rep_strs M ρ l
    simp only [List.map_cons, List.flatten_cons, strR, ks, List.singleton_append, RepVs, RepV, RepPV]
    exact ⟨⟨trivial, rfl⟩, ih⟩
theorem strs_one (l : List Str) : ∀ r ∈ l.map strR, r.length = 1 := fun r hr => by obtain ⟨x, _, rfl⟩ := List.mem_map.1 hr; rfl
theorem of_strs {M : Mem} {g : Nat → Option Value} {l : List Str} {o : Nat} (h : RowsIn M g 1 (l.map strR) o) {j : Nat} {s : Str} (hj : l[j]? = some s) : g (o + j) = some (.string s) := by
  have := (h.get (i := j) (by rw [List.getElem?_map, hj]; rfl)).2
  rw [Nat.mul_one] at this
  simp only [strR, ks, RowIn, RepPV] at this
  obtain ⟨⟨c, h1, h2⟩, _⟩ := this
  rw [h1, h2.1]
theorem sort_ok (l : List Str) (hl : l.length ≤ 1000000) : FnOK Tryz.prog 121 [.one (.ar 0)] [(0, .arr 1 (l.map strR))] (.tup []) [(0, .arr 1 ((sortS l).map strR))] := by
  have hlm : (l.map strR).length = l.length := List.length_map _
  have hsl : ((sortS l).map strR).length = l.length := by rw [List.length_map, sortS_len]
  refine ⟨⟨_, Tryz.func121, by kernel_rfl, by kernel_rfl⟩, fun M ρ w xs hx hT hI hG => ?_⟩
  match xs, hx with
  | [x0], hx =>
    simp only [RepSs, RepS, RepV] at hx
    obtain ⟨⟨rfl, _⟩, _⟩ := hx
    obtain ⟨a, cap, e0, e1, e2, e3⟩ := hT.res 0 _ rfl
    rw [hlm] at e0 e1
    have only : ∀ i r, tg (tb [(0, Res.arr 1 ((sortS l).map strR))]) i = some r → i = 0 ∧ r = .arr 1 ((sortS l).map strR) := fun i r hi => by
      simp only [tb, tg_cons] at hi
      split at hi
      · rename_i e'; exact ⟨e'.symm, (Option.some.inj hi).symm⟩
      · cases hi
    have fin : ∀ (w' : World), HoldsR M ρ w' 0 (.arr 1 ((sortS l).map strR)) → (∀ k, ¬ Owns (tb [(0, Res.arr 1 (l.map strR))]) ρ k → k < w.heap.size → w'.heap[k]? = w.heap[k]?) → w.heap.size ≤ w'.heap.size → w'.os = w.os → w'.tape = w.tape → w'.output = w.output →
        Ret M ρ w [(0, Res.arr 1 (l.map strR))] (.tup []) [(0, .arr 1 ((sortS l).map strR))] (.tuple #[]) M ρ w' := fun w' hR hO hz h1 h2 h3 => by
      refine ⟨by simp only [RepS]; exact ⟨[], rfl, by simp only [RepSs]⟩, ⟨fun i r hi => ?_, fun i j ri rj b' hi hj hne _ _ => ?_, fun i r b' hi hb o => ?_⟩, fun b' o v hv => ?_, MLe.refl M, fun b' o v hv => .inl hv, fun b' hb => ?_, fun b' hb hn => hO b' hn hb, hz, h1, h2, h3, fun _ _ => rfl⟩
      · obtain ⟨rfl, rfl⟩ := only i r hi
        exact hR
      · obtain ⟨rfl, _⟩ := only i ri hi
        obtain ⟨rfl, _⟩ := only j rj hj
        exact (hne rfl).elim
      · obtain ⟨rfl, _⟩ := only i r hi
        exact hT.own 0 _ b' rfl hb o
      · have hne : ¬ Owns (tb [(0, Res.arr 1 (l.map strR))]) ρ b' := fun e => by
          obtain ⟨i, r, hi, hb⟩ := e
          rw [hT.own i r b' hi hb o] at hv; cases hv
        rw [cell_of_heap (hO b' hne (cell_lt (hI b' o v hv)))]; exact hI b' o v hv
      · obtain ⟨i, r, hi, hb⟩ := hb
        obtain ⟨rfl, _⟩ := only i r hi
        exact .inr ⟨0, _, rfl, hb⟩
    rw [e0]
    rcases e3 with ⟨rfl, hc0⟩ | ⟨b, o, cs, el, fz, rfl, f1, f2, f3, f4⟩
    · have h0 : l = [] := List.length_eq_zero_iff.1 (by omega)
      subst h0
      refine (Any.slices_Sort_string_none laysSort none cap w).mono ?_
      rintro e w' ⟨he, rfl⟩
      exact ⟨_, M, ρ, he, fin _ ⟨none, cap, by rw [e0, hsl], by rw [hsl]; exact e1, e2, .inl ⟨rfl, hc0⟩⟩ (fun _ _ _ => rfl) (Nat.le_refl _) rfl rfl rfl⟩
    · have hlt : b < w.heap.size := (Array.getElem?_eq_some_iff.1 f1).1
      have hbl : (l.map bytesOf).length = l.length := List.length_map _
      have hH : Go.Sort.Holds Go.Proofs.encStr w b o (l.map bytesOf).toArray := fun j hj => by
        have hj' : j < l.length := by simpa using hj
        obtain ⟨s, hs⟩ := exists_at hj'
        have e : (l.map bytesOf).toArray[j]! = bytesOf s := by
          have : (l.map bytesOf)[j]? = some (bytesOf s) := by rw [List.getElem?_map, hs]; rfl
          simp [this]
        have hg := of_strs f4 hs
        have hjs : o + j < cs.size := (Array.getElem?_eq_some_iff.1 hg).1
        refine ⟨?_, by simp only [World.frozen?, f1]; exact f2 _ hjs⟩
        rw [e]
        simp only [World.cell?, f1, Option.isSome_none, Bool.false_eq_true, if_false, hg]
        show some (Value.string s) = some (Value.string (ofBytes (bytesOf s)))
        rw [of_bytes]
      have hc := calls_of_every_depth fun D => AnyS.slices_Sort_string_in laysSort D b o cap (l.map bytesOf) w hH hlt (by rw [hbl]; omega)
      rw [hbl] at hc
      refine hc.mono ?_
      rintro e w' ⟨he, n, os, rfl⟩
      have hmod : ∀ k, k < w.heap.size → (Go.Sort.grow (Go.Sort.putRow Go.Proofs.encStr (Go.Sort.ahead w n) b o (sortB l).toArray) os).heap[k]? = (w.heap.modify b (Go.Sort.onCells (Go.Sort.putCells Go.Proofs.encStr o (sortB l).toArray)))[k]? := fun k hk => by
        show (w.heap.modify b (Go.Sort.onCells (Go.Sort.putCells Go.Proofs.encStr o (sortB l).toArray)) ++ os)[k]? = _
        rw [Array.getElem?_append_left (by simpa using hk)]
      have hB := hmod b hlt
      rw [Array.getElem?_modify, if_pos rfl, f1] at hB
      simp only [Option.map_some, Go.Sort.onCells] at hB
      have hbs : (sortB l).length = l.length := by simp [sortB, List.length_mergeSort]
      have hps : (Go.Sort.putCells Go.Proofs.encStr o (sortB l).toArray cs).size = cs.size := by simp [Go.Sort.putCells]
      refine ⟨_, M, ρ, he, fin _ ⟨some ⟨b, o, none⟩, cap, by rw [e0, hsl], by rw [hsl]; exact e1, e2, .inr ⟨b, o, _, el, fz, rfl, hB, by rw [hps]; exact f2, by rw [hps]; exact f3, ?_⟩⟩ (fun k hk hks => ?_) ?_ rfl rfl rfl⟩
      · refine ints_rows (strs_one _) (rep_strs M _ (sortS l)) fun j c hj => ?_
        rw [List.getElem?_map, Option.map_eq_some_iff] at hj
        obtain ⟨s, hs, rfl⟩ := hj
        rw [sortS, List.getElem?_map, Option.map_eq_some_iff] at hs
        obtain ⟨q, hq, rfl⟩ := hs
        have hjl : j < l.length := by have := (List.getElem?_eq_some_iff.1 hq).1; omega
        have hjs : o + j < cs.size := by omega
        rw [Go.Sort.putCells, Array.getElem?_mapIdx, Array.getElem?_eq_getElem hjs, Option.map_some, if_pos ⟨by omega, by simp only [List.size_toArray, hbs]; omega⟩]
        have : (sortB l).toArray[o + j - o]! = q := by
          rw [show o + j - o = j by omega]; simp [hq]
        rw [this]; rfl
      · refine (hmod k hks).trans ?_
        rw [Array.getElem?_modify, if_neg (fun e => hk ⟨0, _, rfl, by rw [e0, ← e]; rfl⟩)]
      · show w.heap.size ≤ (w.heap.modify b _ ++ os).size
        simp
  | [], hx => simp [RepSs] at hx
  | _ :: _ :: _, hx => simp [RepSs] at hx
end Hw.Z
namespace Hw.Z
open Go Go.Proofs Hw.M

/-! AstFinds: the names of calls, sorted: plain -/
def keysM (m : List (Str × PV)) : List Str := m.map (·.1)
def ltS (a b : Str) : Prop := lessS a b = true
theorem lessS_iff (a b : Str) : lessS a b = decide (bytesOf a < bytesOf b) := by
  unfold lessS bytesOf
  rw [bytesLess_eq, Lib.toList_data, Lib.toList_data]
theorem ltS_iff {a b : Str} : ltS a b ↔ bytesOf a < bytesOf b := by unfold ltS; rw [lessS_iff]; simp
theorem bytes_inj {a b : Str} (h : bytesOf a = bytesOf b) : a = b := by rw [← of_bytes a, ← of_bytes b, h]
theorem ltS_trans {a b c : Str} (h : ltS a b) (h' : ltS b c) : ltS a c := by rw [ltS_iff] at *; exact List.lt_trans h h'
theorem ltS_irr {a : Str} (h : ltS a a) : False := by rw [ltS_iff] at h; exact List.lt_irrefl _ h
theorem ltS_tot {a b : Str} (h : lessS a b = false) (hne : b ≠ a) : ltS b a := by
  rw [lessS_iff] at h
  have h1 : ¬ bytesOf a < bytesOf b := of_decide_eq_false h
  rw [ltS_iff]
  have h2 : bytesOf b ≤ bytesOf a := h1
  rcases List.le_iff_lt_or_eq.1 h2 with h3 | h3
  · exact h3
  · exact absurd (bytes_inj h3) hne
theorem put_keys (m : List (Str × PV)) (s : Str) (v : PV) : (s ∈ keysM m ∧ keysM (putK m s v) = keysM m) ∨ (s ∉ keysM m ∧ keysM (putK m s v) = keysM m ++ [s]) := by
  induction m with
  | nil => exact .inr ⟨by simp [keysM], by simp [keysM, putK]⟩
  | cons x r ih =>
    obtain ⟨a, b⟩ := x
    by_cases h : a = s
    · subst h; exact .inl ⟨by simp [keysM], by simp [keysM, putK]⟩
    · have h' : ¬ s = a := fun e => h e.symm
      have e : keysM (putK ((a, b) :: r) s v) = a :: keysM (putK r s v) := by simp [keysM, putK, h]
      have e2 : keysM ((a, b) :: r) = a :: keysM r := rfl
      rw [e, e2]
      rcases ih with ⟨h1, h2⟩ | ⟨h1, h2⟩
      · exact .inl ⟨List.mem_cons_of_mem _ h1, by rw [h2]⟩
      · refine .inr ⟨fun hm => ?_, by rw [h2]; rfl⟩
        rcases List.mem_cons.1 hm with hm | hm
        · exact h' hm
        · exact h1 hm
def AscS (l : List Str) : Prop := l.Pairwise ltS
theorem insF_mem (s : Str) : ∀ (l : List Str) (q : List Str × Bool), (q.2 = true → s ∈ q.1) → ∀ x, x ∈ insE s (insF s l q) ↔ x = s ∨ x ∈ q.1 ∨ x ∈ l
  | [], q, hq, x => by
    show x ∈ insE s q ↔ _
    unfold insE
    by_cases h : q.2 = true
    · rw [if_pos h]
      constructor
      · intro hx; exact .inr (.inl hx)
      · rintro (rfl | hx | hx)
        · exact hq h
        · exact hx
        · cases hx
    · rw [if_neg h]; simp only [List.mem_append, List.mem_singleton, List.not_mem_nil, or_false]; exact Or.comm
  | y :: r, q, hq, x => by
    simp only [insF]
    by_cases h : q.2 = false ∧ lessS s y = true
    · rw [if_pos h, insF_mem s r _ (fun _ => by simp)]
      simp only [List.mem_append, List.mem_cons, List.not_mem_nil, or_false]
      constructor
      · rintro (h | (h | h | h) | h) <;> simp [h]
      · rintro (h | h | h | h) <;> simp [h]
    · rw [if_neg h, insF_mem s r _ (fun e => by have := hq e; simp [this])]
      simp only [List.mem_append, List.mem_cons, List.not_mem_nil, or_false]
      constructor
      · rintro (h | (h | h) | h) <;> simp [h]
      · rintro (h | h | h | h) <;> simp [h]
theorem insS_mem (l : List Str) (s x : Str) : x ∈ insS l s ↔ x = s ∨ x ∈ l := by
  unfold insS
  by_cases h : (l.any fun x => decide (x = s)) = true
  · rw [if_pos h]
    obtain ⟨y, hy, e⟩ := List.any_eq_true.1 h
    have := of_decide_eq_true e; subst this
    constructor
    · exact .inr
    · rintro (rfl | h)
      · exact hy
      · exact h
  · rw [if_neg h, insF_mem s l _ (fun e => by cases e)]; simp
theorem insF_asc (s : Str) : ∀ (l out : List Str), AscS (out ++ l) → (∀ x ∈ out, ltS x s) → s ∉ l → AscS (insE s (insF s l (out, false)))
  | [], out, h, ho, _ => by
    show AscS (insE s (out, false))
    have e : insE s (out, false) = out ++ [s] := rfl
    rw [e]
    unfold AscS at h ⊢
    rw [List.append_nil] at h
    rw [List.pairwise_append]
    exact ⟨h, by simp, fun x hx y hy => by simp only [List.mem_singleton] at hy; subst hy; exact ho x hx⟩
  | y :: r, out, h, ho, hs => by
    have hys : y ≠ s := fun e => hs (by rw [e]; simp)
    simp only [insF]
    by_cases hl : lessS s y = true
    · rw [if_pos ⟨trivial, hl⟩, insF_true]
      have e : insE s (out ++ [s, y] ++ r, true) = out ++ (s :: y :: r) := by simp [insE]
      rw [e]
      unfold AscS at h ⊢
      rw [List.pairwise_append] at h ⊢
      obtain ⟨h1, h2, h3⟩ := h
      refine ⟨h1, List.pairwise_cons.2 ⟨fun x hx => ?_, h2⟩, fun x hx z hz => ?_⟩
      · rcases List.mem_cons.1 hx with rfl | hx
        · exact hl
        · exact ltS_trans hl ((List.pairwise_cons.1 h2).1 x hx)
      · rcases List.mem_cons.1 hz with rfl | hz
        · exact ho x hx
        · exact h3 x hx z hz
    · rw [if_neg (fun e => hl e.2)]
      have hf : lessS s y = false := by simpa using hl
      refine insF_asc s r (out ++ [y]) (by rw [List.append_assoc]; exact h) (fun x hx => ?_) (fun e => hs (List.mem_cons_of_mem _ e))
      rcases List.mem_append.1 hx with hx | hx
      · exact ho x hx
      · simp only [List.mem_singleton] at hx; subst hx
        exact ltS_tot hf hys
theorem insS_asc {l : List Str} (s : Str) (h : AscS l) : AscS (insS l s) := by
  unfold insS
  by_cases hc : (l.any fun x => decide (x = s)) = true
  · rw [if_pos hc]; exact h
  · rw [if_neg hc]
    refine insF_asc s l [] h (fun x hx => by cases hx) fun hm => hc (List.any_eq_true.2 ⟨s, hm, by simp⟩)
/-- The map and the list name the same, each once. -/
structure SameN (m : List (Str × PV)) (a : List Str) : Prop where
  mem : ∀ x, x ∈ keysM m ↔ x ∈ a
  nd : (keysM m).Nodup
  asc : AscS a
theorem SameN.step {m : List (Str × PV)} {a : List Str} (h : SameN m a) (s : Str) (v : PV) : SameN (putK m s v) (insS a s) := by
  refine ⟨fun x => ?_, ?_, insS_asc s h.asc⟩
  · rw [insS_mem, ← h.mem]
    rcases put_keys m s v with ⟨h1, h2⟩ | ⟨h1, h2⟩
    · rw [h2]
      constructor
      · exact .inr
      · rintro (rfl | e)
        · exact h1
        · exact e
    · rw [h2, List.mem_append, List.mem_singleton]; exact Or.comm
  · rcases put_keys m s v with ⟨h1, h2⟩ | ⟨h1, h2⟩
    · rw [h2]; exact h.nd
    · rw [h2, List.nodup_append]
      exact ⟨h.nd, by simp, fun x hx y hy e => by simp only [List.mem_singleton] at hy; subst hy; subst e; exact h1 hx⟩
mutual
theorem sameX : ∀ (x : Ex) {m : List (Str × PV)} {a : List Str}, SameN m a → SameN (clsX x m) (nmX x a)
  | .mk op _ s l, m, a, h => by
    simp only [clsX, nmX]
    by_cases h7 : op = 7
    · rw [if_pos h7, if_pos h7]; exact sameXs l (h.step s _)
    · rw [if_neg h7, if_neg h7]; exact sameXs l h
theorem sameXs : ∀ (l : List Ex) {m : List (Str × PV)} {a : List Str}, SameN m a → SameN (clsXs l m) (nmXs l a)
  | [], _, _, h => by simpa only [clsXs, nmXs] using h
  | x :: r, _, _, h => by simp only [clsXs, nmXs]; exact sameXs r (sameX x h)
end
mutual
theorem sameS2 : ∀ (x : Sm) {m : List (Str × PV)} {a : List Str}, SameN m a → SameN (clsS x m) (nmS x a)
  | .mk _ _ e l els, m, a, h => by simp only [clsS, nmS]; exact sameSs2 els (sameSs2 l (sameXs e h))
theorem sameSs2 : ∀ (l : List Sm) {m : List (Str × PV)} {a : List Str}, SameN m a → SameN (clsSs l m) (nmSs l a)
  | [], _, _, h => by simpa only [clsSs, nmSs] using h
  | x :: r, _, _, h => by simp only [clsSs, nmSs]; exact sameSs2 r (sameS2 x h)
end
theorem same_calls (l : List Sm) : SameN (clsSs l []) (nmSs l []) := sameSs2 l ⟨fun x => by simp [keysM], by simp [keysM], List.Pairwise.nil⟩
theorem le_tr (a b c : List UInt8) : decide (a ≤ b) = true → decide (b ≤ c) = true → decide (a ≤ c) = true := fun h h' => decide_eq_true (List.le_trans (of_decide_eq_true h) (of_decide_eq_true h'))
theorem le_tot (a b : List UInt8) : (decide (a ≤ b) || decide (b ≤ a)) = true := by
  rcases List.le_total a b with h | h <;> simp [h]
theorem sort_names {m : List (Str × PV)} {a l : List Str} (h : SameN m a) (hp : l.Perm (keysM m)) : sortS l = a := by
  have hnd : a.Nodup := h.asc.imp fun {x y} hxy e => by subst e; exact ltS_irr hxy
  have hpa : l.Perm a := hp.trans ((List.perm_ext_iff_of_nodup h.nd hnd).2 h.mem)
  have hs : (a.map bytesOf).Pairwise fun x y => decide (x ≤ y) = true := by
    rw [List.pairwise_map]
    exact h.asc.imp fun {x y} hxy => decide_eq_true (List.le_of_lt (ltS_iff.1 hxy))
  have h1 : sortB l = a.map bytesOf := by
    have p1 : (sortB l).Perm (a.map bytesOf) := (List.mergeSort_perm _ _).trans (hpa.map _)
    refine p1.eq_of_pairwise (le := fun x y => decide (x ≤ y) = true) (fun x y _ _ e1 e2 => List.le_antisymm (of_decide_eq_true e1) (of_decide_eq_true e2)) (List.pairwise_mergeSort le_tr le_tot _) hs
  unfold sortS
  rw [h1, List.map_map]
  have : (ofBytes ∘ bytesOf) = id := by funext x; exact of_bytes x
  rw [this, List.map_id]
end Hw.Z
namespace Hw.Z
open Go Go.Proofs Hw.M

/-! AstFinds: ast.Calls of what is no procedure -/
theorem calls_no {p : Pr} (h : procOk p = false) : FnOK Tryz.prog 54 [aggS (procR p)] [] (.tup [pS (strsP []), I 1]) [] := by
  have hV := astProcedure_ok p
  rw [h] at hV
  refine fn_ok T Tryz.func54 (by kernel_rfl) rfl rfl rfl rfl fun C hC => ?_
  repeat' first
    | refine g_go T hC true 400 rfl rfl ?_
    | refine g_cond rfl (fun h => ?_) (fun h => ?_)
    | refine g_end T hC (by kernel_rfl) ?_
    | refine g_splitD (fun h => ?_) (fun h => ?_)
    | refine g_splitG rfl rfl rfl (fun h => ?_) (fun h => ?_)
    | refine g_splitP rfl rfl (fun h => ?_) (fun h => ?_)
    | refine g_call hC (hV) rfl rfl (LeSs.refl _) rfl rfl rfl ?_
  all_goals first
    | exact g_fin ⟨.inl rfl, id, _, rfl, LeS.tup (.cons (LeS.one (.nil 1)) (.cons (.refl _) .nil)), trivial, rfl, rfl⟩
    | (exfalso; simp_all; done)
end Hw.Z
