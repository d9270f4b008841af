/- The engine and the contracts. -/
import Derived.Test.YtnijeifpjjeccaaGreatDoorC8
import Derived.Test.YtnijeifpjjeccaaGreatDoorC3
set_option linter.unusedVariables false
set_option linter.unusedSimpArgs false
namespace Hw.Mq
open Go Go.Proofs Go.Shelf Go.RowKit Hw.M

/-! slices.Insert of a row, all roads; grids -/
theorem insV_len {xs : List Value} {i : Nat} {v : Value} (h : i ≤ xs.length) : (insV xs i v).length = xs.length + 1 := by simp only [insV, List.length_append, List.length_take, List.length_cons, List.length_drop]; omega
theorem insV_at {xs : List Value} {i : Nat} {v : Value} (h : i ≤ xs.length) {j : Nat} {u : Value} (hj : (insV xs i v)[j]? = some u) : (j < i ∧ xs[j]? = some u) ∨ (j = i ∧ u = v) ∨ (i < j ∧ xs[j - 1]? = some u) := by
  have htl : (xs.take i).length = i := by rw [List.length_take]; omega
  unfold insV at hj
  rcases Nat.lt_or_ge j i with h1 | h1
  · rw [List.getElem?_append_left (by omega), List.getElem?_take, if_pos h1] at hj
    exact .inl ⟨h1, hj⟩
  · rw [List.getElem?_append_right (by omega), htl] at hj
    rcases Nat.eq_or_lt_of_le h1 with h2 | h2
    · subst h2
      rw [Nat.sub_self, List.getElem?_cons_zero] at hj
      exact .inr (.inl ⟨rfl, (Option.some.inj hj).symm⟩)
    · rw [show j - i = (j - i - 1) + 1 by omega, List.getElem?_cons_succ, List.getElem?_drop, show i + (j - i - 1) = j - 1 by omega] at hj
      exact .inr (.inr ⟨h2, hj⟩)
theorem ins_any {w : World} {a : Option Addr} {cap vb vc i : Nat} {xs : List Value} {v : Value} (hi : i ≤ xs.length) (hl : xs.length ≤ 1000000) (hnc : xs.length ≤ cap) (hc63 : cap ≤ 9223372036854775807) (h1c : ∀ u ∈ xs, u.oneCell' = true) (h1v : v.oneCell' = true)
    (hrow : (a = none ∧ cap = 0) ∨ ∃ (b o : Nat) (cs : Array Value) (el : TypeId) (fz : Nat × Nat), a = some ⟨b, o, none⟩ ∧ w.heap[b]? = some (.cells cs el fz) ∧ Unfrozen fz cs.size ∧ o + cap ≤ cs.size ∧ ∀ (j : Nat) u, xs[j]? = some u → cs[o + j]? = some u)
    {elv : TypeId} (hbox : w.heap[vb]? = some (.cells #[v] elv (0, 0))) (hne : ∀ b, blk (.slice a xs.length cap) = some b → vb ≠ b) (hvc : 1 ≤ vc) :
    Calls Tryz.prog 78 #[.slice a xs.length cap, .int .i64 i, .slice (some ⟨vb, 0, none⟩) 1 vc] w fun e w' => ∃ r, e = .returned r ∧ RowDone w w' (blk (.slice a xs.length cap)) (insV xs i v) r := by
  obtain ⟨i0, hi0, hzs, hz0, hzb⟩ := info_sl
  have hv : w.cell? ⟨vb, 0, none⟩ = some v := by simp [World.cell?, hbox]
  have hil := insV_len (v := v) hi
  have hz1 : (Value.slice none 0 0).cells.size = 1 := rfl
  have hsrc : Src Tryz.prog 1 39 (.slice (some ⟨vb, 0, none⟩) 1 vc) 1 [v] w := Src.ofSlice w Tryz.underlying39 ⟨vb, 0, none⟩ 1 vc [v] rfl (fun j u hj => by
    match j, hj with
    | 0, hj => simp only [List.getElem?_cons_zero, Option.some.injEq] at hj; subst hj; exact hv) (fun u hu => by rw [List.mem_singleton.1 hu]; exact h1v)
  rcases Nat.eq_or_lt_of_le hi with rfl | hlt
  · -- at the end
    have hins : insV xs xs.length v = xs ++ [v] := by simp [insV]
    rcases Nat.lt_or_ge cap (xs.length + 1) with hroom | hroom
    · have hold : (Builtin.firstCells i0.size xs.length (.slice a xs.length cap)).run Tryz.prog w.drew = .ok xs.toArray w.drew := by
        rw [hzs]
        rcases hrow with ⟨rfl, hc⟩ | ⟨b, o, cs, el, fz, rfl, k1, k2, k3, k4⟩
        · have h0 : xs = [] := List.length_eq_zero_iff.1 (by omega)
          subst h0
          exact run_firstCells_none w.drew 1 0 0 cap
        · exact run_firstCells_some w.drew 1 xs.length ⟨b, o, none⟩ xs.length cap xs (by omega) (fun j u hj => by
            rw [Addr.add_lit]
            have k1' : w.drew.heap[b]? = some (.cells cs el fz) := k1
            simp [World.cell?, k1', k4 j u hj])
      have hrun : ∀ ty, (Builtin.append_ #[39, 39] ty #[.slice a xs.length cap, .slice (some ⟨vb, 0, none⟩) 1 vc]).run Tryz.prog w = _ := fun ty =>
        run_append_grow_src w 39 39 ty 22 i0 _ Tryz.underlying39 hi0 hz0 a xs.length cap xs hold _ 1 [v] (by rw [hzs]; exact hsrc) hroom (by omega) (by rw [hzb]; exact growslice_fits hroom (by omega))
      refine (ins_end a xs.length cap vb vc v _ w _ hnc hc63 hrun).mono ?_
      rintro e w' ⟨he, rfl⟩
      have hcap := grownCap_ge w (xs.length + 1) cap 22
      have hmx := grownCap_le_maxLen w (xs.length + 1) cap 22 (by unfold maxLen; omega)
      unfold maxLen at hmx
      refine ⟨_, he, w.heap.size, 0, grownCap w (xs.length + 1) cap 22, _, 22, (0, 0), by rw [hil], heap_push_new w.drew _, fun i _ => by simp, ?_, by rw [hil]; exact hcap, by omega, fun j u hj => ?_, .inl (Nat.le_refl _), fun k hk _ => heap_push_old w.drew _ k hk, by simp, rfl, rfl, rfl⟩
      · simp only [Array.size_append, List.size_toArray, List.length_append, List.length_singleton, size_zeroCells, hz1]
        omega
      · rw [hins] at hj
        have hjl := (List.getElem?_eq_some_iff.1 hj).1
        rw [Nat.zero_add, Array.getElem?_append_left (by simp at hjl ⊢; omega)]
        simpa using hj
    · rcases hrow with ⟨rfl, hc⟩ | ⟨b, o, cs, el, fz, rfl, k1, k2, k3, k4⟩
      · omega
      have hrun : ∀ ty, (Builtin.append_ #[39, 39] ty #[.slice (some ⟨b, o, none⟩) xs.length cap, .slice (some ⟨vb, 0, none⟩) 1 vc]).run Tryz.prog w = .ok (.slice (some ⟨b, o, none⟩) (xs.length + 1) cap) (w.setRow b (setAt cs.toList (o + xs.length) [v]).toArray) := fun ty => by
        have hst := run_storeCells_blk (P := Tryz.prog) b (o + xs.length * 1) el fz [v] 0 cs w k1 k2 (by simp; omega) hsrc.one
        have hl := hsrc.len w
        have hc := hsrc.cells
        rw [Nat.mul_one] at hst
        simp [Builtin.append_, run_underlying Tryz.underlying39, Go.sizeOf, typeInfo, hi0, hzs, hl, hc, hroom, add_addr, hst]
      refine (ins_end (some ⟨b, o, none⟩) xs.length cap vb vc v _ w _ hnc hc63 hrun).mono ?_
      rintro e w' ⟨he, rfl⟩
      have hsl : (setAt cs.toList (o + xs.length) [v]).length = cs.size := by rw [setAt_length _ _ _ (by simp; omega)]; simp
      refine ⟨_, he, b, o, cap, _, el, fz, by rw [hil], setRow_heap w b cs _ el fz k1, by simp only [List.size_toArray, hsl]; exact k2, by simp only [List.size_toArray, hsl]; exact k3, by rw [hil]; exact hroom, hc63, fun j u hj => ?_, .inr rfl, fun k hk hne => heap_setRow_other w b _ k fun e => hne (by rw [e]; rfl), by simp [World.setRow], rfl, rfl, rfl⟩
      simp only [List.getElem?_toArray]
      rw [setAt_get _ _ _ _ (by simp; omega)]
      simp only [List.length_singleton]
      rcases insV_at hi hj with ⟨h1, h2⟩ | ⟨rfl, rfl⟩ | ⟨h1, h2⟩
      · rw [if_pos (by omega)]; simpa using k4 j u h2
      · rw [if_neg (by omega), if_pos (by omega), Nat.sub_self]; rfl
      · have := (List.getElem?_eq_some_iff.1 h2).1; omega
  · -- within
    rcases hrow with ⟨rfl, hc⟩ | ⟨b, o, cs, el, fz, rfl, k1, k2, k3, k4⟩
    · omega
    have hcell : ∀ (j : Nat) u, xs[j]? = some u → w.cell? ⟨b, o + j, none⟩ = some u := fun j u hj => by simp [World.cell?, k1, k4 j u hj]
    have hvb : vb ≠ b := hne b rfl
    have hdl : (xs.drop i).length = xs.length - i := List.length_drop
    rcases Nat.lt_or_ge cap (xs.length + 1) with hroom | hroom
    · refine (ins_grow b o xs.length cap i vb vc xs v w hlt hnc hroom (by omega) rfl hcell hv h1c h1v).mono ?_
      rintro e w' ⟨he, rfl⟩
      have hcap := grownCap_ge w (xs.length + 1) cap 22
      have hmx := grownCap_le_maxLen w (xs.length + 1) cap 22 (by unfold maxLen; omega)
      unfold maxLen at hmx
      generalize grownCap w (xs.length + 1) cap 22 = G at *
      have htk : (xs.take i).length = i := by rw [List.length_take]; omega
      generalize hcur : ((xs.take i).toArray ++ Builtin.zeroCells (Value.slice none 0 0).cells (xs.length + 1 - i) ++ Builtin.zeroCells (Value.slice none 0 0).cells (G - (xs.length + 1))) = cur
      have hcs : cur.size = G := by
        rw [← hcur]; simp only [Array.size_append, List.size_toArray, htk, size_zeroCells, hz1, Nat.mul_one]; omega
      have hcl : ∀ j, j < i → cur[j]? = xs[j]? := fun j hj => by
        rw [← hcur, Array.getElem?_append_left (by simp only [Array.size_append, List.size_toArray, htk]; omega), Array.getElem?_append_left (by simp only [List.size_toArray, htk]; exact hj), List.getElem?_toArray, List.getElem?_take, if_pos hj]
      have w1 : (w.alloc (.cells cur 22)).drew.heap[w.heap.size]? = some (.cells cur 22 (0, 0)) := heap_push_new w _
      have r1 := setCells_row w.heap.size _ (0, 0) [v] i cur _ w1 (by rw [hcs]; simp; omega)
      rw [r1]
      have hs1 : (setAt cur.toList i [v]).length = G := by rw [setAt_length _ _ _ (by simp [hcs]; omega)]; simpa using hcs
      have w2 : ((w.alloc (.cells cur 22)).drew.setRow w.heap.size (setAt cur.toList i [v]).toArray).drew.heap[w.heap.size]? = some (.cells (setAt cur.toList i [v]).toArray 22 (0, 0)) := setRow_heap _ _ cur _ _ _ w1
      have r2 := setCells_row w.heap.size _ (0, 0) (xs.drop i) (i + 1) _ _ w2 (by simp only [List.size_toArray, hs1, hdl]; omega)
      rw [r2]
      have hs2 : (setAt (setAt cur.toList i [v]) (i + 1) (xs.drop i)).length = G := by rw [setAt_length _ _ _ (by rw [hs1, hdl]; omega)]; exact hs1
      refine ⟨_, he, w.heap.size, 0, G, _, 22, (0, 0), by rw [hil], setRow_heap _ _ _ _ _ _ w2, fun i _ => by simp, by simp only [List.size_toArray, hs2]; omega, by rw [hil]; exact hcap, by omega, fun j u hj => ?_, .inl (Nat.le_refl _), fun k hk _ => ?_, ?_, rfl, rfl, rfl⟩
      · simp only [List.getElem?_toArray, Nat.zero_add]
        rw [setAt_get _ _ _ _ (by rw [hs1]; omega), setAt_get _ _ _ _ (by simp [hcs]; omega)]
        simp only [List.length_singleton, hdl]
        rcases insV_at hi hj with ⟨g1, g2⟩ | ⟨rfl, rfl⟩ | ⟨g1, g2⟩
        · rw [if_pos (by omega), if_pos g1]; rw [← hcl j g1] at g2; simpa using g2
        · rw [if_pos (by omega), if_neg (by omega), if_pos (by omega), Nat.sub_self]; rfl
        · have := (List.getElem?_eq_some_iff.1 g2).1
          rw [if_neg (by omega), if_pos (by omega), List.getElem?_drop, show i + (j - (i + 1)) = j - 1 by omega]; exact g2
      · rw [heap_setRow_other _ _ _ _ (by omega)]
        show ((w.alloc (.cells cur 22)).drew.setRow w.heap.size (setAt cur.toList i [v]).toArray).heap[k]? = _
        rw [heap_setRow_other _ _ _ _ (by omega)]
        exact heap_push_old w _ k hk
      · simp [World.setRow]
    · refine (ins_shift b o xs.length cap i vb vc xs v w hlt hroom hc63 hvb rfl hcell (fun j hj => by simp [World.cell?, k1]; omega) (fun j hj => by simp only [World.frozen?, k1]; exact k2 _ (by omega)) hv h1c h1v elv el 1 cs.size
        (by simp [World.shape?, hbox]) (by simp [World.shape?, k1]) (by omega) (by simp [World.frozen?, hbox]) (by simp [World.frozen?, hbox])).mono ?_
      rintro e w' ⟨he, rfl⟩
      have w1 : w.drew.heap[b]? = some (.cells cs el fz) := k1
      have r1 := setCells_row b _ fz (xs.drop i) (o + (i + 1)) cs _ w1 (by rw [hdl]; omega)
      rw [r1]
      have hs1 : (setAt cs.toList (o + (i + 1)) (xs.drop i)).length = cs.size := by rw [setAt_length _ _ _ (by rw [hdl]; simp; omega)]; simp
      have w2 := setRow_heap w.drew b cs (setAt cs.toList (o + (i + 1)) (xs.drop i)).toArray _ _ w1
      have r2 := setCells_row b _ fz [v] (o + i) _ _ w2 (by simp only [List.size_toArray, hs1, List.length_singleton]; omega)
      rw [r2]
      have hs2 : (setAt (setAt cs.toList (o + (i + 1)) (xs.drop i)) (o + i) [v]).length = cs.size := by rw [setAt_length _ _ _ (by rw [hs1, List.length_singleton]; omega)]; exact hs1
      refine ⟨_, he, b, o, cap, _, el, fz, by rw [hil], setRow_heap _ b _ _ _ _ w2, by simp only [List.size_toArray, hs2]; exact k2, by simp only [List.size_toArray, hs2]; exact k3, by rw [hil]; exact hroom, hc63, fun j u hj => ?_, .inr rfl, fun k hk hne => ?_, by simp [World.setRow], rfl, rfl, rfl⟩
      · simp only [List.getElem?_toArray]
        rw [setAt_get _ _ _ _ (by rw [hs1]; omega), setAt_get _ _ _ _ (by simp; omega)]
        simp only [List.length_singleton, hdl]
        rcases insV_at hi hj with ⟨g1, g2⟩ | ⟨rfl, rfl⟩ | ⟨g1, g2⟩
        · rw [if_pos (by omega), if_pos (by omega)]; simpa using k4 j u g2
        · rw [if_neg (by omega), if_pos (by omega), Nat.sub_self]; rfl
        · have := (List.getElem?_eq_some_iff.1 g2).1
          rw [if_neg (by omega), if_neg (by omega), if_neg (by omega), if_pos (by omega), List.getElem?_drop, show i + (o + j - (o + (i + 1))) = j - 1 by omega]; exact g2
      · have hkb : k ≠ b := fun e => hne (by rw [e]; rfl)
        rw [heap_setRow_other _ _ _ _ hkb, heap_setRow_other _ _ _ _ hkb]; rfl
end Hw.Mq
namespace Hw.Mq
open Go Go.Proofs Go.Shelf Hw.M

/-! grids of integers: slices.Insert -/
theorem insL_at {α : Type} {l : List α} {i : Nat} {x : α} (hi : i ≤ l.length) (j : Nat) : (l.take i ++ x :: l.drop i)[j]? = if j < i then l[j]? else if j = i then some x else l[j - 1]? := by
  have htl : (l.take i).length = i := by rw [List.length_take]; omega
  by_cases h1 : j < i
  · rw [if_pos h1, List.getElem?_append_left (by omega), List.getElem?_take, if_pos h1]
  · rw [if_neg h1, List.getElem?_append_right (by omega), htl]
    by_cases h2 : j = i
    · subst h2; rw [if_pos rfl, Nat.sub_self]; rfl
    · rw [if_neg h2, show j - i = (j - i - 1) + 1 by omega, List.getElem?_cons_succ, List.getElem?_drop, show i + (j - i - 1) = j - 1 by omega]
theorem insR_len {R : Rws} {i : Nat} {x : Rw} (h : i ≤ R.length) : (insR R i x).length = R.length + 1 := by simp only [insR, List.length_append, List.length_take, List.length_cons, List.length_drop]; omega
theorem insR_map (R : Rws) (i : Nat) (x : Rw) : ((insR R i x).map fun r => r.map intR) = (R.map fun r => r.map intR).take i ++ x.map intR :: (R.map fun r => r.map intR).drop i := by
  simp only [insR, List.map_append, List.map_cons, List.map_take, List.map_drop]
theorem ins_ok (R : Rws) (i : Nat) (x : Rw) (hi : i ≤ R.length) (hR : R.length ≤ 1000000) :
    FnOK Tryz.prog 78 [.one (.ar 0), I i, .one (.bs 4 0 1)] [(0, vg 1 R.length), (1, bg R), (4, .box [.ar 5]), (5, .arr 1 (x.map intR))] (.one (.ar 2)) [(2, vg 3 (R.length + 1)), (3, bg (insR R i x))] := by
  refine ⟨⟨_, Tryz.func78, by kernel_rfl, by kernel_rfl⟩, fun M ρ w vs hx hT hI hG => ?_⟩
  match vs, hx with
  | [x0, x1, x2], hx =>
    simp only [RepSs, RepS, RepV, RepPV] at hx
    obtain ⟨⟨rfl, _⟩, ⟨rfl, _⟩, ⟨vb, vc, hb1, rfl, hvc⟩, _⟩ := hx
    have hv := hT.res 0 (vg 1 R.length) rfl
    rw [vg_len] at hv
    obtain ⟨xs, a, cap, h1, h2, h3, h4, g1, g2, g3, g4, g5⟩ := grid_cells hv (hT.res 1 (bg R) rfl)
    rw [List.length_map] at h2
    have h0 : ∀ q, blk (ρ 0) = some q → Bk (ρ 0) q := fun q hq => by rw [g1] at hq ⊢; exact hq
    obtain ⟨vb', cs2, el2, f1, f2, f3⟩ := hT.res 4 (.box [.ar 5]) rfl
    rw [hb1] at f1
    simp only [Value.pointer.injEq, Option.some.injEq, Addr.mk.injEq] at f1
    obtain ⟨rfl, _⟩ := f1
    match cs2, f3 with
    | [u], f3 =>
    simp only [RepVs, RepV] at f3
    obtain ⟨⟨rfl, hu1⟩, _⟩ := f3
    have hA5 : ArrIn M w (ρ 5) 1 (x.map intR) := hT.res 5 (.arr 1 (x.map intR)) rfl
    have hB5 : ∀ b, blk (ρ 5) = some b → Bk (ρ 5) b := fun b hb => by
      obtain ⟨a5, c5, e5, _⟩ := hA5
      rw [e5] at hb ⊢; exact hb
    have hxl := arr_lt (by rw [List.length_map]; exact h2) h3
    have own1 : ∀ c ∈ xs, ∀ b, blk c = some b → b < w.heap.size ∧ blk (ρ 0) ≠ some b ∧ Owns (tb [(0, vg 1 R.length), (1, bg R), (4, .box [.ar 5]), (5, .arr 1 (x.map intR))]) ρ b := fun c hc b hb => by
      have hB : Bk (ρ 1) b := by rw [h1]; exact ⟨c, by simpa using hc, hb⟩
      exact ⟨hxl c hc b hb, fun e => hT.dis 0 1 _ _ b rfl rfl (by decide) (h0 b e) hB, 1, _, rfl, hB⟩
    have own5 : ∀ b, blk (ρ 5) = some b → b < w.heap.size ∧ blk (ρ 0) ≠ some b ∧ Owns (tb [(0, vg 1 R.length), (1, bg R), (4, .box [.ar 5]), (5, .arr 1 (x.map intR))]) ρ b := fun b hb =>
      ⟨hA5.lt hb, fun e => hT.dis 0 5 _ _ b rfl rfl (by decide) (h0 b e) (hB5 b hb), 5, _, rfl, hB5 b hb⟩
    have hcall := ins_any (w := w) (a := a) (cap := cap) (vb := vb) (vc := vc) (i := i) (xs := xs) (v := ρ 5) (by omega) (by omega) g2 g3 g4 hu1 g5 f2 (fun b hb e => hT.dis 0 4 _ _ b rfl rfl (by decide) (h0 b (by rw [g1]; exact hb)) (by rw [hb1, e]; rfl)) hvc
    rw [← g1] at hcall
    refine hcall.mono ?_
    rintro e w' ⟨r, rfl, hD⟩
    have hperm : (insV xs i (ρ 5)).Perm (ρ 5 :: xs) := List.perm_middle.trans (by rw [List.take_append_drop])
    have hmem : ∀ c ∈ insV xs i (ρ 5), c = ρ 5 ∨ c ∈ xs := fun c hc => List.mem_cons.1 (hperm.mem_iff.1 hc)
    have hap : Apart (insV xs i (ρ 5)) := (h4.cons fun c hc b hb hb' => (hT.dis 1 5 _ _ b rfl rfl (by decide) (by rw [h1]; exact ⟨c, by simpa using hc, hb⟩) (hB5 b hb'))).perm hperm.symm
    have := ret_grid (io := 2) (ib := 3) (e := 1) (L := (insR R i x).map fun r => r.map intR) rfl hT hI (by simp [RL.ids]) (by simp [RL.ids]) (by decide) hD h0
      (by rw [List.length_map, insR_len hi, insV_len (by omega)]; omega) (fun c hc => (hmem c hc).elim (fun e => by rw [e]; exact hu1) (g4 c))
      (fun j rs hj => by
        rw [insR_map, insL_at (by rw [List.length_map]; exact hi)] at hj
        have : ∃ c, (xs.take i ++ ρ 5 :: xs.drop i)[j]? = some c ∧ ArrIn M w c 1 rs := by
          rw [insL_at (by omega)]
          by_cases c1 : j < i
          · rw [if_pos c1] at hj ⊢; exact h3 _ rs hj
          · rw [if_neg c1] at hj ⊢
            by_cases c2 : j = i
            · rw [if_pos c2] at hj ⊢
              rw [← Option.some.inj hj]; exact ⟨_, rfl, hA5⟩
            · rw [if_neg c2] at hj ⊢; exact h3 _ rs hj
        exact this)
      hap (fun c hc b hb => (hmem c hc).elim (fun e => own5 b (by rw [← e]; exact hb)) fun h => own1 c h b hb)
    rw [List.length_map, insR_len hi] at this
    exact ⟨_, M, _, rfl, this⟩
    | [], f3 => simp [RepVs] at f3
    | _ :: _ :: _, f3 => simp [RepVs] at f3
  | [], hx => simp [RepSs] at hx
  | [_], hx => simp [RepSs] at hx
  | [_, _], hx => simp [RepSs] at hx
  | _ :: _ :: _ :: _ :: _, hx => simp [RepSs] at hx
end Hw.Mq
namespace Hw.Mq
open Go Go.Proofs Go.Shelf Hw.M

/-! models: rows of the run's own -/
theorem clone_ok (l : List Int) (hl : l.length ≤ 1000000) : FnOK Tryz.prog 54 [pS (intsP l)] [] (.one (.ar 0)) [(0, .arr 1 (l.map intR))] := by
  refine fn_ok T Tryz.func54 (by kernel_rfl) rfl rfl rfl rfl fun C hC => ?_
  have hlm : (l.map intR).length = l.length := List.length_map _
  repeat' first
    | refine g_go T hC true 400 rfl rfl ?_
    | refine g_cond rfl (fun h => ?_) (fun h => ?_)
    | refine g_end T hC (by kernel_rfl) ?_
    | refine g_splitD (fun h => ?_) (fun h => ?_)
    | refine g_splitG rfl rfl rfl (fun h => ?_) (fun h => ?_)
    | refine g_splitP rfl rfl (fun h => ?_) (fun h => ?_)
  refine g_slnil (rows := l.map intR) (e := 1) (et := 3) rfl (by kernel_rfl) rfl (fun b hb => ?_)
  repeat' first
    | refine g_go T hC true 400 rfl rfl ?_
    | refine g_cond rfl (fun h => ?_) (fun h => ?_)
    | refine g_end T hC (by kernel_rfl) ?_
    | refine g_splitD (fun h => ?_) (fun h => ?_)
    | refine g_splitG rfl rfl rfl (fun h => ?_) (fun h => ?_)
    | refine g_splitP rfl rfl (fun h => ?_) (fun h => ?_)
  · have hv0 : l = [] := List.map_eq_nil_iff.1 (hb h)
    subst hv0
    refine g_adopt hC rfl 101 1 rfl [(2, .one (.ar 101))] ⟨⟨_, rfl, .nil⟩, trivial⟩ [] trivial ?_
    exact g_fin ⟨.inl rfl, nm [101], _, rfl, .refl _, ⟨rfl, trivial⟩, rfl, rfl⟩
  · refine g_litO T hC rfl rfl rfl rfl rfl ?_
    repeat' first
      | refine g_go T hC true 400 rfl rfl ?_
      | refine g_cond rfl (fun h => ?_) (fun h => ?_)
      | refine g_end T hC (by kernel_rfl) ?_
      | refine g_splitD (fun h => ?_) (fun h => ?_)
      | refine g_splitG rfl rfl rfl (fun h => ?_) (fun h => ?_)
      | refine g_splitP rfl rfl (fun h => ?_) (fun h => ?_)
      | refine g_append T 102 hC (rows := []) (rows2 := l.map intR) (rows3 := l.map intR) (bytes := 8) rfl rfl rfl rfl (SrcS.sl (T.es_ok _ _ rfl)) rfl rfl rfl rfl (by kernel_rfl) (by simp only [List.length_nil, hlm]; omega) (by simp only [List.length_nil, hlm]; omega) rfl rfl rfl ?_
    exact g_fin ⟨.inl rfl, nm [102], _, rfl, .refl _, ⟨rfl, trivial⟩, rfl, rfl⟩
theorem result_ok (n : Int) : FnOK Tryz.prog 75 [I n] [] (aggS (rsR (okR n))) [] := by
  refine fn_ok T Tryz.func75 (by kernel_rfl) rfl rfl rfl rfl fun C hC => ?_
  repeat' first
    | refine g_go T hC true 400 rfl rfl ?_
    | refine g_cond rfl (fun h => ?_) (fun h => ?_)
    | refine g_end T hC (by kernel_rfl) ?_
    | refine g_splitD (fun h => ?_) (fun h => ?_)
    | refine g_splitG rfl rfl rfl (fun h => ?_) (fun h => ?_)
    | refine g_splitP rfl rfl (fun h => ?_) (fun h => ?_)
  exact g_fin ⟨.inl rfl, id, _, rfl, .refl _, trivial, rfl, rfl⟩
theorem failed_ok (n : Int) : FnOK Tryz.prog 76 [I n] [] (aggS (rsR (erR n))) [] := by
  refine fn_ok T Tryz.func76 (by kernel_rfl) rfl rfl rfl rfl fun C hC => ?_
  repeat' first
    | refine g_go T hC true 400 rfl rfl ?_
    | refine g_cond rfl (fun h => ?_) (fun h => ?_)
    | refine g_end T hC (by kernel_rfl) ?_
    | refine g_splitD (fun h => ?_) (fun h => ?_)
    | refine g_splitG rfl rfl rfl (fun h => ?_) (fun h => ?_)
    | refine g_splitP rfl rfl (fun h => ?_) (fun h => ?_)
  exact g_fin ⟨.inl rfl, id, _, rfl, .refl _, trivial, rfl, rfl⟩
theorem bg_len (R : Rws) : (R.map fun r => r.map intR).length = R.length := List.length_map _
/-- A grid that is lent: its rows. -/
theorem lend_g {B : RL} {o id : Nat} {R : Rws} (ho : (o, vg id R.length) ∈ B) (hid : (id, bg R) ∈ B) : LnV B (.ar o) (.p (rowsP R)) := by
  have := LnV.grid (e := 1) (L := R.map fun r => r.map intR) (by rw [List.length_map]; exact ho) hid
  rw [List.map_map] at this
  exact this
theorem lend_r {B : RL} {id q : Nat} {R : Rws} {r : Rw} (hid : (id, bg R) ∈ B) (hq : R[q]? = some r) : LnV B (.nv id q) (.p (intsP r)) :=
  LnV.nv hid (by rw [List.getElem?_map, hq]; rfl)
theorem bg_snoc (R : Rws) (x : Rw) : (R.map fun r => r.map intR) ++ [x.map intR] = (R ++ [x]).map fun r => r.map intR := by simp
def mv2 (a b c d i : Nat) : Nat := match Nat.beq i a with
  | true => b
  | false => match Nat.beq i c with
    | true => d
    | false => i
theorem mv2_low {a b c d i : Nat} (ha : 100 ≤ a) (hc : 100 ≤ c) (hi : i < 100) : mv2 a b c d i = i := by
  unfold mv2; rw [beq_ne (by omega), beq_ne (by omega)]
theorem copied_ok (R : Rws) (hR : R.length ≤ 1000000) (hw : ∀ r ∈ R, r.length ≤ 1000000) : FnOK Tryz.prog 41 [pS (rowsP R)] [] (.one (.ar 0)) [(0, vg 1 R.length), (1, bg R)] := by
  refine fn_ok T Tryz.func41 (by kernel_rfl) rfl rfl rfl rfl fun C hC => ?_
  repeat' first
    | refine g_go T hC true 400 rfl rfl ?_
    | refine g_cond rfl (fun h => ?_) (fun h => ?_)
    | refine g_end T hC (by kernel_rfl) ?_
    | refine g_splitD (fun h => ?_) (fun h => ?_)
    | refine g_splitG rfl rfl rfl (fun h => ?_) (fun h => ?_)
    | refine g_splitP rfl rfl (fun h => ?_) (fun h => ?_)
  rw [List.length_map]
  refine g_adopt hC rfl 103 1 rfl [(3, .one (.ar 103))] ⟨⟨_, rfl, AdS.nil⟩, trivial⟩ [] trivial ?_
  refine g_bag hC rfl 102 1 rfl ?_
  refine g_toW rfl 103 [102] (e := 1) (rows := []) (rows' := gr 0) rfl rfl ?_
  refine g_loop (fun i : Nat => i ≤ R.length) (fun i => ([(3, .one (.ar 101)), (6, pS (rowsP R)), (7, I R.length), (8, I i)], [(101, some (vg 102 i)), (102, some (bg (R.take i)))])) (fun i => R.length - i) hC
    0 (Nat.zero_le _) (mvU 101 103) ⟨rfl, ⟨rfl, rfl, rfl, rfl, trivial⟩, ⟨rfl, rfl, trivial⟩, rfl, fun i hi => mvU_low (by omega) hi⟩ ?_
  intro i hi
  refine g_run' T hC true 200 rfl ?_
  refine g_cond rfl (fun h => ?_) (fun h => ?_)
  · have hlt : i < R.length := by simpa using h
    clear h
    obtain ⟨r, hx⟩ := exists_at hlt
    have hC1 := clone_ok r (hw r (List.mem_of_getElem? hx))
    have htl : (R.take i).length = i := by rw [List.length_take]; omega
    have hbl : ((R.take i).map fun r => r.map intR).length = i := by rw [List.length_map, htl]
    have htk : R.take i ++ [r] = R.take (i + 1) := by rw [List.take_add_one, hx]; rfl
    repeat' first
      | refine g_go T hC true 400 rfl rfl ?_
      | refine g_cond rfl (fun h => ?_) (fun h => ?_)
      | refine g_end T hC (by kernel_rfl) ?_
      | refine g_splitD (fun h => ?_) (fun h => ?_)
      | refine g_splitG rfl rfl rfl (fun h => ?_) (fun h => ?_)
      | refine g_splitP rfl rfl (fun h => ?_) (fun h => ?_)
      | refine g_idx T hC rfl rfl rfl (Int.natCast_nonneg _) (map_at hx) rfl rfl ?_
      | (refine g_callR hC hC1 (nm [104]) rfl rfl (LeSs.refl _) rfl rfl rfl rfl rfl rfl rfl rfl ?_; refine g_take hC rfl 102 104 105 (e := 1) (L := (R.take i).map fun r => r.map intR) (rs := r.map intR) rfl rfl rfl rfl [(14, .one (.nv 105 i))] ⟨⟨_, rfl, RwS.one (TkF.arr hbl.symm)⟩, trivial⟩ [(101, vg 105 i)] ⟨⟨_, rfl, rfl, RwR.grid fun j _ => TkF.nv⟩, trivial⟩ ?_; rw [bg_snoc, htk])
      | (refine g_litW T hC [PC.n 0 i] [105] rfl rfl rfl rfl rfl rfl rfl rfl rfl rfl rfl rfl ?_)
      | (refine g_appendG T 106 hC (ib := 105) (m := i) (bytes := 24) rfl rfl rfl rfl rfl rfl rfl rfl rfl (by kernel_rfl) (by omega) (by omega) rfl rfl rfl ?_)
    rw [wrapS (by omega)]
    exact g_round (i + 1) (by omega) (mv2 101 106 102 105) (by omega) ⟨rfl, ⟨rfl, rfl, rfl, rfl, trivial⟩, ⟨rfl, by rw [← htk]; rfl, trivial⟩, rfl, fun i hi => mv2_low (by omega) (by omega) hi⟩
  · have hge : i = R.length := by
      have : ¬ i < R.length := by simpa using h
      omega
    subst hge
    clear h
    rw [List.take_length]
    repeat' first
      | refine g_go T hC true 400 rfl rfl ?_
      | refine g_cond rfl (fun h => ?_) (fun h => ?_)
      | refine g_end T hC (by kernel_rfl) ?_
      | refine g_splitD (fun h => ?_) (fun h => ?_)
      | refine g_splitG rfl rfl rfl (fun h => ?_) (fun h => ?_)
      | refine g_splitP rfl rfl (fun h => ?_) (fun h => ?_)
      | refine g_outE ?_
    exact g_fin ⟨.inl rfl, nm [101, 102], _, rfl, .refl _, ⟨rfl, rfl, trivial⟩, rfl, rfl⟩
end Hw.Mq
namespace Hw.Mq
open Go Go.Proofs Go.Shelf Hw.M

/-! models: the steps of a walk over a grid of the run's own -/
section
variable {P : Program} {C : Ctx} {k : List Frm} {n : Nat} {sl : Slots} {tab : Tab} {Q : Exit → St → Prop} {all : Array Oper} {rest : List Oper}
theorem g_lenG (T : Ty P) {d : Nat} {x : Operand} {t : TypeId} {ty : TypeId} {ps : String} {af : Array Edge} {g0 : Option (Nat × Bool)} {gs : Slots} {md : Mode} (hC : C.low) {id ib m : Nat} {el : TypeId} {e : Nat}
    (hx : ev sl x = some (.one (.ar id))) (hT : tg tab id = some (vg ib m)) (he : T.es t = some (el, e)) (he1 : e = 1) (hm : metL all sl g0 = some gs) (hd : Nat.blt d n = true)
    (g : Goal P C (.ops all rest (nx md ⟨some d, gs ++ rq x (.one (.ar id)), [(id, vg ib m)], [], I m, []⟩)) k n ((d, I m) :: sl) tab Q) :
    Goal P C (.ops all (⟨some d, .call ⟨.builtin .len, #[x], #[t]⟩, ty, ps, af, g0⟩ :: rest) md) k n sl tab Q := by
  refine g_lenW T hC hx hT he hm hd ?_
  rw [gr_len]
  exact g
theorem g_idxR (T : Ty P) {d : Nat} {x y : Operand} {t : TypeId} {ty : TypeId} {ps : String} {af : Array Edge} {g0 : Option (Nat × Bool)} {gs : Slots} {md : Mode} (hC : C.low) {id ib m : Nat} {el : TypeId} {z : Int} (i : Nat)
    (hx : ev sl x = some (.one (.ar id))) (hy : ev sl y = some (I z)) (hz : z = i) (hT : tg tab id = some (vg ib m)) (he : T.es t = some (el, 1)) (hi : i < m) (hm : metL all sl g0 = some gs) (hd : Nat.blt d n = true)
    (g : Goal P C (.ops all rest (nx md ⟨some d, gs ++ (rq x (.one (.ar id)) ++ rq y (I i)), [(id, vg ib m)], [], .one (.el id i), []⟩)) k n ((d, .one (.el id i)) :: sl) tab Q) :
    Goal P C (.ops all (⟨some d, .indexAddr t x y, ty, ps, af, g0⟩ :: rest) md) k n sl tab Q := by
  subst hz
  refine g_idxW T hC hx hy hT he (Int.natCast_nonneg _) (by rw [gr_len]; omega) hm hd ?_
  rw [Int.toNat_natCast, Nat.mul_one]
  exact g
theorem g_loadR (T : Ty P) {d : Nat} {x : Operand} {t ty : TypeId} {ps : String} {af : Array Edge} {g0 : Option (Nat × Bool)} {gs : Slots} {md : Mode} (hC : C.low) {id ib m i : Nat}
    (hx : ev sl x = some (.one (.el id i))) (hT : tg tab id = some (vg ib m)) (hsh : T.sh t = some none) (hi : i < m) (hm : metL all sl g0 = some gs) (hd : Nat.blt d n = true)
    (g : Goal P C (.ops all rest (nx md ⟨some d, gs ++ rq x (.one (.el id i)), [(id, vg ib m)], [], .one (.nv ib i), []⟩)) k n ((d, .one (.nv ib i)) :: sl) tab Q) :
    Goal P C (.ops all (⟨some d, .load t x, ty, ps, af, g0⟩ :: rest) md) k n sl tab Q := by
  refine g_loadW T hC [.nv ib i] hx hT hsh (fun j v hj => ?_) rfl hm hd g
  match j, hj with
  | 0, hj => exact ⟨_, gr_at hi, by simp at hj; rw [← hj]; rfl⟩
  | j + 1, hj => simp at hj
theorem flat_int (r : Rw) : (r.map intR).flatten = r.map ki := by
  induction r with
  | nil => rfl
  | cons a l ih => simp only [List.map_cons, List.flatten_cons, ih]; rfl
theorem bg_at {R : Rws} {q : Nat} {r : Rw} (h : R[q]? = some r) : (R.map fun r => r.map intR)[q]? = some (r.map intR) := by rw [List.getElem?_map, h]; rfl
theorem g_lenC (T : Ty P) {d : Nat} {x : Operand} {t ty : TypeId} {ps : String} {af : Array Edge} {g0 : Option (Nat × Bool)} {gs : Slots} {md : Mode} (hC : C.low) {ib q : Nat} {R : Rws} {r : Rw} {el : TypeId} {e : Nat}
    (hq : R[q]? = some r) (hx : ev sl x = some (.one (.nv ib q))) (hT : tg tab ib = some (bg R)) (he : T.es t = some (el, e)) (hm : metL all sl g0 = some gs) (hd : Nat.blt d n = true)
    (g : Goal P C (.ops all rest (nx md ⟨some d, gs ++ rq x (.one (.nv ib q)), [(ib, bg R)], [], I r.length, []⟩)) k n ((d, I r.length) :: sl) tab Q) :
    Goal P C (.ops all (⟨some d, .call ⟨.builtin .len, #[x], #[t]⟩, ty, ps, af, g0⟩ :: rest) md) k n sl tab Q := by
  refine g_lenB T hC hx hT (bg_at hq) he hm hd ?_
  rw [List.length_map]
  exact g
theorem g_idxC (T : Ty P) {d : Nat} {x y : Operand} {t ty : TypeId} {ps : String} {af : Array Edge} {g0 : Option (Nat × Bool)} {gs : Slots} {md : Mode} (hC : C.low) {ib q : Nat} {R : Rws} {r : Rw} {el : TypeId} (c : Nat)
    (hq : R[q]? = some r) (hc : c < r.length) (hx : ev sl x = some (.one (.nv ib q))) (hy : ev sl y = some (I c)) (hT : tg tab ib = some (bg R)) (he : T.es t = some (el, 1)) (hm : metL all sl g0 = some gs) (hd : Nat.blt d n = true)
    (g : Goal P C (.ops all rest (nx md ⟨some d, gs ++ (rq x (.one (.nv ib q)) ++ rq y (I c)), [(ib, bg R)], [], .one (.np ib q c), []⟩)) k n ((d, .one (.np ib q c)) :: sl) tab Q) :
    Goal P C (.ops all (⟨some d, .indexAddr t x y, ty, ps, af, g0⟩ :: rest) md) k n sl tab Q := by
  refine g_idxB T hC hx hy hT (bg_at hq) he (Int.natCast_nonneg _) (by rw [List.length_map]; omega) hm hd ?_
  rw [Int.toNat_natCast, Nat.mul_one]
  exact g
theorem g_loadC (T : Ty P) {d : Nat} {x : Operand} {t ty : TypeId} {ps : String} {af : Array Edge} {g0 : Option (Nat × Bool)} {gs : Slots} {md : Mode} (hC : C.low) {ib q c : Nat} {R : Rws} {r : Rw} {v : Int}
    (hq : R[q]? = some r) (hv : r[c]? = some v) (hx : ev sl x = some (.one (.np ib q c))) (hT : tg tab ib = some (bg R)) (hsh : T.sh t = some none) (hm : metL all sl g0 = some gs) (hd : Nat.blt d n = true)
    (g : Goal P C (.ops all rest (nx md ⟨some d, gs ++ rq x (.one (.np ib q c)), [(ib, bg R)], [], I v, []⟩)) k n ((d, I v) :: sl) tab Q) :
    Goal P C (.ops all (⟨some d, .load t x, ty, ps, af, g0⟩ :: rest) md) k n sl tab Q := by
  refine g_loadB T hC [ki v] hx hT (bg_at hq) hsh (fun j p hj => ?_) rfl hm hd g
  match j, hj with
  | 0, hj => rw [flat_int, Nat.add_zero, List.getElem?_map, hv]; exact hj
  | j + 1, hj => simp at hj
theorem bg_set (R : Rws) (q : Nat) (r : Rw) : (R.map fun r => r.map intR).set q (r.map intR) = (R.set q r).map fun r => r.map intR := by rw [List.map_set]
theorem g_storeC (T : Ty P) {x y : Operand} {t ty : TypeId} {ps : String} {af : Array Edge} {g0 : Option (Nat × Bool)} {gs : Slots} {md : Mode} (hC : C.low) {ib q c : Nat} {R : Rws} {r : Rw} {v : Int}
    (hq : R[q]? = some r) (hc : c < r.length) (hx : ev sl x = some (.one (.np ib q c))) (hy : ev sl y = some (I v)) (hT : tg tab ib = some (bg R)) (hsh : T.sh t = some none) (hm : metL all sl g0 = some gs)
    (g : Goal P C (.ops all rest (nx md ⟨none, gs ++ (rq x (.one (.np ib q c)) ++ rq y (I v)), [(ib, bg R)], [], .un, [(ib, some (bg (R.set q (r.set c v))))]⟩)) k n sl ((ib, some (bg (R.set q (r.set c v)))) :: tab) Q) :
    Goal P C (.ops all (⟨none, .store t x y, ty, ps, af, g0⟩ :: rest) md) k n sl tab Q := by
  refine g_storeB T hC ((r.set c v).map intR) (us := [ki v]) hx hy hT hsh rfl rfl (bg_at hq) (by rw [List.length_map, List.length_map, List.length_set]) (fun r hr => by obtain ⟨_, _, rfl⟩ := List.mem_map.1 hr; rfl) (by rw [List.length_map]; simp only [List.length_cons, List.length_nil]; omega) (fun m p hp => ?_) hm ?_
  · rw [flat_int, List.getElem?_map, Option.map_eq_some_iff] at hp
    obtain ⟨z, hz, rfl⟩ := hp
    by_cases hmc : m = c
    · subst hmc
      rw [List.getElem?_set_self hc] at hz
      refine .inl ⟨Nat.le_refl _, by rw [Nat.sub_self, ← Option.some.inj hz]; rfl⟩
    · rw [List.getElem?_set_ne (fun e => hmc e.symm)] at hz
      refine .inr ⟨by simp only [List.length_cons, List.length_nil]; omega, by rw [flat_int, List.getElem?_map, hz]; rfl⟩
  · rw [bg_set]
    exact g
end
end Hw.Mq
namespace Hw.Mq
open Go Go.Proofs Go.Shelf Hw.M

/-! models: dictionaries on rows of the run's own -/
theorem lend2 (o id : Nat) (R : Rws) : LnV [(o, vg id R.length), (id, bg R)] (.ar o) (.p (rowsP R)) := lend_g (id := id) (.head _) (.tail _ (.head _))
theorem dict8 (R : Rws) (hR : R.length ≤ 500)  : FnOK Tryz.prog 55 [.one (.ar 0), aggS [ki 8, intsP []]] [(0, vg 1 R.length), (1, bg R)] (.tup [.one (.ar 2), aggS (rsR (okR R.length))]) [(2, vg 3 R.length), (3, bg R)] := by
  have hN := result_ok R.length
  refine fn_ok T Tryz.func55 (by kernel_rfl) rfl rfl rfl rfl fun C hC => ?_
  repeat' first
    | refine g_go T hC true 400 rfl rfl ?_
    | (exfalso; first | (simp only [decide_eq_true_eq, decide_eq_false_iff_not, List.length_map, Bool.not_eq_true', Bool.not_eq_false'] at *; omega) | (simp at h; done))
    | refine g_cond rfl (fun h => ?_) (fun h => ?_)
    | refine g_end T hC (by kernel_rfl) ?_
    | refine g_splitD (fun h => ?_) (fun h => ?_)
    | refine g_splitG rfl rfl rfl (fun h => ?_) (fun h => ?_)
    | refine g_splitP rfl rfl (fun h => ?_) (fun h => ?_)
    | refine g_lenG T hC rfl rfl rfl rfl rfl rfl ?_
    | refine g_call hC (hN) rfl rfl (LeSs.refl _) rfl rfl rfl ?_
  all_goals exact g_fin ⟨.inl rfl, nm [0, 1, 0, 1], _, rfl, .refl _, ⟨rfl, rfl, trivial⟩, rfl, rfl⟩

theorem dict7 (R : Rws) (hR : R.length ≤ 500) (i : Nat) (r : Rw) (v : Int) (hq : R[i]? = some r) (hil : i < R.length) (hrl : 0 < r.length) (hv : r[0]? = some v) : FnOK Tryz.prog 55 [.one (.ar 0), aggS [ki 7, intsP [(i : Int)]]] [(0, vg 1 R.length), (1, bg R)] (.tup [.one (.ar 2), aggS (rsR (okR v))]) [(2, vg 3 R.length), (3, bg R)] := by
  have hN := result_ok v
  refine fn_ok T Tryz.func55 (by kernel_rfl) rfl rfl rfl rfl fun C hC => ?_
  repeat' first
    | refine g_go T hC true 400 rfl rfl ?_
    | (exfalso; first | (simp only [decide_eq_true_eq, decide_eq_false_iff_not, List.length_map, Bool.not_eq_true', Bool.not_eq_false'] at *; omega) | (simp at h; done))
    | refine g_cond rfl (fun h => ?_) (fun h => ?_)
    | refine g_end T hC (by kernel_rfl) ?_
    | refine g_splitD (fun h => ?_) (fun h => ?_)
    | refine g_splitG rfl rfl rfl (fun h => ?_) (fun h => ?_)
    | refine g_splitP rfl rfl (fun h => ?_) (fun h => ?_)
    | refine g_lenG T hC rfl rfl rfl rfl rfl rfl ?_
    | refine g_idx T hC rfl rfl rfl (by decide) rfl rfl rfl ?_
    | (refine g_idxR T hC (i) rfl rfl rfl rfl rfl (by omega) rfl rfl ?_; refine g_loadR T hC rfl rfl rfl (by omega) rfl rfl ?_)
    | (refine g_idxC T hC 0 hq (by omega) rfl rfl rfl rfl rfl rfl ?_; refine g_loadC T hC hq hv rfl rfl rfl rfl rfl ?_)
    | refine g_call hC (hN) rfl rfl (LeSs.refl _) rfl rfl rfl ?_
  all_goals exact g_fin ⟨.inl rfl, nm [0, 1, 0, 1], _, rfl, .refl _, ⟨rfl, rfl, trivial⟩, rfl, rfl⟩

theorem dict7n (R : Rws) (hR : R.length ≤ 500) (a : Int) (ha : a < 0 ∨ (R.length : Int) ≤ a) : FnOK Tryz.prog 55 [.one (.ar 0), aggS [ki 7, intsP [a]]] [(0, vg 1 R.length), (1, bg R)] (.tup [.one (.ar 2), aggS (rsR (erR 2))]) [(2, vg 3 R.length), (3, bg R)] := by
  have hN := failed_ok 2
  refine fn_ok T Tryz.func55 (by kernel_rfl) rfl rfl rfl rfl fun C hC => ?_
  repeat' first
    | refine g_go T hC true 400 rfl rfl ?_
    | (exfalso; first | (simp only [decide_eq_true_eq, decide_eq_false_iff_not, List.length_map, Bool.not_eq_true', Bool.not_eq_false'] at *; omega) | (simp at h; done))
    | refine g_cond rfl (fun h => ?_) (fun h => ?_)
    | refine g_end T hC (by kernel_rfl) ?_
    | refine g_splitD (fun h => ?_) (fun h => ?_)
    | refine g_splitG rfl rfl rfl (fun h => ?_) (fun h => ?_)
    | refine g_splitP rfl rfl (fun h => ?_) (fun h => ?_)
    | refine g_lenG T hC rfl rfl rfl rfl rfl rfl ?_
    | refine g_idx T hC rfl rfl rfl (by decide) rfl rfl rfl ?_
    | refine g_call hC (hN) rfl rfl (LeSs.refl _) rfl rfl rfl ?_
  all_goals exact g_fin ⟨.inl rfl, nm [0, 1, 0, 1], _, rfl, .refl _, ⟨rfl, rfl, trivial⟩, rfl, rfl⟩

theorem dict6 (R : Rws) (hR : R.length ≤ 500) (a : Int) (i : Nat) (q : Bool) (hX : FnOK Tryz.prog 77 [pS (rowsP R), pS (intsP [a])] [] (.tup [I i, .bq q]) []) : FnOK Tryz.prog 55 [.one (.ar 0), aggS [ki 6, intsP [a]]] [(0, vg 1 R.length), (1, bg R)] (.tup [.one (.ar 2), aggS (rsR (okR i))]) [(2, vg 3 R.length), (3, bg R)] := by
  have hN := result_ok i
  refine fn_ok T Tryz.func55 (by kernel_rfl) rfl rfl rfl rfl fun C hC => ?_
  repeat' first
    | refine g_go T hC true 400 rfl rfl ?_
    | (exfalso; first | (simp only [decide_eq_true_eq, decide_eq_false_iff_not, List.length_map, Bool.not_eq_true', Bool.not_eq_false'] at *; omega) | (simp at h; done))
    | refine g_cond rfl (fun h => ?_) (fun h => ?_)
    | refine g_end T hC (by kernel_rfl) ?_
    | refine g_splitD (fun h => ?_) (fun h => ?_)
    | refine g_splitG rfl rfl rfl (fun h => ?_) (fun h => ?_)
    | refine g_splitP rfl rfl (fun h => ?_) (fun h => ?_)
    | refine g_lenG T hC rfl rfl rfl rfl rfl rfl ?_
    | refine g_idx T hC rfl rfl rfl (by decide) rfl rfl rfl ?_
    | refine g_partH T hC ([a].map intR) rfl rfl rfl (by decide) (by simp) rfl rfl rfl ?_
    | refine g_callN hC hX [(0, vg 1 R.length), (1, bg R)] rfl rfl (LnSs.cons (LnS.one (lend2 0 1 R)) (LnSs.refl _)) rfl rfl rfl rfl ?_
    | refine g_call hC (hN) rfl rfl (LeSs.refl _) rfl rfl rfl ?_
  all_goals exact g_fin ⟨.inl rfl, nm [0, 1, 0, 1], _, rfl, .refl _, ⟨rfl, rfl, trivial⟩, rfl, rfl⟩

theorem dict4y (R : Rws) (hR : R.length ≤ 500) (a : Int) (i : Nat) (hX : FnOK Tryz.prog 77 [pS (rowsP R), pS (intsP [a])] [] (.tup [I i, .bq true]) []) : FnOK Tryz.prog 55 [.one (.ar 0), aggS [ki 4, intsP [a]]] [(0, vg 1 R.length), (1, bg R)] (.tup [.one (.ar 2), aggS (rsR (okR a))]) [(2, vg 3 R.length), (3, bg R)] := by
  have hN := result_ok a
  refine fn_ok T Tryz.func55 (by kernel_rfl) rfl rfl rfl rfl fun C hC => ?_
  repeat' first
    | refine g_go T hC true 400 rfl rfl ?_
    | (exfalso; first | (simp only [decide_eq_true_eq, decide_eq_false_iff_not, List.length_map, Bool.not_eq_true', Bool.not_eq_false'] at *; omega) | (simp at h; done))
    | refine g_cond rfl (fun h => ?_) (fun h => ?_)
    | refine g_end T hC (by kernel_rfl) ?_
    | refine g_splitD (fun h => ?_) (fun h => ?_)
    | refine g_splitG rfl rfl rfl (fun h => ?_) (fun h => ?_)
    | refine g_splitP rfl rfl (fun h => ?_) (fun h => ?_)
    | refine g_lenG T hC rfl rfl rfl rfl rfl rfl ?_
    | refine g_idx T hC rfl rfl rfl (by decide) rfl rfl rfl ?_
    | refine g_partH T hC ([a].map intR) rfl rfl rfl (by decide) (by simp) rfl rfl rfl ?_
    | refine g_callN hC hX [(0, vg 1 R.length), (1, bg R)] rfl rfl (LnSs.cons (LnS.one (lend2 0 1 R)) (LnSs.refl _)) rfl rfl rfl rfl ?_
    | refine g_call hC (hN) rfl rfl (LeSs.refl _) rfl rfl rfl ?_
  all_goals exact g_fin ⟨.inl rfl, nm [0, 1, 0, 1], _, rfl, .refl _, ⟨rfl, rfl, trivial⟩, rfl, rfl⟩

theorem dict4n (R : Rws) (hR : R.length ≤ 500) (a : Int) (i : Nat) (hX : FnOK Tryz.prog 77 [pS (rowsP R), pS (intsP [a])] [] (.tup [I i, .bq false]) []) (hi : i = 0) : FnOK Tryz.prog 55 [.one (.ar 0), aggS [ki 4, intsP [a]]] [(0, vg 1 R.length), (1, bg R)] (.tup [.one (.ar 2), aggS (rsR (erR 12))]) [(2, vg 3 R.length), (3, bg R)] := by
  have hN := failed_ok 12
  refine fn_ok T Tryz.func55 (by kernel_rfl) rfl rfl rfl rfl fun C hC => ?_
  repeat' first
    | refine g_go T hC true 400 rfl rfl ?_
    | (exfalso; first | (simp only [decide_eq_true_eq, decide_eq_false_iff_not, List.length_map, Bool.not_eq_true', Bool.not_eq_false'] at *; omega) | (simp at h; done))
    | refine g_cond rfl (fun h => ?_) (fun h => ?_)
    | refine g_end T hC (by kernel_rfl) ?_
    | refine g_splitD (fun h => ?_) (fun h => ?_)
    | refine g_splitG rfl rfl rfl (fun h => ?_) (fun h => ?_)
    | refine g_splitP rfl rfl (fun h => ?_) (fun h => ?_)
    | refine g_lenG T hC rfl rfl rfl rfl rfl rfl ?_
    | refine g_idx T hC rfl rfl rfl (by decide) rfl rfl rfl ?_
    | refine g_partH T hC ([a].map intR) rfl rfl rfl (by decide) (by simp) rfl rfl rfl ?_
    | refine g_callN hC hX [(0, vg 1 R.length), (1, bg R)] rfl rfl (LnSs.cons (LnS.one (lend2 0 1 R)) (LnSs.refl _)) rfl rfl rfl rfl ?_
    | refine g_call hC (hN) rfl rfl (LeSs.refl _) rfl rfl rfl ?_
  all_goals exact g_fin ⟨.inl rfl, nm [0, 1, 0, 1], _, rfl, .refl _, ⟨rfl, rfl, trivial⟩, rfl, rfl⟩

theorem dict4 (R : Rws) (hR : R.length ≤ 500) (a : Int) (i : Nat) (hX : FnOK Tryz.prog 77 [pS (rowsP R), pS (intsP [a])] [] (.tup [I ((i + 1 : Nat) : Int), .bq false]) []) (r : Rw) (v : Int) (hq : R[i]? = some r) (hil : i < R.length) (hrl : 0 < r.length) (hv : r[0]? = some v) : FnOK Tryz.prog 55 [.one (.ar 0), aggS [ki 4, intsP [a]]] [(0, vg 1 R.length), (1, bg R)] (.tup [.one (.ar 2), aggS (rsR (okR v))]) [(2, vg 3 R.length), (3, bg R)] := by
  have hN := result_ok v
  have hsub : IntKind.i64.wrap (((i + 1 : Nat) : Int) - 1) = (i : Int) := by rw [wrap64 (by omega)]; omega
  refine fn_ok T Tryz.func55 (by kernel_rfl) rfl rfl rfl rfl fun C hC => ?_
  repeat' first
    | refine g_go T hC true 400 rfl rfl ?_
    | (exfalso; first | (simp only [decide_eq_true_eq, decide_eq_false_iff_not, List.length_map, Bool.not_eq_true', Bool.not_eq_false'] at *; omega) | (simp at h; done))
    | refine g_cond rfl (fun h => ?_) (fun h => ?_)
    | refine g_end T hC (by kernel_rfl) ?_
    | refine g_splitD (fun h => ?_) (fun h => ?_)
    | refine g_splitG rfl rfl rfl (fun h => ?_) (fun h => ?_)
    | refine g_splitP rfl rfl (fun h => ?_) (fun h => ?_)
    | refine g_lenG T hC rfl rfl rfl rfl rfl rfl ?_
    | refine g_idx T hC rfl rfl rfl (by decide) rfl rfl rfl ?_
    | refine g_partH T hC ([a].map intR) rfl rfl rfl (by decide) (by simp) rfl rfl rfl ?_
    | refine g_callN hC hX [(0, vg 1 R.length), (1, bg R)] rfl rfl (LnSs.cons (LnS.one (lend2 0 1 R)) (LnSs.refl _)) rfl rfl rfl rfl ?_
    | (refine g_idxR T hC (i) rfl rfl hsub rfl rfl (by omega) rfl rfl ?_; refine g_loadR T hC rfl rfl rfl (by omega) rfl rfl ?_)
    | (refine g_idxC T hC 0 hq (by omega) rfl rfl rfl rfl rfl rfl ?_; refine g_loadC T hC hq hv rfl rfl rfl rfl rfl ?_)
    | refine g_call hC (hN) rfl rfl (LeSs.refl _) rfl rfl rfl ?_
  all_goals exact g_fin ⟨.inl rfl, nm [0, 1, 0, 1], _, rfl, .refl _, ⟨rfl, rfl, trivial⟩, rfl, rfl⟩

theorem dict5n (R : Rws) (hR : R.length ≤ 500) (a : Int) (i : Nat) (q : Bool) (hX : FnOK Tryz.prog 77 [pS (rowsP R), pS (intsP [a])] [] (.tup [I i, .bq q]) []) (hi : i = R.length) : FnOK Tryz.prog 55 [.one (.ar 0), aggS [ki 5, intsP [a]]] [(0, vg 1 R.length), (1, bg R)] (.tup [.one (.ar 2), aggS (rsR (erR 12))]) [(2, vg 3 R.length), (3, bg R)] := by
  have hN := failed_ok 12
  refine fn_ok T Tryz.func55 (by kernel_rfl) rfl rfl rfl rfl fun C hC => ?_
  repeat' first
    | refine g_go T hC true 400 rfl rfl ?_
    | (exfalso; first | (simp only [decide_eq_true_eq, decide_eq_false_iff_not, List.length_map, Bool.not_eq_true', Bool.not_eq_false'] at *; omega) | (simp at h; done))
    | refine g_cond rfl (fun h => ?_) (fun h => ?_)
    | refine g_end T hC (by kernel_rfl) ?_
    | refine g_splitD (fun h => ?_) (fun h => ?_)
    | refine g_splitG rfl rfl rfl (fun h => ?_) (fun h => ?_)
    | refine g_splitP rfl rfl (fun h => ?_) (fun h => ?_)
    | refine g_lenG T hC rfl rfl rfl rfl rfl rfl ?_
    | refine g_idx T hC rfl rfl rfl (by decide) rfl rfl rfl ?_
    | refine g_partH T hC ([a].map intR) rfl rfl rfl (by decide) (by simp) rfl rfl rfl ?_
    | refine g_callN hC hX [(0, vg 1 R.length), (1, bg R)] rfl rfl (LnSs.cons (LnS.one (lend2 0 1 R)) (LnSs.refl _)) rfl rfl rfl rfl ?_
    | refine g_call hC (hN) rfl rfl (LeSs.refl _) rfl rfl rfl ?_
  all_goals exact g_fin ⟨.inl rfl, nm [0, 1, 0, 1], _, rfl, .refl _, ⟨rfl, rfl, trivial⟩, rfl, rfl⟩

theorem dict5 (R : Rws) (hR : R.length ≤ 500) (a : Int) (i : Nat) (q : Bool) (hX : FnOK Tryz.prog 77 [pS (rowsP R), pS (intsP [a])] [] (.tup [I i, .bq q]) []) (r : Rw) (v : Int) (hq : R[i]? = some r) (hil : i < R.length) (hrl : 0 < r.length) (hv : r[0]? = some v) : FnOK Tryz.prog 55 [.one (.ar 0), aggS [ki 5, intsP [a]]] [(0, vg 1 R.length), (1, bg R)] (.tup [.one (.ar 2), aggS (rsR (okR v))]) [(2, vg 3 R.length), (3, bg R)] := by
  have hN := result_ok v
  refine fn_ok T Tryz.func55 (by kernel_rfl) rfl rfl rfl rfl fun C hC => ?_
  repeat' first
    | refine g_go T hC true 400 rfl rfl ?_
    | (exfalso; first | (simp only [decide_eq_true_eq, decide_eq_false_iff_not, List.length_map, Bool.not_eq_true', Bool.not_eq_false'] at *; omega) | (simp at h; done))
    | refine g_cond rfl (fun h => ?_) (fun h => ?_)
    | refine g_end T hC (by kernel_rfl) ?_
    | refine g_splitD (fun h => ?_) (fun h => ?_)
    | refine g_splitG rfl rfl rfl (fun h => ?_) (fun h => ?_)
    | refine g_splitP rfl rfl (fun h => ?_) (fun h => ?_)
    | refine g_lenG T hC rfl rfl rfl rfl rfl rfl ?_
    | refine g_idx T hC rfl rfl rfl (by decide) rfl rfl rfl ?_
    | refine g_partH T hC ([a].map intR) rfl rfl rfl (by decide) (by simp) rfl rfl rfl ?_
    | refine g_callN hC hX [(0, vg 1 R.length), (1, bg R)] rfl rfl (LnSs.cons (LnS.one (lend2 0 1 R)) (LnSs.refl _)) rfl rfl rfl rfl ?_
    | (refine g_idxR T hC (i) rfl rfl rfl rfl rfl (by omega) rfl rfl ?_; refine g_loadR T hC rfl rfl rfl (by omega) rfl rfl ?_)
    | (refine g_idxC T hC 0 hq (by omega) rfl rfl rfl rfl rfl rfl ?_; refine g_loadC T hC hq hv rfl rfl rfl rfl rfl ?_)
    | refine g_call hC (hN) rfl rfl (LeSs.refl _) rfl rfl rfl ?_
  all_goals exact g_fin ⟨.inl rfl, nm [0, 1, 0, 1], _, rfl, .refl _, ⟨rfl, rfl, trivial⟩, rfl, rfl⟩

theorem dict2n (R : Rws) (hR : R.length ≤ 500) (a : Int) (i : Nat) (hX : FnOK Tryz.prog 77 [pS (rowsP R), pS (intsP [a])] [] (.tup [I i, .bq false]) []) : FnOK Tryz.prog 55 [.one (.ar 0), aggS [ki 2, intsP [a]]] [(0, vg 1 R.length), (1, bg R)] (.tup [.one (.ar 2), aggS (rsR (erR 12))]) [(2, vg 3 R.length), (3, bg R)] := by
  have hN := failed_ok 12
  refine fn_ok T Tryz.func55 (by kernel_rfl) rfl rfl rfl rfl fun C hC => ?_
  repeat' first
    | refine g_go T hC true 400 rfl rfl ?_
    | (exfalso; first | (simp only [decide_eq_true_eq, decide_eq_false_iff_not, List.length_map, Bool.not_eq_true', Bool.not_eq_false'] at *; omega) | (simp at h; done))
    | refine g_cond rfl (fun h => ?_) (fun h => ?_)
    | refine g_end T hC (by kernel_rfl) ?_
    | refine g_splitD (fun h => ?_) (fun h => ?_)
    | refine g_splitG rfl rfl rfl (fun h => ?_) (fun h => ?_)
    | refine g_splitP rfl rfl (fun h => ?_) (fun h => ?_)
    | refine g_lenG T hC rfl rfl rfl rfl rfl rfl ?_
    | refine g_idx T hC rfl rfl rfl (by decide) rfl rfl rfl ?_
    | refine g_partH T hC ([a].map intR) rfl rfl rfl (by decide) (by simp) rfl rfl rfl ?_
    | refine g_callN hC hX [(0, vg 1 R.length), (1, bg R)] rfl rfl (LnSs.cons (LnS.one (lend2 0 1 R)) (LnSs.refl _)) rfl rfl rfl rfl ?_
    | refine g_call hC (hN) rfl rfl (LeSs.refl _) rfl rfl rfl ?_
  all_goals exact g_fin ⟨.inl rfl, nm [0, 1, 0, 1], _, rfl, .refl _, ⟨rfl, rfl, trivial⟩, rfl, rfl⟩

theorem dict3n (R : Rws) (hR : R.length ≤ 500) (a : Int) (i : Nat) (hX : FnOK Tryz.prog 77 [pS (rowsP R), pS (intsP [a])] [] (.tup [I i, .bq false]) []) : FnOK Tryz.prog 55 [.one (.ar 0), aggS [ki 3, intsP [a]]] [(0, vg 1 R.length), (1, bg R)] (.tup [.one (.ar 2), aggS (rsR (erR 12))]) [(2, vg 3 R.length), (3, bg R)] := by
  have hN := failed_ok 12
  refine fn_ok T Tryz.func55 (by kernel_rfl) rfl rfl rfl rfl fun C hC => ?_
  repeat' first
    | refine g_go T hC true 400 rfl rfl ?_
    | (exfalso; first | (simp only [decide_eq_true_eq, decide_eq_false_iff_not, List.length_map, Bool.not_eq_true', Bool.not_eq_false'] at *; omega) | (simp at h; done))
    | refine g_cond rfl (fun h => ?_) (fun h => ?_)
    | refine g_end T hC (by kernel_rfl) ?_
    | refine g_splitD (fun h => ?_) (fun h => ?_)
    | refine g_splitG rfl rfl rfl (fun h => ?_) (fun h => ?_)
    | refine g_splitP rfl rfl (fun h => ?_) (fun h => ?_)
    | refine g_lenG T hC rfl rfl rfl rfl rfl rfl ?_
    | refine g_idx T hC rfl rfl rfl (by decide) rfl rfl rfl ?_
    | refine g_partH T hC ([a].map intR) rfl rfl rfl (by decide) (by simp) rfl rfl rfl ?_
    | refine g_callN hC hX [(0, vg 1 R.length), (1, bg R)] rfl rfl (LnSs.cons (LnS.one (lend2 0 1 R)) (LnSs.refl _)) rfl rfl rfl rfl ?_
    | refine g_call hC (hN) rfl rfl (LeSs.refl _) rfl rfl rfl ?_
  all_goals exact g_fin ⟨.inl rfl, nm [0, 1, 0, 1], _, rfl, .refl _, ⟨rfl, rfl, trivial⟩, rfl, rfl⟩

theorem dict2 (R : Rws) (hR : R.length ≤ 500) (a : Int) (i : Nat) (hX : FnOK Tryz.prog 77 [pS (rowsP R), pS (intsP [a])] [] (.tup [I i, .bq true]) []) (r : Rw) (v : Int) (hq : R[i]? = some r) (hil : i < R.length) (hrl : 1 < r.length) (hv : r[1]? = some v) : FnOK Tryz.prog 55 [.one (.ar 0), aggS [ki 2, intsP [a]]] [(0, vg 1 R.length), (1, bg R)] (.tup [.one (.ar 2), aggS (rsR (okR v))]) [(2, vg 3 R.length), (3, bg R)] := by
  have hN := result_ok v
  refine fn_ok T Tryz.func55 (by kernel_rfl) rfl rfl rfl rfl fun C hC => ?_
  repeat' first
    | refine g_go T hC true 400 rfl rfl ?_
    | (exfalso; first | (simp only [decide_eq_true_eq, decide_eq_false_iff_not, List.length_map, Bool.not_eq_true', Bool.not_eq_false'] at *; omega) | (simp at h; done))
    | refine g_cond rfl (fun h => ?_) (fun h => ?_)
    | refine g_end T hC (by kernel_rfl) ?_
    | refine g_splitD (fun h => ?_) (fun h => ?_)
    | refine g_splitG rfl rfl rfl (fun h => ?_) (fun h => ?_)
    | refine g_splitP rfl rfl (fun h => ?_) (fun h => ?_)
    | refine g_lenG T hC rfl rfl rfl rfl rfl rfl ?_
    | refine g_idx T hC rfl rfl rfl (by decide) rfl rfl rfl ?_
    | refine g_partH T hC ([a].map intR) rfl rfl rfl (by decide) (by simp) rfl rfl rfl ?_
    | refine g_callN hC hX [(0, vg 1 R.length), (1, bg R)] rfl rfl (LnSs.cons (LnS.one (lend2 0 1 R)) (LnSs.refl _)) rfl rfl rfl rfl ?_
    | (refine g_idxR T hC (i) rfl rfl rfl rfl rfl (by omega) rfl rfl ?_; refine g_loadR T hC rfl rfl rfl (by omega) rfl rfl ?_)
    | (refine g_idxC T hC 1 hq (by omega) rfl rfl rfl rfl rfl rfl ?_; refine g_loadC T hC hq hv rfl rfl rfl rfl rfl ?_)
    | refine g_call hC (hN) rfl rfl (LeSs.refl _) rfl rfl rfl ?_
  all_goals exact g_fin ⟨.inl rfl, nm [0, 1, 0, 1], _, rfl, .refl _, ⟨rfl, rfl, trivial⟩, rfl, rfl⟩

theorem dict3 (R : Rws) (hR : R.length ≤ 500) (a : Int) (i : Nat) (hX : FnOK Tryz.prog 77 [pS (rowsP R), pS (intsP [a])] [] (.tup [I i, .bq true]) []) (r : Rw) (v : Int) (hq : R[i]? = some r) (hil : i < R.length) (hrl : 1 < r.length) (hv : r[1]? = some v) : FnOK Tryz.prog 55 [.one (.ar 0), aggS [ki 3, intsP [a]]] [(0, vg 1 R.length), (1, bg R)] (.tup [.one (.ar 2), aggS (rsR (okR v))]) [(2, vg 3 (R.length - 1)), (3, bg (R.eraseIdx i))] := by
  have hN := result_ok v
  have hD := del_ok R i hil (by omega)
  refine fn_ok T Tryz.func55 (by kernel_rfl) rfl rfl rfl rfl fun C hC => ?_
  repeat' first
    | refine g_go T hC true 400 rfl rfl ?_
    | (exfalso; first | (simp only [decide_eq_true_eq, decide_eq_false_iff_not, List.length_map, Bool.not_eq_true', Bool.not_eq_false'] at *; omega) | (simp at h; done))
    | refine g_cond rfl (fun h => ?_) (fun h => ?_)
    | refine g_end T hC (by kernel_rfl) ?_
    | refine g_splitD (fun h => ?_) (fun h => ?_)
    | refine g_splitG rfl rfl rfl (fun h => ?_) (fun h => ?_)
    | refine g_splitP rfl rfl (fun h => ?_) (fun h => ?_)
    | refine g_lenG T hC rfl rfl rfl rfl rfl rfl ?_
    | refine g_idx T hC rfl rfl rfl (by decide) rfl rfl rfl ?_
    | refine g_partH T hC ([a].map intR) rfl rfl rfl (by decide) (by simp) rfl rfl rfl ?_
    | refine g_callN hC hX [(0, vg 1 R.length), (1, bg R)] rfl rfl (LnSs.cons (LnS.one (lend2 0 1 R)) (LnSs.refl _)) rfl rfl rfl rfl ?_
    | (refine g_idxR T hC (i) rfl rfl rfl rfl rfl (by omega) rfl rfl ?_; refine g_loadR T hC rfl rfl rfl (by omega) rfl rfl ?_)
    | (refine g_idxC T hC 1 hq (by omega) rfl rfl rfl rfl rfl rfl ?_; refine g_loadC T hC hq hv rfl rfl rfl rfl rfl ?_)
    | (rw [wrapS (by omega)]; refine g_callR hC hD (nm [0, 1, 102, 103]) rfl rfl (LeSs.refl _) rfl rfl rfl rfl rfl rfl rfl rfl ?_)
    | refine g_call hC (hN) rfl rfl (LeSs.refl _) rfl rfl rfl ?_
  all_goals exact g_fin ⟨.inl rfl, nm [0, 1, 102, 103], _, rfl, .refl _, ⟨rfl, rfl, trivial⟩, rfl, rfl⟩

theorem dict1f (R : Rws) (hR : R.length ≤ 500) (a b : Int) (i : Nat) (hX : FnOK Tryz.prog 77 [pS (rowsP R), pS (intsP [a])] [] (.tup [I i, .bq false]) []) (h5 : R.length = 500) : FnOK Tryz.prog 55 [.one (.ar 0), aggS [ki 1, intsP [a, b]]] [(0, vg 1 R.length), (1, bg R)] (.tup [.one (.ar 2), aggS (rsR (erR 4))]) [(2, vg 3 R.length), (3, bg R)] := by
  have hN := failed_ok 4
  refine fn_ok T Tryz.func55 (by kernel_rfl) rfl rfl rfl rfl fun C hC => ?_
  repeat' first
    | refine g_go T hC true 400 rfl rfl ?_
    | (exfalso; first | (simp only [decide_eq_true_eq, decide_eq_false_iff_not, List.length_map, Bool.not_eq_true', Bool.not_eq_false'] at *; omega) | (simp at h; done))
    | refine g_cond rfl (fun h => ?_) (fun h => ?_)
    | refine g_end T hC (by kernel_rfl) ?_
    | refine g_splitD (fun h => ?_) (fun h => ?_)
    | refine g_splitG rfl rfl rfl (fun h => ?_) (fun h => ?_)
    | refine g_splitP rfl rfl (fun h => ?_) (fun h => ?_)
    | refine g_lenG T hC rfl rfl rfl rfl rfl rfl ?_
    | refine g_idx T hC rfl rfl rfl (by decide) rfl rfl rfl ?_
    | refine g_partH T hC ([a].map intR) rfl rfl rfl (by decide) (by simp) rfl rfl rfl ?_
    | refine g_callN hC hX [(0, vg 1 R.length), (1, bg R)] rfl rfl (LnSs.cons (LnS.one (lend2 0 1 R)) (LnSs.refl _)) rfl rfl rfl rfl ?_
    | refine g_call hC (hN) rfl rfl (LeSs.refl _) rfl rfl rfl ?_
  all_goals exact g_fin ⟨.inl rfl, nm [0, 1, 0, 1], _, rfl, .refl _, ⟨rfl, rfl, trivial⟩, rfl, rfl⟩

theorem dict1y (R : Rws) (hR : R.length ≤ 500) (a b : Int) (i : Nat) (hX : FnOK Tryz.prog 77 [pS (rowsP R), pS (intsP [a])] [] (.tup [I i, .bq true]) []) (r : Rw) (hq : R[i]? = some r) (hil : i < R.length) (hrl : 1 < r.length) : FnOK Tryz.prog 55 [.one (.ar 0), aggS [ki 1, intsP [a, b]]] [(0, vg 1 R.length), (1, bg R)] (.tup [.one (.ar 2), aggS (rsR (okR 1))]) [(2, vg 3 R.length), (3, bg (R.set i (r.set 1 b)))] := by
  have hN := result_ok 1
  refine fn_ok T Tryz.func55 (by kernel_rfl) rfl rfl rfl rfl fun C hC => ?_
  repeat' first
    | refine g_go T hC true 400 rfl rfl ?_
    | (exfalso; first | (simp only [decide_eq_true_eq, decide_eq_false_iff_not, List.length_map, Bool.not_eq_true', Bool.not_eq_false'] at *; omega) | (simp at h; done))
    | refine g_cond rfl (fun h => ?_) (fun h => ?_)
    | refine g_end T hC (by kernel_rfl) ?_
    | refine g_splitD (fun h => ?_) (fun h => ?_)
    | refine g_splitG rfl rfl rfl (fun h => ?_) (fun h => ?_)
    | refine g_splitP rfl rfl (fun h => ?_) (fun h => ?_)
    | refine g_lenG T hC rfl rfl rfl rfl rfl rfl ?_
    | refine g_idx T hC rfl rfl rfl (by decide) rfl rfl rfl ?_
    | refine g_partH T hC ([a].map intR) rfl rfl rfl (by decide) (by simp) rfl rfl rfl ?_
    | refine g_callN hC hX [(0, vg 1 R.length), (1, bg R)] rfl rfl (LnSs.cons (LnS.one (lend2 0 1 R)) (LnSs.refl _)) rfl rfl rfl rfl ?_
    | (refine g_idxR T hC (i) rfl rfl rfl rfl rfl (by omega) rfl rfl ?_; refine g_loadR T hC rfl rfl rfl (by omega) rfl rfl ?_)
    | (refine g_idxC T hC 1 hq (by omega) rfl rfl rfl rfl rfl rfl ?_)
    | (refine g_storeC T hC hq (by omega) rfl rfl rfl rfl rfl ?_)
    | refine g_call hC (hN) rfl rfl (LeSs.refl _) rfl rfl rfl ?_
  all_goals exact g_fin ⟨.inl rfl, nm [0, 1, 0, 1], _, rfl, .refl _, ⟨rfl, rfl, trivial⟩, rfl, rfl⟩

theorem dict1 (R : Rws) (hR : R.length ≤ 500) (a b : Int) (i : Nat) (hX : FnOK Tryz.prog 77 [pS (rowsP R), pS (intsP [a])] [] (.tup [I i, .bq false]) []) (hil : i ≤ R.length) (h5 : R.length < 500) : FnOK Tryz.prog 55 [.one (.ar 0), aggS [ki 1, intsP [a, b]]] [(0, vg 1 R.length), (1, bg R)] (.tup [.one (.ar 2), aggS (rsR (okR 0))]) [(2, vg 3 (R.length + 1)), (3, bg (insR R i [a, b]))] := by
  have hN := result_ok 0
  have hCl := clone_ok [a, b] (by simp)
  have hD := ins_ok R i [a, b] hil (by omega)
  refine fn_ok T Tryz.func55 (by kernel_rfl) rfl rfl rfl rfl fun C hC => ?_
  repeat' first
    | refine g_go T hC true 400 rfl rfl ?_
    | (exfalso; first | (simp only [decide_eq_true_eq, decide_eq_false_iff_not, List.length_map, Bool.not_eq_true', Bool.not_eq_false'] at *; omega) | (simp at h; done))
    | refine g_cond rfl (fun h => ?_) (fun h => ?_)
    | refine g_end T hC (by kernel_rfl) ?_
    | refine g_splitD (fun h => ?_) (fun h => ?_)
    | refine g_splitG rfl rfl rfl (fun h => ?_) (fun h => ?_)
    | refine g_splitP rfl rfl (fun h => ?_) (fun h => ?_)
    | refine g_lenG T hC rfl rfl rfl rfl rfl rfl ?_
    | refine g_idx T hC rfl rfl rfl (by decide) rfl rfl rfl ?_
    | refine g_partH T hC ([a].map intR) rfl rfl rfl (by decide) (by simp) rfl rfl rfl ?_
    | refine g_callN hC hX [(0, vg 1 R.length), (1, bg R)] rfl rfl (LnSs.cons (LnS.one (lend2 0 1 R)) (LnSs.refl _)) rfl rfl rfl rfl ?_
    | (refine g_callR hC hCl (nm [104]) rfl rfl (LeSs.refl _) rfl rfl rfl rfl rfl rfl rfl rfl ?_)
    | (refine g_litB T hC rfl rfl rfl rfl rfl rfl rfl rfl rfl rfl rfl ?_)
    | (refine g_callR hC hD (nm [0, 1, 102, 103, 1076, 104]) rfl rfl (LeSs.refl _) rfl rfl rfl rfl rfl rfl rfl rfl ?_)
    | refine g_call hC (hN) rfl rfl (LeSs.refl _) rfl rfl rfl ?_
  all_goals exact g_fin ⟨.inl rfl, nm [0, 1, 102, 103], _, rfl, .refl _, ⟨rfl, rfl, trivial⟩, rfl, rfl⟩

end Hw.Mq
