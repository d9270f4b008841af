/- The engine, part BB: slices of strings. -/
import Derived.Test.YtmnhegkogibipaaGreatDoorC7
import Derived.Laws.Strings3
import Derived.Laws.IdiomStrings
import Derived.Test.YtmnhegkogibipaaGreatDoorE3
import Derived.Maps.RangeRun
import Derived.Test.YtmnhegkogibipaaGreatDoorC18
import Derived.Test.YtmnhegkogibipaaGreatDoorC17
set_option linter.unusedVariables false
set_option linter.unusedSimpArgs false
namespace Hw
open Go
section
variable {P : Program} {d : Option Nat} {ty : TypeId} {ps : String} {af : Array Edge} {g : Option (Nat × Bool)} {x y : Operand} {t : TypeId}
theorem L_slTo {a : ByteArray} {j : Int} {k : IntKind} (hx : okc x (Sr a)) (hy : okc y (Kk k j)) (ht : P.underlying t = some .string) (h0 : 0 ≤ j) (h1 : j ≤ a.size) :
    Snd P ⟨d, .slice t x none (some y) none, ty, ps, af, g⟩ (rq x (Sr a) ++ rq y (Kk k j)) [] [] (Sr (a.extract 0 j.toNat)) [] :=
  snd_quiet fun C st M ρ b w hH hs _ => by
    rw [okS_append] at hs
    have e1 := hH.k (ev_of hx hs.1)
    have e2 := hH.k (ev_of hy hs.2)
    refine ⟨.string (a.extract 0 j.toNat), ?_, by simp only [RepS, RepV, RepPV]; exact ⟨trivial, rfl⟩⟩
    simp only [execOp, e1, e2, Option.map_none, Option.map_some, Sem.run_bind, run_sliceAt_string w t _ _ _ _ ht, run_slice_string_to_if w t a k j ht, if_pos (⟨h0, h1⟩ : 0 ≤ j ∧ j ≤ (a.size : Int)), Result.andThen_ok, Sem.run_pure]
theorem L_slFrom {a : ByteArray} {j : Int} {k : IntKind} (hx : okc x (Sr a)) (hy : okc y (Kk k j)) (ht : P.underlying t = some .string) (h0 : 0 ≤ j) (h1 : j ≤ a.size) :
    Snd P ⟨d, .slice t x (some y) none none, ty, ps, af, g⟩ (rq x (Sr a) ++ rq y (Kk k j)) [] [] (Sr (a.extract j.toNat a.size)) [] :=
  snd_quiet fun C st M ρ b w hH hs _ => by
    rw [okS_append] at hs
    have e1 := hH.k (ev_of hx hs.1)
    have e2 := hH.k (ev_of hy hs.2)
    refine ⟨.string (a.extract j.toNat a.size), ?_, by simp only [RepS, RepV, RepPV]; exact ⟨trivial, rfl⟩⟩
    simp only [execOp, e1, e2, Option.map_none, Option.map_some, Sem.run_bind, run_sliceAt_string w t _ _ _ _ ht, run_slice_string_from_if w t a k j ht, if_pos (⟨h0, h1⟩ : 0 ≤ j ∧ j ≤ (a.size : Int)), Result.andThen_ok, Sem.run_pure]
end
variable {P : Program} {C : Ctx} {k : List Frm} {n : Nat} {sl : Slots} {tab : Tab} {Q : Exit → St → Prop} {all : Array Oper} {rest : List Oper}
theorem g_slTo {d : Nat} {x y : Operand} {t ty : TypeId} {ps : String} {af : Array Edge} {g0 : Option (Nat × Bool)} {gs : Slots} {md : Mode} (hC : C.low) {a : ByteArray} {j : Int} {k0 : IntKind}
    (hx : ev sl x = some (Sr a)) (hy : ev sl y = some (Kk k0 j)) (ht : P.underlying t = some .string) (h0 : 0 ≤ j) (h1 : j ≤ a.size) (hm : metL all sl g0 = some gs) (hd : Nat.blt d n = true)
    (g : Goal P C (.ops all rest (nx md ⟨some d, gs ++ (rq x (Sr a) ++ rq y (Kk k0 j)), [], [], Sr (a.extract 0 j.toNat), []⟩)) k n ((d, Sr (a.extract 0 j.toNat)) :: sl) tab Q) :
    Goal P C (.ops all (⟨some d, .slice t x none (some y) none, ty, ps, af, g0⟩ :: rest) md) k n sl tab Q := by
  have e1 := of_ev (st := ⟨n, sl, tab⟩) hx
  have e2 := of_ev (st := ⟨n, sl, tab⟩) hy
  have := metL_step hm (L_slTo (P := P) (ty := ty) (ps := ps) (af := af) (g := g0) (d := some d) (t := t) e1.1 e2.1 ht h0 h1) (n := n) (tab := tab)
  exact g_law (L := ⟨some d, gs ++ (rq x (Sr a) ++ rq y (Kk k0 j)), [], [], Sr (a.extract 0 j.toNat), []⟩) hC this.1 rfl ⟨by rw [okS_append, okS_append]; exact ⟨this.2, e1.2, e2.2⟩, trivial, rfl, hd⟩ g
theorem g_slFrom {d : Nat} {x y : Operand} {t ty : TypeId} {ps : String} {af : Array Edge} {g0 : Option (Nat × Bool)} {gs : Slots} {md : Mode} (hC : C.low) {a : ByteArray} {j : Int} {k0 : IntKind}
    (hx : ev sl x = some (Sr a)) (hy : ev sl y = some (Kk k0 j)) (ht : P.underlying t = some .string) (h0 : 0 ≤ j) (h1 : j ≤ a.size) (hm : metL all sl g0 = some gs) (hd : Nat.blt d n = true)
    (g : Goal P C (.ops all rest (nx md ⟨some d, gs ++ (rq x (Sr a) ++ rq y (Kk k0 j)), [], [], Sr (a.extract j.toNat a.size), []⟩)) k n ((d, Sr (a.extract j.toNat a.size)) :: sl) tab Q) :
    Goal P C (.ops all (⟨some d, .slice t x (some y) none none, ty, ps, af, g0⟩ :: rest) md) k n sl tab Q := by
  have e1 := of_ev (st := ⟨n, sl, tab⟩) hx
  have e2 := of_ev (st := ⟨n, sl, tab⟩) hy
  have := metL_step hm (L_slFrom (P := P) (ty := ty) (ps := ps) (af := af) (g := g0) (d := some d) (t := t) e1.1 e2.1 ht h0 h1) (n := n) (tab := tab)
  exact g_law (L := ⟨some d, gs ++ (rq x (Sr a) ++ rq y (Kk k0 j)), [], [], Sr (a.extract j.toNat a.size), []⟩) hC this.1 rfl ⟨by rw [okS_append, okS_append]; exact ⟨this.2, e1.2, e2.2⟩, trivial, rfl, hd⟩ g
end Hw
/- The engine, part BC: a string's bytes as an array of the run's own. -/
namespace Hw
open Go
section
variable {P : Program} {d : Option Nat} {ty : TypeId} {ps : String} {af : Array Edge} {g : Option (Nat × Bool)} {x y : Operand} {t : TypeId}
theorem bytes_rows {M : Mem} {g : Nat → Option Value} : ∀ (l : List UInt8) (o : Nat), (∀ (j : Nat) b, l[j]? = some b → g (o + j) = some (.int .u8 b.toNat)) → RowsIn M g 1 (l.map fun b => [PV.k (.int .u8 b.toNat)]) o
  | [], _, _ => by simp only [List.map_nil, RowsIn]
  | b :: l, o, h => by
    simp only [List.map_cons, RowsIn, RowIn, RepPV]
    refine ⟨rfl, ⟨⟨_, by simpa using h 0 b rfl, rfl, rfl⟩, trivial⟩, bytes_rows l (o + 1) fun j c hj => ?_⟩
    have := h (j + 1) c (by simpa using hj)
    rwa [show o + 1 + j = o + (j + 1) by omega]
theorem L_s2b {id : Nat} {s : ByteArray} {src dst e : TypeId} (hx : okc x (Sr s)) (hs : P.underlying src = some .string) (hd' : P.underlying dst = some (.slice e)) (he : P.underlying e = some (.int .u8)) (hl : s.size ≤ maxLen) :
    Snd P ⟨d, .convert src dst x, ty, ps, af, g⟩ (rq x (Sr s)) [] [id] (.one (.ar id)) [(id, some (.arr 1 (bytesR s)))] := by
  intro C st M ρ a w hH h1 hT hF hd k Q hk
  have e1 := hH.k (ev_of hx h1)
  have hge := grownCap_ge w s.size 0 e
  have hmx := grownCap_le_maxLen w s.size 0 e hl
  have hrun : (execOp a.eval ⟨d, .convert src dst x, ty, ps, af, g⟩).run P w = .ok (.value (.slice (some ⟨w.heap.size, 0, none⟩) s.size (grownCap w s.size 0 e)))
      (w.drew.alloc (.cells (bytesRow s (grownCap w s.size 0 e)) e ((bytesRow s (grownCap w s.size 0 e)).size, (bytesRow s (grownCap w s.size 0 e)).size + 1))) := by
    simp only [execOp, e1, Sem.run_bind, run_bytes_of_string w src dst e s hs hd' he, Result.andThen_ok, Sem.run_pure]
  unfold Oper.wp
  rw [hrun, Oper.upon_value]
  generalize grownCap w s.size 0 e = cap at *
  have hsz : (bytesRow s cap).size = cap := by
    simp only [bytesRow, Array.size_append, Array.size_map, Array.size_replicate]
    have : s.data.size = s.size := rfl
    omega
  have hlen : (bytesR s).length = s.size := by simp only [bytesR, List.length_map, Array.length_toList]; rfl
  have hml : maxLen ≤ 9223372036854775807 := by decide
  generalize hW : w.drew.alloc (.cells (bytesRow s cap) e ((bytesRow s cap).size, (bytesRow s cap).size + 1)) = w'
  have hheap : w'.heap = w.heap.push (.cells (bytesRow s cap) e ((bytesRow s cap).size, (bytesRow s cap).size + 1)) := by rw [← hW]; rfl
  have hR : HoldsR M (upd ρ id (.slice (some ⟨w.heap.size, 0, none⟩) s.size cap)) w' id (.arr 1 (bytesR s)) := by
    refine ⟨some ⟨w.heap.size, 0, none⟩, cap, by rw [upd_same, hlen], by rw [hlen]; exact hge, by omega, .inr ⟨w.heap.size, 0, bytesRow s cap, e, _, rfl, by rw [hheap, Array.getElem?_push_size], fun i hi => ?_, by rw [hsz]; omega, bytes_rows _ 0 fun j b hj => ?_⟩⟩
    · simp only [Bool.and_eq_false_iff, decide_eq_false_iff_not]; omega
    have hlt := (List.getElem?_eq_some_iff.1 hj).1
    rw [Array.length_toList] at hlt
    rw [Array.getElem?_toList] at hj
    rw [Nat.zero_add, bytesRow, Array.getElem?_append_left (by rw [Array.size_map]; exact hlt), Array.getElem?_map, hj]
    rfl
  refine hk _ _ M _ (hH.step none (val := .slice (some ⟨w.heap.size, 0, none⟩) s.size cap) (fun b hb _ => by rw [hheap, Array.getElem?_push, if_neg (by omega)]) (by rw [hheap]; simp) (by rw [← hW]; rfl) (by rw [← hW]; rfl) (by rw [← hW]; rfl)
    (fun b hb => by simp only [Bk, blk, Option.some.injEq] at hb; exact .inl (by omega)) hF.1 hR (by simp only [RepS, RepV]; exact ⟨(upd_same _ _ _).symm, rfl⟩) hd)
end
variable {P : Program} {C : Ctx} {k : List Frm} {n : Nat} {sl : Slots} {tab : Tab} {Q : Exit → St → Prop} {all : Array Oper} {rest : List Oper}
theorem g_s2b {d : Nat} {x : Operand} {src dst e ty : TypeId} {ps : String} {af : Array Edge} {g0 : Option (Nat × Bool)} {gs : Slots} {md : Mode} (hC : C.low) {s : ByteArray}
    (hx : ev sl x = some (Sr s)) (hs : P.underlying src = some .string) (hd' : P.underlying dst = some (.slice e)) (he : P.underlying e = some (.int .u8)) (hl : s.size ≤ 140737488355328) (hm : metL all sl g0 = some gs) (hd : Nat.blt d n = true)
    (hf : (Nat.ble 100 (1000 + d) && freshB (1000 + d) ⟨n, sl, tab⟩) = true)
    (g : Goal P C (.ops all rest (nx md ⟨some d, gs ++ rq x (Sr s), [], [1000 + d], .one (.ar (1000 + d)), [(1000 + d, some (.arr 1 (bytesR s)))]⟩)) k n ((d, .one (.ar (1000 + d))) :: sl) ((1000 + d, some (.arr 1 (bytesR s))) :: tab) Q) :
    Goal P C (.ops all (⟨some d, .convert src dst x, ty, ps, af, g0⟩ :: rest) md) k n sl tab Q := by
  have e1 := of_ev (st := ⟨n, sl, tab⟩) hx
  have hml : 140737488355328 ≤ maxLen := by decide
  have := metL_step hm (L_s2b (P := P) (ty := ty) (ps := ps) (af := af) (g := g0) (d := some d) (id := 1000 + d) e1.1 hs hd' he (by omega)) (n := n) (tab := tab)
  exact g_law (L := ⟨some d, gs ++ rq x (Sr s), [], [1000 + d], .one (.ar (1000 + d)), [(1000 + d, some (.arr 1 (bytesR s)))]⟩) hC this.1 rfl ⟨by rw [okS_append]; exact ⟨this.2, e1.2⟩, trivial, fr_one hf, hd⟩ g
end Hw
/- The engine, part BD: arrays of arrays that the run owns: length, index, load, store. -/
namespace Hw
open Go

/-- A cell of the outer array, as a word. -/
def cellV (id q : Nat) : PV → V
  | .k x => .p (.k x)
  | .sl _ _ => .nv id (q + 1)
theorem CellIn.rep {M : Mem} {ρ : Nat → Value} {w : World} {id q : Nat} {c o : Value} {cs : List Value} (hρ : ρ id = .tuple (o :: cs).toArray) (hq : cs[q]? = some c) : ∀ {p : PV}, CellIn M w c p → RepV M ρ (cellV id q p) c
  | .k x, h => by
    obtain ⟨rfl, h2, _⟩ := h
    simp only [cellV, RepV, RepPV]; exact ⟨trivial, h2⟩
  | .sl e rows, h => by
    obtain ⟨a, cap, h1, _⟩ := h
    simp only [cellV, RepV]
    exact ⟨o :: cs, hρ, by rw [List.getElem?_cons_succ]; exact hq, by rw [h1]; rfl⟩

section
variable {P : Program} {d : Option Nat} {ty : TypeId} {ps : String} {af : Array Edge} {g : Option (Nat × Bool)} {x y : Operand} {t : TypeId}

theorem L_len_nest {id e : Nat} {rows : List (List PV)} {as' : Array TypeId} {el : TypeId} {n : Nat} (hx : okc x (.one (.nv id 0))) (ha : as'[0]? = some t) (h : elemSz P t = some (el, n)) :
    Snd P ⟨d, .call ⟨.builtin .len, #[x], as'⟩, ty, ps, af, g⟩ (rq x (.one (.nv id 0))) [(id, .nest e rows)] [] (I rows.length) [] :=
  snd_quiet fun C st M ρ a w hH h1 ht => by
    have e' := hH.evS (ev_of hx h1)
    simp only [RepS, RepV] at e'
    obtain ⟨xs, f1, f2, _⟩ := e'
    obtain ⟨a', cap, cs, h3, _⟩ := hH.tabs.res id _ ht.1
    obtain ⟨ii, hu, hinf, hsz⟩ := elemSz_spec h
    rw [h3] at f1
    simp only [Value.tuple.injEq] at f1
    have f3 : xs = .slice a' rows.length cap :: cs := by have := congrArg Array.toList f1; simpa using this.symm
    subst f3
    simp only [List.getElem?_cons_zero, Option.some.injEq] at f2
    exact ⟨.int .i64 rows.length, by simp [execOp, resolve, invoke, builtin, Builtin.len_, ha, ← f2, run_underlying hu, goInt], repK _ _⟩
theorem L_index_nest {id e : Nat} {rows : List (List PV)} {i : Int} {k : IntKind} {el : TypeId} (hx : okc x (.one (.nv id 0))) (hy : okc y (Kk k i)) (h : elemSz P t = some (el, e)) (h0 : 0 ≤ i) (hi : i < rows.length) :
    Snd P ⟨d, .indexAddr t x y, ty, ps, af, g⟩ (rq x (.one (.nv id 0)) ++ rq y (Kk k i)) [(id, .nest e rows)] [] (.one (.np id 0 (i.toNat * e))) [] :=
  snd_quiet fun C st M ρ a w hH h1 ht => by
    rw [okS_append] at h1
    have e' := hH.evS (ev_of hx h1.1)
    have e2 := hH.k (ev_of hy h1.2)
    simp only [RepS, RepV] at e'
    obtain ⟨xs, f1, f2, _⟩ := e'
    obtain ⟨a', cap, cs, h3, h4, h5, _, _, _, _, h6⟩ := hH.tabs.res id _ ht.1
    obtain ⟨ii, hu, hinf, hsz⟩ := elemSz_spec h
    have f1' := f1
    rw [h3] at f1
    simp only [Value.tuple.injEq] at f1
    have f3 : xs = .slice a' rows.length cap :: cs := by have := congrArg Array.toList f1; simpa using this.symm
    subst f3
    simp only [List.getElem?_cons_zero, Option.some.injEq] at f2
    rcases h6 with ⟨h6, h7⟩ | ⟨b, o, arr, el', fz, h6, _⟩
    · subst h7; omega
    · subst h6
      refine ⟨.pointer (some ⟨b, o + i.toNat * e, none⟩), ?_, by simp only [RepS, RepV]; exact ⟨_, b, o, _, _, f1', rfl, rfl⟩⟩
      simp only [execOp, ← f2, e2, Instr.indexAt, asIntOf, Sem.run_bind, Sem.run_pure, Result.andThen_ok, run_underlying hu]
      rw [if_pos ⟨h0, hi⟩]
      simp only [Sem.run_bind, Sem.run_pure, Result.andThen_ok, run_sizeOf hinf, add_addr, hsz]
theorem L_load_nest {id kk e : Nat} {rows : List (List PV)} {vs : List V} {s : Option Nat} {v : S} (hx : okc x (.one (.np id 0 kk))) (h : shp P t = some s)
    (hvs : ∀ j v, vs[j]? = some v → ∃ p, rows.flatten[kk + j]? = some p ∧ cellV id (kk + j) p = v) (hv : ofCells s vs = some v) :
    Snd P ⟨d, .load t x, ty, ps, af, g⟩ (rq x (.one (.np id 0 kk))) [(id, .nest e rows)] [] v [] :=
  snd_quiet fun C st M ρ a w hH h1 ht => by
    have e' := hH.evS (ev_of hx h1)
    simp only [RepS, RepV] at e'
    obtain ⟨xs, b, o, m, cap, f1, f2, e2⟩ := e'
    obtain ⟨a', cap', cs, h2, h3, h4, hl, hn, hc, _, h5⟩ := hH.tabs.res id _ ht.1
    rw [h2] at f1
    simp only [Value.tuple.injEq] at f1
    have f3 : xs = .slice a' rows.length cap' :: cs := by have := congrArg Array.toList f1; simpa using this.symm
    subst f3
    simp only [List.getElem?_cons_zero, Option.some.injEq, Value.slice.injEq] at f2
    rcases h5 with ⟨h5, _⟩ | ⟨b', o', arr, el, fz, h5, h6, h6', h7, h8⟩
    · rw [h5] at f2; cases f2.1
    · rw [h5] at f2
      have hb : b' = b ∧ o' = o := by have := f2.1; simp at this; exact this
      obtain ⟨rfl, rfl⟩ := hb
      obtain ⟨ds, h9, h10⟩ := repVs_of (M := M) (ρ := ρ) (vs := vs) (g := fun j => arr[o' + (kk + j)]?) fun j u hj => by
        obtain ⟨p, hp, e⟩ := hvs j u hj
        obtain ⟨c, hc1, hc2⟩ := hc _ p hp
        exact ⟨c, h8 _ c hc1, e ▸ hc2.rep h2 hc1⟩
      obtain ⟨u, hu, hr⟩ := run_loadVar_cells (w := w) (b := b') (o := o' + kk) h h9 (fun q c hc => by
        have := h10 q c hc
        simp only [← Nat.add_assoc] at this
        simp [World.cell?, h6, this]) hv
      exact ⟨u, by simp only [execOp, e2, Sem.run_bind, Instr.loadAt, Instr.sureAddr, Sem.run_pure, Result.andThen_ok, hu], hr⟩
/-- An inner array: what its word says. -/
theorem nest_inner {M : Mem} {ρ : Nat → Value} {w : World} {id e q e' : Nat} {rows rs : List (List PV)} (h : HoldsR M ρ w id (.nest e rows)) (hq : rows.flatten[q]? = some (.sl e' rs)) {v : Value} {xs : List Value} (hx : ρ id = .tuple xs.toArray) (hv : xs[q + 1]? = some v) : ArrIn M w v e' rs := by
  obtain ⟨a', cap', cs, h2, _, _, _, _, hc, _⟩ := h
  rw [h2] at hx
  simp only [Value.tuple.injEq] at hx
  have f3 : xs = .slice a' rows.length cap' :: cs := by have := congrArg Array.toList hx; simpa using this.symm
  subst f3
  rw [List.getElem?_cons_succ] at hv
  obtain ⟨c, c1, c2⟩ := hc q _ hq
  rw [hv] at c1
  obtain rfl := Option.some.inj c1
  exact c2
theorem L_len_sub {id e q e' : Nat} {rows rs : List (List PV)} {as' : Array TypeId} {el : TypeId} {n : Nat} (hx : okc x (.one (.nv id (q + 1)))) (hq : rows.flatten[q]? = some (.sl e' rs)) (ha : as'[0]? = some t) (h : elemSz P t = some (el, n)) :
    Snd P ⟨d, .call ⟨.builtin .len, #[x], as'⟩, ty, ps, af, g⟩ (rq x (.one (.nv id (q + 1)))) [(id, .nest e rows)] [] (I rs.length) [] :=
  snd_quiet fun C st M ρ a w hH h1 ht => by
    have e' := hH.evS (ev_of hx h1)
    simp only [RepS, RepV] at e'
    obtain ⟨xs, f1, f2, _⟩ := e'
    obtain ⟨a', cap, h3, _⟩ := nest_inner (hH.tabs.res id _ ht.1) hq f1 f2
    obtain ⟨ii, hu, hinf, hsz⟩ := elemSz_spec h
    exact ⟨.int .i64 rs.length, by simp [execOp, resolve, invoke, builtin, Builtin.len_, ha, h3, run_underlying hu, goInt], repK _ _⟩
theorem L_index_sub {id e q e' : Nat} {rows rs : List (List PV)} {i : Int} {k : IntKind} {el : TypeId} (hx : okc x (.one (.nv id (q + 1)))) (hy : okc y (Kk k i)) (hq : rows.flatten[q]? = some (.sl e' rs)) (h : elemSz P t = some (el, e')) (h0 : 0 ≤ i) (hi : i < rs.length) :
    Snd P ⟨d, .indexAddr t x y, ty, ps, af, g⟩ (rq x (.one (.nv id (q + 1))) ++ rq y (Kk k i)) [(id, .nest e rows)] [] (.one (.np id (q + 1) (i.toNat * e'))) [] :=
  snd_quiet fun C st M ρ a w hH h1 ht => by
    rw [okS_append] at h1
    have e1 := hH.evS (ev_of hx h1.1)
    have e2 := hH.k (ev_of hy h1.2)
    simp only [RepS, RepV] at e1
    obtain ⟨xs, f1, f2, _⟩ := e1
    obtain ⟨a', cap, h3, h4, h5, h6⟩ := nest_inner (hH.tabs.res id _ ht.1) hq f1 f2
    obtain ⟨ii, hu, hinf, hsz⟩ := elemSz_spec h
    rcases h6 with ⟨h6, h7⟩ | ⟨b, o, arr, el', fz, h6, _⟩
    · subst h7; omega
    · subst h6
      refine ⟨.pointer (some ⟨b, o + i.toNat * e', none⟩), ?_, by simp only [RepS, RepV]; exact ⟨_, b, o, _, _, f1, by rw [f2, h3], rfl⟩⟩
      simp only [execOp, h3, e2, Instr.indexAt, asIntOf, Sem.run_bind, Sem.run_pure, Result.andThen_ok, run_underlying hu]
      rw [if_pos ⟨h0, hi⟩]
      simp only [Sem.run_bind, Sem.run_pure, Result.andThen_ok, run_sizeOf hinf, add_addr, hsz]
theorem L_load_sub {id e q e' kk : Nat} {rows rs : List (List PV)} {vs : List PV} {s : Option Nat} {v : S} (hx : okc x (.one (.np id (q + 1) kk))) (hq : rows.flatten[q]? = some (.sl e' rs)) (h : shp P t = some s)
    (hvs : ∀ j p, vs[j]? = some p → rs.flatten[kk + j]? = some p) (hv : ofCells s (vs.map V.p) = some v) :
    Snd P ⟨d, .load t x, ty, ps, af, g⟩ (rq x (.one (.np id (q + 1) kk))) [(id, .nest e rows)] [] v [] :=
  snd_quiet fun C st M ρ a w hH h1 ht => by
    have e1 := hH.evS (ev_of hx h1)
    simp only [RepS, RepV] at e1
    obtain ⟨xs, b, o, m, cap, f1, f2, e2⟩ := e1
    obtain ⟨a', cap', h3, h4, h5, h6⟩ := nest_inner (hH.tabs.res id _ ht.1) hq f1 f2
    simp only [Value.slice.injEq] at h3
    rcases h6 with ⟨h6, _⟩ | ⟨b', o', arr, el, fz, h6, h7, h7', h8, h9⟩
    · rw [h6] at h3; cases h3.1
    · rw [h6] at h3
      have hb : b = b' ∧ o = o' := by have := h3.1; simp at this; exact this
      obtain ⟨rfl, rfl⟩ := hb
      obtain ⟨us, g1, _, g3⟩ := h9.cells (ρ := ρ)
      obtain ⟨ds, k9, k10⟩ := repVs_of (M := M) (ρ := ρ) (vs := vs.map V.p) (g := fun j => arr[o + (kk + j)]?) fun j u hj => by
        rw [List.getElem?_map, Option.map_eq_some_iff] at hj
        obtain ⟨p, hp, rfl⟩ := hj
        obtain ⟨c, hc, hr⟩ := repVs_at g1 (m := kk + j) (v := .p p) (by rw [List.getElem?_map, hvs j p hp]; rfl)
        exact ⟨c, g3 _ c hc, hr⟩
      obtain ⟨u, hu, hr⟩ := run_loadVar_cells (w := w) (b := b) (o := o + kk) h k9 (fun q c hc => by
        have := k10 q c hc
        simp only [← Nat.add_assoc] at this
        simp [World.cell?, h7, this]) hv
      exact ⟨u, by simp only [execOp, e2, Sem.run_bind, Instr.loadAt, Instr.sureAddr, Sem.run_pure, Result.andThen_ok, hu], hr⟩
/-- A store into an inner array. -/
theorem L_store_sub {id e q e' kk : Nat} {rows rows' rs rs' : List (List PV)} {us : List PV} {s : S} {sh : Option Nat} (hx : okc x (.one (.np id (q + 1) kk))) (hy : okc y s) (h : shp P t = some sh) (hc : cellsOf s = some (us.map V.p)) (hl : us.length = sh.getD 1)
    (hq : rows.flatten[q]? = some (.sl e' rs)) (hq' : rows'.flatten[q]? = some (.sl e' rs')) (hln : rows'.length = rows.length) (hle : ∀ r ∈ rows', r.length = e) (hoth : ∀ j, j ≠ q → rows'.flatten[j]? = rows.flatten[j]?)
    (hrl : rs'.length = rs.length) (hre : ∀ r ∈ rs', r.length = e') (hb : kk + us.length ≤ rs.length * e')
    (hn : ∀ m p, rs'.flatten[m]? = some p → (kk ≤ m ∧ us[m - kk]? = some p) ∨ ((m < kk ∨ kk + us.length ≤ m) ∧ rs.flatten[m]? = some p)) :
    Snd P ⟨d, .store t x y, ty, ps, af, g⟩ (rq x (.one (.np id (q + 1) kk)) ++ rq y s) [(id, .nest e rows)] [] .un [(id, some (.nest e rows'))] := by
  intro C st M ρ a w hH h1 ht _ hd k Q hk
  rw [okS_append] at h1
  have e0 := hH.evS (ev_of hx h1.1)
  have ey := cellsOf_spec hc (hH.evS (ev_of hy h1.2))
  simp only [RepS, RepV] at e0
  obtain ⟨xs, b, o, m, cap, f1, f2, e2⟩ := e0
  obtain ⟨a', cap', cs, g1, g2, g3, gl, gn, gc, gap, g5⟩ := hH.tabs.res id _ ht.1
  have f1' := f1
  rw [g1] at f1
  simp only [Value.tuple.injEq] at f1
  have f3 : xs = .slice a' rows.length cap' :: cs := by have := congrArg Array.toList f1; simpa using this.symm
  subst f3
  rw [List.getElem?_cons_succ] at f2
  obtain ⟨c0, c1, c2⟩ := gc q _ hq
  rw [f2] at c1
  obtain rfl := Option.some.inj c1
  obtain ⟨ai, capi, i1, i2, i3, i6⟩ := c2
  simp only [Value.slice.injEq] at i1
  rcases i6 with ⟨i6, _⟩ | ⟨b', o', arr, el, fz, i6, i7, i7', i8, i9⟩
  · rw [i6] at i1; cases i1.1
  rw [i6] at i1
  have hbo : b = b' ∧ o = o' := by have := i1.1; simp at this; exact this
  obtain ⟨rfl, rfl⟩ := hbo
  have hm : m = rs.length := i1.2.1
  have hcp : cap = capi := i1.2.2
  subst hm; subst hcp
  obtain ⟨ii, hinf, hs⟩ := shp_size h
  have hlen : (a.eval y).cells.toList.length = us.length := by rw [ey.length, List.length_map]
  have hie : rs.length * e' ≤ cap * e' := Nat.mul_le_mul_right e' i2
  have hst := run_storeCells_blk (P := P) b (o + kk) el fz (a.eval y).cells.toList 0 arr w i7 i7' (by rw [hlen]; omega) ey.one
  have hrun : (execOp a.eval ⟨d, .store t x y, ty, ps, af, g⟩).run P w = .ok .skip (w.setRow b (setAt arr.toList (o + kk) (a.eval y).cells.toList).toArray) := by
    have hsz : ¬ ((a.eval y).cells.size ≠ ii.size) := by rw [hs, ← hl, ← hlen]; simp
    simp only [execOp, e2, Instr.storeAt, Instr.sureAddr, Sem.run_bind, Sem.run_pure, Result.andThen_ok, storeVar, run_sizeOf hinf, if_neg hsz]
    simp only [hst, Result.andThen_ok, Nat.add_zero]
  unfold Oper.wp
  rw [hrun, Oper.upon_skip]
  have hcsl : o + kk + (a.eval y).cells.toList.length ≤ arr.toList.length := by rw [hlen]; simp; omega
  have hsz : (setAt arr.toList (o + kk) (a.eval y).cells.toList).toArray.size = arr.size := by simp [setAt_length _ _ _ hcsl]
  have hget : ∀ m : Nat, (setAt arr.toList (o + kk) (a.eval y).cells.toList).toArray[o + m]? = if o + m < o + kk then arr[o + m]? else if o + m < o + kk + us.length then (a.eval y).cells.toList[o + m - (o + kk)]? else arr[o + m]? := fun m => by
    rw [List.getElem?_toArray, setAt_get _ _ _ _ (by omega), hlen]; simp
  generalize hW : setAt arr.toList (o + kk) (a.eval y).cells.toList = narr at *
  have hoB : ∀ k : Nat, k ≠ b → (w.setRow b narr.toArray).heap[k]? = w.heap[k]? := fun k hk => setRow_other w b k _ hk
  have hnB : (w.setRow b narr.toArray).heap[b]? = some (.cells narr.toArray el fz) := setRow_heap w b _ _ el _ i7
  -- the inner array anew
  have hinner : ArrIn M (w.setRow b narr.toArray) (.slice (some ⟨b, o, none⟩) rs.length cap) e' rs' := by
    refine ⟨some ⟨b, o, none⟩, cap, by rw [hrl], by omega, i3, .inr ⟨b, o, narr.toArray, el, fz, rfl, hnB, by rw [hsz]; exact i7', by rw [hsz]; exact i8, ?_⟩⟩
    obtain ⟨u1, u2, _, u4⟩ := i9.cells (ρ := ρ)
    obtain ⟨ds, k9, k10⟩ := repVs_of (M := M) (ρ := ρ) (vs := rs'.flatten.map V.p) (g := fun j => narr.toArray[o + j]?) fun j v hj => by
      rw [List.getElem?_map, Option.map_eq_some_iff] at hj
      obtain ⟨p, hp, rfl⟩ := hj
      rcases hn j p hp with ⟨n1, n2⟩ | ⟨n1, n2⟩
      · have hlt : j - kk < us.length := (List.getElem?_eq_some_iff.1 n2).1
        obtain ⟨c, v1, v2⟩ := repVs_at ey (m := j - kk) (v := .p p) (by rw [List.getElem?_map, n2]; rfl)
        refine ⟨c, ?_, v2⟩
        rw [hget, if_neg (by omega), if_pos (by omega), ← v1]; congr 1; omega
      · obtain ⟨c, v1, v2⟩ := repVs_at u2 (m := j) (v := .p p) (by rw [List.getElem?_map, n2]; rfl)
        refine ⟨c, ?_, v2⟩
        rw [hget]
        rcases n1 with n1 | n1
        · rw [if_pos (by omega)]; exact u4 _ c v1
        · rw [if_neg (by omega), if_neg (by omega)]; exact u4 _ c v1
    exact RowsIn.of_cells (ρ := ρ) hre k9 fun j c hc => k10 j c hc
  have hblk : blk (.slice (some ⟨b, o, none⟩) rs.length cap) = some b := rfl
  have hap2 : ∀ j c, j ≠ q → cs[j]? = some c → ∀ b2, blk c = some b2 → b2 ≠ b := fun j c hne hj b2 hb2 e => by
    subst e
    exact gap (j + 1) (q + 1) b2 c _ (by rw [List.getElem?_cons_succ]; exact hj) (by rw [List.getElem?_cons_succ]; exact f2) (by omega) hb2 hblk
  refine hk _ _ M ρ (hH.turn ht.1 (fun k hk => hoB k fun e => hk (by rw [e, g1]; exact bk_at f2 hblk)) (by simp) rfl rfl rfl
    ⟨a', cap', cs, by rw [hln]; exact g1, by omega, g3, hle, by rw [hln]; exact gn, fun j p hj => ?_, by rw [hln]; exact gap, ?_⟩ (by simp only [RepS]) hd)
  · by_cases hjq : j = q
    · subst hjq
      rw [hq'] at hj
      obtain rfl := Option.some.inj hj
      exact ⟨_, f2, hinner⟩
    · rw [hoth j hjq] at hj
      obtain ⟨c, v1, v2⟩ := gc j p hj
      exact ⟨c, v1, v2.world fun b2 hb2 => hoB b2 (hap2 j c hjq v1 b2 hb2)⟩
  · rcases g5 with g5 | ⟨B, O, ar, el2, fz2, g6, g7, g8, g9, g10⟩
    · exact .inl g5
    · refine .inr ⟨B, O, ar, el2, fz2, g6, ?_, g8, g9, g10⟩
      rw [hoB B fun e => ?_]
      · exact g7
      · subst e
        exact gap 0 (q + 1) B _ _ rfl (by rw [List.getElem?_cons_succ]; exact f2) (by omega) (by rw [g6]; rfl) hblk
end
end Hw
/- The engine, part BE: resources that become one. -/
namespace Hw
open Go

/-- A resource under a new id, in new blocks or in the blocks of those that go away. -/
theorem Holds.merge {C : Ctx} {st : St} {M : Mem} {ρ : Nat → Value} {a : Act} {w : World} (h : Holds C st M ρ a w) {w' : World} (olds : List Nat) {id : Nat} {val : Value} {r' : Res}
    {d : Option Nat} {v : S} {x : Value}
    (hheap : ∀ b, b < w.heap.size → (∀ i r, i ∈ olds → tg st.tab i = some r → ¬ Bk (ρ i) b) → w'.heap[b]? = w.heap[b]?)
    (hsize : w.heap.size ≤ w'.heap.size) (hos : w'.os = w.os) (htape : w'.tape = w.tape) (hout : w'.output = w.output)
    (hval : ∀ b, Bk val b → w.heap.size ≤ b ∨ ∃ i r, i ∈ olds ∧ tg st.tab i = some r ∧ Bk (ρ i) b)
    (hf : Fresh C id st) (hR : HoldsR M (upd ρ id val) w' id r') (hx : RepS M (upd ρ id val) v x) (hd : dok d st.n = true) :
    Holds C (app d v ((id, some r') :: offs olds) st) M (upd ρ id val) (a.put d x) w' := by
  have hsl : ∀ k s, sg st.sl k = some s → RepS M (upd ρ id val) s (a.tmps.getD k undef) := fun k s hk =>
    RepS.agree (upd_agree ρ id val) _ _ (fun i hi => by subst hi; exact hf.1 k s hk) (h.slots k s hk)
  -- what an entry of the new table is
  have htab : ∀ j r, tg (((id, some r') :: offs olds) ++ st.tab) j = some r → (j = id ∧ r = r') ∨ (j ≠ id ∧ tg st.tab j = some r ∧ j ∉ olds) := fun j r hj => by
    simp only [List.cons_append, tg_cons] at hj
    split at hj
    · rename_i e; exact .inl ⟨e.symm, (Option.some.inj hj).symm⟩
    · rename_i e; exact .inr ⟨fun h => e h.symm, (tg_offs hj).2, (tg_offs hj).1⟩
  have hlt : ∀ j r b, tg st.tab j = some r → Bk (ρ j) b → b < w.heap.size := fun j r b hj hb => (h.tabs.res j r hj).lt hb
  have same : ∀ j r b, tg st.tab j = some r → j ∉ olds → Bk (ρ j) b → w'.heap[b]? = w.heap[b]? := fun j r b hj hne hb =>
    hheap b (hlt j r b hj hb) fun i ri hi hri hbi => h.tabs.dis i j ri r b hri hj (fun e => hne (e ▸ hi)) hbi hb
  have ne_new : ∀ j r b, tg st.tab j = some r → j ∉ olds → Bk (ρ j) b → ¬ Bk val b := fun j r b hj hne hb hv => by
    rcases hval b hv with h1 | ⟨i, ri, hi, hri, hbi⟩
    · have := hlt j r b hj hb; omega
    · exact h.tabs.dis i j ri r b hri hj (fun e => hne (e ▸ hi)) hbi hb
  have mlt : ∀ b o u, M b o = some u → b < w.heap.size := fun b o u hu => cell_lt (h.run.imm b o u hu)
  have frb : ∀ i r b, tg st.tab i = some r → Bk (ρ i) b → ¬ C.fr b := h.ownf
  have mb : ∀ b o u, M b o = some u → w'.heap[b]? = w.heap[b]? := fun b o u hu => hheap b (mlt b o u hu) fun i ri _ hri hbi => by
    have := h.tabs.own i ri b hri hbi o; rw [hu] at this; cases this
  refine ⟨by cases d <;> exact h.dfr, ?_, ?_, ⟨?_, ?_, ?_⟩, ?_, ⟨?_, ?_, ?_, h.run.base, h.run.newM, hos.trans h.run.os, htape.trans h.run.tape, hout.trans h.run.output⟩, ?_⟩
  · cases d <;> simp [Act.put, app, h.sz]
  · intro k s hk
    cases d with
    | none => exact hsl k s hk
    | some d =>
      simp only [app] at hk
      rw [sg_cons] at hk
      split at hk
      · rename_i e; subst e; simp at hk; subst hk
        rw [getD_put_same (by rw [h.sz]; exact dok_lt hd)]; exact hx
      · rename_i e; rw [getD_put_other (fun h => e h.symm)]; exact hsl k s hk
  · intro j r hj
    rcases htab j r hj with ⟨rfl, rfl⟩ | ⟨hne, hj', ho⟩
    · exact hR
    · exact ((h.tabs.res j r hj').world (fun b hb => same j r b hj' ho hb)).agree (upd_agree ρ id val) hne (fun i hi => by subst hi; exact (hf.2.1 j r hj').2)
  · intro i j ri rj b hi hj hne hbi hbj
    rcases htab i ri hi with ⟨rfl, rfl⟩ | ⟨hni, hi', hoi⟩ <;> rcases htab j rj hj with ⟨rfl, rfl⟩ | ⟨hnj, hj', hoj⟩
    · exact hne rfl
    · rw [upd_same] at hbi; rw [upd_other hnj] at hbj; exact ne_new j rj b hj' hoj hbj hbi
    · rw [upd_same] at hbj; rw [upd_other hni] at hbi; exact ne_new i ri b hi' hoi hbi hbj
    · rw [upd_other hni] at hbi; rw [upd_other hnj] at hbj; exact h.tabs.dis i j ri rj b hi' hj' hne hbi hbj
  · intro j r b hj hb o
    rcases htab j r hj with ⟨rfl, rfl⟩ | ⟨hne, hj', _⟩
    · rw [upd_same] at hb
      rcases hval b hb with h1 | ⟨i, ri, _, hri, hbi⟩
      · cases hm : M b o with
        | none => rfl
        | some u => have := mlt b o u hm; omega
      · exact h.tabs.own i ri b hri hbi o
    · rw [upd_other hne] at hb; exact h.tabs.own j r b hj' hb o
  · intro j r b hj hb
    rcases htab j r hj with ⟨rfl, rfl⟩ | ⟨hne, hj', _⟩
    · rw [upd_same] at hb
      rcases hval b hb with h1 | ⟨i, ri, _, hri, hbi⟩
      · intro hfr; have := hfr.1; have := h.run.size; omega
      · exact frb i ri b hri hbi
    · rw [upd_other hne] at hb; exact frb j r b hj' hb
  · intro b o u hu; rw [cell_of_heap (mb b o u hu)]; exact h.run.imm b o u hu
  · intro b hb
    rw [hheap b (Nat.lt_of_lt_of_le hb.1 h.run.size) fun i ri _ hri hbi => frb i ri b hri hbi hb]
    exact h.run.fram b hb
  · exact Nat.le_trans h.run.size hsize
  · intro j r hj
    rw [upd_other (fun e => by subst e; rw [hf.2.2] at hj; cases hj)]; exact h.keep j r hj


/-- An owned array, added to an array of arrays: what the new word says. -/
theorem nest_push {M : Mem} {w : World} {e2 : Nat} {rows rs2 : List (List PV)} {a a' : Option Addr} {cap cap' : Nat} {cs : List Value} {v2 : Value} (hl : ∀ r ∈ rows, r.length = 1) (hn : cs.length = rows.length * 1)
    (hc : ∀ (j : Nat) (p : PV), rows.flatten[j]? = some p → ∃ c, cs[j]? = some c ∧ CellIn M w c p) (h2 : ArrIn M w v2 e2 rs2) :
    (∀ r ∈ rows ++ [[PV.sl e2 rs2]], r.length = 1) ∧ (cs ++ [v2]).length = (rows ++ [[PV.sl e2 rs2]]).length * 1 ∧ ∀ (j : Nat) (p : PV), (rows ++ [[PV.sl e2 rs2]]).flatten[j]? = some p → ∃ c, (cs ++ [v2])[j]? = some c ∧ CellIn M w c p := by
  have hfl := flat_lenA hl
  refine ⟨fun r hr => ?_, by simp [hn], fun j p hj => ?_⟩
  · rcases List.mem_append.1 hr with hr | hr
    · exact hl r hr
    · rw [List.mem_singleton.1 hr]; rfl
  · rw [List.flatten_append] at hj
    rcases Nat.lt_or_ge j (rows.length * 1) with hlt | hge
    · rw [List.getElem?_append_left (by omega)] at hj
      obtain ⟨c, c1, c2⟩ := hc j p hj
      exact ⟨c, by rw [List.getElem?_append_left (by omega)]; exact c1, c2⟩
    · rw [List.getElem?_append_right (by omega)] at hj
      have hj0 : j - rows.flatten.length = 0 := by
        have := (List.getElem?_eq_some_iff.1 hj).1
        simp only [List.flatten_cons, List.flatten_nil, List.append_nil, List.length_cons, List.length_nil] at this; omega
      rw [hj0] at hj
      simp only [List.flatten_cons, List.flatten_nil, List.append_nil, List.getElem?_cons_zero, Option.some.injEq] at hj
      subst hj
      exact ⟨v2, by rw [List.getElem?_append_right (by omega), show j - cs.length = 0 by omega]; rfl, h2⟩
theorem apart_push {x y v : Value} {cs : List Value} (hx : blk y = blk x ∨ ∃ b, blk y = some b ∧ (∀ (j : Nat) z, (x :: cs)[j]? = some z → blk z ≠ some b) ∧ blk v ≠ some b) (h : Apart (x :: cs)) (hv : ∀ (j b : Nat) z, (x :: cs)[j]? = some z → blk z = some b → blk v ≠ some b) : Apart (y :: (cs ++ [v])) := by
  have get : ∀ (i : Nat) z, (y :: (cs ++ [v]))[i]? = some z → (i = 0 ∧ z = y) ∨ (∃ j, i = j + 1 ∧ cs[j]? = some z) ∨ (i = cs.length + 1 ∧ z = v) := fun i z hz => by
    cases i with
    | zero => simp only [List.getElem?_cons_zero, Option.some.injEq] at hz; exact .inl ⟨rfl, hz.symm⟩
    | succ j =>
      rw [List.getElem?_cons_succ] at hz
      rcases Nat.lt_or_ge j cs.length with hlt | hge
      · rw [List.getElem?_append_left hlt] at hz; exact .inr (.inl ⟨j, rfl, hz⟩)
      · rw [List.getElem?_append_right hge] at hz
        have h0 : j - cs.length = 0 := by have := (List.getElem?_eq_some_iff.1 hz).1; simp at this; omega
        rw [h0] at hz
        simp only [List.getElem?_cons_zero, Option.some.injEq] at hz
        exact .inr (.inr ⟨by omega, hz.symm⟩)
  have outer : ∀ (j b : Nat) z, cs[j]? = some z → blk y = some b → blk z = some b → False := fun j b z hz hy hb => by
    rcases hx with hx | ⟨b', h1, h2, _⟩
    · exact h 0 (j + 1) b x z rfl (by rw [List.getElem?_cons_succ]; exact hz) (by omega) (hx ▸ hy) hb
    · rw [h1] at hy; obtain rfl := Option.some.inj hy
      exact h2 (j + 1) z (by rw [List.getElem?_cons_succ]; exact hz) hb
  have outv : ∀ b, blk y = some b → blk v = some b → False := fun b hy hb => by
    rcases hx with hx | ⟨b', h1, _, h3⟩
    · exact hv 0 b x rfl (hx ▸ hy) hb
    · rw [h1] at hy; obtain rfl := Option.some.inj hy; exact h3 hb
  intro i j b p q hp hq hne hbp hbq
  rcases get i p hp with ⟨rfl, rfl⟩ | ⟨i', rfl, hi⟩ | ⟨rfl, rfl⟩ <;> rcases get j q hq with ⟨rfl, rfl⟩ | ⟨j', rfl, hj⟩ | ⟨rfl, rfl⟩
  · exact hne rfl
  · exact outer j' b q hj hbp hbq
  · exact outv b hbp hbq
  · exact outer i' b p hi hbq hbp
  · exact h (i' + 1) (j' + 1) b p q (by rw [List.getElem?_cons_succ]; exact hi) (by rw [List.getElem?_cons_succ]; exact hj) hne hbp hbq
  · exact hv (i' + 1) b p (by rw [List.getElem?_cons_succ]; exact hi) hbp hbq
  · exact outv b hbq hbp
  · exact hv (j' + 1) b q (by rw [List.getElem?_cons_succ]; exact hj) hbq hbp
  · exact hne rfl
section
variable {P : Program} {d : Option Nat} {ty : TypeId} {ps : String} {af : Array Edge} {g : Option (Nat × Bool)} {x y : Operand} {t : TypeId}
/-- An owned array is added to an array of arrays. -/
theorem L_append_nest {id id' id2 id3 e2 bytes : Nat} {rows rs2 : List (List PV)} {p0 : PV} {tx el el' : TypeId} {z : List V} (hx : okc x (.one (.nv id 0))) (hy : okc y (.one (.ar id3))) (htx : elemSz P tx = some (el', 1))
    (he : elemSz P t = some (el, 1)) (hz : zeroV P el = some z) (hzl : z.length = 1) (hby : (P.info? el).map (·.bytes) = some bytes) (hb : (rows.length + 1) * bytes ≤ 140737488355328) (hlen : rows.length + 1 ≤ 9223372036854775807) (hne : id ≠ id2) :
    Snd P ⟨d, .call ⟨.builtin .append, #[x, y], #[t, tx]⟩, ty, ps, af, g⟩ (rq x (.one (.nv id 0)) ++ rq y (.one (.ar id3))) [(id, .nest 1 rows), (id3, .arv 1 [[p0]] [(0, .ar id2)]), (id2, .arr e2 rs2)] [id'] (.one (.nv id' 0))
      ((id', some (.nest 1 (rows ++ [[PV.sl e2 rs2]]))) :: offs [id, id2, id3]) := by
  intro C st M ρ a w hH h1 hT hF hd k Q hk
  rw [okS_append] at h1
  have e1 := hH.evS (ev_of hx h1.1)
  have ey := hH.evS (ev_of hy h1.2)
  obtain ⟨hT1, hT3, hT2, _⟩ := hT
  obtain ⟨b, cap, cs, h2, h3, h4, hl0, hcn, hcc, hap, h5⟩ := hH.tabs.res id _ hT1
  simp only [RepS, RepV] at e1
  obtain ⟨xs, f1, f2, _⟩ := e1
  have h2' := h2
  rw [f1] at h2
  simp only [Value.tuple.injEq] at h2
  have f3 : xs = .slice b rows.length cap :: cs := by have := congrArg Array.toList h2; simpa using this
  subst f3
  simp only [List.getElem?_cons_zero, Option.some.injEq] at f2
  have hex : a.eval x = .slice b rows.length cap := f2.symm
  obtain ⟨ii, hu, hinf, hsz⟩ := elemSz_spec he
  obtain ⟨news, hsrc, hnews, _⟩ := SrcX.av (x2 := [(0, .ar id2)]) (rows := [[p0]]) (id := id3) htx C st M ρ a w _ hH ey ⟨hT3, trivial⟩
  obtain ⟨i', zv, hi', hzv, hzs⟩ := zeroV_len hz
  rw [hinf] at hi'; simp only [Option.some.injEq] at hi'; subst hi'
  rw [hinf] at hby; simp only [Option.map_some, Option.some.injEq] at hby
  have hnl : news.length = 1 := by have := hsrc.newsLen; simpa using this
  obtain ⟨c, c1, c2⟩ := hnews 0 p0 rfl
  rw [xv_eq] at c2
  simp only [RepV] at c2
  have hnw : news = [ρ id2] := by
    match news, hnl, c1 with
    | [u], _, c1 => simp only [List.getElem?_cons_zero, Option.some.injEq] at c1; rw [c1, c2.1]
  have hsrc : Src P 1 tx (a.eval y) 1 news w := hsrc
  have hA2 : ArrIn M w (ρ id2) e2 rs2 := hH.tabs.res id2 _ hT2
  obtain ⟨a2, cap2, g1, _⟩ := hA2
  have hA2 : ArrIn M w (ρ id2) e2 rs2 := hH.tabs.res id2 _ hT2
  have bk2 : ∀ q, blk (ρ id2) = some q → Bk (ρ id2) q := fun q hq => by rw [g1] at hq ⊢; exact hq
  have hdis : ∀ (j q : Nat) zz, (Value.slice b rows.length cap :: cs)[j]? = some zz → blk zz = some q → blk (ρ id2) ≠ some q := fun j q zz hj hq h' =>
    hH.tabs.dis id id2 _ _ q hT1 hT2 hne (by rw [h2']; exact ⟨zz, by simpa using List.mem_of_getElem? hj, hq⟩) (bk2 q h')
  have ltc : ∀ (j q : Nat) zz, cs[j]? = some zz → blk zz = some q → q < w.heap.size := fun j q zz hj hq => (hH.tabs.res id _ hT1).lt (by rw [h2']; exact bk_at hj hq)
  have lt2 : ∀ q, blk (ρ id2) = some q → q < w.heap.size := fun q hq => hA2.lt hq
  have hcall : execOp a.eval ⟨d, .call ⟨.builtin .append, #[x, y], #[t, tx]⟩, ty, ps, af, g⟩ = (do pure (.value (← Builtin.append_ #[t, tx] ty #[a.eval x, a.eval y]))) := by
    simp [execOp, resolve, invoke, builtin]
  -- the new word's cells, in a world in which the inner blocks stand
  have push : ∀ w' : World, (∀ q, (∃ (j : Nat) (zz : Value), cs[j]? = some zz ∧ blk zz = some q) ∨ blk (ρ id2) = some q → w'.heap[q]? = w.heap[q]?) → _ := fun w' hw => nest_push (M := M) (w := w') (a := b) (a' := b) (cap := cap) (cap' := cap) hl0 hcn
    (fun j p hj => let ⟨c, v1, v2⟩ := hcc j p hj; ⟨c, v1, v2.world fun q hq => hw q (.inl ⟨j, c, v1, hq⟩)⟩) (hA2.world fun q hq => hw q (.inr hq))
  have fin : ∀ {val : Value} {w' : World}, (Builtin.append_ #[t, tx] ty #[a.eval x, a.eval y]).run P w = .ok val w' →
      (∀ q, q < w.heap.size → (∀ i r, i ∈ [id, id2, id3] → tg st.tab i = some r → ¬ Bk (ρ i) q) → w'.heap[q]? = w.heap[q]?) → w.heap.size ≤ w'.heap.size → w'.os = w.os → w'.tape = w.tape → w'.output = w.output →
      (∀ q, blk val = some q → w.heap.size ≤ q ∨ Bk (ρ id) q) → HoldsR M (upd ρ id' (.tuple (val :: (cs ++ [ρ id2])).toArray)) w' id' (.nest 1 (rows ++ [[PV.sl e2 rs2]])) → val.oneCell' = true →
      Oper.wp P ⟨d, .call ⟨.builtin .append, #[x, y], #[t, tx]⟩, ty, ps, af, g⟩ a w k Q := fun {val w'} hrun q1 q2 q3 q4 q5 q6 q7 q8 => by
    unfold Oper.wp
    rw [hcall]
    simp only [Sem.run_bind, hrun, Result.andThen_ok, Sem.run_pure, Oper.upon_value]
    refine hk _ _ _ _ (hH.merge [id, id2, id3] q1 q2 q3 q4 q5 (fun q hq => ?_) hF.1 q7 (by simp only [RepS, RepV]; exact ⟨_, upd_same _ _ _, rfl, q8⟩) hd)
    obtain ⟨zz, hz1, hz2⟩ := hq
    have hz3 : zz = val ∨ zz ∈ cs ∨ zz = ρ id2 := by simpa using hz1
    rcases hz3 with rfl | hz3 | rfl
    · rcases q6 q hz2 with h | h
      · exact .inl h
      · exact .inr ⟨id, _, by simp, hT1, h⟩
    · obtain ⟨j, hj⟩ := List.mem_iff_getElem?.1 hz3
      exact .inr ⟨id, _, by simp, hT1, by rw [h2']; exact bk_at hj hz2⟩
    · exact .inr ⟨id2, _, by simp, hT2, bk2 q hz2⟩
  rcases Nat.lt_or_ge cap (rows.length + 1) with hlt | hge
  · -- a new row
    have ho1 : (Builtin.firstCells ii.size rows.length (.slice b rows.length cap)).run P w.drew = .ok cs.toArray w.drew := by
      rcases h5 with ⟨rfl, hc⟩ | ⟨b', o, arr, el2, fz, rfl, h6, _, _, h8⟩
      · have : rows = [] := List.length_eq_zero_iff.1 (by omega)
        subst this
        have : cs = [] := List.eq_nil_of_length_eq_zero (by simpa using hcn)
        subst this
        exact run_firstCells_none w.drew _ _ _ _
      · rw [hsz]
        exact run_firstCells_some w.drew 1 rows.length ⟨b', o, none⟩ _ cap cs hcn (fun j u hj => by
          rw [add_addr]
          have := h8 j u hj
          have h6' : w.drew.heap[b']? = some (.cells arr el2 fz) := h6
          simp [World.cell?, h6', this])
    have hrun := run_append_grow_src (P := P) w t tx ty el ii zv hu hinf hzv b rows.length cap cs ho1 (a.eval y) 1 news (by rw [hsz]; exact hsrc) hlt (by omega) (growslice_fits hlt (by rw [hby]; exact hb))
    rw [← hex, hnw] at hrun
    have hcap := grownCap_ge w (rows.length + 1) cap el
    have hcm := grownCap_le_maxLen w (rows.length + 1) cap el (by unfold maxLen; omega)
    have hold : ∀ q, q < w.heap.size → (w.drew.alloc (.cells (((cs ++ [ρ id2]).toArray) ++ Builtin.zeroCells zv.cells (grownCap w (rows.length + 1) cap el - (rows.length + 1))) el)).heap[q]? = w.heap[q]? := fun q hq => heap_push_old w.drew _ q hq
    obtain ⟨p1, p2, p3⟩ := push _ fun q hq => hold q (hq.elim (fun ⟨j, zz, hj, hq⟩ => ltc j q zz hj hq) (lt2 q))
    refine fin hrun (fun q hq _ => hold q hq) (by simp) rfl rfl rfl (fun q hq => .inl (by simp only [blk, Option.some.injEq] at hq; omega)) ⟨some ⟨w.heap.size, 0, none⟩, grownCap w (rows.length + 1) cap el, cs ++ [ρ id2], by rw [upd_same, List.length_append]; rfl, by rw [List.length_append]; exact hcap, by unfold maxLen at hcm; omega, p1, p2, p3,
      by
        rw [List.length_append]
        exact apart_push (x := .slice b rows.length cap) (.inr ⟨w.heap.size, rfl, fun j zz hj hq => by
          have := (hH.tabs.res id _ hT1).lt (b := w.heap.size) (by rw [h2']; exact ⟨zz, by simpa using List.mem_of_getElem? hj, hq⟩)
          omega, fun hq => by have := lt2 _ hq; omega⟩) hap hdis, .inr ⟨w.heap.size, 0, _, el, (0, 0), rfl, heap_push_new w.drew _, fun i _ => by simp, ?_, fun j c hj => ?_⟩⟩ rfl
    · simp only [Array.size_append, List.size_toArray, List.length_append, List.length_singleton, size_zeroCells, hzs, hzl, hcn]; omega
    · have hjl := (List.getElem?_eq_some_iff.1 hj).1
      rw [Nat.zero_add, Array.getElem?_append_left (by simpa using hjl)]
      simpa using hj
  · -- room
    rcases h5 with ⟨rfl, hc⟩ | ⟨b', o, arr, el2, fz, rfl, h6, h6', h7, h8⟩
    · omega
    · have hfit : o + rows.length + 0 + news.length ≤ arr.size := by omega
      have hst := run_storeCells_blk (P := P) b' (o + rows.length) el2 fz news 0 arr w h6 h6' hfit hsrc.one
      have hrun : (Builtin.append_ #[t, tx] ty #[a.eval x, a.eval y]).run P w = .ok (.slice (some ⟨b', o, none⟩) (rows.length + 1) cap) (w.setRow b' (setAt arr.toList (o + rows.length + 0) news).toArray) := by
        rw [hex]
        have hl := hsrc.len w
        have hc := hsrc.cells
        rcases hsrc.kind with ⟨e', hk'⟩ | hk' <;> simp [Builtin.append_, run_underlying hu, run_underlying hk', Go.sizeOf, typeInfo, hinf, hl, hsz, hc, hge, add_addr, hst]
      have hob : Bk (ρ id) b' := by rw [h2']; exact bk_head rfl
      have hoB : ∀ q : Nat, q ≠ b' → (w.setRow b' (setAt arr.toList (o + rows.length + 0) news).toArray).heap[q]? = w.heap[q]? := fun q hq => heap_setRow_other w b' _ q hq
      obtain ⟨p1, p2, p3⟩ := push _ fun q hq => hoB q fun e => by
        subst e
        rcases hq with ⟨j, zz, hj, hq⟩ | hq
        · exact hap 0 (j + 1) q _ zz rfl (by rw [List.getElem?_cons_succ]; exact hj) (by omega) rfl hq
        · exact hdis 0 q _ rfl rfl hq
      have hsl : (setAt arr.toList (o + rows.length + 0) news).length = arr.size := by rw [setAt_length _ _ _ (by simpa using hfit)]; simp
      refine fin hrun (fun q hq hno => hoB q fun e => hno id _ (by simp) hT1 (e ▸ hob)) (by simp [World.setRow]) rfl rfl rfl (fun q hq => .inr (by simp only [blk, Option.some.injEq] at hq; rw [← hq]; exact hob))
        ⟨some ⟨b', o, none⟩, cap, cs ++ [ρ id2], by rw [upd_same, List.length_append]; rfl, by rw [List.length_append]; exact hge, h4, p1, p2, p3, by rw [List.length_append]; exact apart_push (x := .slice (some ⟨b', o, none⟩) rows.length cap) (.inl rfl) hap hdis,
          .inr ⟨b', o, _, el2, fz, rfl, setRow_heap w b' arr _ el2 fz h6, ?_, ?_, fun j c hj => ?_⟩⟩ rfl
      · simp only [List.size_toArray, hsl]; exact h6'
      · simp only [List.size_toArray, hsl]; exact h7
      · have hjl := (List.getElem?_eq_some_iff.1 hj).1
        simp only [List.length_append, List.length_singleton, hcn] at hjl
        simp only [List.getElem?_toArray]
        rw [setAt_get _ _ _ _ (by simp; omega)]
        rcases Nat.lt_or_ge j cs.length with hlt | hge2
        · rw [if_pos (by omega)]
          rw [List.getElem?_append_left hlt] at hj
          have := h8 j c hj
          simpa using this
        · rw [if_neg (by omega), if_pos (by omega), hnw]
          rw [List.getElem?_append_right hge2] at hj
          rw [← hj]; congr 1; omega
end
end Hw
/- The engine, part BG: a range over a map, whose order is free. -/
namespace Hw
open Go
open Go.ChangeMaps (setBlock)

theorem EntsOf.at {M : Mem} : ∀ {l : List (PV × PV)} {ms : List MapEntry} {j : Nat} {e : MapEntry}, EntsOf M l ms → ms[j]? = some e → ∃ p, l[j]? = some p ∧ RepPV M p.1 e.key ∧ RepPV M p.2 e.val
  | [], [], _, _, _, h => by simp at h
  | [], _ :: _, _, _, h, _ => by simp only [EntsOf] at h
  | _ :: _, [], _, _, h, _ => by simp only [EntsOf] at h
  | (x, y) :: l, m :: ms, 0, e, h, hj => by
    simp only [EntsOf] at h
    simp only [List.getElem?_cons_zero, Option.some.injEq] at hj; subst hj
    exact ⟨(x, y), rfl, h.1, h.2.1⟩
  | (x, y) :: l, m :: ms, j + 1, e, h, hj => by
    simp only [EntsOf] at h
    obtain ⟨p, h1, h2⟩ := EntsOf.at h.2.2 (j := j) (by simpa using hj)
    exact ⟨p, by simpa using h1, h2⟩
theorem EntsOf.erase {M : Mem} : ∀ {l : List (PV × PV)} {ms : List MapEntry} (j : Nat), EntsOf M l ms → EntsOf M (l.eraseIdx j) (ms.eraseIdx j)
  | [], [], _, _ => by simp [EntsOf]
  | [], _ :: _, _, h => by simp only [EntsOf] at h
  | _ :: _, [], _, h => by simp only [EntsOf] at h
  | (x, y) :: l, m :: ms, 0, h => by
    simp only [EntsOf] at h
    simpa using h.2.2
  | (x, y) :: l, m :: ms, j + 1, h => by
    simp only [EntsOf] at h
    simp only [List.eraseIdx_cons_succ, EntsOf]
    exact ⟨h.1, h.2.1, EntsOf.erase j h.2.2⟩
theorem EntsOf.len {M : Mem} : ∀ {l : List (PV × PV)} {ms : List MapEntry}, EntsOf M l ms → l.length = ms.length
  | [], [], _ => rfl
  | [], _ :: _, h => by simp only [EntsOf] at h
  | _ :: _, [], h => by simp only [EntsOf] at h
  | (x, y) :: l, m :: ms, h => by
    simp only [EntsOf] at h
    simp only [List.length_cons, h.2.2.len]
theorem erase_born : ∀ {L : List MapEntry} {j : Nat} {e : MapEntry}, (L.map (·.born)).Nodup → L[j]? = some e → L.filter (fun x => !(x.born == e.born)) = L.eraseIdx j
  | [], _, _, _, h => by simp at h
  | x :: L, 0, e, hn, h => by
    simp only [List.getElem?_cons_zero, Option.some.injEq] at h; subst h
    simp only [List.map_cons, List.nodup_cons] at hn
    simp only [List.filter_cons, beq_self_eq_true, Bool.not_true, Bool.false_eq_true, if_false, List.eraseIdx_cons_zero]
    rw [List.filter_eq_self]
    intro y hy
    have : y.born ≠ x.born := fun e => hn.1 (e ▸ List.mem_map_of_mem hy)
    simpa using this
  | x :: L, j + 1, e, hn, h => by
    simp only [List.map_cons, List.nodup_cons] at hn
    have h' : L[j]? = some e := by simpa using h
    have hne : x.born ≠ e.born := fun e' => hn.1 (e' ▸ List.mem_map_of_mem (List.mem_of_getElem? h'))
    simp only [List.filter_cons, List.eraseIdx_cons_succ]
    rw [if_pos (by simpa using hne), erase_born hn.2 h']
section
variable {P : Program} {d : Option Nat} {ty : TypeId} {ps : String} {af : Array Edge} {g : Option (Nat × Bool)} {x : Operand} {t kt et : TypeId}
theorem L_range {id id' : Nat} {es : List (PV × PV)} (hx : okc x (.one (.mp id))) (hu : P.underlying t = some (.map kt et)) :
    Snd P ⟨d, .range t x, ty, ps, af, g⟩ (rq x (.one (.mp id))) [(id, .map es)] [id'] (.one (.nv id' 1)) ((id', some (.itr es none)) :: offs [id]) := by
  intro C st M ρ a w hH h1 hT hF hd k Q hk
  have e1 := hH.evS (ev_of hx h1)
  simp only [RepS, RepV] at e1
  obtain ⟨r, ms, cl, h2, h3, h4, h5, hnd⟩ := hH.tabs.res id _ hT.1
  have hex : a.eval x = .map (some r) := e1.1.trans h2
  have hrun : (execOp a.eval ⟨d, .range t x, ty, ps, af, g⟩).run P w = .ok (.value (.pointer (some ⟨w.heap.size, 0, none⟩))) (w.alloc (.mapIter (some r) cl #[] cl)) := by
    simp [execOp, hex, run_range_map w t kt et r ms cl hu h3]
  unfold Oper.wp
  rw [hrun, Oper.upon_value]
  have hr := (hH.tabs.res id _ hT.1).lt (b := r) (by rw [h2]; rfl)
  have hold : ∀ q : Nat, q < w.heap.size → (w.alloc (.mapIter (some r) cl #[] cl)).heap[q]? = w.heap[q]? := fun q hq => heap_push_old w _ _ hq
  refine hk _ _ M _ (hH.merge [id] (id := id') (val := .tuple [Value.map (some r), Value.pointer (some ⟨w.heap.size, 0, none⟩)].toArray) (fun b hb _ => hold b hb) (by show _ ≤ (w.heap.push _).size; simp) rfl rfl rfl (fun b hb => ?_) hF.1
    ⟨r, w.heap.size, ms, cl, cl, cl, #[], upd_same _ _ _, by omega, by rw [hold r hr]; exact h3, heap_push_new w _, fun m hm => h5 m (by simpa using hm), ⟨Nat.le_refl _, Nat.le_refl _⟩, hnd, ?_, fun p hp => by cases hp⟩ ?_ hd)
  · obtain ⟨y, hy, hyb⟩ := hb
    have hy' : y = Value.map (some r) ∨ y = Value.pointer (some ⟨w.heap.size, 0, none⟩) := by simpa using hy
    rcases hy' with rfl | rfl
    · exact .inr ⟨id, _, by simp, hT.1, by rw [h2]; exact hyb⟩
    · simp [blk] at hyb; exact .inl (by omega)
  · have : ms.toList.filter (fun e => !(#[] : Array Nat).contains e.born) = ms.toList := List.filter_eq_self.2 fun _ _ => by simp
    rw [this]; exact h4
  · simp only [RepS, RepV]
    exact ⟨_, upd_same _ _ _, rfl, rfl⟩
theorem L_entry {id : Nat} {l : List (PV × PV)} {p : PV × PV} (hx : okc x (.one (.nv id 1))) :
    Snd P ⟨d, .entry x, ty, ps, af, g⟩ (rq x (.one (.nv id 1))) [(id, .itr l (some p))] [] (.tup [.one (.p p.1), .one (.p p.2)]) [] :=
  snd_quiet fun C st M ρ a w hH h1 ht => by
    have e1 := hH.evS (ev_of hx h1)
    simp only [RepS, RepV] at e1
    obtain ⟨xs, f1, f2, _⟩ := e1
    obtain ⟨r, q, ms, cl, si, c0, seen, h2, hne, h3, h4, g1, g2, g3, g4, g5⟩ := hH.tabs.res id _ ht.1
    rw [h2] at f1
    simp only [Value.tuple.injEq] at f1
    have f3 : xs = [Value.map (some r), Value.pointer (some ⟨q, 0, none⟩)] := by have := congrArg Array.toList f1; simpa using this.symm
    subst f3
    simp only [List.getElem?_cons_succ, List.getElem?_cons_zero, Option.some.injEq] at f2
    obtain ⟨rfl, e, s, k2, rfl, k4, k5⟩ := g5 p rfl
    refine ⟨.tuple #[e.key, e.val], ?_, ?_⟩
    · simp [execOp, ← f2, run_entry_at w q r si s ms c0 e h4 h3 k2 g3]
    · simp only [RepS]
      exact ⟨[e.key, e.val], rfl, by simp only [RepSs, RepS, RepV]; exact ⟨k4, k5, trivial⟩⟩
end
section
variable {P : Program} {C : Ctx} {k : List Frm} {n : Nat} {sl : Slots} {tab : Tab} {Q : Exit → St → Prop} {all : Array Oper} {rest : List Oper}
theorem g_range {d : Nat} {x : Operand} {t kt et ty : TypeId} {ps : String} {af : Array Edge} {g0 : Option (Nat × Bool)} {gs : Slots} {md : Mode} (hC : C.low) (id' : Nat) {id : Nat} {es : List (PV × PV)}
    (hx : ev sl x = some (.one (.mp id))) (hT : tg tab id = some (.map es)) (hu : P.underlying t = some (.map kt et)) (hm : metL all sl g0 = some gs) (hd : Nat.blt d n = true) (hf : (Nat.ble 100 id' && freshB id' ⟨n, sl, tab⟩) = true)
    (g : Goal P C (.ops all rest (nx md ⟨some d, gs ++ rq x (.one (.mp id)), [(id, .map es)], [id'], .one (.nv id' 1), (id', some (.itr es none)) :: offs [id]⟩)) k n ((d, .one (.nv id' 1)) :: sl) ((id', some (.itr es none)) :: offs [id] ++ tab) Q) :
    Goal P C (.ops all (⟨some d, .range t x, ty, ps, af, g0⟩ :: rest) md) k n sl tab Q := by
  have e1 := of_ev (st := ⟨n, sl, tab⟩) hx
  have := metL_step hm (L_range (P := P) (ty := ty) (ps := ps) (af := af) (g := g0) (d := some d) (id' := id') (es := es) e1.1 hu) (n := n) (tab := tab)
  exact g_law (L := ⟨some d, gs ++ rq x (.one (.mp id)), [(id, .map es)], [id'], .one (.nv id' 1), (id', some (.itr es none)) :: offs [id]⟩) hC this.1 rfl ⟨by rw [okS_append]; exact ⟨this.2, e1.2⟩, ⟨hT, trivial⟩, fr_one hf, hd⟩ g
theorem g_entry {d : Nat} {x : Operand} {ty : TypeId} {ps : String} {af : Array Edge} {g0 : Option (Nat × Bool)} {gs : Slots} {md : Mode} (hC : C.low) {id : Nat} {l : List (PV × PV)} {p : PV × PV}
    (hx : ev sl x = some (.one (.nv id 1))) (hT : tg tab id = some (.itr l (some p))) (hm : metL all sl g0 = some gs) (hd : Nat.blt d n = true)
    (g : Goal P C (.ops all rest (nx md ⟨some d, gs ++ rq x (.one (.nv id 1)), [(id, .itr l (some p))], [], .tup [.one (.p p.1), .one (.p p.2)], []⟩)) k n ((d, .tup [.one (.p p.1), .one (.p p.2)]) :: sl) tab Q) :
    Goal P C (.ops all (⟨some d, .entry x, ty, ps, af, g0⟩ :: rest) md) k n sl tab Q := by
  have e1 := of_ev (st := ⟨n, sl, tab⟩) hx
  have := metL_step hm (L_entry (P := P) (ty := ty) (ps := ps) (af := af) (g := g0) (d := some d) (l := l) (p := p) e1.1) (n := n) (tab := tab)
  exact g_law (L := ⟨some d, gs ++ rq x (.one (.nv id 1)), [(id, .itr l (some p))], [], .tup [.one (.p p.1), .one (.p p.2)], []⟩) hC this.1 rfl ⟨by rw [okS_append]; exact ⟨this.2, e1.2⟩, ⟨hT, trivial⟩, rfl, hd⟩ g
/-- The next step: nothing is left, or any one of those that are left comes. -/
theorem g_next {d : Nat} {x : Operand} {ty : TypeId} {ps : String} {af : Array Edge} {id : Nat} {l : List (PV × PV)} {cur : Option (PV × PV)}
    (hx : ev sl x = some (.one (.nv id 1))) (hT : tg tab id = some (.itr l cur)) (hd : Nat.blt d n = true)
    (g0 : l = [] → Goal P C (.ops all rest none) k n ((d, .tup [Bo false]) :: sl) tab Q)
    (g1 : ∀ (j : Nat) (p : PV × PV), l[j]? = some p → Goal P C (.ops all rest none) k n ((d, .tup [Bo true, .one (.p p.1), .one (.p p.2)]) :: sl) ((id, some (.itr (l.eraseIdx j) (some p))) :: tab) Q) :
    Goal P C (.ops all (⟨some d, .next x false, ty, ps, af, none⟩ :: rest) none) k n sl tab Q := by
  have e1 := of_ev (st := ⟨n, sl, tab⟩) hx
  intro M ρ a w hH
  refine wpList_step fun K hK => ?_
  simp only [Region.wanted, if_true]
  have e1' := hH.evS (ev_of e1.1 e1.2)
  simp only [RepS, RepV] at e1'
  obtain ⟨xs, f1, f2, _⟩ := e1'
  obtain ⟨r, q, ms, cl, si, c0, seen, h2, hne, h3, h4, b1, b2, b3, b4, b5⟩ := hH.tabs.res id _ hT
  rw [h2] at f1
  simp only [Value.tuple.injEq] at f1
  have f3 : xs = [Value.map (some r), Value.pointer (some ⟨q, 0, none⟩)] := by have := congrArg Array.toList f1; simpa using this.symm
  subst f3
  simp only [List.getElem?_cons_succ, List.getElem?_cons_zero, Option.some.injEq] at f2
  have hdn : dok (some d) n = true := hd
  unfold Oper.wp
  rcases run_next_at (P := P) w ty q r si c0 seen ms cl h4 h3 b1 b2.1 with ⟨hz, hrun⟩ | ⟨e, he, w1, hw1, hrun⟩
  · have hl : l = [] := by
      have := b4.len
      have h0 : (ms.toList.filter fun e => !seen.contains e.born).length = 0 := by
        have : (leftOf ms seen).toList = ms.toList.filter fun e => !seen.contains e.born := by simp [leftOf]
        rw [← this]; simpa using hz
      exact List.length_eq_zero_iff.1 (by omega)
    have hrun' : (execOp a.eval ⟨some d, .next x false, ty, ps, af, none⟩).run P w = .ok (.value (.tuple #[.bool false])) w := by
      simp [execOp, ← f2, hrun]
    rw [hrun', Oper.upon_value]
    exact hK _ _ (g0 hl M ρ _ w (hH.app_val hdn (by simp only [RepS]; exact ⟨[.bool false], rfl, by simp only [RepSs]; exact ⟨repB false, trivial⟩⟩)))
  · have hrun' : (execOp a.eval ⟨some d, .next x false, ty, ps, af, none⟩).run P w = .ok (.value (.tuple #[.bool true, e.key, e.val])) (setBlock w1 q (.mapIter (some r) si (seen.push e.born) cl)) := by
      simp [execOp, ← f2, hrun]
    rw [hrun', Oper.upon_value]
    have he' : e ∈ ms.toList.filter fun e => !seen.contains e.born := by
      have : (leftOf ms seen).toList = ms.toList.filter fun e => !seen.contains e.born := by simp [leftOf]
      rw [← this]; exact he
    obtain ⟨j, hj⟩ := List.mem_iff_getElem?.1 he'
    obtain ⟨p, p1, p2, p3⟩ := b4.at hj
    have hem : e ∈ ms.toList := (List.mem_filter.1 he').1
    have hq : q < w.heap.size := (hH.tabs.res id _ hT).lt (by rw [h2]; exact bk_at (j := 0) rfl rfl)
    have hheap1 : w1.heap = w.heap := by rcases hw1 with rfl | rfl <;> rfl
    have hoth : ∀ b : Nat, b ≠ q → (setBlock w1 q (.mapIter (some r) si (seen.push e.born) cl)).heap[b]? = w.heap[b]? := fun b hb => by
      show (w1.heap.setIfInBounds q _)[b]? = _
      rw [hheap1, Array.getElem?_setIfInBounds, if_neg (fun e => hb e.symm)]
    have hnew : (setBlock w1 q (.mapIter (some r) si (seen.push e.born) cl)).heap[q]? = some (.mapIter (some r) si (seen.push e.born) cl) := by
      show (w1.heap.setIfInBounds q _)[q]? = _
      rw [hheap1, Array.getElem?_setIfInBounds, if_pos rfl, if_pos hq]
    have hfil : ms.toList.filter (fun x => !(seen.push e.born).contains x.born) = (ms.toList.filter fun x => !seen.contains x.born).eraseIdx j := by
      rw [← erase_born (e := e) (b3.sublist (List.Sublist.map _ List.filter_sublist)) hj, List.filter_filter]
      congr 1; funext y
      have : (seen.push e.born).contains y.born = (seen.contains y.born || (y.born == e.born)) := by rw [Bool.eq_iff_iff]; simp [Array.contains_push]
      rw [this, Bool.not_or, Bool.and_comm]
    refine hK _ _ (g1 j p p1 M ρ _ _ (hH.turn (d := some d) (id := id) hT (fun b hb => hoth b fun e => hb (by rw [h2, e]; exact bk_at (j := 0) rfl rfl)) ?_ ?_ ?_ ?_
      ⟨r, q, ms, cl, si, cl, seen.push e.born, h2, hne, by rw [hoth r hne]; exact h3, hnew, b1, ?_, b3, by rw [hfil]; exact b4.erase j, fun p' hp' => ?_⟩ ?_ hdn))
    · show w.heap.size ≤ (w1.heap.setIfInBounds q _).size
      simp [hheap1]
    · rcases hw1 with rfl | rfl <;> rfl
    · rcases hw1 with rfl | rfl <;> rfl
    · rcases hw1 with rfl | rfl <;> rfl
    · exact ⟨b2.2, b2.2⟩
    · simp only [Option.some.injEq] at hp'; subst hp'
      exact ⟨rfl, e, seen, hem, rfl, p2, p3⟩
    · simp only [RepS]
      exact ⟨[.bool true, e.key, e.val], rfl, by simp only [RepSs]; exact ⟨repB true, by simp only [RepS, RepV]; exact p2, by simp only [RepS, RepV]; exact p3, trivial⟩⟩
end
end Hw
namespace Hw.Z
open Go Go.Proofs Hw.M

/-! AstFinds: ast.Calls -/
theorem encE_erase {K : Type} [DecidableEq K] (κ : KeyKind K) (l : List (K × PV)) (j : Nat) : (encE κ l).eraseIdx j = encE κ (l.eraseIdx j) := by
  unfold encE
  induction l generalizing j with
  | nil => rfl
  | cons x r ih => cases j with
    | zero => rfl
    | succ j => simp only [List.map_cons, List.eraseIdx_cons_succ, ih]
theorem erase_perm {α : Type} : ∀ {l : List α} {j : Nat} {x : α}, l[j]? = some x → (x :: l.eraseIdx j).Perm l
  | [], _, _, h => by simp at h
  | y :: r, 0, x, h => by
    simp only [List.getElem?_cons_zero, Option.some.injEq] at h; subst h; exact List.Perm.refl _
  | y :: r, j + 1, x, h => by
    simp only [List.getElem?_cons_succ] at h
    rw [List.eraseIdx_cons_succ]
    exact (List.Perm.swap y x _).trans ((erase_perm h).cons y)
theorem encE_at {K : Type} [DecidableEq K] {κ : KeyKind K} {l : List (K × PV)} {j : Nat} {p : PV × PV} (h : (encE κ l)[j]? = some p) : ∃ s v, l[j]? = some (s, v) ∧ p = (.k (κ.enc s), v) := by
  unfold encE at h
  rw [List.getElem?_map, Option.map_eq_some_iff] at h
  obtain ⟨⟨s, v⟩, h1, rfl⟩ := h
  exact ⟨s, v, h1, rfl⟩
theorem perm_step {m lf : List (Str × PV)} {out : List Str} {j : Nat} {s : Str} {v : PV} (h : (out ++ keysM lf).Perm (keysM m)) (hj : lf[j]? = some (s, v)) : ((out ++ [s]) ++ keysM (lf.eraseIdx j)).Perm (keysM m) := by
  refine List.Perm.trans ?_ h
  rw [List.append_assoc]
  refine List.Perm.append_left out ?_
  exact (erase_perm hj).map (·.1)
theorem calls_yes {p : Pr} (h : procOk p = true) (hc : cntSs p.body ≤ 1000000) : FnOK Tryz.prog 54 [aggS (procR p)] [] (.tup [pS (strsP (nmSs p.body [])), I 0]) [] := by
  have hV := astProcedure_ok p
  rw [h] at hV
  have hS := stmtCalls_ok _ p.body [] (Nat.le_refl _)
  have hN := same_calls p.body
  have hlen : (nmSs p.body []).length ≤ 1000000 := by have := nmSs_len p.body []; simp only [List.length_nil] at this; omega
  have hkl : (keysM (clsSs p.body [])).length ≤ 1000000 := by
    have := congrArg List.length (sort_names hN (List.Perm.refl _))
    rw [sortS_len] at this; omega
  generalize hM : clsSs p.body [] = m at hN hS hkl
  refine fn_ok T Tryz.func54 (by kernel_rfl) rfl rfl rfl rfl fun C hC => ?_
  repeat' first
    | refine g_go T hC true 400 rfl rfl ?_
    | refine g_cond rfl (fun h => ?_) (fun h => ?_)
    | refine g_end T hC (by kernel_rfl) ?_
    | refine g_splitD (fun h => ?_) (fun h => ?_)
    | refine g_splitG rfl rfl rfl (fun h => ?_) (fun h => ?_)
    | refine g_splitP rfl rfl (fun h => ?_) (fun h => ?_)
    | refine g_call hC (hV) rfl rfl (LeSs.refl _) rfl rfl rfl ?_
    | refine g_makeMap strKey hC rfl rfl rfl ?_
    | refine g_callR hC (hS) (nm [1010]) rfl rfl (LeSs.refl _) rfl rfl rfl rfl rfl rfl rfl rfl ?_
    | (refine g_range (kt := 9) (et := 4) hC 150 rfl rfl (by kernel_rfl) rfl rfl rfl ?_)
  · exfalso; simp_all; done
  refine g_adopt hC rfl 101 1 rfl [(5, .one (.ar 101))] ⟨⟨_, rfl, AdS.nil⟩, trivial⟩ [] trivial ?_
  refine g_loop (fun q : List (Str × PV) × List Str × Option (PV × PV) => (q.2.1 ++ keysM q.1).Perm (keysM m)) (fun q => ([(5, .one (.ar 101)), (16, .one (.nv 150 1))], [(101, some (Res.arr 1 (q.2.1.map strR))), (150, some (Res.itr (encE strKey q.1) q.2.2))])) (fun q => q.1.length) hC
    (m, [], none) (List.Perm.refl _) id ⟨rfl, ⟨rfl, rfl, trivial⟩, ⟨rfl, rfl, trivial⟩, rfl, fun _ _ => rfl⟩ ?_
  rintro ⟨lf, out, cur⟩ hp
  simp only at hp
  have hpl := hp.length_eq
  rw [List.length_append] at hpl
  have hkm : (keysM lf).length = lf.length := List.length_map _
  refine g_run' T hC true 200 rfl ?_
  refine g_next rfl rfl rfl (fun hl => ?_) (fun j q hj => ?_)
  · have hl0 : lf = [] := by
      have := congrArg List.length hl
      unfold encE at this
      rw [List.length_map] at this
      exact List.length_eq_zero_iff.1 this
    subst hl0
    have hp' : out.Perm (keysM m) := by simpa [keysM] using hp
    have hSo := sort_ok out (by omega)
    rw [sort_names hN hp'] at hSo
    repeat' first
      | refine g_go T hC true 400 rfl rfl ?_
      | refine g_cond rfl (fun h => ?_) (fun h => ?_)
      | refine g_end T hC (by kernel_rfl) ?_
      | refine g_splitD (fun h => ?_) (fun h => ?_)
      | refine g_splitG rfl rfl rfl (fun h => ?_) (fun h => ?_)
      | refine g_splitP rfl rfl (fun h => ?_) (fun h => ?_)
      | refine g_outE ?_
      | refine g_callR hC (hSo) (nm [101]) rfl rfl (LeSs.refl _) rfl rfl rfl rfl rfl rfl rfl rfl ?_
    refine g_freeze rfl (id := 101) (e := 1) (rows := (nmSs p.body []).map strR) rfl [(2, pS (strsP (nmSs p.body [])))] ⟨⟨_, rfl, FrS.ar⟩, trivial⟩ [] trivial ?_
    exact g_fin ⟨.inl rfl, id, _, rfl, .refl _, trivial, rfl, rfl⟩
  · obtain ⟨s, v, hsv, rfl⟩ := encE_at hj
    rw [encE_erase]
    have hjl : j < lf.length := (List.getElem?_eq_some_iff.1 hsv).1
    have hr1 : out.map strR ++ [strR s] = (out ++ [s]).map strR := by rw [List.map_append]; rfl
    have hom : (out.map strR).length = out.length := List.length_map _
    have hmu : (lf.eraseIdx j).length < lf.length := by rw [List.length_eraseIdx, if_pos hjl]; omega
    repeat' first
      | refine g_go T hC true 400 rfl rfl ?_
      | refine g_cond rfl (fun h => ?_) (fun h => ?_)
      | refine g_end T hC (by kernel_rfl) ?_
      | refine g_splitD (fun h => ?_) (fun h => ?_)
      | refine g_splitG rfl rfl rfl (fun h => ?_) (fun h => ?_)
      | refine g_splitP rfl rfl (fun h => ?_) (fun h => ?_)
      | refine g_entry hC rfl rfl rfl rfl ?_
      | refine g_lit T hC rfl rfl rfl rfl rfl rfl rfl rfl rfl ?_
      | (refine g_append T 102 hC (rows := out.map strR) (rows2 := [strR s]) (rows3 := (out ++ [s]).map strR) (bytes := 16) rfl rfl rfl rfl (SrcS.sl (T.es_ok _ _ rfl)) hr1 rfl rfl rfl (by kernel_rfl) (by rw [hom, List.length_singleton]; omega) (by rw [hom, List.length_singleton]; omega) rfl rfl rfl ?_)
    exact g_round (lf.eraseIdx j, out ++ [s], some (PV.k (strKey.enc s), v)) (perm_step hp hsv) (mvU 101 102) hmu ⟨rfl, ⟨rfl, rfl, trivial⟩, ⟨rfl, rfl, trivial⟩, rfl, fun i hi => mvU_low (by omega) hi⟩
end Hw.Z
