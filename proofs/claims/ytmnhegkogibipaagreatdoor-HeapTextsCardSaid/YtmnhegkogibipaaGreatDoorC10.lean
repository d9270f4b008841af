/- The engine, part AW: a literal of one part in a box; rows of integers as cells; what a call of the library's leaves in an array of the run's own. -/
import Derived.Test.YtmnhegkogibipaaGreatDoorE3
import Derived.Laws.IdiomCopy
import Derived.Laws.IdiomStrings
import Derived.Laws.Slices
import Derived.Test.YtmnhegkogibipaaGreatDoorProg
import Derived.KernelRfl
import Derived.Shelf.Strconv.Itoa0
import Derived.Shelf.Strconv.Itoa1
import Derived.Shelf.Strconv.Itoa2
import Derived.Test.YtmnhegkogibipaaGreatDoorC9
set_option linter.unusedVariables false
set_option linter.unusedSimpArgs false
namespace Hw
open Go

theorem setCells_row (b : Nat) (t : TypeId) (fz : Nat × Nat) : ∀ (vs : List Value) (o : Nat) (cur : Array Value) (w : World), w.heap[b]? = some (.cells cur t fz) → o + vs.length ≤ cur.size → w.setCells b o vs = w.setRow b (setAt cur.toList o vs).toArray
  | [], o, cur, w, hg, _ => by
    simp only [setAt, World.setCells, List.append_nil, List.length_nil, Nat.add_zero, List.take_append_drop, Array.toArray_toList]
    exact (setRow_self w b cur t fz hg).symm
  | v :: rest, o, cur, w, hg, hl => by
    simp only [List.length_cons] at hl
    have ih := setCells_row b t fz rest (o + 1) (cur.setIfInBounds o v) (w.setRow b (cur.setIfInBounds o v)) (setRow_heap w b cur _ t _ hg) (by simp; omega)
    rw [World.setCells, setCell_eq_setRow w b o cur t fz v hg, ih, setRow_setRow]
    congr 2
    have e := list_seg_step cur.toList o v rest (by simp; omega)
    simpa [setAt, Array.toList_setIfInBounds, Nat.add_assoc] using e

/-- Rows of integers, as cells. -/
theorem ints_rows {M : Mem} {g : Nat → Option Value} {l : List (List PV)} {vs : List Value} {o : Nat} (hl : ∀ r ∈ l, r.length = 1) (hr : RepVs M (fun _ => undef) (l.flatten.map V.p) vs) (h : ∀ j c, vs[j]? = some c → g (o + j) = some c) : RowsIn M g 1 l o :=
  RowsIn.of_cells (ρ := fun _ => undef) hl hr h

/-- What a call leaves that hands back one array under a new name: it lies in the old array's block, or in a new one. -/
theorem ret_arr {M : Mem} {ρ : Nat → Value} {w w' : World} {R : RL} {r0 : Res} {e : Nat} {rows : List (List PV)} {B o cap : Nat} {cs : Array Value} {el : TypeId} {fz : Nat × Nat} (hR : tg (tb R) 0 = some r0) (hT : THolds M ρ w (tb R)) (hI : Imm M w) (hid : 2 ∉ R.ids)
    (hB : w'.heap[B]? = some (.cells cs el fz)) (hU : Unfrozen fz cs.size) (hc : o + cap * e ≤ cs.size) (hn : rows.length ≤ cap) (hm : cap ≤ 9223372036854775807) (hrows : RowsIn M (fun i => cs[i]?) e rows o)
    (hown : w.heap.size ≤ B ∨ blk (ρ 0) = some B) (hold : ∀ k, k < w.heap.size → blk (ρ 0) ≠ some k → w'.heap[k]? = w.heap[k]?) (hs : w.heap.size ≤ w'.heap.size) (h1 : w'.os = w.os) (h2 : w'.tape = w.tape) (h3 : w'.output = w.output) :
    Ret M ρ w R (.one (.ar 2)) [(2, .arr e rows)] (.slice (some ⟨B, o, none⟩) rows.length cap) M (upd ρ 2 (.slice (some ⟨B, o, none⟩) rows.length cap)) w' := by
  have hMB : ∀ q, M B q = none := fun q => by
    rcases hown with h | h
    · cases hm' : M B q with
      | none => rfl
      | some u => have := cell_lt (hI B q u hm'); omega
    · exact hT.own 0 _ B hR h q
  have only : ∀ i r, tg (tb [(2, Res.arr e rows)]) i = some r → i = 2 ∧ r = .arr e rows := fun i r hi => by
    simp only [tb, tg_cons] at hi
    split at hi
    · rename_i e'; exact ⟨e'.symm, (Option.some.inj hi).symm⟩
    · cases hi
  refine ⟨by simp only [RepS, RepV]; exact ⟨(upd_same _ _ _).symm, rfl⟩, ⟨fun i r hi => ?_, fun i j ri rj b hi hj hne _ _ => ?_, fun i r b hi hb q => ?_⟩, fun b q v hv => ?_, MLe.refl M, fun b q u hu => .inl hu, fun b hb => ?_, fun b hb hn => ?_, hs, h1, h2, h3, fun id hid' => ?_⟩
  · obtain ⟨rfl, rfl⟩ := only i r hi
    exact ⟨some ⟨B, o, none⟩, cap, upd_same _ _ _, hn, hm, .inr ⟨B, o, cs, el, fz, rfl, hB, hU, hc, hrows⟩⟩
  · obtain ⟨rfl, _⟩ := only i ri hi
    obtain ⟨rfl, _⟩ := only j rj hj
    exact hne rfl
  · obtain ⟨rfl, _⟩ := only i r hi
    rw [upd_same] at hb
    simp only [blk, Option.some.injEq] at hb; subst hb; exact hMB q
  · have hbl := cell_lt (hI b q v hv)
    have hne : blk (ρ 0) ≠ some b := fun h => by rw [hT.own 0 _ b hR h q] at hv; cases hv
    rw [cell_of_heap (hold b hbl hne)]; exact hI b q v hv
  · obtain ⟨i, r, hi, hb⟩ := hb
    obtain ⟨rfl, _⟩ := only i r hi
    rw [upd_same] at hb
    simp only [blk, Option.some.injEq] at hb; subst hb
    exact hown.imp id fun h => ⟨0, r0, hR, h⟩
  · exact hold b hb fun h => hn ⟨0, r0, hR, h⟩
  · exact upd_other fun h => hid (h ▸ hid')

section
variable {P : Program} {d : Option Nat} {ty : TypeId} {ps : String} {af : Array Edge} {g : Option (Nat × Bool)} {x y : Operand} {t : TypeId}
theorem L_remI {t' : TypeId} {k : IntKind} {n m : Int} (h0 : m ≠ 0) (hx : okc x (Kk k n)) (hy : okc y (Kk k m)) :
    Snd P ⟨d, .binOp .rem t x y t', ty, ps, af, g⟩ (rq x (Kk k n) ++ rq y (Kk k m)) [] [] (Kk k (n.tmod m)) [] :=
  L_bin hx hy rfl fun w => ⟨rfl, by rw [binOp_rem]; simp [Op.intDiv, h0]⟩
theorem L_quoI {t' : TypeId} {k : IntKind} {n m : Int} (h0 : m ≠ 0) (hx : okc x (Kk k n)) (hy : okc y (Kk k m)) :
    Snd P ⟨d, .binOp .quo t x y t', ty, ps, af, g⟩ (rq x (Kk k n) ++ rq y (Kk k m)) [] [] (Kk k (k.wrap (n.tdiv m))) [] :=
  L_bin hx hy rfl fun w => ⟨rfl, by rw [binOp_quo]; simp [Op.intDiv, h0]⟩
/-- A literal of one part, in a box of the run's own. -/
theorem L_lit_bs {id e : Nat} {s : S} {us : List V} {el : TypeId} {z : List V} (hx : okc x s) (hc : cellsOf s = some us) (hrl : us.length = e) (hm : mentVs id us = false)
    (he : elemSz P t = some (el, e)) (hz : zeroV P el = some z) (he0 : 0 < e) (heb : e ≤ 16777216) :
    Snd P ⟨d, .buildSlice t 1 #[(0, x)], ty, ps, af, g⟩ (rq x s) [] [id] (.one (.bs id 0 1)) [(id, some (.box us))] := by
  intro C st M ρ a w hH h1 hT hF hd k Q hk
  have e' := cellsOf_spec hc (hH.evS (ev_of hx h1))
  obtain ⟨ii, hu, hinf, hsz⟩ := elemSz_spec he
  obtain ⟨i', zv, hi', hzv, hzs⟩ := zeroV_len hz
  rw [hinf] at hi'; simp only [Option.some.injEq] at hi'; subst hi'
  have hcl : (a.eval x).cells.size = e := by have := e'.length; simp at this; omega
  have hfill : ∀ cur : Array Value, cur.size = e → Instr.fill (fun i => some (i * e, e)) cur [(0, a.eval x)] = some (a.eval x).cells := fun cur hcur => by
    simp only [Instr.fill]
    have hcond : ¬ ((a.eval x).cells.size ≠ e || 0 * e + (a.eval x).cells.size > cur.size) = true := by
      simp only [ne_eq, Bool.or_eq_true, decide_eq_true_eq]; omega
    have hfold := zipIdx_fold cur (0 * e) (a.eval x).cells.toList 0 cur (by simp; omega)
    have hfold' : (a.eval x).cells.zipIdx.foldl (fun cs (p : Value × Nat) => cs.setIfInBounds (0 * e + p.2) p.1) cur = (setAt cur.toList (0 * e) (a.eval x).cells.toList).toArray := by
      rw [← Array.foldl_toList]
      simpa using hfold
    rw [if_neg hcond, hfold']
    congr 1
    unfold setAt
    have : cur.toList.drop (0 * e + (a.eval x).cells.toList.length) = [] := by apply List.drop_eq_nil_of_le; simp; omega
    rw [this]; simp
  have hrun : (execOp a.eval ⟨d, .buildSlice t 1 #[(0, x)], ty, ps, af, g⟩).run P w = .ok (.value (.slice (some ⟨w.heap.size, 0, none⟩) 1 1)) (w.alloc (.cells (a.eval x).cells el)) := by
    have hn : ¬ 16777216 < e := by omega
    have h0 : ¬ e = 0 := by omega
    have hf := hfill ((Array.range (1 * e)).map fun x => zv.cells[x % zv.cells.size]!) (by simp)
    have hzrun : (zeroValue el).run P w = .ok zv w := by simp [zeroValue, typeInfo, hinf, hzv]
    simp [execOp, Instr.buildSlice, run_underlying hu, run_sizeOf hinf, hsz, hn, h0, newRow, hzrun] at hf ⊢
    simp [hf]
  unfold Oper.wp
  rw [hrun, Oper.upon_value]
  refine hk _ _ M _ (hH.alloc (val := .pointer (some ⟨w.heap.size, 0, none⟩)) (fun b hb => by simp only [blk, Option.some.injEq] at hb; exact hb.symm) hF.1
    ⟨w.heap.size, (a.eval x).cells.toList, el, upd_same _ _ _, by simpa using heap_push_new w _, RepVs.agree (upd_agree ρ id _) _ _ (fun i hi => by subst hi; exact hm) e'⟩
    (by simp only [RepS, RepV]; exact ⟨w.heap.size, 1, upd_same _ _ _, rfl, Nat.le_refl 1⟩) hd)
end

section
variable {P : Program} {C : Ctx} {k : List Frm} {n : Nat} {sl : Slots} {tab : Tab} {Q : Exit → St → Prop} {all : Array Oper} {rest : List Oper} {cur : Cur}
theorem g_rem {d : Nat} {x y : Operand} {t t' ty : TypeId} {ps : String} {af : Array Edge} {g0 : Option (Nat × Bool)} {gs : Slots} {md : Mode} (hC : C.low) {k0 : IntKind} {a m : Int}
    (hx : ev sl x = some (Kk k0 a)) (hy : ev sl y = some (Kk k0 m)) (h0 : m ≠ 0) (hm : metL all sl g0 = some gs) (hd : Nat.blt d n = true)
    (g : Goal P C (.ops all rest (nx md ⟨some d, gs ++ (rq x (Kk k0 a) ++ rq y (Kk k0 m)), [], [], Kk k0 (a.tmod m), []⟩)) k n ((d, Kk k0 (a.tmod m)) :: sl) tab Q) :
    Goal P C (.ops all (⟨some d, .binOp .rem t x y t', ty, ps, af, g0⟩ :: rest) md) k n sl tab Q := by
  have e1 := of_ev (st := ⟨n, sl, tab⟩) hx
  have e2 := of_ev (st := ⟨n, sl, tab⟩) hy
  have := metL_step hm (L_remI (P := P) (ty := ty) (ps := ps) (af := af) (g := g0) (d := some d) (t := t) (t' := t') h0 e1.1 e2.1) (n := n) (tab := tab)
  exact g_law (L := ⟨some d, gs ++ (rq x (Kk k0 a) ++ rq y (Kk k0 m)), [], [], Kk k0 (a.tmod m), []⟩) hC this.1 rfl ⟨by rw [okS_append, okS_append]; exact ⟨this.2, e1.2, e2.2⟩, trivial, rfl, hd⟩ g
theorem g_quo {d : Nat} {x y : Operand} {t t' ty : TypeId} {ps : String} {af : Array Edge} {g0 : Option (Nat × Bool)} {gs : Slots} {md : Mode} (hC : C.low) {k0 : IntKind} {a m : Int}
    (hx : ev sl x = some (Kk k0 a)) (hy : ev sl y = some (Kk k0 m)) (h0 : m ≠ 0) (hm : metL all sl g0 = some gs) (hd : Nat.blt d n = true)
    (g : Goal P C (.ops all rest (nx md ⟨some d, gs ++ (rq x (Kk k0 a) ++ rq y (Kk k0 m)), [], [], Kk k0 (k0.wrap (a.tdiv m)), []⟩)) k n ((d, Kk k0 (k0.wrap (a.tdiv m))) :: sl) tab Q) :
    Goal P C (.ops all (⟨some d, .binOp .quo t x y t', ty, ps, af, g0⟩ :: rest) md) k n sl tab Q := by
  have e1 := of_ev (st := ⟨n, sl, tab⟩) hx
  have e2 := of_ev (st := ⟨n, sl, tab⟩) hy
  have := metL_step hm (L_quoI (P := P) (ty := ty) (ps := ps) (af := af) (g := g0) (d := some d) (t := t) (t' := t') h0 e1.1 e2.1) (n := n) (tab := tab)
  exact g_law (L := ⟨some d, gs ++ (rq x (Kk k0 a) ++ rq y (Kk k0 m)), [], [], Kk k0 (k0.wrap (a.tdiv m)), []⟩) hC this.1 rfl ⟨by rw [okS_append, okS_append]; exact ⟨this.2, e1.2, e2.2⟩, trivial, rfl, hd⟩ g
theorem g_litB (T : Ty P) {d : Nat} {x : Operand} {t ty : TypeId} {ps : String} {af : Array Edge} {g0 : Option (Nat × Bool)} {gs : Slots} {md : Mode} (hC : C.low) {e : Nat} {s : S} {us : List V} {el : TypeId} {z : List V}
    (hx : ev sl x = some s) (hc : cellsOf s = some us) (hrl : us.length = e) (hmu : mentVs (1000 + d) us = false) (he : T.es t = some (el, e)) (hz : T.zs el = some z) (he0 : Nat.blt 0 e = true) (heb : Nat.ble e 16777216 = true)
    (hm : metL all sl g0 = some gs) (hd : Nat.blt d n = true) (hf : (Nat.ble 100 (1000 + d) && freshB (1000 + d) ⟨n, sl, tab⟩) = true)
    (g : Goal P C (.ops all rest (nx md ⟨some d, gs ++ rq x s, [], [1000 + d], .one (.bs (1000 + d) 0 1), [(1000 + d, some (.box us))]⟩)) k n ((d, .one (.bs (1000 + d) 0 1)) :: sl) ((1000 + d, some (.box us)) :: tab) Q) :
    Goal P C (.ops all (⟨some d, .buildSlice t 1 #[(0, x)], ty, ps, af, g0⟩ :: rest) md) k n sl tab Q := by
  have e1 := of_ev (st := ⟨n, sl, tab⟩) hx
  have := metL_step hm (L_lit_bs (P := P) (ty := ty) (ps := ps) (af := af) (g := g0) (d := some d) (id := 1000 + d) e1.1 hc hrl hmu (T.es_ok _ _ he) (T.zs_ok _ _ hz) (by simpa [Nat.blt_eq] using he0) (Nat.le_of_ble_eq_true heb)) (n := n) (tab := tab)
  exact g_law (L := ⟨some d, gs ++ rq x s, [], [1000 + d], .one (.bs (1000 + d) 0 1), [(1000 + d, some (.box us))]⟩) hC this.1 rfl ⟨by rw [okS_append]; exact ⟨this.2, e1.2⟩, trivial, fr_one hf, hd⟩ g
end
end Hw
/- The engine, part AX: bytes and strings: sums, conversions, slices of an array in a box, cells of a global array, calls of plain library functions. -/
namespace Hw
open Go

theorem bytesR_append (a b : ByteArray) : bytesR (a ++ b) = bytesR a ++ bytesR b := by
  simp only [bytesR, ByteArray.data_append, Array.toList_append, List.map_append]
theorem bytesR_len (a : ByteArray) : (bytesR a).length = a.size := by simp only [bytesR, List.length_map, Array.length_toList]; rfl
theorem bytesR_one (a : ByteArray) : ∀ r ∈ bytesR a, r.length = 1 := fun r hr => by
  obtain ⟨b, _, rfl⟩ := List.mem_map.1 hr; rfl
theorem bytesR_mk (l : List UInt8) : bytesR ⟨l.toArray⟩ = l.map fun b => [.k (.int .u8 b.toNat)] := rfl
theorem size_app (a b : ByteArray) : (a ++ b).size = a.size + b.size := ByteArray.size_append

/-- A library's function of one plain argument that leaves the world alone. -/
theorem fn_pure1 {P : Program} {f : FuncId} {a v : Value} (hc : CallOK P f) (h : ∀ w : World, Calls P f #[a] w fun e w' => e = .returned v ∧ w' = w) (h1 : v.oneCell' = true) : FnOK P f [.one (.p (.k a))] [] (.one (.p (.k v))) [] := by
  refine ⟨hc, fun M ρ w xs hx _ hI _ => ?_⟩
  match xs, hx with
  | [x], hx =>
    simp only [RepSs, RepS, RepV, RepPV] at hx
    obtain ⟨⟨rfl, _⟩, _⟩ := hx
    refine (h w).mono fun e w' ⟨he, hw⟩ => ?_
    subst hw
    refine ⟨v, M, ρ, he, by simp only [RepS, RepV, RepPV]; exact ⟨trivial, h1⟩, ⟨fun _ _ h => (by cases h), fun _ _ _ _ _ h => (by cases h), fun _ _ _ h => (by cases h)⟩, hI, MLe.refl M, fun b o u hu => .inl hu, fun b hb => ?_, fun b _ _ => rfl, Nat.le_refl _, rfl, rfl, rfl, fun id hid => rfl⟩
    obtain ⟨i, r, h, _⟩ := hb; cases h
  | [], hx => simp [RepSs] at hx
  | _ :: _ :: _, hx => simp [RepSs] at hx

section
variable {P : Program} {d : Option Nat} {ty : TypeId} {ps : String} {af : Array Edge} {g : Option (Nat × Bool)} {x y : Operand} {t : TypeId}
theorem L_catS {t' : TypeId} {a b : ByteArray} (hs : a.size + b.size ≤ 9223372036854775807) (hx : okc x (Sr a)) (hy : okc y (Sr b)) :
    Snd P ⟨d, .binOp .add t x y t', ty, ps, af, g⟩ (rq x (Sr a) ++ rq y (Sr b)) [] [] (Sr (a ++ b)) [] :=
  L_bin hx hy rfl fun w => ⟨rfl, by
    have hn : ¬ (((a.size + b.size : Nat) : Int) > IntKind.i64.max) := by
      have : IntKind.i64.max = 9223372036854775807 := rfl
      rw [this]; omega
    have e : binOp .add t (.string a) (.string b) = Op.stringOp .add a b := rfl
    rw [e]
    simp only [Op.stringOp, if_neg hn, Sem.run_pure]⟩
/-- A cell's address of an array that a variable is. -/
theorem L_idxG {gl : Nat} {len : Nat} {el : TypeId} {i : Int} {k : IntKind} {row : List PV} {p : PV} (hy : okc y (Kk k i)) (ht : P.underlying t = some (.array len el)) (hz : (P.info? el).map (·.size) = some 1)
    (hrow : ∀ M, MLe G0 M → RowIn M (M gl) row 0) (h0 : 0 ≤ i) (hi : i < len) (hp : row[i.toNat]? = some p) :
    Snd P ⟨d, .indexAddr t (.global gl) y, ty, ps, af, g⟩ (rq y (Kk k i)) [] [] (.one (.pi [p] 0)) [] :=
  snd_quiet fun C st M ρ a w hH h1 _ => by
    have e2 := hH.k (ev_of hy h1)
    have hl : P.arrayLen t = len := by simp [Program.arrayLen, ht]
    have he : P.elem t = el := by simp [Program.elem, ht]
    have hM : MLe G0 M := C.gl.trans hH.run.base
    have hr := (hrow M hM).get hp
    obtain ⟨c, c1, c2⟩ := hr
    obtain ⟨ii, hinf, hsz⟩ := Option.map_eq_some_iff.1 hz
    refine ⟨.pointer (some ⟨gl, i.toNat, none⟩), ?_, by simp only [RepS, RepV]; exact ⟨gl, i.toNat, by simp, by simp only [RowIn]; exact ⟨⟨c, by simpa using c1, c2⟩, trivial⟩⟩⟩
    have hrun := run_indexAt_array (P := P) (w := w) t ⟨gl, 0, none⟩ k i (by rw [hl, he]; exact ht)
    rw [hl, he, if_pos ⟨h0, hi⟩] at hrun
    have ha : a.eval (.global gl) = .pointer (some ⟨gl, 0, none⟩) := rfl
    simp only [execOp, ha, e2, Sem.run_bind, hrun, run_sizeOf hinf, Result.andThen_ok, Sem.run_pure, hsz, add_addr, Nat.mul_one, Nat.zero_add]
/-- The first cells of an array in a box, as a slice. -/
theorem L_slA {id len : Nat} {n : Nat} {el : TypeId} {k : IntKind} {vs : List V} (hx : okc x (.one (.bx id 0))) (hy : okc y (Kk k (n : Int))) (ht : P.underlying t = some (.array len el)) (hz : (P.info? el).map (·.size) = some 1) (hn : n ≤ len) :
    Snd P ⟨d, .slice t x none (some y) none, ty, ps, af, g⟩ (rq x (.one (.bx id 0)) ++ rq y (Kk k (n : Int))) [(id, .box vs)] [] (.one (.bs id 0 n)) [] :=
  snd_quiet fun C st M ρ a w hH h1 hT => by
    rw [okS_append] at h1
    have e1 := hH.evS (ev_of hx h1.1)
    have e2 := hH.k (ev_of hy h1.2)
    simp only [RepS, RepV] at e1
    obtain ⟨b, f1, f2⟩ := e1
    have hl : P.arrayLen t = len := by simp [Program.arrayLen, ht]
    have he : P.elem t = el := by simp [Program.elem, ht]
    obtain ⟨ii, hinf, hsz⟩ := Option.map_eq_some_iff.1 hz
    have hrun := run_sliceAt_array_h (P := P) (w := w) (t := t) (a := ⟨b, 0, none⟩) (by rw [hl, he]; exact ht) k (n : Int) (by omega) (by rw [hl]; omega)
    refine ⟨.slice (some ⟨b, 0, none⟩) n len, ?_, by simp only [RepS, RepV]; exact ⟨b, len, f1, rfl, hn⟩⟩
    simp only [execOp, f2, e2, Sem.run_bind, Option.map_none, Option.map_some, hrun, hl, he, run_sizeOf hinf, Result.andThen_ok, Sem.run_pure, slicedAt, Nat.zero_mul, Int.toNat_natCast, Nat.sub_zero]
    congr 2
    split
    · rfl
    · rw [add_addr]
/-- What is appended: the first cells of a box. -/
theorem SrcS.bs {e id n : Nat} {tx el : TypeId} {rows : List (List PV)} {vs : List V} (h : elemSz P tx = some (el, e)) (hv : vs.take (n * e) = rows.flatten.map V.p) (hl : ∀ r ∈ rows, r.length = e) (hn : rows.length = n) : SrcS P e tx (.one (.bs id 0 n)) [(id, .box vs)] rows := by
  intro C st M ρ a w v hH hr hT
  obtain ⟨_, hu, _, _⟩ := elemSz_spec h
  simp only [RepS, RepV] at hr
  obtain ⟨b, c, f1, rfl, _⟩ := hr
  obtain ⟨b', cs, el', g1, g2, g3⟩ := hH.tabs.res id _ hT.1
  rw [f1] at g1
  simp only [Value.pointer.injEq, Option.some.injEq, Addr.mk.injEq] at g1
  obtain ⟨rfl, _⟩ := g1
  have g4 := g3.take (n * e)
  rw [hv] at g4
  subst hn
  refine ⟨cs.take (rows.length * e), Src.ofSlice w hu ⟨b, 0, none⟩ rows.length c _ ?_ (fun j u hj => ?_) g4.one, g4, hl⟩
  · rw [g4.length, List.length_map, List.length_flatten]
    have : (rows.map List.length) = List.replicate rows.length e := by
      rw [List.eq_replicate_iff]
      exact ⟨by rw [List.length_map], fun q hq => by obtain ⟨r, hr, rfl⟩ := List.mem_map.1 hq; exact hl r hr⟩
    rw [this, List.sum_replicate_nat]
  · rw [add_addr, Nat.zero_add]
    rw [List.getElem?_take] at hj
    split at hj
    · simp [World.cell?, g2, hj]
    · cases hj
/-- A string out of bytes. -/
theorem L_b2s {id : Nat} {s : ByteArray} {src dst e : TypeId} (hx : okc x (.one (.ar id))) (hs : P.underlying src = some (.slice e)) (he : P.underlying e = some (.int .u8)) (hd : P.underlying dst = some .string) :
    Snd P ⟨d, .convert src dst x, ty, ps, af, g⟩ (rq x (.one (.ar id))) [(id, .arr 1 (bytesR s))] [] (Sr s) [] :=
  snd_quiet fun C st M ρ a w hH h1 hT => by
    have e1 := hH.evS (ev_of hx h1)
    simp only [RepS, RepV] at e1
    obtain ⟨a', cap, f1, f2, f3, f4⟩ := hH.tabs.res id _ hT.1
    rw [f1, bytesR_len] at e1
    rw [bytesR_len] at f2
    refine ⟨.string s, ?_, by simp only [RepS, RepV, RepPV]; exact ⟨trivial, rfl⟩⟩
    rcases f4 with ⟨rfl, hc⟩ | ⟨b, o, cs, el, fz, rfl, f5, _, _, f6⟩
    · have h0 : s.size = 0 := by omega
      have : s = ByteArray.empty := by
        have := ByteArray.size_eq_zero_iff.1 h0
        exact this
      subst this
      simp only [execOp, e1.1, Sem.run_bind, convert, run_underlying hs, run_underlying hd, Result.andThen_ok, run_underlying he, Conv.bytesToString, Sem.run_pure]
    · have hlen : s.data.toList.length = s.size := by rw [Array.length_toList]; rfl
      have hcell : ∀ j (hj : j < s.data.toList.length), w.cell? ((⟨b, o, none⟩ : Addr).add j) = some (.int .u8 ((s.data.toList)[j].toNat : Int)) := fun j hj => by
        have := (f6.get (i := j) (r := [.k (.int .u8 ((s.data.toList)[j].toNat : Int))]) (by simp only [bytesR, List.getElem?_map, List.getElem?_eq_getElem hj, Option.map_some])).2
        simp only [RowIn, RepPV, Nat.mul_one] at this
        obtain ⟨⟨c, c1, c2, _⟩, _⟩ := this
        rw [add_addr]
        simp [World.cell?, f5, c1, c2]
      have hrun := run_convert_bytes_back (P := P) w src dst e ⟨b, o, none⟩ cap s.data.toList hs he hd hcell
      rw [hlen] at hrun
      simp only [execOp, e1.1, Sem.run_bind, hrun, Result.andThen_ok, Sem.run_pure]
/-- A string out of a rune. -/
theorem L_r2s {n : Int} {k : IntKind} {k' : IntKind} {src dst : TypeId} (hx : okc x (Kk k n)) (hs : P.underlying src = some (.int k')) (hd : P.underlying dst = some .string) :
    Snd P ⟨d, .convert src dst x, ty, ps, af, g⟩ (rq x (Kk k n)) [] [] (Sr (Utf8.encode n)) [] :=
  snd_quiet fun C st M ρ a w hH h1 _ => by
    have e1 := hH.k (ev_of hx h1)
    exact ⟨.string (Utf8.encode n), by simp only [execOp, e1, Sem.run_bind, convert, run_underlying hs, run_underlying hd, Result.andThen_ok, Conv.intToString, Sem.run_pure], by simp only [RepS, RepV, RepPV]; exact ⟨trivial, rfl⟩⟩
end

section
variable {P : Program} {C : Ctx} {k : List Frm} {n : Nat} {sl : Slots} {tab : Tab} {Q : Exit → St → Prop} {all : Array Oper} {rest : List Oper} {cur : Cur}
theorem g_cat {d : Nat} {x y : Operand} {t t' ty : TypeId} {ps : String} {af : Array Edge} {g0 : Option (Nat × Bool)} {gs : Slots} {md : Mode} (hC : C.low) {a b : ByteArray}
    (hx : ev sl x = some (Sr a)) (hy : ev sl y = some (Sr b)) (hs : a.size + b.size ≤ 9223372036854775807) (hm : metL all sl g0 = some gs) (hd : Nat.blt d n = true)
    (g : Goal P C (.ops all rest (nx md ⟨some d, gs ++ (rq x (Sr a) ++ rq y (Sr b)), [], [], Sr (a ++ b), []⟩)) k n ((d, Sr (a ++ b)) :: sl) tab Q) :
    Goal P C (.ops all (⟨some d, .binOp .add t x y t', ty, ps, af, g0⟩ :: rest) md) k n sl tab Q := by
  have e1 := of_ev (st := ⟨n, sl, tab⟩) hx
  have e2 := of_ev (st := ⟨n, sl, tab⟩) hy
  have := metL_step hm (L_catS (P := P) (ty := ty) (ps := ps) (af := af) (g := g0) (d := some d) (t := t) (t' := t') hs e1.1 e2.1) (n := n) (tab := tab)
  exact g_law (L := ⟨some d, gs ++ (rq x (Sr a) ++ rq y (Sr b)), [], [], Sr (a ++ b), []⟩) hC this.1 rfl ⟨by rw [okS_append, okS_append]; exact ⟨this.2, e1.2, e2.2⟩, trivial, rfl, hd⟩ g
theorem g_neg {d : Nat} {x : Operand} {t ty : TypeId} {ps : String} {af : Array Edge} {g0 : Option (Nat × Bool)} {gs : Slots} {md : Mode} (hC : C.low) {k0 : IntKind} {a : Int}
    (hx : ev sl x = some (Kk k0 a)) (hm : metL all sl g0 = some gs) (hd : Nat.blt d n = true)
    (g : Goal P C (.ops all rest (nx md ⟨some d, gs ++ rq x (Kk k0 a), [], [], Kk k0 (k0.wrap (0 - a)), []⟩)) k n ((d, Kk k0 (k0.wrap (0 - a))) :: sl) tab Q) :
    Goal P C (.ops all (⟨some d, .unOp .neg t x, ty, ps, af, g0⟩ :: rest) md) k n sl tab Q := by
  have e1 := of_ev (st := ⟨n, sl, tab⟩) hx
  have := metL_step hm (L_neg (P := P) (ty := ty) (ps := ps) (af := af) (g := g0) (d := some d) (t := t) e1.1) (n := n) (tab := tab)
  exact g_law (L := ⟨some d, gs ++ rq x (Kk k0 a), [], [], Kk k0 (k0.wrap (0 - a)), []⟩) hC this.1 rfl ⟨by rw [okS_append]; exact ⟨this.2, e1.2⟩, trivial, rfl, hd⟩ g
theorem g_idxG {d gl : Nat} {y : Operand} {t ty : TypeId} {ps : String} {af : Array Edge} {g0 : Option (Nat × Bool)} {gs : Slots} {md : Mode} (hC : C.low) {len : Nat} {el : TypeId} {i : Int} {k0 : IntKind} {row : List PV} {p : PV}
    (hy : ev sl y = some (Kk k0 i)) (ht : P.underlying t = some (.array len el)) (hz : (P.info? el).map (·.size) = some 1) (hrow : ∀ M, MLe G0 M → RowIn M (M gl) row 0) (h0 : 0 ≤ i) (hi : i < len) (hp : row[i.toNat]? = some p) (hm : metL all sl g0 = some gs) (hd : Nat.blt d n = true)
    (g : Goal P C (.ops all rest (nx md ⟨some d, gs ++ rq y (Kk k0 i), [], [], .one (.pi [p] 0), []⟩)) k n ((d, .one (.pi [p] 0)) :: sl) tab Q) :
    Goal P C (.ops all (⟨some d, .indexAddr t (.global gl) y, ty, ps, af, g0⟩ :: rest) md) k n sl tab Q := by
  have e1 := of_ev (st := ⟨n, sl, tab⟩) hy
  have := metL_step hm (L_idxG (P := P) (ty := ty) (ps := ps) (af := af) (g := g0) (d := some d) (t := t) e1.1 ht hz hrow h0 hi hp) (n := n) (tab := tab)
  exact g_law (L := ⟨some d, gs ++ rq y (Kk k0 i), [], [], .one (.pi [p] 0), []⟩) hC this.1 rfl ⟨by rw [okS_append]; exact ⟨this.2, e1.2⟩, trivial, rfl, hd⟩ g
theorem g_slA {d : Nat} {x y : Operand} {t ty : TypeId} {ps : String} {af : Array Edge} {g0 : Option (Nat × Bool)} {gs : Slots} {md : Mode} (hC : C.low) {id len : Nat} (m : Nat) {el : TypeId} {k0 : IntKind} {vs : List V}
    (hx : ev sl x = some (.one (.bx id 0))) (hy : ev sl y = some (Kk k0 (m : Int))) (hT : tg tab id = some (.box vs)) (ht : P.underlying t = some (.array len el)) (hz : (P.info? el).map (·.size) = some 1) (hn : m ≤ len) (hm : metL all sl g0 = some gs) (hd : Nat.blt d n = true)
    (g : Goal P C (.ops all rest (nx md ⟨some d, gs ++ (rq x (.one (.bx id 0)) ++ rq y (Kk k0 (m : Int))), [(id, .box vs)], [], .one (.bs id 0 m), []⟩)) k n ((d, .one (.bs id 0 m)) :: sl) tab Q) :
    Goal P C (.ops all (⟨some d, .slice t x none (some y) none, ty, ps, af, g0⟩ :: rest) md) k n sl tab Q := by
  have e1 := of_ev (st := ⟨n, sl, tab⟩) hx
  have e2 := of_ev (st := ⟨n, sl, tab⟩) hy
  have := metL_step hm (L_slA (P := P) (vs := vs) (ty := ty) (ps := ps) (af := af) (g := g0) (d := some d) (t := t) e1.1 e2.1 ht hz hn) (n := n) (tab := tab)
  exact g_law (L := ⟨some d, gs ++ (rq x (.one (.bx id 0)) ++ rq y (Kk k0 (m : Int))), [(id, .box vs)], [], .one (.bs id 0 m), []⟩) hC this.1 rfl ⟨by rw [okS_append, okS_append]; exact ⟨this.2, e1.2, e2.2⟩, ⟨hT, trivial⟩, rfl, hd⟩ g
theorem g_b2s {d : Nat} {x : Operand} {src dst e ty : TypeId} {ps : String} {af : Array Edge} {g0 : Option (Nat × Bool)} {gs : Slots} {md : Mode} (hC : C.low) {id : Nat} {s : ByteArray}
    (hx : ev sl x = some (.one (.ar id))) (hT : tg tab id = some (.arr 1 (bytesR s))) (hs : P.underlying src = some (.slice e)) (he : P.underlying e = some (.int .u8)) (hdd : P.underlying dst = some .string) (hm : metL all sl g0 = some gs) (hd : Nat.blt d n = true)
    (g : Goal P C (.ops all rest (nx md ⟨some d, gs ++ rq x (.one (.ar id)), [(id, .arr 1 (bytesR s))], [], Sr s, []⟩)) k n ((d, Sr s) :: sl) tab Q) :
    Goal P C (.ops all (⟨some d, .convert src dst x, ty, ps, af, g0⟩ :: rest) md) k n sl tab Q := by
  have e1 := of_ev (st := ⟨n, sl, tab⟩) hx
  have := metL_step hm (L_b2s (P := P) (s := s) (ty := ty) (ps := ps) (af := af) (g := g0) (d := some d) e1.1 hs he hdd) (n := n) (tab := tab)
  exact g_law (L := ⟨some d, gs ++ rq x (.one (.ar id)), [(id, .arr 1 (bytesR s))], [], Sr s, []⟩) hC this.1 rfl ⟨by rw [okS_append]; exact ⟨this.2, e1.2⟩, ⟨hT, trivial⟩, rfl, hd⟩ g
theorem g_r2s {d : Nat} {x : Operand} {src dst ty : TypeId} {ps : String} {af : Array Edge} {g0 : Option (Nat × Bool)} {gs : Slots} {md : Mode} (hC : C.low) {a : Int} {k0 k1 : IntKind}
    (hx : ev sl x = some (Kk k0 a)) (hs : P.underlying src = some (.int k1)) (hdd : P.underlying dst = some .string) (hm : metL all sl g0 = some gs) (hd : Nat.blt d n = true)
    (g : Goal P C (.ops all rest (nx md ⟨some d, gs ++ rq x (Kk k0 a), [], [], Sr (Utf8.encode a), []⟩)) k n ((d, Sr (Utf8.encode a)) :: sl) tab Q) :
    Goal P C (.ops all (⟨some d, .convert src dst x, ty, ps, af, g0⟩ :: rest) md) k n sl tab Q := by
  have e1 := of_ev (st := ⟨n, sl, tab⟩) hx
  have := metL_step hm (L_r2s (P := P) (ty := ty) (ps := ps) (af := af) (g := g0) (d := some d) e1.1 hs hdd) (n := n) (tab := tab)
  exact g_law (L := ⟨some d, gs ++ rq x (Kk k0 a), [], [], Sr (Utf8.encode a), []⟩) hC this.1 rfl ⟨by rw [okS_append]; exact ⟨this.2, e1.2⟩, trivial, rfl, hd⟩ g
end
end Hw
/- The library's functions at this program: their numbers. -/
namespace Hw.Z
open Go Go.Proofs Go.Shelf
def laysLen_ren : Go.Shelf.Ren := ⟨fun | 129 => 227 | n => n, fun | 53 => 220 | 3 => 3 | 4 => 4 | 46 => 212 | 5 => 5 | 9 => 9 | n => n, fun | n => n⟩
theorem laysLen : Go.Proofs.Lays.n129 Tryz.prog laysLen_ren where
  mixed := by kernel_rfl
  f129 := Tryz.func227.trans (congrArg some (by kernel_rfl))
  t3 := Tryz.underlying3
  a3 := Tryz.isAgg3
  z3 := Tryz.sizeOf3
  v3 := Tryz.zeroValue3
  t4 := Tryz.underlying4
  a4 := Tryz.isAgg4
  z4 := Tryz.sizeOf4
  v4 := Tryz.zeroValue4
  t5 := Tryz.underlying5
  a5 := Tryz.isAgg5
  z5 := Tryz.sizeOf5
  v5 := Tryz.zeroValue5
  t9 := Tryz.underlying9
  a9 := Tryz.isAgg9
  z9 := Tryz.sizeOf9
  v9 := Tryz.zeroValue9
  t46 := Tryz.underlying212
  a46 := Tryz.isAgg212
  z46 := Tryz.sizeOf212
  v46 := Tryz.zeroValue212
  t53 := Tryz.underlying220
  a53 := Tryz.isAgg220
  z53 := Tryz.sizeOf220
  v53 := Tryz.zeroValue220
def laysLog_ren : Go.Shelf.Ren := ⟨fun | 317 => 251 | n => n, fun | 3 => 3 | 46 => 212 | n => n, fun | n => n⟩
theorem laysLog : Go.Proofs.Lays.n317 Tryz.prog laysLog_ren where
  mixed := by kernel_rfl
  f317 := Tryz.func251.trans (congrArg some (by kernel_rfl))
  t3 := Tryz.underlying3
  a3 := Tryz.isAgg3
  z3 := Tryz.sizeOf3
  v3 := Tryz.zeroValue3
  t46 := Tryz.underlying212
  a46 := Tryz.isAgg212
  z46 := Tryz.sizeOf212
  v46 := Tryz.zeroValue212
def laysSmall_ren : Go.Shelf.Ren := ⟨fun | 283 => 230 | n => n, fun | 3 => 3 | 9 => 9 | 4 => 4 | n => n, fun | n => n⟩
theorem laysSmall : Go.Proofs.Lays.n283 Tryz.prog laysSmall_ren where
  mixed := by kernel_rfl
  f283 := Tryz.func230.trans (congrArg some (by kernel_rfl))
  t3 := Tryz.underlying3
  a3 := Tryz.isAgg3
  z3 := Tryz.sizeOf3
  v3 := Tryz.zeroValue3
  t4 := Tryz.underlying4
  a4 := Tryz.isAgg4
  z4 := Tryz.sizeOf4
  v4 := Tryz.zeroValue4
  t9 := Tryz.underlying9
  a9 := Tryz.isAgg9
  z9 := Tryz.sizeOf9
  v9 := Tryz.zeroValue9
def laysFmt_ren : Go.Shelf.Ren := ⟨fun | 285 => 232 | n => n, fun | 37 => 77 | 53 => 220 | 3 => 3 | 4 => 4 | 51 => 254 | 9 => 9 | 5 => 5 | 0 => 0 | n => n, fun | n => n⟩
theorem laysFmt : Go.Proofs.Lays.n285 Tryz.prog laysFmt_ren where
  mixed := by kernel_rfl
  f285 := Tryz.func232.trans (congrArg some (by kernel_rfl))
  t0 := Tryz.underlying0
  a0 := Tryz.isAgg0
  z0 := Tryz.sizeOf0
  v0 := Tryz.zeroValue0
  t3 := Tryz.underlying3
  a3 := Tryz.isAgg3
  z3 := Tryz.sizeOf3
  v3 := Tryz.zeroValue3
  t4 := Tryz.underlying4
  a4 := Tryz.isAgg4
  z4 := Tryz.sizeOf4
  v4 := Tryz.zeroValue4
  t5 := Tryz.underlying5
  a5 := Tryz.isAgg5
  z5 := Tryz.sizeOf5
  v5 := Tryz.zeroValue5
  t9 := Tryz.underlying9
  a9 := Tryz.isAgg9
  z9 := Tryz.sizeOf9
  v9 := Tryz.zeroValue9
  t37 := Tryz.underlying77
  a37 := Tryz.isAgg77
  z37 := Tryz.sizeOf77
  v37 := Tryz.zeroValue77
  t51 := Tryz.underlying254
  a51 := Tryz.isAgg254
  z51 := Tryz.sizeOf254
  v51 := Tryz.zeroValue254
  t53 := Tryz.underlying220
  a53 := Tryz.isAgg220
  z53 := Tryz.sizeOf220
  v53 := Tryz.zeroValue220
end Hw.Z
namespace Hw.Z
open Go Go.Proofs Hw.M

theorem nd_eq (x y : Nd) : decide (x = y) = (decide (x.t = y.t) && decide (x.f = y.f)) := by
  rw [← Bool.decide_and]
  exact decide_eq_decide.2 ⟨fun h => by subst h; exact ⟨rfl, rfl⟩, fun h => by cases x; cases y; simp only at h; rw [h.1, h.2]⟩
theorem hp_eq (x y : Hp) : decide (x = y) = (decide (x.g = y.g) && decide (x.n = y.n)) := by
  rw [← Bool.decide_and]
  exact decide_eq_decide.2 ⟨fun h => by subst h; exact ⟨rfl, rfl⟩, fun h => by cases x; cases y; simp only at h; rw [h.1, h.2]⟩
theorem same1_ok (x y : Nd) : FnOK Tryz.prog 81 [aggS (nodeR x), aggS (nodeR y)] [] (.bq (decide (x = y))) [] := by
  rw [nd_eq]
  have hE := slEqual_ok x.f y.f
  refine fn_ok T Tryz.func81 (by kernel_rfl) rfl rfl rfl rfl fun C hC => ?_
  repeat' first
    | refine g_go T hC true 400 rfl rfl ?_
    | refine g_cond rfl (fun h => ?_) (fun h => ?_)
    | refine g_end T hC (by kernel_rfl) ?_
    | refine g_splitD (fun h => ?_) (fun h => ?_)
    | refine g_splitG rfl rfl rfl (fun h => ?_) (fun h => ?_)
    | refine g_splitP rfl rfl (fun h => ?_) (fun h => ?_)
    | refine g_call hC (hE) rfl rfl (LeSs.refl _) rfl rfl rfl ?_
    | refine g_retq T (.inl rfl) rfl ?_
    | refine g_retl T (.inl rfl) rfl ?_
  all_goals simp_all
theorem eqNodes_ok (a b : List Nd) : FnOK Tryz.prog 80 [pS (nodesP a), pS (nodesP b), .one (.cl 81 [] [])] [] (.bq (decide (a = b))) [] := by
  refine fn_ok T Tryz.func80 (by kernel_rfl) rfl rfl rfl rfl fun C hC => ?_
  refine g_len 0 rfl fun hlen => ?_
  rw [List.length_map] at hlen
  repeat' first
    | refine g_go T hC true 400 rfl rfl ?_
    | refine g_cond rfl (fun h => ?_) (fun h => ?_)
    | refine g_end T hC (by kernel_rfl) ?_
    | refine g_splitD (fun h => ?_) (fun h => ?_)
    | refine g_splitG rfl rfl rfl (fun h => ?_) (fun h => ?_)
    | refine g_splitP rfl rfl (fun h => ?_) (fun h => ?_)
    | refine g_retl T (.inl rfl) rfl ?_
  all_goals (try simp only [List.length_map] at *)
  · have : ¬ (a.length : Int) = (b.length : Int) := by simpa using h
    exact (decide_eq_false fun e => this (by rw [e])).symm
  · have hab : a.length = b.length := by have : (a.length : Int) = (b.length : Int) := by simpa using h
                                         omega
    refine g_loop (fun i : Nat => i ≤ a.length ∧ a.take i = b.take i) (fun i => ([(1, pS (nodesP b)), (2, .one (.cl 81 [] [])), (15, pS (nodesP a)), (16, I a.length), (17, I i)], [])) (fun i => a.length - i) hC
      0 ⟨Nat.zero_le _, by simp⟩ id ⟨rfl, ⟨rfl, rfl, rfl, rfl, rfl, trivial⟩, trivial, rfl, fun _ _ => rfl⟩ ?_
    rintro i ⟨hi, hn⟩
    refine g_run' T hC true 200 rfl ?_
    refine g_cond rfl (fun h => ?_) (fun h => ?_)
    · have hlt : i < a.length := by simpa using h
      obtain ⟨x, hx⟩ := exists_at hlt
      obtain ⟨y, hy⟩ := exists_at (hab ▸ hlt)
      have hS := same1_ok x y
      repeat' first
        | refine g_go T hC true 400 rfl rfl ?_
        | refine g_cond rfl (fun h => ?_) (fun h => ?_)
        | refine g_end T hC (by kernel_rfl) ?_
        | refine g_splitD (fun h => ?_) (fun h => ?_)
        | refine g_splitG rfl rfl rfl (fun h => ?_) (fun h => ?_)
        | refine g_splitP rfl rfl (fun h => ?_) (fun h => ?_)
        | refine g_idx T hC rfl rfl rfl (Int.natCast_nonneg _) (map_at hx) rfl rfl ?_
        | refine g_idx T hC rfl rfl rfl (Int.natCast_nonneg _) (map_at hy) rfl rfl ?_
        | refine g_call hC (hS) rfl rfl (LeSs.refl _) rfl rfl rfl ?_
        | refine g_outR ?_
        | refine g_retl T (.inl rfl) rfl ?_
      · have hxy : x ≠ y := by simpa using h
        exact (decide_eq_false fun e => hxy (by subst e; rw [hx] at hy; exact Option.some.inj hy)).symm
      · have hxy : x = y := by simpa using h
        subst hxy
        rw [wrapS (by omega)]
        exact g_round (i + 1) ⟨by omega, take_eq hx hy hn⟩ id (by omega) ⟨rfl, ⟨rfl, rfl, rfl, rfl, rfl, trivial⟩, trivial, rfl, fun _ _ => rfl⟩
    · have hge : ¬ i < a.length := by simpa using h
      repeat' first
        | refine g_go T hC true 400 rfl rfl ?_
        | refine g_cond rfl (fun h => ?_) (fun h => ?_)
        | refine g_end T hC (by kernel_rfl) ?_
        | refine g_splitD (fun h => ?_) (fun h => ?_)
        | refine g_splitG rfl rfl rfl (fun h => ?_) (fun h => ?_)
        | refine g_splitP rfl rfl (fun h => ?_) (fun h => ?_)
        | refine g_outE ?_
        | refine g_retl T (.inl rfl) rfl ?_
      rw [List.take_of_length_le (by omega), List.take_of_length_le (by omega)] at hn
      exact (decide_eq_true hn).symm
theorem same_ok {d : Desc} {a b : Hp} (ha : validM d a = true) (hb : validM d b = true) : FnOK Tryz.prog 39 [aggS (descR d), aggS (memR a), aggS (memR b)] [] (.tup [.bq (decide (canonS d a (searchS d a) = canonS d b (searchS d b))), I 0]) [] := by
  have hVa := heapValid_ok d a
  rw [ha] at hVa
  have hVb := heapValid_ok d b
  rw [hb] at hVb
  have hza := sizes_of ha
  have hzb := sizes_of hb
  have hSa := searched_ok (wg_of ha)
  have hSb := searched_ok (wg_of hb)
  have hCa := canonical_ok (wg_of ha) (searchS d a) (search_ok ha) hza.1 hza.2
  have hCb := canonical_ok (wg_of hb) (searchS d b) (search_ok hb) hzb.1 hzb.2
  rw [hp_eq]
  generalize canonS d a (searchS d a) = x at *
  generalize canonS d b (searchS d b) = y at *
  have hE := slEqual_ok x.g y.g
  have hN := eqNodes_ok x.n y.n
  refine fn_ok T Tryz.func39 (by kernel_rfl) rfl rfl rfl rfl fun C hC => ?_
  repeat' first
    | refine g_go T hC true 400 rfl rfl ?_
    | refine g_cond rfl (fun h => ?_) (fun h => ?_)
    | refine g_end T hC (by kernel_rfl) ?_
    | refine g_splitD (fun h => ?_) (fun h => ?_)
    | refine g_splitG rfl rfl rfl (fun h => ?_) (fun h => ?_)
    | refine g_splitP rfl rfl (fun h => ?_) (fun h => ?_)
    | refine g_call hC (hVa) rfl rfl (LeSs.refl _) rfl rfl rfl ?_
    | refine g_call hC (hVb) rfl rfl (LeSs.refl _) rfl rfl rfl ?_
    | refine g_callR hC (hSa) (nm [150, 151, 152]) rfl rfl (LeSs.refl _) rfl rfl rfl rfl rfl rfl rfl rfl ?_
    | refine g_callR hC (hCa) (nm [150, 151, 152]) rfl rfl (LeSs.refl _) rfl rfl rfl rfl rfl rfl rfl rfl ?_
    | refine g_callR hC (hSb) (nm [160, 161, 162]) rfl rfl (LeSs.refl _) rfl rfl rfl rfl rfl rfl rfl rfl ?_
    | refine g_callR hC (hCb) (nm [160, 161, 162]) rfl rfl (LeSs.refl _) rfl rfl rfl rfl rfl rfl rfl rfl ?_
    | refine g_call hC (hE) rfl rfl (LeSs.refl _) rfl rfl rfl ?_
    | refine g_call hC (hN) rfl rfl (LeSs.refl _) rfl rfl rfl ?_
  all_goals first
    | (exfalso; cases h; done)
    | (exfalso; simp_all; done)
    | exact g_fin ⟨.inl rfl, id, _, rfl, LeS.tup (.cons (.qq (by simp_all)) (.cons (.refl _) .nil)), trivial, rfl, rfl⟩
    | exact g_fin ⟨.inl rfl, id, _, rfl, LeS.tup (.cons (.qb (by simp_all)) (.cons (.refl _) .nil)), trivial, rfl, rfl⟩
end Hw.Z
