/- The engine, part AW: a literal of one part in a box; rows of integers as cells; what a call of the library's leaves in an array of the run's own. -/
import Derived.Test.YtmnhegkogibipaaGreatDoorE3
import Derived.Laws.IdiomCopy
import Derived.Test.YtmnhegkogibipaaGreatDoorProg
import Derived.KernelRfl
import Derived.Shelf.Spec.SlicesInsertGrow
import Derived.Test.YtmnhegkogibipaaGreatDoorC12
set_option linter.unusedVariables false
set_option linter.unusedSimpArgs false
namespace Hw
open Go

theorem setCells_row (b : Nat) (t : TypeId) (fz : Nat × Nat) : ∀ (vs : List Value) (o : Nat) (cur : Array Value) (w : World), w.heap[b]? = some (.cells cur t fz) → o + vs.length ≤ cur.size → w.setCells b o vs = w.setRow b (setAt cur.toList o vs).toArray
  | [], o, cur, w, hg, _ => by
    simp only [setAt, World.setCells, List.append_nil, List.length_nil, Nat.add_zero, List.take_append_drop, Array.toArray_toList]
    exact (setRow_self w b cur t fz hg).symm
  | v :: rest, o, cur, w, hg, hl => by
    simp only [List.length_cons] at hl
    have ih := setCells_row b t fz rest (o + 1) (cur.setIfInBounds o v) (w.setRow b (cur.setIfInBounds o v)) (setRow_heap w b cur _ t _ hg) (by simp; omega)
    rw [World.setCells, setCell_eq_setRow w b o cur t fz v hg, ih, setRow_setRow]
    congr 2
    have e := list_seg_step cur.toList o v rest (by simp; omega)
    simpa [setAt, Array.toList_setIfInBounds, Nat.add_assoc] using e

/-- Rows of integers, as cells. -/
theorem ints_rows {M : Mem} {g : Nat → Option Value} {l : List (List PV)} {vs : List Value} {o : Nat} (hl : ∀ r ∈ l, r.length = 1) (hr : RepVs M (fun _ => undef) (l.flatten.map V.p) vs) (h : ∀ j c, vs[j]? = some c → g (o + j) = some c) : RowsIn M g 1 l o :=
  RowsIn.of_cells (ρ := fun _ => undef) hl hr h

/-- What a call leaves that hands back one array under a new name: it lies in the old array's block, or in a new one. -/
theorem ret_arr {M : Mem} {ρ : Nat → Value} {w w' : World} {R : RL} {r0 : Res} {e : Nat} {rows : List (List PV)} {B o cap : Nat} {cs : Array Value} {el : TypeId} {fz : Nat × Nat} (hR : tg (tb R) 0 = some r0) (hT : THolds M ρ w (tb R)) (hI : Imm M w) (hid : 2 ∉ R.ids)
    (hB : w'.heap[B]? = some (.cells cs el fz)) (hU : Unfrozen fz cs.size) (hc : o + cap * e ≤ cs.size) (hn : rows.length ≤ cap) (hm : cap ≤ 9223372036854775807) (hrows : RowsIn M (fun i => cs[i]?) e rows o)
    (hown : w.heap.size ≤ B ∨ blk (ρ 0) = some B) (hold : ∀ k, k < w.heap.size → blk (ρ 0) ≠ some k → w'.heap[k]? = w.heap[k]?) (hs : w.heap.size ≤ w'.heap.size) (h1 : w'.os = w.os) (h2 : w'.tape = w.tape) (h3 : w'.output = w.output) :
    Ret M ρ w R (.one (.ar 2)) [(2, .arr e rows)] (.slice (some ⟨B, o, none⟩) rows.length cap) M (upd ρ 2 (.slice (some ⟨B, o, none⟩) rows.length cap)) w' := by
  have hMB : ∀ q, M B q = none := fun q => by
    rcases hown with h | h
    · cases hm' : M B q with
      | none => rfl
      | some u => have := cell_lt (hI B q u hm'); omega
    · exact hT.own 0 _ B hR h q
  have only : ∀ i r, tg (tb [(2, Res.arr e rows)]) i = some r → i = 2 ∧ r = .arr e rows := fun i r hi => by
    simp only [tb, tg_cons] at hi
    split at hi
    · rename_i e'; exact ⟨e'.symm, (Option.some.inj hi).symm⟩
    · cases hi
  refine ⟨by simp only [RepS, RepV]; exact ⟨(upd_same _ _ _).symm, rfl⟩, ⟨fun i r hi => ?_, fun i j ri rj b hi hj hne _ _ => ?_, fun i r b hi hb q => ?_⟩, fun b q v hv => ?_, MLe.refl M, fun b q u hu => .inl hu, fun b hb => ?_, fun b hb hn => ?_, hs, h1, h2, h3, fun id hid' => ?_⟩
  · obtain ⟨rfl, rfl⟩ := only i r hi
    exact ⟨some ⟨B, o, none⟩, cap, upd_same _ _ _, hn, hm, .inr ⟨B, o, cs, el, fz, rfl, hB, hU, hc, hrows⟩⟩
  · obtain ⟨rfl, _⟩ := only i ri hi
    obtain ⟨rfl, _⟩ := only j rj hj
    exact hne rfl
  · obtain ⟨rfl, _⟩ := only i r hi
    rw [upd_same] at hb
    simp only [blk, Option.some.injEq] at hb; subst hb; exact hMB q
  · have hbl := cell_lt (hI b q v hv)
    have hne : blk (ρ 0) ≠ some b := fun h => by rw [hT.own 0 _ b hR h q] at hv; cases hv
    rw [cell_of_heap (hold b hbl hne)]; exact hI b q v hv
  · obtain ⟨i, r, hi, hb⟩ := hb
    obtain ⟨rfl, _⟩ := only i r hi
    rw [upd_same] at hb
    simp only [blk, Option.some.injEq] at hb; subst hb
    exact hown.imp id fun h => ⟨0, r0, hR, h⟩
  · exact hold b hb fun h => hn ⟨0, r0, hR, h⟩
  · exact upd_other fun h => hid (h ▸ hid')

section
variable {P : Program} {d : Option Nat} {ty : TypeId} {ps : String} {af : Array Edge} {g : Option (Nat × Bool)} {x y : Operand} {t : TypeId}
theorem L_remI {t' : TypeId} {k : IntKind} {n m : Int} (h0 : m ≠ 0) (hx : okc x (Kk k n)) (hy : okc y (Kk k m)) :
    Snd P ⟨d, .binOp .rem t x y t', ty, ps, af, g⟩ (rq x (Kk k n) ++ rq y (Kk k m)) [] [] (Kk k (n.tmod m)) [] :=
  L_bin hx hy rfl fun w => ⟨rfl, by rw [binOp_rem]; simp [Op.intDiv, h0]⟩
theorem L_quoI {t' : TypeId} {k : IntKind} {n m : Int} (h0 : m ≠ 0) (hx : okc x (Kk k n)) (hy : okc y (Kk k m)) :
    Snd P ⟨d, .binOp .quo t x y t', ty, ps, af, g⟩ (rq x (Kk k n) ++ rq y (Kk k m)) [] [] (Kk k (k.wrap (n.tdiv m))) [] :=
  L_bin hx hy rfl fun w => ⟨rfl, by rw [binOp_quo]; simp [Op.intDiv, h0]⟩
/-- A literal of one part, in a box of the run's own. -/
theorem L_lit_bs {id e : Nat} {s : S} {us : List V} {el : TypeId} {z : List V} (hx : okc x s) (hc : cellsOf s = some us) (hrl : us.length = e) (hm : mentVs id us = false)
    (he : elemSz P t = some (el, e)) (hz : zeroV P el = some z) (he0 : 0 < e) (heb : e ≤ 16777216) :
    Snd P ⟨d, .buildSlice t 1 #[(0, x)], ty, ps, af, g⟩ (rq x s) [] [id] (.one (.bs id 0 1)) [(id, some (.box us))] := by
  intro C st M ρ a w hH h1 hT hF hd k Q hk
  have e' := cellsOf_spec hc (hH.evS (ev_of hx h1))
  obtain ⟨ii, hu, hinf, hsz⟩ := elemSz_spec he
  obtain ⟨i', zv, hi', hzv, hzs⟩ := zeroV_len hz
  rw [hinf] at hi'; simp only [Option.some.injEq] at hi'; subst hi'
  have hcl : (a.eval x).cells.size = e := by have := e'.length; simp at this; omega
  have hfill : ∀ cur : Array Value, cur.size = e → Instr.fill (fun i => some (i * e, e)) cur [(0, a.eval x)] = some (a.eval x).cells := fun cur hcur => by
    simp only [Instr.fill]
    have hcond : ¬ ((a.eval x).cells.size ≠ e || 0 * e + (a.eval x).cells.size > cur.size) = true := by
      simp only [ne_eq, Bool.or_eq_true, decide_eq_true_eq]; omega
    have hfold := zipIdx_fold cur (0 * e) (a.eval x).cells.toList 0 cur (by simp; omega)
    have hfold' : (a.eval x).cells.zipIdx.foldl (fun cs (p : Value × Nat) => cs.setIfInBounds (0 * e + p.2) p.1) cur = (setAt cur.toList (0 * e) (a.eval x).cells.toList).toArray := by
      rw [← Array.foldl_toList]
      simpa using hfold
    rw [if_neg hcond, hfold']
    congr 1
    unfold setAt
    have : cur.toList.drop (0 * e + (a.eval x).cells.toList.length) = [] := by apply List.drop_eq_nil_of_le; simp; omega
    rw [this]; simp
  have hrun : (execOp a.eval ⟨d, .buildSlice t 1 #[(0, x)], ty, ps, af, g⟩).run P w = .ok (.value (.slice (some ⟨w.heap.size, 0, none⟩) 1 1)) (w.alloc (.cells (a.eval x).cells el)) := by
    have hn : ¬ 16777216 < e := by omega
    have h0 : ¬ e = 0 := by omega
    have hf := hfill ((Array.range (1 * e)).map fun x => zv.cells[x % zv.cells.size]!) (by simp)
    have hzrun : (zeroValue el).run P w = .ok zv w := by simp [zeroValue, typeInfo, hinf, hzv]
    simp [execOp, Instr.buildSlice, run_underlying hu, run_sizeOf hinf, hsz, hn, h0, newRow, hzrun] at hf ⊢
    simp [hf]
  unfold Oper.wp
  rw [hrun, Oper.upon_value]
  refine hk _ _ M _ (hH.alloc (val := .pointer (some ⟨w.heap.size, 0, none⟩)) (fun b hb => by simp only [blk, Option.some.injEq] at hb; exact hb.symm) hF.1
    ⟨w.heap.size, (a.eval x).cells.toList, el, upd_same _ _ _, by simpa using heap_push_new w _, RepVs.agree (upd_agree ρ id _) _ _ (fun i hi => by subst hi; exact hm) e'⟩
    (by simp only [RepS, RepV]; exact ⟨w.heap.size, 1, upd_same _ _ _, rfl, Nat.le_refl 1⟩) hd)
end

section
variable {P : Program} {C : Ctx} {k : List Frm} {n : Nat} {sl : Slots} {tab : Tab} {Q : Exit → St → Prop} {all : Array Oper} {rest : List Oper} {cur : Cur}
theorem g_rem {d : Nat} {x y : Operand} {t t' ty : TypeId} {ps : String} {af : Array Edge} {g0 : Option (Nat × Bool)} {gs : Slots} {md : Mode} (hC : C.low) {k0 : IntKind} {a m : Int}
    (hx : ev sl x = some (Kk k0 a)) (hy : ev sl y = some (Kk k0 m)) (h0 : m ≠ 0) (hm : metL all sl g0 = some gs) (hd : Nat.blt d n = true)
    (g : Goal P C (.ops all rest (nx md ⟨some d, gs ++ (rq x (Kk k0 a) ++ rq y (Kk k0 m)), [], [], Kk k0 (a.tmod m), []⟩)) k n ((d, Kk k0 (a.tmod m)) :: sl) tab Q) :
    Goal P C (.ops all (⟨some d, .binOp .rem t x y t', ty, ps, af, g0⟩ :: rest) md) k n sl tab Q := by
  have e1 := of_ev (st := ⟨n, sl, tab⟩) hx
  have e2 := of_ev (st := ⟨n, sl, tab⟩) hy
  have := metL_step hm (L_remI (P := P) (ty := ty) (ps := ps) (af := af) (g := g0) (d := some d) (t := t) (t' := t') h0 e1.1 e2.1) (n := n) (tab := tab)
  exact g_law (L := ⟨some d, gs ++ (rq x (Kk k0 a) ++ rq y (Kk k0 m)), [], [], Kk k0 (a.tmod m), []⟩) hC this.1 rfl ⟨by rw [okS_append, okS_append]; exact ⟨this.2, e1.2, e2.2⟩, trivial, rfl, hd⟩ g
theorem g_quo {d : Nat} {x y : Operand} {t t' ty : TypeId} {ps : String} {af : Array Edge} {g0 : Option (Nat × Bool)} {gs : Slots} {md : Mode} (hC : C.low) {k0 : IntKind} {a m : Int}
    (hx : ev sl x = some (Kk k0 a)) (hy : ev sl y = some (Kk k0 m)) (h0 : m ≠ 0) (hm : metL all sl g0 = some gs) (hd : Nat.blt d n = true)
    (g : Goal P C (.ops all rest (nx md ⟨some d, gs ++ (rq x (Kk k0 a) ++ rq y (Kk k0 m)), [], [], Kk k0 (k0.wrap (a.tdiv m)), []⟩)) k n ((d, Kk k0 (k0.wrap (a.tdiv m))) :: sl) tab Q) :
    Goal P C (.ops all (⟨some d, .binOp .quo t x y t', ty, ps, af, g0⟩ :: rest) md) k n sl tab Q := by
  have e1 := of_ev (st := ⟨n, sl, tab⟩) hx
  have e2 := of_ev (st := ⟨n, sl, tab⟩) hy
  have := metL_step hm (L_quoI (P := P) (ty := ty) (ps := ps) (af := af) (g := g0) (d := some d) (t := t) (t' := t') h0 e1.1 e2.1) (n := n) (tab := tab)
  exact g_law (L := ⟨some d, gs ++ (rq x (Kk k0 a) ++ rq y (Kk k0 m)), [], [], Kk k0 (k0.wrap (a.tdiv m)), []⟩) hC this.1 rfl ⟨by rw [okS_append, okS_append]; exact ⟨this.2, e1.2, e2.2⟩, trivial, rfl, hd⟩ g
theorem g_litB (T : Ty P) {d : Nat} {x : Operand} {t ty : TypeId} {ps : String} {af : Array Edge} {g0 : Option (Nat × Bool)} {gs : Slots} {md : Mode} (hC : C.low) {e : Nat} {s : S} {us : List V} {el : TypeId} {z : List V}
    (hx : ev sl x = some s) (hc : cellsOf s = some us) (hrl : us.length = e) (hmu : mentVs (1000 + d) us = false) (he : T.es t = some (el, e)) (hz : T.zs el = some z) (he0 : Nat.blt 0 e = true) (heb : Nat.ble e 16777216 = true)
    (hm : metL all sl g0 = some gs) (hd : Nat.blt d n = true) (hf : (Nat.ble 100 (1000 + d) && freshB (1000 + d) ⟨n, sl, tab⟩) = true)
    (g : Goal P C (.ops all rest (nx md ⟨some d, gs ++ rq x s, [], [1000 + d], .one (.bs (1000 + d) 0 1), [(1000 + d, some (.box us))]⟩)) k n ((d, .one (.bs (1000 + d) 0 1)) :: sl) ((1000 + d, some (.box us)) :: tab) Q) :
    Goal P C (.ops all (⟨some d, .buildSlice t 1 #[(0, x)], ty, ps, af, g0⟩ :: rest) md) k n sl tab Q := by
  have e1 := of_ev (st := ⟨n, sl, tab⟩) hx
  have := metL_step hm (L_lit_bs (P := P) (ty := ty) (ps := ps) (af := af) (g := g0) (d := some d) (id := 1000 + d) e1.1 hc hrl hmu (T.es_ok _ _ he) (T.zs_ok _ _ hz) (by simpa [Nat.blt_eq] using he0) (Nat.le_of_ble_eq_true heb)) (n := n) (tab := tab)
  exact g_law (L := ⟨some d, gs ++ rq x s, [], [1000 + d], .one (.bs (1000 + d) 0 1), [(1000 + d, some (.box us))]⟩) hC this.1 rfl ⟨by rw [okS_append]; exact ⟨this.2, e1.2⟩, trivial, fr_one hf, hd⟩ g
end
end Hw
/- The library's functions at this program: their numbers. -/
namespace Hw.Z
open Go Go.Proofs Go.Shelf
def laysIns_ren : Go.Shelf.Ren := ⟨fun | 21 => 78 | 27 => 143 | 28 => 144 | 35 => 188 | 39 => 229 | n => n, fun | 22 => 31 | 3 => 3 | 4 => 4 | 0 => 0 | n => n, fun | n => n⟩
theorem laysIns : Go.Proofs.Lays2.n21 Tryz.prog laysIns_ren where
  mixed := by kernel_rfl
  f21 := Tryz.func78.trans (congrArg some (by kernel_rfl))
  f27 := Tryz.func143.trans (congrArg some (by kernel_rfl))
  f28 := Tryz.func144.trans (congrArg some (by kernel_rfl))
  f35 := Tryz.func188.trans (congrArg some (by kernel_rfl))
  f39 := Tryz.func229.trans (congrArg some (by kernel_rfl))
  t0 := Tryz.underlying0
  a0 := Tryz.isAgg0
  z0 := Tryz.sizeOf0
  v0 := Tryz.zeroValue0
  t3 := Tryz.underlying3
  a3 := Tryz.isAgg3
  z3 := Tryz.sizeOf3
  v3 := Tryz.zeroValue3
  t4 := Tryz.underlying4
  a4 := Tryz.isAgg4
  z4 := Tryz.sizeOf4
  v4 := Tryz.zeroValue4
  t22 := Tryz.underlying31
  a22 := Tryz.isAgg31
  z22 := Tryz.sizeOf31
  v22 := Tryz.zeroValue31
  i3 := by kernel_rfl
end Hw.Z
namespace Hw.Z
open Go Go.Proofs Go.Shelf Hw.M

/-! slices.Insert of integers -/
def insI (l : List Int) (i : Nat) (x : Int) : List Int := l.take i ++ x :: l.drop i
theorem insI_len {l : List Int} {i : Nat} {x : Int} (h : i ≤ l.length) : (insI l i x).length = l.length + 1 := by simp only [insI, List.length_append, List.length_take, List.length_cons, List.length_drop]; omega
abbrev iv (x : Int) : Value := .int .i64 x
theorem rep_ints (M : Mem) (ρ : Nat → Value) : ∀ l : List Int, RepVs M ρ ((l.map intR).flatten.map V.p) (l.map iv)
  | [] => by simp only [List.map_nil, List.flatten_nil, RepVs]
  | a :: l => by
    have ih := rep_ints M ρ l
    simp only [List.map_cons, List.flatten_cons, intR, List.singleton_append, RepVs, RepV, RepPV]
    exact ⟨⟨trivial, rfl⟩, ih⟩
theorem ints_one (l : List Int) : ∀ r ∈ l.map intR, r.length = 1 := fun r hr => by obtain ⟨x, _, rfl⟩ := List.mem_map.1 hr; rfl
theorem ints_of {M : Mem} {g : Nat → Option Value} {l : List Int} {o : Nat} (h : ∀ j c, (l.map iv)[j]? = some c → g (o + j) = some c) : RowsIn M g 1 (l.map intR) o :=
  ints_rows (ints_one l) (rep_ints M _ l) h
theorem of_ints {M : Mem} {g : Nat → Option Value} {l : List Int} {o : Nat} (h : RowsIn M g 1 (l.map intR) o) : ∀ j c, (l.map iv)[j]? = some c → g (o + j) = some c := fun j c hj => by
  rw [List.getElem?_map] at hj
  simp only [Option.map_eq_some_iff] at hj
  obtain ⟨x, hx, rfl⟩ := hj
  have := (h.get (i := j) (by rw [List.getElem?_map, hx]; rfl)).2
  rw [Nat.mul_one] at this
  simp only [intR, RowIn, RepPV] at this
  obtain ⟨⟨c, h1, h2⟩, _⟩ := this
  rw [h1, h2.1]
theorem iv_one (l : List Int) : ∀ v ∈ l.map iv, v.oneCell' = true := fun v hv => by obtain ⟨x, _, rfl⟩ := List.mem_map.1 hv; rfl
theorem insert_ok (l : List Int) (i : Nat) (x : Int) (hi : i ≤ l.length) (hl : l.length ≤ 1000000) :
    FnOK Tryz.prog 78 [.one (.ar 0), I i, .one (.bs 1 0 1)] [(0, .arr 1 (l.map intR)), (1, .box [.p (ki x)])] (.one (.ar 2)) [(2, .arr 1 ((insI l i x).map intR))] := by
  have hlm : (l.map intR).length = l.length := List.length_map _
  have hvl : (l.map iv).length = l.length := List.length_map _
  have hil := insI_len (x := x) hi
  have him : ((insI l i x).map intR).length = l.length + 1 := by rw [List.length_map, hil]
  refine ⟨⟨_, Tryz.func78, by kernel_rfl, by kernel_rfl⟩, fun M ρ w xs hx hT hI hG => ?_⟩
  match xs, hx with
  | [x0, x1, x2], hx =>
    simp only [RepSs, RepS, RepV, RepPV] at hx
    obtain ⟨⟨h00, _⟩, ⟨rfl, _⟩, ⟨vb, c2, hb1, rfl, _⟩, _⟩ := hx
    subst h00
    obtain ⟨a, cap, e0, e1, e2, e3⟩ := hT.res 0 _ rfl
    obtain ⟨vb', cs2, el2, f1, f2, f3⟩ := hT.res 1 _ rfl
    rw [hb1] at f1
    simp only [Value.pointer.injEq, Option.some.injEq, Addr.mk.injEq] at f1
    obtain ⟨rfl, _⟩ := f1
    match cs2, f3 with
    | [u], f3 =>
    simp only [RepVs, RepV, RepPV] at f3
    obtain ⟨⟨rfl, _⟩, _⟩ := f3
    have hvs : ∀ j v, ([iv x] : List Value)[j]? = some v → w.cell? ⟨vb, 0 + j, none⟩ = some v := fun j v hj => by
      match j, hj with
      | 0, hj => simp only [List.getElem?_cons_zero, Option.some.injEq] at hj; subst hj; simp [World.cell?, f2]
      | j + 1, hj => simp at hj
    have h1v : ∀ v ∈ ([iv x] : List Value), v.oneCell' = true := fun v hv => by simp only [List.mem_singleton] at hv; subst hv; rfl
    rw [hlm] at e0 e1
    rw [e0]
    have hR : tg (tb [(0, Res.arr 1 (l.map intR)), (1, Res.box [.p (ki x)])]) 0 = some (.arr 1 (l.map intR)) := rfl
    have hid : 2 ∉ RL.ids [(0, Res.arr 1 (l.map intR)), (1, Res.box [.p (ki x)])] := by simp [RL.ids]
    have done : ∀ {B o cap' : Nat} {cs : Array Value} {el : TypeId} {fz : Nat × Nat} {e : Ending} {w' : World}, e = .returned (.slice (some ⟨B, o, none⟩) (l.length + 1) cap') → w'.heap[B]? = some (.cells cs el fz) → Unfrozen fz cs.size → o + cap' ≤ cs.size → l.length + 1 ≤ cap' → cap' ≤ 9223372036854775807 →
        (∀ j c, ((insI l i x).map iv)[j]? = some c → cs[o + j]? = some c) → (w.heap.size ≤ B ∨ blk (ρ 0) = some B) → (∀ k, k < w.heap.size → blk (ρ 0) ≠ some k → w'.heap[k]? = w.heap[k]?) → w.heap.size ≤ w'.heap.size → w'.os = w.os → w'.tape = w.tape → w'.output = w.output →
        ∃ v M' ρ', e = .returned v ∧ Ret M ρ w [(0, Res.arr 1 (l.map intR)), (1, Res.box [.p (ki x)])] (.one (.ar 2)) [(2, .arr 1 ((insI l i x).map intR))] v M' ρ' w' := fun {B o cap' cs el fz e w'} he g1 g2 g3 g4 g5 g6 g7 g8 g9 g10 g11 g12 => by
      have := ret_arr (rows := (insI l i x).map intR) (cap := cap') (e := 1) hR hT hI hid g1 g2 (by rw [Nat.mul_one]; exact g3) (by rw [him]; exact g4) g5 (ints_of g6) g7 g8 g9 g10 g11 g12
      rw [him] at this
      exact ⟨_, _, _, he, this⟩
    have hins : ∀ j c, ((insI l i x).map iv)[j]? = some c → (j < i ∧ (l.map iv)[j]? = some c) ∨ (j = i ∧ c = iv x) ∨ (i < j ∧ (l.map iv)[j - 1]? = some c) := fun j c hj => by
      simp only [insI, List.map_append, List.map_cons] at hj
      have htl : ((l.take i).map iv).length = i := by simp only [List.length_map, List.length_take]; omega
      rcases Nat.lt_or_ge j i with h | h
      · rw [List.getElem?_append_left (by omega)] at hj
        rw [List.getElem?_map, List.getElem?_take, if_pos h] at hj
        exact .inl ⟨h, by rw [List.getElem?_map]; exact hj⟩
      · rw [List.getElem?_append_right (by omega), htl] at hj
        rcases Nat.eq_or_lt_of_le h with h' | h'
        · subst h'
          rw [Nat.sub_self, List.getElem?_cons_zero] at hj
          exact .inr (.inl ⟨rfl, (Option.some.inj hj).symm⟩)
        · rw [show j - i = (j - i - 1) + 1 by omega, List.getElem?_cons_succ, List.getElem?_map, List.getElem?_drop] at hj
          exact .inr (.inr ⟨h', by rw [List.getElem?_map]; rw [show i + (j - i - 1) = j - 1 by omega] at hj; exact hj⟩)
    rcases Nat.lt_or_ge cap (l.length + 1) with hlt | hge
    · -- no room
      have hcap := grownCap_ge w (l.length + 1) cap (laysIns_ren.t 3)
      have hmx := grownCap_le_maxLen w (l.length + 1) cap (laysIns_ren.t 3) (by unfold maxLen; omega)
      unfold maxLen at hmx
      rcases Nat.eq_or_lt_of_le hi with rfl | hil2
      · -- at the end
        refine (Any2.slices_Insert_int_end_grow laysIns a l.length cap vb 0 1 c2 (l.map iv) [iv x] w (by omega) e1 (by omega) (by omega) hvl rfl (fun ha => ?_) (fun b ha j v hj => ?_) hvs h1v).mono ?_
        · rcases e3 with ⟨_, h⟩ | ⟨b, o, cs, el, fz, h, _⟩
          · omega
          · rw [h] at ha; cases ha
        · rcases e3 with ⟨h, _⟩ | ⟨b', o, cs, el, fz, h, h6, _, _, h8⟩
          · rw [h] at ha; cases ha
          · rw [h] at ha; simp only [Option.some.injEq] at ha; subst ha
            rw [add_addr]
            have := of_ints h8 j v hj
            simp [World.cell?, h6, this]
        · rintro e w' ⟨he, rfl⟩
          refine done he (heap_push_new w.drew _) (fun i _ => by simp) ?_ hcap (by omega) (fun j c hj => ?_) (.inl (Nat.le_refl _)) (fun k hk _ => heap_push_old w.drew _ k hk) (by simp) rfl rfl rfl
          · simp only [Array.size_append, List.size_toArray, List.length_append, size_zeroCells, hvl, List.length_singleton]
            have : (Value.int .i64 0).cells.size = 1 := rfl
            rw [this]
            omega
          · rw [Nat.zero_add, Array.getElem?_append_left (by
              have := (List.getElem?_eq_some_iff.1 hj).1
              rw [List.length_map, hil] at this
              simp only [List.size_toArray, List.length_append, hvl, List.length_singleton]; omega)]
            simp only [List.getElem?_toArray]
            have : (insI l l.length x).map iv = l.map iv ++ [iv x] := by simp [insI]
            rw [this] at hj; exact hj
      · -- in the middle
        rcases e3 with ⟨_, h⟩ | ⟨b, o, cs, el, fz, rfl, h6, h6', h7, h8⟩
        · omega
        · refine (Any2.slices_Insert_int_grow laysIns b o l.length cap i vb 0 1 c2 (l.map iv) [iv x] w hil2 (by omega) e1 (by omega) (by omega) hvl rfl (fun j v hj => ?_) hvs (iv_one l) h1v).mono ?_
          · have := of_ints h8 j v hj
            simp [World.cell?, h6, this]
          · rintro e w' ⟨he, rfl⟩
            have hz1 : (Value.int .i64 0).cells.size = 1 := rfl
            generalize hG3 : grownCap w (l.length + 1) cap (laysIns_ren.t 3) = G at *
            have htk : ((l.map iv).take i).length = i := by rw [List.length_take, hvl]; omega
            generalize hcur : (((l.map iv).take i).toArray ++ Builtin.zeroCells (Value.int .i64 0).cells (l.length + 1 - i) ++ Builtin.zeroCells (Value.int .i64 0).cells (G - (l.length + 1))) = cur
            have hcs : cur.size = G := by
              rw [← hcur]; simp only [Array.size_append, List.size_toArray, htk, size_zeroCells, hz1, Nat.mul_one]; omega
            have hcl : ∀ j, j < i → cur[j]? = (l.map iv)[j]? := fun j hj => by
              rw [← hcur, Array.getElem?_append_left (by simp only [Array.size_append, List.size_toArray, htk]; omega), Array.getElem?_append_left (by simp only [List.size_toArray, htk]; exact hj), List.getElem?_toArray, List.getElem?_take, if_pos hj]
            have w1 : (w.alloc (.cells cur (laysIns_ren.t 3))).drew.heap[w.heap.size]? = some (.cells cur (laysIns_ren.t 3) (0, 0)) := heap_push_new w _
            have r1 := setCells_row w.heap.size _ (0, 0) [iv x] i cur _ w1 (by rw [hcs]; simp; omega)
            rw [r1]
            have hs1 : (setAt cur.toList i [iv x]).length = G := by rw [setAt_length _ _ _ (by simp [hcs]; omega)]; simpa using hcs
            have w2 : ((w.alloc (.cells cur (laysIns_ren.t 3))).drew.setRow w.heap.size (setAt cur.toList i [iv x]).toArray).drew.heap[w.heap.size]? = some (.cells (setAt cur.toList i [iv x]).toArray (laysIns_ren.t 3) (0, 0)) := setRow_heap _ _ cur _ _ _ w1
            have hdl : ((l.map iv).drop i).length = l.length - i := by rw [List.length_drop, hvl]
            have r2 := setCells_row w.heap.size _ (0, 0) ((l.map iv).drop i) (i + 1) _ _ w2 (by simp only [List.size_toArray, hs1, hdl]; omega)
            rw [r2]
            have hs2 : (setAt (setAt cur.toList i [iv x]) (i + 1) ((l.map iv).drop i)).length = G := by rw [setAt_length _ _ _ (by rw [hs1, hdl]; omega)]; exact hs1
            refine done he (setRow_heap _ _ _ _ _ _ w2) (fun i _ => by simp) (by simp only [List.size_toArray, hs2]; omega) (by omega) (by omega) (fun j c hj => ?_) (.inl (Nat.le_refl _)) (fun k hk _ => ?_) ?_ rfl rfl rfl
            · simp only [List.getElem?_toArray, Nat.zero_add]
              rw [setAt_get _ _ _ _ (by rw [hs1]; omega), setAt_get _ _ _ _ (by simp [hcs]; omega)]
              simp only [List.length_singleton, hdl]
              rcases hins j c hj with ⟨k1, k2⟩ | ⟨rfl, rfl⟩ | ⟨k1, k2⟩
              · rw [if_pos (by omega), if_pos k1]; rw [← hcl j k1] at k2; simpa using k2
              · rw [if_pos (by omega), if_neg (by omega), if_pos (by omega), Nat.sub_self]; rfl
              · have := (List.getElem?_eq_some_iff.1 k2).1
                rw [hvl] at this
                rw [if_neg (by omega), if_pos (by omega), List.getElem?_drop, show i + (j - (i + 1)) = j - 1 by omega]; exact k2
            · rw [setRow_other _ _ _ _ (by omega)]
              show ((w.alloc (.cells cur (laysIns_ren.t 3))).drew.setRow w.heap.size (setAt cur.toList i [iv x]).toArray).heap[k]? = _
              rw [setRow_other _ _ _ _ (by omega)]
              exact heap_push_old w _ k hk
            · simp [World.setRow]
    · -- room
      rcases e3 with ⟨_, h⟩ | ⟨b, o, cs, el, fz, rfl, h6, h6', h7, h8⟩
      · omega
      · rw [Nat.mul_one] at h7
        have hob : blk (ρ 0) = some b := by rw [e0]; rfl
        have hvb : vb ≠ b := fun h => hT.dis 0 1 _ _ b rfl rfl (by decide) hob (by rw [hb1, h]; rfl)
        have hsp : ∀ j, j < cap → (w.cell? ⟨b, o + j, none⟩).isSome = true := fun j hj => by
          simp [World.cell?, h6]; omega
        have hfz : ∀ j, j < cap → w.frozen? ⟨b, o + j, none⟩ = false := fun j hj => by
          simp only [World.frozen?, h6]; exact h6' _ (by omega)
        have hcl := of_ints h8
        rcases Nat.eq_or_lt_of_le hi with rfl | hil2
        · refine (Any2.slices_Insert_int_end_room laysIns b o l.length cap vb 0 1 c2 [iv x] w (by omega) hge e2 rfl (fun j hj => by rw [Nat.add_assoc]; exact hsp _ (by omega)) (fun j hj => by rw [Nat.add_assoc]; exact hfz _ (by omega)) hvs h1v).mono ?_
          rintro e w' ⟨he, rfl⟩
          have r1 := setCells_row b _ fz [iv x] (o + l.length) cs w h6 (by simp; omega)
          rw [r1]
          have hs1 : (setAt cs.toList (o + l.length) [iv x]).length = cs.size := by rw [setAt_length _ _ _ (by simp; omega)]; simp
          refine done he (setRow_heap w b cs _ _ _ h6) (by simp only [List.size_toArray, hs1]; exact h6') (by simp only [List.size_toArray, hs1]; exact h7) hge e2 (fun j c hj => ?_) (.inr hob) (fun k hk hne => setRow_other w b k _ (fun e => hne (by rw [hob, e]))) (by simp [World.setRow]) rfl rfl rfl
          simp only [List.getElem?_toArray]
          rw [setAt_get _ _ _ _ (by simp; omega)]
          simp only [List.length_singleton]
          rcases hins j c hj with ⟨k1, k2⟩ | ⟨rfl, rfl⟩ | ⟨k1, k2⟩
          · rw [if_pos (by omega)]; simpa using hcl j c k2
          · rw [if_neg (by omega), if_pos (by omega), Nat.sub_self]; rfl
          · have := (List.getElem?_eq_some_iff.1 k2).1
            rw [hvl] at this; omega
        · refine (Any2.slices_Insert_int_shift laysIns b o l.length cap i vb 0 1 c2 (l.map iv) [iv x] w hil2 (by omega) hge e2 hvb hvl rfl (fun j v hj => by have := hcl j v hj; simp [World.cell?, h6, this]) (fun j hj => hsp j (by omega)) (fun j hj => hfz j (by omega)) hvs (iv_one l) h1v el2 el 1 cs.size
            (by simp [World.shape?, f2]) (by simp [World.shape?, h6]) (by omega) (by simp [World.frozen?, f2]) (by simp [World.frozen?, f2])).mono ?_
          rintro e w' ⟨he, rfl⟩
          have hdl : ((l.map iv).drop i).length = l.length - i := by rw [List.length_drop, hvl]
          have w1 : w.drew.heap[b]? = some (.cells cs el fz) := h6
          have r1 := setCells_row b _ fz ((l.map iv).drop i) (o + (i + 1)) cs _ w1 (by rw [hdl]; omega)
          rw [r1]
          have hs1 : (setAt cs.toList (o + (i + 1)) ((l.map iv).drop i)).length = cs.size := by rw [setAt_length _ _ _ (by rw [hdl]; simp; omega)]; simp
          have w2 := setRow_heap w.drew b cs (setAt cs.toList (o + (i + 1)) ((l.map iv).drop i)).toArray _ _ w1
          have r2 := setCells_row b _ fz [iv x] (o + i) _ _ w2 (by simp only [List.size_toArray, hs1, List.length_singleton]; omega)
          rw [r2]
          have hs2 : (setAt (setAt cs.toList (o + (i + 1)) ((l.map iv).drop i)) (o + i) [iv x]).length = cs.size := by rw [setAt_length _ _ _ (by rw [hs1, List.length_singleton]; omega)]; exact hs1
          refine done he (setRow_heap _ b _ _ _ _ w2) (by simp only [List.size_toArray, hs2]; exact h6') (by simp only [List.size_toArray, hs2]; exact h7) hge e2 (fun j c hj => ?_) (.inr hob) (fun k hk hne => ?_) (by simp [World.setRow]) rfl rfl rfl
          · simp only [List.getElem?_toArray]
            rw [setAt_get _ _ _ _ (by rw [hs1]; omega), setAt_get _ _ _ _ (by simp; omega)]
            simp only [List.length_singleton, hdl]
            rcases hins j c hj with ⟨k1, k2⟩ | ⟨rfl, rfl⟩ | ⟨k1, k2⟩
            · rw [if_pos (by omega), if_pos (by omega)]; simpa using hcl j c k2
            · rw [if_neg (by omega), if_pos (by omega), Nat.sub_self]; rfl
            · have := (List.getElem?_eq_some_iff.1 k2).1
              rw [hvl] at this
              rw [if_neg (by omega), if_neg (by omega), if_neg (by omega), if_pos (by omega), List.getElem?_drop, show i + (o + j - (o + (i + 1))) = j - 1 by omega]; exact k2
          · have hkb : k ≠ b := fun e => hne (by rw [hob, e])
            rw [setRow_other _ _ _ _ hkb, setRow_other _ _ _ _ hkb]; rfl
    | [], f3 => simp [RepVs] at f3
    | _ :: _ :: _, f3 => simp [RepVs] at f3
  | [], hx => simp [RepSs] at hx
  | [_], hx => simp [RepSs] at hx
  | [_, _], hx => simp [RepSs] at hx
  | _ :: _ :: _ :: _ :: _, hx => simp [RepSs] at hx
end Hw.Z
namespace Hw.Z
open Go Go.Proofs Hw.M

/-! moved: plain -/
def u8R (c : UInt8) : List PV := [.k (.int .u8 c.toNat)]
def atN (ord : List UInt8) (i : Nat) : Nat := match ord[i]? with
  | some c => c.toNat % (i + 1)
  | none => i
theorem atN_le (ord : List UInt8) (i : Nat) : atN ord i ≤ i := by
  unfold atN
  split
  · have := Nat.mod_lt (‹UInt8›.toNat) (show 0 < i + 1 by omega); omega
  · exact Nat.le_refl _
def insL (ord : List UInt8) : Nat → List Int
  | 0 => []
  | i + 1 => insI (insL ord i) (atN ord i) i
theorem insL_len (ord : List UInt8) : ∀ n, (insL ord n).length = n
  | 0 => rfl
  | n + 1 => by
    have h := insL_len ord n
    have := atN_le ord n
    rw [insL, insI_len (by omega), h]
theorem mem_insI {l : List Int} {i : Nat} {x y : Int} : y ∈ insI l i x ↔ y = x ∨ y ∈ l := by
  have e : ∀ z, z ∈ l ↔ z ∈ l.take i ∨ z ∈ l.drop i := fun z => by
    conv => lhs; rw [← List.take_append_drop i l]
    exact List.mem_append
  simp only [insI, List.mem_append, List.mem_cons, e]
  constructor
  · rintro (h | h | h)
    · exact .inr (.inl h)
    · exact .inl h
    · exact .inr (.inr h)
  · rintro (h | h | h)
    · exact .inr (.inl h)
    · exact .inl h
    · exact .inr (.inr h)
theorem nodup_insI {l : List Int} {i : Nat} {x : Int} (h : l.Nodup) (hx : x ∉ l) : (insI l i x).Nodup := by
  rw [← List.take_append_drop i l] at h hx
  rw [List.nodup_append] at h
  simp only [List.mem_append, not_or] at hx
  rw [insI, List.nodup_append]
  refine ⟨h.1, List.nodup_cons.2 ⟨hx.2, h.2.1⟩, fun a ha b hb => ?_⟩
  rcases List.mem_cons.1 hb with rfl | hb
  · rintro rfl; exact hx.1 ha
  · exact h.2.2 a ha b hb
theorem insL_mem (ord : List UInt8) : ∀ n (y : Int), y ∈ insL ord n ↔ 0 ≤ y ∧ y < (n : Int)
  | 0, y => by simp only [insL, List.not_mem_nil, false_iff]; omega
  | n + 1, y => by
    rw [insL, mem_insI, insL_mem ord n y]; omega
theorem insL_nodup (ord : List UInt8) : ∀ n, (insL ord n).Nodup
  | 0 => by simp [insL]
  | n + 1 => by
    rw [insL]
    exact nodup_insI (insL_nodup ord n) fun h => by have := (insL_mem ord n n).1 h; omega
/-- Where each stands, after so many are told. -/
def plS (l : List Int) (n : Nat) : Nat → List Int
  | 0 => List.replicate n 0
  | k + 1 => match l[k]? with
    | some v => (plS l n k).set v.toNat k
    | none => plS l n k
theorem plS_len (l : List Int) (n : Nat) : ∀ k, (plS l n k).length = n
  | 0 => by simp [plS]
  | k + 1 => by
    have := plS_len l n k
    simp only [plS]
    split
    · rw [List.length_set]; exact this
    · exact this
theorem plS_at {l : List Int} {n : Nat} (hn : l.Nodup) (hr : ∀ v ∈ l, 0 ≤ v ∧ v < (n : Int)) : ∀ k j v, j < k → l[j]? = some v → (plS l n k)[v.toNat]? = some (j : Int)
  | 0, j, v, h, _ => by omega
  | k + 1, j, v, h, hv => by
    have hvr := hr v (List.mem_of_getElem? hv)
    by_cases hjk : j = k
    · subst hjk
      simp only [plS, hv]
      rw [List.getElem?_set_self (by rw [plS_len]; omega)]
    · have ih := plS_at hn hr k j v (by omega) hv
      simp only [plS]
      split
      · rename_i u hu
        have hur := hr u (List.mem_of_getElem? hu)
        have hne : u.toNat ≠ v.toNat := fun e => by
          have e2 : u = v := by omega
          subst e2
          have h1 := (List.getElem?_eq_some_iff.1 hv)
          have h2 := (List.getElem?_eq_some_iff.1 hu)
          have := (List.getElem_inj (i := j) (j := k) (h₀ := h1.1) (h₁ := h2.1) hn).1 (h1.2.trans h2.2.symm)
          exact hjk this
        rw [List.getElem?_set_ne hne]; exact ih
      · exact ih
/-- A value where the nodes' places are so. -/
def mvV (place : List Int) (p : Fld × Int) : Int := if isRef p = true then (place[(p.2 - 1).toNat]?).getD 0 + 1 else p.2
def mvS (place : List Int) (l : List Fld) (v : List Int) : List Int := (l.zip v).map (mvV place)
def mvN (d : Desc) (m : Hp) (place : List Int) (i : Int) : Nd := match m.n[i.toNat]? with
  | some x => ⟨x.t, mvS place (fieldsAt d x.t) x.f⟩
  | none => ⟨0, []⟩
def placeOf (m : Hp) (ord : List UInt8) : List Int := plS (insL ord m.n.length) m.n.length m.n.length
def movedM (d : Desc) (m : Hp) (ord : List UInt8) : Hp :=
  ⟨mvS (placeOf m ord) d.globals m.g, (insL ord m.n.length).map (mvN d m (placeOf m ord)) ++ (if d.types = [] then [] else [⟨0, List.replicate (fieldsAt d 0).length 0⟩])⟩
/-- A node's place. -/
theorem place_at (m : Hp) (ord : List UInt8) {v : Int} (h1 : 1 ≤ v) (h2 : v ≤ (m.n.length : Int)) : ∃ j : Nat, j < m.n.length ∧ (placeOf m ord)[(v - 1).toNat]? = some (j : Int) ∧ (insL ord m.n.length)[j]? = some (v - 1) := by
  have hm := (insL_mem ord m.n.length (v - 1)).2 (by omega)
  obtain ⟨j, hj⟩ := List.getElem?_of_mem hm
  have hjl := (List.getElem?_eq_some_iff.1 hj).1
  rw [insL_len] at hjl
  exact ⟨j, hjl, plS_at (insL_nodup ord _) (fun u hu => (insL_mem ord _ u).1 hu) _ j _ hjl hj, hj⟩
def phiM (m : Hp) (ord : List UInt8) (v : Int) : Int := ((placeOf m ord)[(v - 1).toNat]?).getD 0 + 1
theorem mv_is_phi (m : Hp) (ord : List UInt8) (p : Fld × Int) : (p.1, mvV (placeOf m ord) p) = phiP (phiM m ord) p := by
  simp only [mvV, phiP, phiM]
theorem moved_simG {d : Desc} {m : Hp} (hw : WG d m) (ord : List UInt8) : SimG d m (movedM d m ord) (fun v => 1 ≤ v ∧ v ≤ (m.n.length : Int)) (phiM m ord) := by
  have hll : (insL ord m.n.length).length = m.n.length := insL_len _ _
  refine ⟨⟨fun v h => h, fun v h => ?_, fun u v hu hv e => ?_, fun v h => ?_, fun v h p hp hr => hw.toWF.pairs v p hp hr⟩, ?_, fun p hp hr => hw.gref p hp hr⟩
  · obtain ⟨j, hj, hpl, _⟩ := place_at m ord h.1 h.2
    simp only [phiM, hpl, Option.getD_some, movedM, List.length_append, List.length_map, hll]; omega
  · obtain ⟨j, hj, hpl, hlj⟩ := place_at m ord hu.1 hu.2
    obtain ⟨j', hj', hpl', hlj'⟩ := place_at m ord hv.1 hv.2
    simp only [phiM, hpl, hpl', Option.getD_some] at e
    have : j = j' := by omega
    subst this
    rw [hlj] at hlj'
    have := Option.some.inj hlj'
    omega
  · obtain ⟨j, hj, hpl, hlj⟩ := place_at m ord h.1 h.2
    obtain ⟨x, hx⟩ := exists_at (l := m.n) (i := (v - 1).toNat) (by omega)
    refine ⟨x, mvN d m (placeOf m ord) (v - 1), hx, ?_, ?_, ?_⟩
    · simp only [phiM, hpl, Option.getD_some, movedM]
      rw [show ((j : Int) + 1 - 1).toNat = j by omega, List.getElem?_append_left (by rw [List.length_map, hll]; exact hj), List.getElem?_map, hlj]; rfl
    · simp only [mvN, hx]
    · simp only [mvN, hx, mvS, zip_ren]
      exact List.map_congr_left fun p _ => mv_is_phi m ord p
  · simp only [movedM, mvS, zip_ren]
    exact List.map_congr_left fun p _ => mv_is_phi m ord p
theorem mvS_len {place : List Int} {l : List Fld} {v : List Int} (h : l.length = v.length) : (mvS place l v).length = v.length := by simp only [mvS, List.length_map, List.length_zip]; omega
theorem pair_moved {d : Desc} {m : Hp} (ord : List UInt8) {p : Fld × Int} (h : pairOk d m p = true) (hr : RefOK m p) : pairOk d (movedM d m ord) (p.1, mvV (placeOf m ord) p) = true := by
  have hll : (insL ord m.n.length).length = m.n.length := insL_len _ _
  simp only [pairOk, rightV] at h ⊢
  by_cases h1 : p.1.t = (⟨#[105, 110, 116]⟩ : ByteArray)
  · have hp : isRef p = false := by simp only [isRef, isPlain, h1, decide_true, Bool.true_or, Bool.not_true, Bool.false_and]
    rw [if_pos h1] at h ⊢
    simp only [mvV, hp, Bool.false_eq_true, if_false]; exact h
  · by_cases h2 : p.1.t = (⟨#[98, 111, 111, 108]⟩ : ByteArray)
    · have hp : isRef p = false := by simp only [isRef, isPlain, h2, decide_true, Bool.or_true, Bool.not_true, Bool.false_and]
      rw [if_neg h1, if_pos h2] at h ⊢
      simp only [mvV, hp, Bool.false_eq_true, if_false]; exact h
    · rw [if_neg h1, if_neg h2] at h ⊢
      have hpl : isPlain p.1.t = false := by simp only [isPlain, decide_eq_false h1, decide_eq_false h2, Bool.or_self]
      by_cases h0 : p.2 = 0
      · have hp : isRef p = false := by simp only [isRef, h0, decide_true, Bool.not_true, Bool.and_false]
        have e : mvV (placeOf m ord) p = 0 := by simp only [mvV, hp, Bool.false_eq_true, if_false, h0]
        simp only [e, decide_true, Bool.true_or]
      · have hp : isRef p = true := by simp only [isRef, hpl, decide_eq_false h0, Bool.not_false, Bool.and_self]
        have hv := hr hp
        obtain ⟨j, hj, hpl2, hlj⟩ := place_at m ord hv.1 hv.2
        have e : mvV (placeOf m ord) p = (j : Int) + 1 := by simp only [mvV, hp, if_true, hpl2, Option.getD_some]
        simp only [e]
        simp only [decide_eq_false h0, Bool.false_or, Bool.and_eq_true, decide_eq_true_eq] at h
        obtain ⟨_, h5⟩ := h
        cases hx : m.n[(p.2 - 1).toNat]? with
        | none => rw [hx] at h5; cases h5
        | some x =>
          rw [hx] at h5
          have e3 : ((movedM d m ord).n[((j : Int) + 1 - 1).toNat]?).map (·.t) = some (tyIdx d p.1.t) := by
            rw [show ((j : Int) + 1 - 1).toNat = j by omega]
            simp only [movedM]
            rw [List.getElem?_append_left (by rw [List.length_map, hll]; exact hj), List.getElem?_map, hlj]
            simp only [Option.map_some, mvN, hx]
            exact h5
          have e4 : (j : Int) + 1 ≤ ((movedM d m ord).n.length : Int) := by simp only [movedM, List.length_append, List.length_map, hll]; omega
          rw [e3, decide_eq_true (show (1 : Int) ≤ (j : Int) + 1 by omega), decide_eq_true e4]; simp
theorem zero_right {d : Desc} (h : hasTypes d = true) {m : Hp} {f : Fld} : pairOk d m (f, 0) = true := by
  simp only [pairOk, rightV]
  by_cases h1 : f.t = (⟨#[105, 110, 116]⟩ : ByteArray)
  · rw [if_pos h1]; rfl
  · rw [if_neg h1]
    by_cases h2 : f.t = (⟨#[98, 111, 111, 108]⟩ : ByteArray)
    · rw [if_pos h2]; rfl
    · rw [if_neg h2]; rfl
theorem moved_valid {d : Desc} {m : Hp} (hval : validM d m = true) (hsm : m.n.length ≤ 4000) (ord : List UInt8) : validM d (movedM d m ord) = true := by
  have hw := wg_of hval
  have hll : (insL ord m.n.length).length = m.n.length := insL_len _ _
  have hval' := hval
  simp only [validM, Bool.and_eq_true, decide_eq_true_eq, Bool.not_eq_true', decide_eq_false_iff_not] at hval' ⊢
  obtain ⟨⟨⟨⟨⟨v1, v2⟩, v3⟩, v4⟩, v5⟩, v6⟩ := hval'
  have hmem : ∀ y ∈ (movedM d m ord).n, (∃ x ty, x ∈ m.n ∧ d.types[x.t.toNat]? = some ty ∧ 0 ≤ x.t ∧ ty.f.length = x.f.length ∧ y = ⟨x.t, mvS (placeOf m ord) ty.f x.f⟩) ∨ (∃ ty, d.types[0]? = some ty ∧ y = ⟨0, List.replicate ty.f.length 0⟩) := by
    intro y hy
    simp only [movedM, List.mem_append, List.mem_map] at hy
    rcases hy with ⟨i, hi, rfl⟩ | hy
    · have hr := (insL_mem ord _ i).1 hi
      obtain ⟨x, hx⟩ := exists_at (l := m.n) (i := i.toNat) (by omega)
      obtain ⟨ht, ty, hty, hlen, _⟩ := hw.node x (List.mem_of_getElem? hx)
      exact .inl ⟨x, ty, List.mem_of_getElem? hx, hty, ht, hlen, by simp only [mvN, hx, fieldsAt, hty, Option.map_some, Option.getD_some]⟩
    · split at hy
      · cases hy
      · rename_i hne
        simp only [List.mem_singleton] at hy
        obtain ⟨ty, hty⟩ := exists_at (l := d.types) (i := 0) (by cases hd : d.types with
          | nil => exact absurd hd hne
          | cons _ _ => simp)
        refine .inr ⟨ty, hty, ?_⟩
        rw [hy]
        have : fieldsAt d 0 = ty.f := by simp only [fieldsAt, Int.toNat_zero, hty, Option.map_some, Option.getD_some]
        rw [this]
  refine ⟨⟨⟨⟨⟨v1, ?_⟩, ?_⟩, ?_⟩, ?_⟩, ?_⟩
  · simp only [movedM]; rw [mvS_len hw.glen]; exact v2
  · simp only [movedM, List.length_append, List.length_map, hll]
    split <;> simp <;> omega
  · rw [List.all_eq_true]
    intro y hy
    rcases hmem y hy with ⟨x, ty, hx, hty, ht, hlen, rfl⟩ | ⟨ty, hty, rfl⟩
    · have := List.all_eq_true.1 v4 x hx
      simp only [nodeShape, mvS_len hlen] at this ⊢
      exact this
    · have hl0 : 0 < d.types.length := (List.getElem?_eq_some_iff.1 hty).1
      simp only [nodeShape, Int.toNat_zero, hty, Option.map_some, List.length_replicate, decide_true, Bool.and_true]
      simp; exact fun e => by rw [e] at hl0; simp at hl0
  · rw [List.all_eq_true]
    intro y hy
    simp only [movedM, mvS, zip_ren, List.mem_map] at hy
    obtain ⟨p, hp, rfl⟩ := hy
    exact pair_moved ord (List.all_eq_true.1 v5 p hp) (hw.gref p hp)
  · rw [List.all_eq_true]
    intro y hy
    rcases hmem y hy with ⟨x, ty, hx, hty, ht, hlen, rfl⟩ | ⟨ty, hty, rfl⟩
    · have := List.all_eq_true.1 v6 x hx
      simp only [nodeRight, hty, Option.map_some, Option.getD_some] at this ⊢
      rw [List.all_eq_true]
      intro q hq
      simp only [mvS, zip_ren, List.mem_map] at hq
      obtain ⟨p, hp, rfl⟩ := hq
      refine pair_moved ord (List.all_eq_true.1 this p hp) ?_
      obtain ⟨_, ty', hty', _, hrefs⟩ := hw.node x hx
      rw [hty] at hty'; obtain rfl := Option.some.inj hty'
      exact hrefs p hp
    · simp only [nodeRight, Int.toNat_zero, hty, Option.map_some, Option.getD_some]
      rw [List.all_eq_true]
      intro q hq
      have : q.2 = 0 := List.eq_of_mem_replicate (List.of_mem_zip (a := q.1) (b := q.2) hq).2
      have e : q = (q.1, 0) := by rw [← this]
      rw [e]; exact zero_right v1
theorem moved_canon {d : Desc} {m : Hp} (hval : validM d m = true) (ord : List UInt8) : canonS d (movedM d m ord) (searchS d (movedM d m ord)) = canonS d m (searchS d m) :=
  canon_sim (moved_simG (wg_of hval) ord) (wg_of hval).toWF (search_ok hval)
end Hw.Z
