/- The engine, part AW: a literal of one part in a box; rows of integers as cells; what a call of the library's leaves in an array of the run's own. -/
import Derived.Test.YtmnhegkogibipaaGreatDoorC12
import Derived.Test.YtmnhegkogibipaaGreatDoorE3
import Derived.Laws.IdiomCopy
import Derived.Laws.IdiomStrings
import Derived.Laws.Slices
import Derived.Below
import Derived.Laws.Strings3
set_option linter.unusedVariables false
set_option linter.unusedSimpArgs false
namespace Hw
open Go

theorem setCells_row (b : Nat) (t : TypeId) (fz : Nat × Nat) : ∀ (vs : List Value) (o : Nat) (cur : Array Value) (w : World), w.heap[b]? = some (.cells cur t fz) → o + vs.length ≤ cur.size → w.setCells b o vs = w.setRow b (setAt cur.toList o vs).toArray
  | [], o, cur, w, hg, _ => by
    simp only [setAt, World.setCells, List.append_nil, List.length_nil, Nat.add_zero, List.take_append_drop, Array.toArray_toList]
    exact (setRow_self w b cur t fz hg).symm
  | v :: rest, o, cur, w, hg, hl => by
    simp only [List.length_cons] at hl
    have ih := setCells_row b t fz rest (o + 1) (cur.setIfInBounds o v) (w.setRow b (cur.setIfInBounds o v)) (setRow_heap w b cur _ t _ hg) (by simp; omega)
    rw [World.setCells, setCell_eq_setRow w b o cur t fz v hg, ih, setRow_setRow]
    congr 2
    have e := list_seg_step cur.toList o v rest (by simp; omega)
    simpa [setAt, Array.toList_setIfInBounds, Nat.add_assoc] using e

/-- Rows of integers, as cells. -/
theorem ints_rows {M : Mem} {g : Nat → Option Value} {l : List (List PV)} {vs : List Value} {o : Nat} (hl : ∀ r ∈ l, r.length = 1) (hr : RepVs M (fun _ => undef) (l.flatten.map V.p) vs) (h : ∀ j c, vs[j]? = some c → g (o + j) = some c) : RowsIn M g 1 l o :=
  RowsIn.of_cells (ρ := fun _ => undef) hl hr h

/-- What a call leaves that hands back one array under a new name: it lies in the old array's block, or in a new one. -/
theorem ret_arr {M : Mem} {ρ : Nat → Value} {w w' : World} {R : RL} {r0 : Res} {e : Nat} {rows : List (List PV)} {B o cap : Nat} {cs : Array Value} {el : TypeId} {fz : Nat × Nat} (hR : tg (tb R) 0 = some r0) (hT : THolds M ρ w (tb R)) (hI : Imm M w) (hid : 2 ∉ R.ids)
    (hB : w'.heap[B]? = some (.cells cs el fz)) (hU : Unfrozen fz cs.size) (hc : o + cap * e ≤ cs.size) (hn : rows.length ≤ cap) (hm : cap ≤ 9223372036854775807) (hrows : RowsIn M (fun i => cs[i]?) e rows o)
    (hown : w.heap.size ≤ B ∨ Bk (ρ 0) B) (hold : ∀ k, k < w.heap.size → ¬ Bk (ρ 0) k → w'.heap[k]? = w.heap[k]?) (hs : w.heap.size ≤ w'.heap.size) (h1 : w'.os = w.os) (h2 : w'.tape = w.tape) (h3 : w'.output = w.output) :
    Ret M ρ w R (.one (.ar 2)) [(2, .arr e rows)] (.slice (some ⟨B, o, none⟩) rows.length cap) M (upd ρ 2 (.slice (some ⟨B, o, none⟩) rows.length cap)) w' := by
  have hMB : ∀ q, M B q = none := fun q => by
    rcases hown with h | h
    · cases hm' : M B q with
      | none => rfl
      | some u => have := cell_lt (hI B q u hm'); omega
    · exact hT.own 0 _ B hR h q
  have only : ∀ i r, tg (tb [(2, Res.arr e rows)]) i = some r → i = 2 ∧ r = .arr e rows := fun i r hi => by
    simp only [tb, tg_cons] at hi
    split at hi
    · rename_i e'; exact ⟨e'.symm, (Option.some.inj hi).symm⟩
    · cases hi
  refine ⟨by simp only [RepS, RepV]; exact ⟨(upd_same _ _ _).symm, rfl⟩, ⟨fun i r hi => ?_, fun i j ri rj b hi hj hne _ _ => ?_, fun i r b hi hb q => ?_⟩, fun b q v hv => ?_, MLe.refl M, fun b q u hu => .inl hu, fun b hb => ?_, fun b hb hn => ?_, hs, h1, h2, h3, fun id hid' => ?_⟩
  · obtain ⟨rfl, rfl⟩ := only i r hi
    exact ⟨some ⟨B, o, none⟩, cap, upd_same _ _ _, hn, hm, .inr ⟨B, o, cs, el, fz, rfl, hB, hU, hc, hrows⟩⟩
  · obtain ⟨rfl, _⟩ := only i ri hi
    obtain ⟨rfl, _⟩ := only j rj hj
    exact hne rfl
  · obtain ⟨rfl, _⟩ := only i r hi
    rw [upd_same] at hb
    simp only [Bk, blk, Option.some.injEq] at hb; subst hb; exact hMB q
  · have hbl := cell_lt (hI b q v hv)
    have hne : ¬ Bk (ρ 0) b := fun h => by rw [hT.own 0 _ b hR h q] at hv; cases hv
    rw [cell_of_heap (hold b hbl hne)]; exact hI b q v hv
  · obtain ⟨i, r, hi, hb⟩ := hb
    obtain ⟨rfl, _⟩ := only i r hi
    rw [upd_same] at hb
    simp only [Bk, blk, Option.some.injEq] at hb; subst hb
    exact hown.imp id fun h => ⟨0, r0, hR, h⟩
  · exact hold b hb fun h => hn ⟨0, r0, hR, h⟩
  · exact upd_other fun h => hid (h ▸ hid')

section
variable {P : Program} {d : Option Nat} {ty : TypeId} {ps : String} {af : Array Edge} {g : Option (Nat × Bool)} {x y : Operand} {t : TypeId}
theorem L_remI {t' : TypeId} {k : IntKind} {n m : Int} (h0 : m ≠ 0) (hx : okc x (Kk k n)) (hy : okc y (Kk k m)) :
    Snd P ⟨d, .binOp .rem t x y t', ty, ps, af, g⟩ (rq x (Kk k n) ++ rq y (Kk k m)) [] [] (Kk k (n.tmod m)) [] :=
  L_bin hx hy rfl fun w => ⟨rfl, by rw [binOp_rem]; simp [Op.intDiv, h0]⟩
theorem L_quoI {t' : TypeId} {k : IntKind} {n m : Int} (h0 : m ≠ 0) (hx : okc x (Kk k n)) (hy : okc y (Kk k m)) :
    Snd P ⟨d, .binOp .quo t x y t', ty, ps, af, g⟩ (rq x (Kk k n) ++ rq y (Kk k m)) [] [] (Kk k (k.wrap (n.tdiv m))) [] :=
  L_bin hx hy rfl fun w => ⟨rfl, by rw [binOp_quo]; simp [Op.intDiv, h0]⟩
/-- A literal of one part, in a box of the run's own. -/
theorem L_lit_bs {id e : Nat} {s : S} {us : List V} {el : TypeId} {z : List V} (hx : okc x s) (hc : cellsOf s = some us) (hrl : us.length = e) (hm : mentVs id us = false)
    (he : elemSz P t = some (el, e)) (hz : zeroV P el = some z) (he0 : 0 < e) (heb : e ≤ 16777216) :
    Snd P ⟨d, .buildSlice t 1 #[(0, x)], ty, ps, af, g⟩ (rq x s) [] [id] (.one (.bs id 0 1)) [(id, some (.box us))] := by
  intro C st M ρ a w hH h1 hT hF hd k Q hk
  have e' := cellsOf_spec hc (hH.evS (ev_of hx h1))
  obtain ⟨ii, hu, hinf, hsz⟩ := elemSz_spec he
  obtain ⟨i', zv, hi', hzv, hzs⟩ := zeroV_len hz
  rw [hinf] at hi'; simp only [Option.some.injEq] at hi'; subst hi'
  have hcl : (a.eval x).cells.size = e := by have := e'.length; simp at this; omega
  have hfill : ∀ cur : Array Value, cur.size = e → Instr.fill (fun i => some (i * e, e)) cur [(0, a.eval x)] = some (a.eval x).cells := fun cur hcur => by
    simp only [Instr.fill]
    have hcond : ¬ ((a.eval x).cells.size ≠ e || 0 * e + (a.eval x).cells.size > cur.size) = true := by
      simp only [ne_eq, Bool.or_eq_true, decide_eq_true_eq]; omega
    have hfold := zipIdx_fold cur (0 * e) (a.eval x).cells.toList 0 cur (by simp; omega)
    have hfold' : (a.eval x).cells.zipIdx.foldl (fun cs (p : Value × Nat) => cs.setIfInBounds (0 * e + p.2) p.1) cur = (setAt cur.toList (0 * e) (a.eval x).cells.toList).toArray := by
      rw [← Array.foldl_toList]
      simpa using hfold
    rw [if_neg hcond, hfold']
    congr 1
    unfold setAt
    have : cur.toList.drop (0 * e + (a.eval x).cells.toList.length) = [] := by apply List.drop_eq_nil_of_le; simp; omega
    rw [this]; simp
  have hrun : (execOp a.eval ⟨d, .buildSlice t 1 #[(0, x)], ty, ps, af, g⟩).run P w = .ok (.value (.slice (some ⟨w.heap.size, 0, none⟩) 1 1)) (w.alloc (.cells (a.eval x).cells el)) := by
    have hn : ¬ 16777216 < e := by omega
    have h0 : ¬ e = 0 := by omega
    have hf := hfill ((Array.range (1 * e)).map fun x => zv.cells[x % zv.cells.size]!) (by simp)
    have hzrun : (zeroValue el).run P w = .ok zv w := by simp [zeroValue, typeInfo, hinf, hzv]
    simp [execOp, Instr.buildSlice, run_underlying hu, run_sizeOf hinf, hsz, hn, h0, newRow, hzrun] at hf ⊢
    simp [hf]
  unfold Oper.wp
  rw [hrun, Oper.upon_value]
  refine hk _ _ M _ (hH.alloc (val := .pointer (some ⟨w.heap.size, 0, none⟩)) (fun b hb => by simp only [Bk, blk, Option.some.injEq] at hb; exact hb.symm) hF.1
    ⟨w.heap.size, (a.eval x).cells.toList, el, upd_same _ _ _, by simpa using heap_push_new w _, RepVs.agree (upd_agree ρ id _) _ _ (fun i hi => by subst hi; exact hm) e'⟩
    (by simp only [RepS, RepV]; exact ⟨w.heap.size, 1, upd_same _ _ _, rfl, Nat.le_refl 1⟩) hd)
end

section
variable {P : Program} {C : Ctx} {k : List Frm} {n : Nat} {sl : Slots} {tab : Tab} {Q : Exit → St → Prop} {all : Array Oper} {rest : List Oper} {cur : Cur}
theorem g_rem {d : Nat} {x y : Operand} {t t' ty : TypeId} {ps : String} {af : Array Edge} {g0 : Option (Nat × Bool)} {gs : Slots} {md : Mode} (hC : C.low) {k0 : IntKind} {a m : Int}
    (hx : ev sl x = some (Kk k0 a)) (hy : ev sl y = some (Kk k0 m)) (h0 : m ≠ 0) (hm : metL all sl g0 = some gs) (hd : Nat.blt d n = true)
    (g : Goal P C (.ops all rest (nx md ⟨some d, gs ++ (rq x (Kk k0 a) ++ rq y (Kk k0 m)), [], [], Kk k0 (a.tmod m), []⟩)) k n ((d, Kk k0 (a.tmod m)) :: sl) tab Q) :
    Goal P C (.ops all (⟨some d, .binOp .rem t x y t', ty, ps, af, g0⟩ :: rest) md) k n sl tab Q := by
  have e1 := of_ev (st := ⟨n, sl, tab⟩) hx
  have e2 := of_ev (st := ⟨n, sl, tab⟩) hy
  have := metL_step hm (L_remI (P := P) (ty := ty) (ps := ps) (af := af) (g := g0) (d := some d) (t := t) (t' := t') h0 e1.1 e2.1) (n := n) (tab := tab)
  exact g_law (L := ⟨some d, gs ++ (rq x (Kk k0 a) ++ rq y (Kk k0 m)), [], [], Kk k0 (a.tmod m), []⟩) hC this.1 rfl ⟨by rw [okS_append, okS_append]; exact ⟨this.2, e1.2, e2.2⟩, trivial, rfl, hd⟩ g
theorem g_quo {d : Nat} {x y : Operand} {t t' ty : TypeId} {ps : String} {af : Array Edge} {g0 : Option (Nat × Bool)} {gs : Slots} {md : Mode} (hC : C.low) {k0 : IntKind} {a m : Int}
    (hx : ev sl x = some (Kk k0 a)) (hy : ev sl y = some (Kk k0 m)) (h0 : m ≠ 0) (hm : metL all sl g0 = some gs) (hd : Nat.blt d n = true)
    (g : Goal P C (.ops all rest (nx md ⟨some d, gs ++ (rq x (Kk k0 a) ++ rq y (Kk k0 m)), [], [], Kk k0 (k0.wrap (a.tdiv m)), []⟩)) k n ((d, Kk k0 (k0.wrap (a.tdiv m))) :: sl) tab Q) :
    Goal P C (.ops all (⟨some d, .binOp .quo t x y t', ty, ps, af, g0⟩ :: rest) md) k n sl tab Q := by
  have e1 := of_ev (st := ⟨n, sl, tab⟩) hx
  have e2 := of_ev (st := ⟨n, sl, tab⟩) hy
  have := metL_step hm (L_quoI (P := P) (ty := ty) (ps := ps) (af := af) (g := g0) (d := some d) (t := t) (t' := t') h0 e1.1 e2.1) (n := n) (tab := tab)
  exact g_law (L := ⟨some d, gs ++ (rq x (Kk k0 a) ++ rq y (Kk k0 m)), [], [], Kk k0 (k0.wrap (a.tdiv m)), []⟩) hC this.1 rfl ⟨by rw [okS_append, okS_append]; exact ⟨this.2, e1.2, e2.2⟩, trivial, rfl, hd⟩ g
theorem g_litB (T : Ty P) {d : Nat} {x : Operand} {t ty : TypeId} {ps : String} {af : Array Edge} {g0 : Option (Nat × Bool)} {gs : Slots} {md : Mode} (hC : C.low) {e : Nat} {s : S} {us : List V} {el : TypeId} {z : List V}
    (hx : ev sl x = some s) (hc : cellsOf s = some us) (hrl : us.length = e) (hmu : mentVs (1000 + d) us = false) (he : T.es t = some (el, e)) (hz : T.zs el = some z) (he0 : Nat.blt 0 e = true) (heb : Nat.ble e 16777216 = true)
    (hm : metL all sl g0 = some gs) (hd : Nat.blt d n = true) (hf : (Nat.ble 100 (1000 + d) && freshB (1000 + d) ⟨n, sl, tab⟩) = true)
    (g : Goal P C (.ops all rest (nx md ⟨some d, gs ++ rq x s, [], [1000 + d], .one (.bs (1000 + d) 0 1), [(1000 + d, some (.box us))]⟩)) k n ((d, .one (.bs (1000 + d) 0 1)) :: sl) ((1000 + d, some (.box us)) :: tab) Q) :
    Goal P C (.ops all (⟨some d, .buildSlice t 1 #[(0, x)], ty, ps, af, g0⟩ :: rest) md) k n sl tab Q := by
  have e1 := of_ev (st := ⟨n, sl, tab⟩) hx
  have := metL_step hm (L_lit_bs (P := P) (ty := ty) (ps := ps) (af := af) (g := g0) (d := some d) (id := 1000 + d) e1.1 hc hrl hmu (T.es_ok _ _ he) (T.zs_ok _ _ hz) (by simpa [Nat.blt_eq] using he0) (Nat.le_of_ble_eq_true heb)) (n := n) (tab := tab)
  exact g_law (L := ⟨some d, gs ++ rq x s, [], [1000 + d], .one (.bs (1000 + d) 0 1), [(1000 + d, some (.box us))]⟩) hC this.1 rfl ⟨by rw [okS_append]; exact ⟨this.2, e1.2⟩, trivial, fr_one hf, hd⟩ g
end
end Hw
/- The engine, part AX: bytes and strings: sums, conversions, slices of an array in a box, cells of a global array, calls of plain library functions. -/
namespace Hw
open Go

theorem bytesR_append (a b : ByteArray) : bytesR (a ++ b) = bytesR a ++ bytesR b := by
  simp only [bytesR, ByteArray.data_append, Array.toList_append, List.map_append]
theorem bytesR_len (a : ByteArray) : (bytesR a).length = a.size := by simp only [bytesR, List.length_map, Array.length_toList]; rfl
theorem bytesR_one (a : ByteArray) : ∀ r ∈ bytesR a, r.length = 1 := fun r hr => by
  obtain ⟨b, _, rfl⟩ := List.mem_map.1 hr; rfl
theorem bytesR_mk (l : List UInt8) : bytesR ⟨l.toArray⟩ = l.map fun b => [.k (.int .u8 b.toNat)] := rfl
theorem size_app (a b : ByteArray) : (a ++ b).size = a.size + b.size := ByteArray.size_append

/-- A library's function of one plain argument that leaves the world alone. -/
theorem fn_pure1 {P : Program} {f : FuncId} {a v : Value} (hc : CallOK P f) (h : ∀ w : World, Calls P f #[a] w fun e w' => e = .returned v ∧ w' = w) (h1 : v.oneCell' = true) : FnOK P f [.one (.p (.k a))] [] (.one (.p (.k v))) [] := by
  refine ⟨hc, fun M ρ w xs hx _ hI _ => ?_⟩
  match xs, hx with
  | [x], hx =>
    simp only [RepSs, RepS, RepV, RepPV] at hx
    obtain ⟨⟨rfl, _⟩, _⟩ := hx
    refine (h w).mono fun e w' ⟨he, hw⟩ => ?_
    subst hw
    refine ⟨v, M, ρ, he, by simp only [RepS, RepV, RepPV]; exact ⟨trivial, h1⟩, ⟨fun _ _ h => (by cases h), fun _ _ _ _ _ h => (by cases h), fun _ _ _ h => (by cases h)⟩, hI, MLe.refl M, fun b o u hu => .inl hu, fun b hb => ?_, fun b _ _ => rfl, Nat.le_refl _, rfl, rfl, rfl, fun id hid => rfl⟩
    obtain ⟨i, r, h, _⟩ := hb; cases h
  | [], hx => simp [RepSs] at hx
  | _ :: _ :: _, hx => simp [RepSs] at hx

/-- What a world holds of the program's variables. -/
def GOw (w : World) : Prop := GOn w ∧ (∀ b ∈ G1, ∃ m : Int, w.cell? ⟨b, 0, none⟩ = some (.int .i64 m)) ∧ ∀ p ∈ G2, ∃ el fz, w.heap[p.1]? = some (.cells p.2 el fz)
theorem gow_of {M : Mem} {w : World} (hI : Imm M w) (hG : GOk M w) : GOw w := ⟨fun b o u hu => hI b o u (hG.le b o u hu), fun b hb => let ⟨m, hm⟩ := hG.op b hb; ⟨m, hI _ _ _ hm⟩, hG.gb⟩
theorem reps_k {M : Mem} {ρ : Nat → Value} : ∀ {av xs : List Value}, RepSs M ρ (av.map fun a => .one (.p (.k a))) xs → xs = av
  | [], [], _ => rfl
  | [], _ :: _, h => by simp [RepSs] at h
  | _ :: _, [], h => by simp [RepSs] at h
  | a :: r, x :: xs, h => by
    simp only [List.map_cons, RepSs, RepS, RepV, RepPV] at h
    rw [h.1.1, reps_k h.2]
/-- A library's function of plain arguments that leaves the world alone; it may read the program's variables. -/
theorem fn_pureL {P : Program} {f : FuncId} {av : List Value} {v : Value} (hc : CallOK P f) (h : ∀ w : World, GOw w → Calls P f av.toArray w fun e w' => e = .returned v ∧ w' = w) (h1 : v.oneCell' = true) :
    FnOK P f (av.map fun a => .one (.p (.k a))) [] (.one (.p (.k v))) [] := by
  refine ⟨hc, fun M ρ w xs hx _ hI hG => ?_⟩
  obtain rfl := reps_k hx
  refine (h w (gow_of hI hG)).mono fun e w' ⟨he, hw⟩ => ?_
  subst hw
  refine ⟨v, M, ρ, he, by simp only [RepS, RepV, RepPV]; exact ⟨trivial, h1⟩, ⟨fun _ _ h => (by cases h), fun _ _ _ _ _ h => (by cases h), fun _ _ _ h => (by cases h)⟩, hI, MLe.refl M, fun b o u hu => .inl hu, fun b hb => ?_, fun b _ _ => rfl, Nat.le_refl _, rfl, rfl, rfl, fun id hid => rfl⟩
  obtain ⟨i, r, h, _⟩ := hb; cases h

/-- A call that leaves old blocks alone, without resources: what it hands back. -/
theorem ret_below {M : Mem} {ρ : Nat → Value} {w w' : World} {res : S} {v : Value} (hI : Imm M w) (hb : RowKit.Below w.heap.size w w') (hr : RepS M ρ res v) : Ret M ρ w [] res [] v M ρ w' :=
  ⟨hr, ⟨fun _ _ h => (by cases h), fun _ _ _ _ _ h => (by cases h), fun _ _ _ h => (by cases h)⟩, fun b o u hu => by rw [cell_of_heap (hb.block b (cell_lt (hI b o u hu)))]; exact hI b o u hu, MLe.refl M, fun b o u hu => .inl hu,
    fun b ⟨_, _, h, _⟩ => (by cases h), fun b h _ => hb.block b h, hb.size, hb.os, hb.tape, hb.output, fun _ _ => rfl⟩
/-- A library's function of plain arguments that leaves old blocks alone. -/
theorem fn_belowL {P : Program} {f : FuncId} {av : List Value} {v : Value} (hc : CallOK P f) (h : ∀ w : World, GOw w → Calls P f av.toArray w fun e w' => e = .returned v ∧ RowKit.Below w.heap.size w w') (h1 : v.oneCell' = true) :
    FnOK P f (av.map fun a => .one (.p (.k a))) [] (.one (.p (.k v))) [] := by
  refine ⟨hc, fun M ρ w xs hx _ hI hG => ?_⟩
  obtain rfl := reps_k hx
  refine (h w (gow_of hI hG)).mono fun e w' ⟨he, hw⟩ => ?_
  exact ⟨v, M, ρ, he, ret_below hI hw (by simp only [RepS, RepV, RepPV]; exact ⟨trivial, h1⟩)⟩
/-- The same of a slice of strings and a string. -/
theorem fn_strsS {P : Program} {f : FuncId} {l : List ByteArray} {s : ByteArray} {v : Value} (hc : CallOK P f) (h0 : l = [] → ∀ (w : World) (a : Option Addr) (c : Nat), Calls P f #[.slice a 0 c, .string s] w fun e w' => e = .returned v ∧ RowKit.Below w.heap.size w w')
    (h : ∀ (w : World) (b o c : Nat), b < w.heap.size → l.length ≤ c → (∀ (j : Nat) x, l[j]? = some x → w.cell? ⟨b, o + j, none⟩ = some (.string x)) → Calls P f #[.slice (some ⟨b, o, none⟩) l.length c, .string s] w fun e w' => e = .returned v ∧ RowKit.Below w.heap.size w w') (h1 : v.oneCell' = true) :
    FnOK P f [.one (.p (.sl 1 (l.map fun x => [PV.k (.string x)]))), .one (.p (.k (.string s)))] [] (.one (.p (.k v))) [] := by
  refine ⟨hc, fun M ρ w xs hx _ hI _ => ?_⟩
  match xs, hx with
  | [x, y], hx =>
    simp only [RepSs, RepS, RepV, RepPV, List.length_map] at hx
    obtain ⟨⟨a, cap, rfl, hcap, _, hr⟩, ⟨rfl, _⟩, _⟩ := hx
    have fin : ∀ {e w'}, e = Ending.returned v ∧ RowKit.Below w.heap.size w w' → ∃ v' M' ρ', e = .returned v' ∧ Ret M ρ w [] (.one (.p (.k v))) [] v' M' ρ' w' := fun {e w'} hh =>
      ⟨v, M, ρ, hh.1, ret_below hI hh.2 (by simp only [RepS, RepV, RepPV]; exact ⟨trivial, h1⟩)⟩
    rcases hr with hr | ⟨b, o, rfl, hr⟩
    · have hl : l = [] := by simpa using hr
      have := h0 hl w a cap
      rw [hl]
      exact this.mono fun e w' hh => fin hh
    · by_cases hl : l = []
      · have := h0 hl w (some ⟨b, o, none⟩) cap
        rw [hl]
        exact this.mono fun e w' hh => fin hh
      have hcell : ∀ (j : Nat) x, l[j]? = some x → w.cell? ⟨b, o + j, none⟩ = some (.string x) := fun j x hj => by
        have := (hr.get (i := j) (r := [PV.k (.string x)]) (by rw [List.getElem?_map, hj]; rfl)).2
        simp only [RowIn, RepPV, Nat.mul_one] at this
        obtain ⟨⟨c, hc1, hc2, _⟩, _⟩ := this
        rw [← hc2]; exact hI _ _ _ hc1
      have hb : b < w.heap.size := by
        cases hd : l with
        | nil => exact absurd hd hl
        | cons x r => exact cell_lt (hcell 0 x (by rw [hd]; rfl))
      exact (h w b o cap hb hcap hcell).mono fun e w' hh => fin hh
  | [], hx => simp [RepSs] at hx
  | [_], hx => simp [RepSs] at hx
  | _ :: _ :: _ :: _, hx => simp [RepSs] at hx

section
variable {P : Program} {d : Option Nat} {ty : TypeId} {ps : String} {af : Array Edge} {g : Option (Nat × Bool)} {x y : Operand} {t : TypeId}
theorem L_catS {t' : TypeId} {a b : ByteArray} (hs : a.size + b.size ≤ 9223372036854775807) (hx : okc x (Sr a)) (hy : okc y (Sr b)) :
    Snd P ⟨d, .binOp .add t x y t', ty, ps, af, g⟩ (rq x (Sr a) ++ rq y (Sr b)) [] [] (Sr (a ++ b)) [] :=
  L_bin hx hy rfl fun w => ⟨rfl, by
    have hn : ¬ (((a.size + b.size : Nat) : Int) > IntKind.i64.max) := by
      have : IntKind.i64.max = 9223372036854775807 := rfl
      rw [this]; omega
    have e : binOp .add t (.string a) (.string b) = Op.stringOp .add a b := rfl
    rw [e]
    simp only [Op.stringOp, if_neg hn, Sem.run_pure]⟩
/-- A cell's address of an array that a variable is. -/
theorem L_idxG {gl : Nat} {len : Nat} {el : TypeId} {i : Int} {k : IntKind} {row : List PV} {p : PV} (hy : okc y (Kk k i)) (ht : P.underlying t = some (.array len el)) (hz : (P.info? el).map (·.size) = some 1)
    (hrow : ∀ M, MLe G0 M → RowIn M (M gl) row 0) (h0 : 0 ≤ i) (hi : i < len) (hp : row[i.toNat]? = some p) :
    Snd P ⟨d, .indexAddr t (.global gl) y, ty, ps, af, g⟩ (rq y (Kk k i)) [] [] (.one (.pi [p] 0)) [] :=
  snd_quiet fun C st M ρ a w hH h1 _ => by
    have e2 := hH.k (ev_of hy h1)
    have hl : P.arrayLen t = len := by simp [Program.arrayLen, ht]
    have he : P.elem t = el := by simp [Program.elem, ht]
    have hM : MLe G0 M := hH.gok.le
    have hr := (hrow M hM).get hp
    obtain ⟨c, c1, c2⟩ := hr
    obtain ⟨ii, hinf, hsz⟩ := Option.map_eq_some_iff.1 hz
    refine ⟨.pointer (some ⟨gl, i.toNat, none⟩), ?_, by simp only [RepS, RepV]; exact ⟨gl, i.toNat, by simp, by simp only [RowIn]; exact ⟨⟨c, by simpa using c1, c2⟩, trivial⟩⟩⟩
    have hrun := run_indexAt_array (P := P) (w := w) t ⟨gl, 0, none⟩ k i (by rw [hl, he]; exact ht)
    rw [hl, he, if_pos ⟨h0, hi⟩] at hrun
    have ha : a.eval (.global gl) = .pointer (some ⟨gl, 0, none⟩) := rfl
    simp only [execOp, ha, e2, Sem.run_bind, hrun, run_sizeOf hinf, Result.andThen_ok, Sem.run_pure, hsz, add_addr, Nat.mul_one, Nat.zero_add]
/-- The first cells of an array in a box, as a slice. -/
theorem L_slA {id len : Nat} {n : Nat} {el : TypeId} {k : IntKind} {vs : List V} (hx : okc x (.one (.bx id 0))) (hy : okc y (Kk k (n : Int))) (ht : P.underlying t = some (.array len el)) (hz : (P.info? el).map (·.size) = some 1) (hn : n ≤ len) :
    Snd P ⟨d, .slice t x none (some y) none, ty, ps, af, g⟩ (rq x (.one (.bx id 0)) ++ rq y (Kk k (n : Int))) [(id, .box vs)] [] (.one (.bs id 0 n)) [] :=
  snd_quiet fun C st M ρ a w hH h1 hT => by
    rw [okS_append] at h1
    have e1 := hH.evS (ev_of hx h1.1)
    have e2 := hH.k (ev_of hy h1.2)
    simp only [RepS, RepV] at e1
    obtain ⟨b, f1, f2⟩ := e1
    have hl : P.arrayLen t = len := by simp [Program.arrayLen, ht]
    have he : P.elem t = el := by simp [Program.elem, ht]
    obtain ⟨ii, hinf, hsz⟩ := Option.map_eq_some_iff.1 hz
    have hrun := run_sliceAt_array_h (P := P) (w := w) (t := t) (a := ⟨b, 0, none⟩) (by rw [hl, he]; exact ht) k (n : Int) (by omega) (by rw [hl]; omega)
    refine ⟨.slice (some ⟨b, 0, none⟩) n len, ?_, by simp only [RepS, RepV]; exact ⟨b, len, f1, rfl, hn⟩⟩
    simp only [execOp, f2, e2, Sem.run_bind, Option.map_none, Option.map_some, hrun, hl, he, run_sizeOf hinf, Result.andThen_ok, Sem.run_pure, slicedAt, Nat.zero_mul, Int.toNat_natCast, Nat.sub_zero]
    congr 2
    split
    · rfl
    · rw [add_addr]
/-- What is appended: the first cells of a box. -/
theorem SrcS.bs {e id n : Nat} {tx el : TypeId} {rows : List (List PV)} {vs : List V} (h : elemSz P tx = some (el, e)) (hv : vs.take (n * e) = rows.flatten.map V.p) (hl : ∀ r ∈ rows, r.length = e) (hn : rows.length = n) : SrcS P e tx (.one (.bs id 0 n)) [(id, .box vs)] rows := by
  intro C st M ρ a w v hH hr hT
  obtain ⟨_, hu, _, _⟩ := elemSz_spec h
  simp only [RepS, RepV] at hr
  obtain ⟨b, c, f1, rfl, _⟩ := hr
  obtain ⟨b', cs, el', g1, g2, g3⟩ := hH.tabs.res id _ hT.1
  rw [f1] at g1
  simp only [Value.pointer.injEq, Option.some.injEq, Addr.mk.injEq] at g1
  obtain ⟨rfl, _⟩ := g1
  have g4 := g3.take (n * e)
  rw [hv] at g4
  subst hn
  refine ⟨cs.take (rows.length * e), Src.ofSlice w hu ⟨b, 0, none⟩ rows.length c _ ?_ (fun j u hj => ?_) g4.one, g4, hl⟩
  · rw [g4.length, List.length_map, List.length_flatten]
    have : (rows.map List.length) = List.replicate rows.length e := by
      rw [List.eq_replicate_iff]
      exact ⟨by rw [List.length_map], fun q hq => by obtain ⟨r, hr, rfl⟩ := List.mem_map.1 hq; exact hl r hr⟩
    rw [this, List.sum_replicate_nat]
  · rw [add_addr, Nat.zero_add]
    rw [List.getElem?_take] at hj
    split at hj
    · simp [World.cell?, g2, hj]
    · cases hj
/-- A string out of bytes. -/
theorem L_b2s {id : Nat} {s : ByteArray} {src dst e : TypeId} (hx : okc x (.one (.ar id))) (hs : P.underlying src = some (.slice e)) (he : P.underlying e = some (.int .u8)) (hd : P.underlying dst = some .string) :
    Snd P ⟨d, .convert src dst x, ty, ps, af, g⟩ (rq x (.one (.ar id))) [(id, .arr 1 (bytesR s))] [] (Sr s) [] :=
  snd_quiet fun C st M ρ a w hH h1 hT => by
    have e1 := hH.evS (ev_of hx h1)
    simp only [RepS, RepV] at e1
    obtain ⟨a', cap, f1, f2, f3, f4⟩ := hH.tabs.res id _ hT.1
    rw [f1, bytesR_len] at e1
    rw [bytesR_len] at f2
    refine ⟨.string s, ?_, by simp only [RepS, RepV, RepPV]; exact ⟨trivial, rfl⟩⟩
    rcases f4 with ⟨rfl, hc⟩ | ⟨b, o, cs, el, fz, rfl, f5, _, _, f6⟩
    · have h0 : s.size = 0 := by omega
      have : s = ByteArray.empty := by
        have := ByteArray.size_eq_zero_iff.1 h0
        exact this
      subst this
      simp only [execOp, e1.1, Sem.run_bind, convert, run_underlying hs, run_underlying hd, Result.andThen_ok, run_underlying he, Conv.bytesToString, Sem.run_pure]
    · have hlen : s.data.toList.length = s.size := by rw [Array.length_toList]; rfl
      have hcell : ∀ j (hj : j < s.data.toList.length), w.cell? ((⟨b, o, none⟩ : Addr).add j) = some (.int .u8 ((s.data.toList)[j].toNat : Int)) := fun j hj => by
        have := (f6.get (i := j) (r := [.k (.int .u8 ((s.data.toList)[j].toNat : Int))]) (by simp only [bytesR, List.getElem?_map, List.getElem?_eq_getElem hj, Option.map_some])).2
        simp only [RowIn, RepPV, Nat.mul_one] at this
        obtain ⟨⟨c, c1, c2, _⟩, _⟩ := this
        rw [add_addr]
        simp [World.cell?, f5, c1, c2]
      have hrun := run_convert_bytes_back (P := P) w src dst e ⟨b, o, none⟩ cap s.data.toList hs he hd hcell
      rw [hlen] at hrun
      simp only [execOp, e1.1, Sem.run_bind, hrun, Result.andThen_ok, Sem.run_pure]
/-- A string out of a rune. -/
theorem L_r2s {n : Int} {k : IntKind} {k' : IntKind} {src dst : TypeId} (hx : okc x (Kk k n)) (hs : P.underlying src = some (.int k')) (hd : P.underlying dst = some .string) :
    Snd P ⟨d, .convert src dst x, ty, ps, af, g⟩ (rq x (Kk k n)) [] [] (Sr (Utf8.encode n)) [] :=
  snd_quiet fun C st M ρ a w hH h1 _ => by
    have e1 := hH.k (ev_of hx h1)
    exact ⟨.string (Utf8.encode n), by simp only [execOp, e1, Sem.run_bind, convert, run_underlying hs, run_underlying hd, Result.andThen_ok, Conv.intToString, Sem.run_pure], by simp only [RepS, RepV, RepPV]; exact ⟨trivial, rfl⟩⟩
end

section
variable {P : Program} {C : Ctx} {k : List Frm} {n : Nat} {sl : Slots} {tab : Tab} {Q : Exit → St → Prop} {all : Array Oper} {rest : List Oper} {cur : Cur}
theorem g_cat {d : Nat} {x y : Operand} {t t' ty : TypeId} {ps : String} {af : Array Edge} {g0 : Option (Nat × Bool)} {gs : Slots} {md : Mode} (hC : C.low) {a b : ByteArray}
    (hx : ev sl x = some (Sr a)) (hy : ev sl y = some (Sr b)) (hs : a.size + b.size ≤ 9223372036854775807) (hm : metL all sl g0 = some gs) (hd : Nat.blt d n = true)
    (g : Goal P C (.ops all rest (nx md ⟨some d, gs ++ (rq x (Sr a) ++ rq y (Sr b)), [], [], Sr (a ++ b), []⟩)) k n ((d, Sr (a ++ b)) :: sl) tab Q) :
    Goal P C (.ops all (⟨some d, .binOp .add t x y t', ty, ps, af, g0⟩ :: rest) md) k n sl tab Q := by
  have e1 := of_ev (st := ⟨n, sl, tab⟩) hx
  have e2 := of_ev (st := ⟨n, sl, tab⟩) hy
  have := metL_step hm (L_catS (P := P) (ty := ty) (ps := ps) (af := af) (g := g0) (d := some d) (t := t) (t' := t') hs e1.1 e2.1) (n := n) (tab := tab)
  exact g_law (L := ⟨some d, gs ++ (rq x (Sr a) ++ rq y (Sr b)), [], [], Sr (a ++ b), []⟩) hC this.1 rfl ⟨by rw [okS_append, okS_append]; exact ⟨this.2, e1.2, e2.2⟩, trivial, rfl, hd⟩ g
theorem g_neg {d : Nat} {x : Operand} {t ty : TypeId} {ps : String} {af : Array Edge} {g0 : Option (Nat × Bool)} {gs : Slots} {md : Mode} (hC : C.low) {k0 : IntKind} {a : Int}
    (hx : ev sl x = some (Kk k0 a)) (hm : metL all sl g0 = some gs) (hd : Nat.blt d n = true)
    (g : Goal P C (.ops all rest (nx md ⟨some d, gs ++ rq x (Kk k0 a), [], [], Kk k0 (k0.wrap (0 - a)), []⟩)) k n ((d, Kk k0 (k0.wrap (0 - a))) :: sl) tab Q) :
    Goal P C (.ops all (⟨some d, .unOp .neg t x, ty, ps, af, g0⟩ :: rest) md) k n sl tab Q := by
  have e1 := of_ev (st := ⟨n, sl, tab⟩) hx
  have := metL_step hm (L_neg (P := P) (ty := ty) (ps := ps) (af := af) (g := g0) (d := some d) (t := t) e1.1) (n := n) (tab := tab)
  exact g_law (L := ⟨some d, gs ++ rq x (Kk k0 a), [], [], Kk k0 (k0.wrap (0 - a)), []⟩) hC this.1 rfl ⟨by rw [okS_append]; exact ⟨this.2, e1.2⟩, trivial, rfl, hd⟩ g
theorem g_idxG {d gl : Nat} {y : Operand} {t ty : TypeId} {ps : String} {af : Array Edge} {g0 : Option (Nat × Bool)} {gs : Slots} {md : Mode} (hC : C.low) {len : Nat} {el : TypeId} {i : Int} {k0 : IntKind} {row : List PV} {p : PV}
    (hy : ev sl y = some (Kk k0 i)) (ht : P.underlying t = some (.array len el)) (hz : (P.info? el).map (·.size) = some 1) (hrow : ∀ M, MLe G0 M → RowIn M (M gl) row 0) (h0 : 0 ≤ i) (hi : i < len) (hp : row[i.toNat]? = some p) (hm : metL all sl g0 = some gs) (hd : Nat.blt d n = true)
    (g : Goal P C (.ops all rest (nx md ⟨some d, gs ++ rq y (Kk k0 i), [], [], .one (.pi [p] 0), []⟩)) k n ((d, .one (.pi [p] 0)) :: sl) tab Q) :
    Goal P C (.ops all (⟨some d, .indexAddr t (.global gl) y, ty, ps, af, g0⟩ :: rest) md) k n sl tab Q := by
  have e1 := of_ev (st := ⟨n, sl, tab⟩) hy
  have := metL_step hm (L_idxG (P := P) (ty := ty) (ps := ps) (af := af) (g := g0) (d := some d) (t := t) e1.1 ht hz hrow h0 hi hp) (n := n) (tab := tab)
  exact g_law (L := ⟨some d, gs ++ rq y (Kk k0 i), [], [], .one (.pi [p] 0), []⟩) hC this.1 rfl ⟨by rw [okS_append]; exact ⟨this.2, e1.2⟩, trivial, rfl, hd⟩ g
theorem g_slA {d : Nat} {x y : Operand} {t ty : TypeId} {ps : String} {af : Array Edge} {g0 : Option (Nat × Bool)} {gs : Slots} {md : Mode} (hC : C.low) {id len : Nat} (m : Nat) {el : TypeId} {k0 : IntKind} {vs : List V}
    (hx : ev sl x = some (.one (.bx id 0))) (hy : ev sl y = some (Kk k0 (m : Int))) (hT : tg tab id = some (.box vs)) (ht : P.underlying t = some (.array len el)) (hz : (P.info? el).map (·.size) = some 1) (hn : m ≤ len) (hm : metL all sl g0 = some gs) (hd : Nat.blt d n = true)
    (g : Goal P C (.ops all rest (nx md ⟨some d, gs ++ (rq x (.one (.bx id 0)) ++ rq y (Kk k0 (m : Int))), [(id, .box vs)], [], .one (.bs id 0 m), []⟩)) k n ((d, .one (.bs id 0 m)) :: sl) tab Q) :
    Goal P C (.ops all (⟨some d, .slice t x none (some y) none, ty, ps, af, g0⟩ :: rest) md) k n sl tab Q := by
  have e1 := of_ev (st := ⟨n, sl, tab⟩) hx
  have e2 := of_ev (st := ⟨n, sl, tab⟩) hy
  have := metL_step hm (L_slA (P := P) (vs := vs) (ty := ty) (ps := ps) (af := af) (g := g0) (d := some d) (t := t) e1.1 e2.1 ht hz hn) (n := n) (tab := tab)
  exact g_law (L := ⟨some d, gs ++ (rq x (.one (.bx id 0)) ++ rq y (Kk k0 (m : Int))), [(id, .box vs)], [], .one (.bs id 0 m), []⟩) hC this.1 rfl ⟨by rw [okS_append, okS_append]; exact ⟨this.2, e1.2, e2.2⟩, ⟨hT, trivial⟩, rfl, hd⟩ g
theorem g_b2s {d : Nat} {x : Operand} {src dst e ty : TypeId} {ps : String} {af : Array Edge} {g0 : Option (Nat × Bool)} {gs : Slots} {md : Mode} (hC : C.low) {id : Nat} {s : ByteArray}
    (hx : ev sl x = some (.one (.ar id))) (hT : tg tab id = some (.arr 1 (bytesR s))) (hs : P.underlying src = some (.slice e)) (he : P.underlying e = some (.int .u8)) (hdd : P.underlying dst = some .string) (hm : metL all sl g0 = some gs) (hd : Nat.blt d n = true)
    (g : Goal P C (.ops all rest (nx md ⟨some d, gs ++ rq x (.one (.ar id)), [(id, .arr 1 (bytesR s))], [], Sr s, []⟩)) k n ((d, Sr s) :: sl) tab Q) :
    Goal P C (.ops all (⟨some d, .convert src dst x, ty, ps, af, g0⟩ :: rest) md) k n sl tab Q := by
  have e1 := of_ev (st := ⟨n, sl, tab⟩) hx
  have := metL_step hm (L_b2s (P := P) (s := s) (ty := ty) (ps := ps) (af := af) (g := g0) (d := some d) e1.1 hs he hdd) (n := n) (tab := tab)
  exact g_law (L := ⟨some d, gs ++ rq x (.one (.ar id)), [(id, .arr 1 (bytesR s))], [], Sr s, []⟩) hC this.1 rfl ⟨by rw [okS_append]; exact ⟨this.2, e1.2⟩, ⟨hT, trivial⟩, rfl, hd⟩ g
theorem g_r2s {d : Nat} {x : Operand} {src dst ty : TypeId} {ps : String} {af : Array Edge} {g0 : Option (Nat × Bool)} {gs : Slots} {md : Mode} (hC : C.low) {a : Int} {k0 k1 : IntKind}
    (hx : ev sl x = some (Kk k0 a)) (hs : P.underlying src = some (.int k1)) (hdd : P.underlying dst = some .string) (hm : metL all sl g0 = some gs) (hd : Nat.blt d n = true)
    (g : Goal P C (.ops all rest (nx md ⟨some d, gs ++ rq x (Kk k0 a), [], [], Sr (Utf8.encode a), []⟩)) k n ((d, Sr (Utf8.encode a)) :: sl) tab Q) :
    Goal P C (.ops all (⟨some d, .convert src dst x, ty, ps, af, g0⟩ :: rest) md) k n sl tab Q := by
  have e1 := of_ev (st := ⟨n, sl, tab⟩) hx
  have := metL_step hm (L_r2s (P := P) (ty := ty) (ps := ps) (af := af) (g := g0) (d := some d) e1.1 hs hdd) (n := n) (tab := tab)
  exact g_law (L := ⟨some d, gs ++ rq x (Kk k0 a), [], [], Sr (Utf8.encode a), []⟩) hC this.1 rfl ⟨by rw [okS_append]; exact ⟨this.2, e1.2⟩, trivial, rfl, hd⟩ g
end
end Hw
/- The engine, part BB: slices of strings. -/
namespace Hw
open Go
section
variable {P : Program} {d : Option Nat} {ty : TypeId} {ps : String} {af : Array Edge} {g : Option (Nat × Bool)} {x y : Operand} {t : TypeId}
theorem L_slTo {a : ByteArray} {j : Int} {k : IntKind} (hx : okc x (Sr a)) (hy : okc y (Kk k j)) (ht : P.underlying t = some .string) (h0 : 0 ≤ j) (h1 : j ≤ a.size) :
    Snd P ⟨d, .slice t x none (some y) none, ty, ps, af, g⟩ (rq x (Sr a) ++ rq y (Kk k j)) [] [] (Sr (a.extract 0 j.toNat)) [] :=
  snd_quiet fun C st M ρ b w hH hs _ => by
    rw [okS_append] at hs
    have e1 := hH.k (ev_of hx hs.1)
    have e2 := hH.k (ev_of hy hs.2)
    refine ⟨.string (a.extract 0 j.toNat), ?_, by simp only [RepS, RepV, RepPV]; exact ⟨trivial, rfl⟩⟩
    simp only [execOp, e1, e2, Option.map_none, Option.map_some, Sem.run_bind, run_sliceAt_string w t _ _ _ _ ht, run_slice_string_to_if w t a k j ht, if_pos (⟨h0, h1⟩ : 0 ≤ j ∧ j ≤ (a.size : Int)), Result.andThen_ok, Sem.run_pure]
theorem L_slFrom {a : ByteArray} {j : Int} {k : IntKind} (hx : okc x (Sr a)) (hy : okc y (Kk k j)) (ht : P.underlying t = some .string) (h0 : 0 ≤ j) (h1 : j ≤ a.size) :
    Snd P ⟨d, .slice t x (some y) none none, ty, ps, af, g⟩ (rq x (Sr a) ++ rq y (Kk k j)) [] [] (Sr (a.extract j.toNat a.size)) [] :=
  snd_quiet fun C st M ρ b w hH hs _ => by
    rw [okS_append] at hs
    have e1 := hH.k (ev_of hx hs.1)
    have e2 := hH.k (ev_of hy hs.2)
    refine ⟨.string (a.extract j.toNat a.size), ?_, by simp only [RepS, RepV, RepPV]; exact ⟨trivial, rfl⟩⟩
    simp only [execOp, e1, e2, Option.map_none, Option.map_some, Sem.run_bind, run_sliceAt_string w t _ _ _ _ ht, run_slice_string_from_if w t a k j ht, if_pos (⟨h0, h1⟩ : 0 ≤ j ∧ j ≤ (a.size : Int)), Result.andThen_ok, Sem.run_pure]
end
variable {P : Program} {C : Ctx} {k : List Frm} {n : Nat} {sl : Slots} {tab : Tab} {Q : Exit → St → Prop} {all : Array Oper} {rest : List Oper}
theorem g_slTo {d : Nat} {x y : Operand} {t ty : TypeId} {ps : String} {af : Array Edge} {g0 : Option (Nat × Bool)} {gs : Slots} {md : Mode} (hC : C.low) {a : ByteArray} {j : Int} {k0 : IntKind}
    (hx : ev sl x = some (Sr a)) (hy : ev sl y = some (Kk k0 j)) (ht : P.underlying t = some .string) (h0 : 0 ≤ j) (h1 : j ≤ a.size) (hm : metL all sl g0 = some gs) (hd : Nat.blt d n = true)
    (g : Goal P C (.ops all rest (nx md ⟨some d, gs ++ (rq x (Sr a) ++ rq y (Kk k0 j)), [], [], Sr (a.extract 0 j.toNat), []⟩)) k n ((d, Sr (a.extract 0 j.toNat)) :: sl) tab Q) :
    Goal P C (.ops all (⟨some d, .slice t x none (some y) none, ty, ps, af, g0⟩ :: rest) md) k n sl tab Q := by
  have e1 := of_ev (st := ⟨n, sl, tab⟩) hx
  have e2 := of_ev (st := ⟨n, sl, tab⟩) hy
  have := metL_step hm (L_slTo (P := P) (ty := ty) (ps := ps) (af := af) (g := g0) (d := some d) (t := t) e1.1 e2.1 ht h0 h1) (n := n) (tab := tab)
  exact g_law (L := ⟨some d, gs ++ (rq x (Sr a) ++ rq y (Kk k0 j)), [], [], Sr (a.extract 0 j.toNat), []⟩) hC this.1 rfl ⟨by rw [okS_append, okS_append]; exact ⟨this.2, e1.2, e2.2⟩, trivial, rfl, hd⟩ g
theorem g_slFrom {d : Nat} {x y : Operand} {t ty : TypeId} {ps : String} {af : Array Edge} {g0 : Option (Nat × Bool)} {gs : Slots} {md : Mode} (hC : C.low) {a : ByteArray} {j : Int} {k0 : IntKind}
    (hx : ev sl x = some (Sr a)) (hy : ev sl y = some (Kk k0 j)) (ht : P.underlying t = some .string) (h0 : 0 ≤ j) (h1 : j ≤ a.size) (hm : metL all sl g0 = some gs) (hd : Nat.blt d n = true)
    (g : Goal P C (.ops all rest (nx md ⟨some d, gs ++ (rq x (Sr a) ++ rq y (Kk k0 j)), [], [], Sr (a.extract j.toNat a.size), []⟩)) k n ((d, Sr (a.extract j.toNat a.size)) :: sl) tab Q) :
    Goal P C (.ops all (⟨some d, .slice t x (some y) none none, ty, ps, af, g0⟩ :: rest) md) k n sl tab Q := by
  have e1 := of_ev (st := ⟨n, sl, tab⟩) hx
  have e2 := of_ev (st := ⟨n, sl, tab⟩) hy
  have := metL_step hm (L_slFrom (P := P) (ty := ty) (ps := ps) (af := af) (g := g0) (d := some d) (t := t) e1.1 e2.1 ht h0 h1) (n := n) (tab := tab)
  exact g_law (L := ⟨some d, gs ++ (rq x (Sr a) ++ rq y (Kk k0 j)), [], [], Sr (a.extract j.toNat a.size), []⟩) hC this.1 rfl ⟨by rw [okS_append, okS_append]; exact ⟨this.2, e1.2, e2.2⟩, trivial, rfl, hd⟩ g
end Hw
/- The engine, part BC: a string's bytes as an array of the run's own. -/
namespace Hw
open Go
section
variable {P : Program} {d : Option Nat} {ty : TypeId} {ps : String} {af : Array Edge} {g : Option (Nat × Bool)} {x y : Operand} {t : TypeId}
theorem bytes_rows {M : Mem} {g : Nat → Option Value} : ∀ (l : List UInt8) (o : Nat), (∀ (j : Nat) b, l[j]? = some b → g (o + j) = some (.int .u8 b.toNat)) → RowsIn M g 1 (l.map fun b => [PV.k (.int .u8 b.toNat)]) o
  | [], _, _ => by simp only [List.map_nil, RowsIn]
  | b :: l, o, h => by
    simp only [List.map_cons, RowsIn, RowIn, RepPV]
    refine ⟨rfl, ⟨⟨_, by simpa using h 0 b rfl, rfl, rfl⟩, trivial⟩, bytes_rows l (o + 1) fun j c hj => ?_⟩
    have := h (j + 1) c (by simpa using hj)
    rwa [show o + 1 + j = o + (j + 1) by omega]
theorem L_s2b {id : Nat} {s : ByteArray} {src dst e : TypeId} (hx : okc x (Sr s)) (hs : P.underlying src = some .string) (hd' : P.underlying dst = some (.slice e)) (he : P.underlying e = some (.int .u8)) (hl : s.size ≤ maxLen) :
    Snd P ⟨d, .convert src dst x, ty, ps, af, g⟩ (rq x (Sr s)) [] [id] (.one (.ar id)) [(id, some (.arr 1 (bytesR s)))] := by
  intro C st M ρ a w hH h1 hT hF hd k Q hk
  have e1 := hH.k (ev_of hx h1)
  have hge := grownCap_ge w s.size 0 e
  have hmx := grownCap_le_maxLen w s.size 0 e hl
  have hrun : (execOp a.eval ⟨d, .convert src dst x, ty, ps, af, g⟩).run P w = .ok (.value (.slice (some ⟨w.heap.size, 0, none⟩) s.size (grownCap w s.size 0 e)))
      (w.drew.alloc (.cells (bytesRow s (grownCap w s.size 0 e)) e ((bytesRow s (grownCap w s.size 0 e)).size, (bytesRow s (grownCap w s.size 0 e)).size + 1))) := by
    simp only [execOp, e1, Sem.run_bind, run_bytes_of_string w src dst e s hs hd' he, Result.andThen_ok, Sem.run_pure]
  unfold Oper.wp
  rw [hrun, Oper.upon_value]
  generalize grownCap w s.size 0 e = cap at *
  have hsz : (bytesRow s cap).size = cap := by
    simp only [bytesRow, Array.size_append, Array.size_map, Array.size_replicate]
    have : s.data.size = s.size := rfl
    omega
  have hlen : (bytesR s).length = s.size := by simp only [bytesR, List.length_map, Array.length_toList]; rfl
  have hml : maxLen ≤ 9223372036854775807 := by decide
  generalize hW : w.drew.alloc (.cells (bytesRow s cap) e ((bytesRow s cap).size, (bytesRow s cap).size + 1)) = w'
  have hheap : w'.heap = w.heap.push (.cells (bytesRow s cap) e ((bytesRow s cap).size, (bytesRow s cap).size + 1)) := by rw [← hW]; rfl
  have hR : HoldsR M (upd ρ id (.slice (some ⟨w.heap.size, 0, none⟩) s.size cap)) w' id (.arr 1 (bytesR s)) := by
    refine ⟨some ⟨w.heap.size, 0, none⟩, cap, by rw [upd_same, hlen], by rw [hlen]; exact hge, by omega, .inr ⟨w.heap.size, 0, bytesRow s cap, e, _, rfl, by rw [hheap, Array.getElem?_push_size], fun i hi => ?_, by rw [hsz]; omega, bytes_rows _ 0 fun j b hj => ?_⟩⟩
    · simp only [Bool.and_eq_false_iff, decide_eq_false_iff_not]; omega
    have hlt := (List.getElem?_eq_some_iff.1 hj).1
    rw [Array.length_toList] at hlt
    rw [Array.getElem?_toList] at hj
    rw [Nat.zero_add, bytesRow, Array.getElem?_append_left (by rw [Array.size_map]; exact hlt), Array.getElem?_map, hj]
    rfl
  refine hk _ _ M _ (hH.step none (val := .slice (some ⟨w.heap.size, 0, none⟩) s.size cap) (fun b hb _ => by rw [hheap, Array.getElem?_push, if_neg (by omega)]) (by rw [hheap]; simp) (by rw [← hW]; rfl) (by rw [← hW]; rfl) (by rw [← hW]; rfl)
    (fun b hb => by simp only [Bk, blk, Option.some.injEq] at hb; exact .inl (by omega)) hF.1 hR (by simp only [RepS, RepV]; exact ⟨(upd_same _ _ _).symm, rfl⟩) hd)
end
variable {P : Program} {C : Ctx} {k : List Frm} {n : Nat} {sl : Slots} {tab : Tab} {Q : Exit → St → Prop} {all : Array Oper} {rest : List Oper}
theorem g_s2b {d : Nat} {x : Operand} {src dst e ty : TypeId} {ps : String} {af : Array Edge} {g0 : Option (Nat × Bool)} {gs : Slots} {md : Mode} (hC : C.low) {s : ByteArray}
    (hx : ev sl x = some (Sr s)) (hs : P.underlying src = some .string) (hd' : P.underlying dst = some (.slice e)) (he : P.underlying e = some (.int .u8)) (hl : s.size ≤ 140737488355328) (hm : metL all sl g0 = some gs) (hd : Nat.blt d n = true)
    (hf : (Nat.ble 100 (1000 + d) && freshB (1000 + d) ⟨n, sl, tab⟩) = true)
    (g : Goal P C (.ops all rest (nx md ⟨some d, gs ++ rq x (Sr s), [], [1000 + d], .one (.ar (1000 + d)), [(1000 + d, some (.arr 1 (bytesR s)))]⟩)) k n ((d, .one (.ar (1000 + d))) :: sl) ((1000 + d, some (.arr 1 (bytesR s))) :: tab) Q) :
    Goal P C (.ops all (⟨some d, .convert src dst x, ty, ps, af, g0⟩ :: rest) md) k n sl tab Q := by
  have e1 := of_ev (st := ⟨n, sl, tab⟩) hx
  have hml : 140737488355328 ≤ maxLen := by decide
  have := metL_step hm (L_s2b (P := P) (ty := ty) (ps := ps) (af := af) (g := g0) (d := some d) (id := 1000 + d) e1.1 hs hd' he (by omega)) (n := n) (tab := tab)
  exact g_law (L := ⟨some d, gs ++ rq x (Sr s), [], [1000 + d], .one (.ar (1000 + d)), [(1000 + d, some (.arr 1 (bytesR s)))]⟩) hC this.1 rfl ⟨by rw [okS_append]; exact ⟨this.2, e1.2⟩, trivial, fr_one hf, hd⟩ g
end Hw
/- The engine, part BD: a bag of arrays that the run owns: length, index, load, store. -/
namespace Hw
open Go

/-- An array of a bag: what its word says. -/
theorem bag_inner {M : Mem} {ρ : Nat → Value} {w : World} {id e q : Nat} {L : List (List (List PV))} {rs : List (List PV)} (h : HoldsR M ρ w id (.bag e L)) (hq : L[q]? = some rs) {v : Value} {xs : List Value} (hx : ρ id = .tuple xs.toArray) (hv : xs[q]? = some v) : ArrIn M w v e rs := by
  obtain ⟨cs, h2, _, hc, _⟩ := h
  rw [h2] at hx
  simp only [Value.tuple.injEq] at hx
  have f3 : xs = cs := by have := congrArg Array.toList hx; simpa using this.symm
  subst f3
  obtain ⟨c, c1, c2⟩ := hc q _ hq
  rw [hv] at c1
  obtain rfl := Option.some.inj c1
  exact c2
section
variable {P : Program} {d : Option Nat} {ty : TypeId} {ps : String} {af : Array Edge} {g : Option (Nat × Bool)} {x y : Operand} {t : TypeId}
theorem L_len_bag {id e q : Nat} {L : List (List (List PV))} {rs : List (List PV)} {as' : Array TypeId} {el : TypeId} {n : Nat} (hx : okc x (.one (.nv id q))) (hq : L[q]? = some rs) (ha : as'[0]? = some t) (h : elemSz P t = some (el, n)) :
    Snd P ⟨d, .call ⟨.builtin .len, #[x], as'⟩, ty, ps, af, g⟩ (rq x (.one (.nv id q))) [(id, .bag e L)] [] (I rs.length) [] :=
  snd_quiet fun C st M ρ a w hH h1 ht => by
    have e' := hH.evS (ev_of hx h1)
    simp only [RepS, RepV] at e'
    obtain ⟨xs, f1, f2, _⟩ := e'
    obtain ⟨a', cap, h3, _⟩ := bag_inner (hH.tabs.res id _ ht.1) hq f1 f2
    obtain ⟨ii, hu, hinf, hsz⟩ := elemSz_spec h
    exact ⟨.int .i64 rs.length, by simp [execOp, resolve, invoke, builtin, Builtin.len_, ha, h3, run_underlying hu, goInt], repK _ _⟩
theorem L_index_bag {id e q : Nat} {L : List (List (List PV))} {rs : List (List PV)} {i : Int} {k : IntKind} {el : TypeId} (hx : okc x (.one (.nv id q))) (hy : okc y (Kk k i)) (hq : L[q]? = some rs) (h : elemSz P t = some (el, e)) (h0 : 0 ≤ i) (hi : i < rs.length) :
    Snd P ⟨d, .indexAddr t x y, ty, ps, af, g⟩ (rq x (.one (.nv id q)) ++ rq y (Kk k i)) [(id, .bag e L)] [] (.one (.np id q (i.toNat * e))) [] :=
  snd_quiet fun C st M ρ a w hH h1 ht => by
    rw [okS_append] at h1
    have e1 := hH.evS (ev_of hx h1.1)
    have e2 := hH.k (ev_of hy h1.2)
    simp only [RepS, RepV] at e1
    obtain ⟨xs, f1, f2, _⟩ := e1
    obtain ⟨a', cap, h3, h4, h5, h6⟩ := bag_inner (hH.tabs.res id _ ht.1) hq f1 f2
    obtain ⟨ii, hu, hinf, hsz⟩ := elemSz_spec h
    rcases h6 with ⟨h6, h7⟩ | ⟨b, o, arr, el', fz, h6, _⟩
    · subst h7; omega
    · subst h6
      refine ⟨.pointer (some ⟨b, o + i.toNat * e, none⟩), ?_, by simp only [RepS, RepV]; exact ⟨_, b, o, _, _, f1, by rw [f2, h3], rfl⟩⟩
      simp only [execOp, h3, e2, Instr.indexAt, asIntOf, Sem.run_bind, Sem.run_pure, Result.andThen_ok, run_underlying hu]
      rw [if_pos ⟨h0, hi⟩]
      simp only [Sem.run_bind, Sem.run_pure, Result.andThen_ok, run_sizeOf hinf, add_addr, hsz]
theorem L_load_bag {id e q kk : Nat} {L : List (List (List PV))} {rs : List (List PV)} {vs : List PV} {s : Option Nat} {v : S} (hx : okc x (.one (.np id q kk))) (hq : L[q]? = some rs) (h : shp P t = some s)
    (hvs : ∀ j p, vs[j]? = some p → rs.flatten[kk + j]? = some p) (hv : ofCells s (vs.map V.p) = some v) :
    Snd P ⟨d, .load t x, ty, ps, af, g⟩ (rq x (.one (.np id q kk))) [(id, .bag e L)] [] v [] :=
  snd_quiet fun C st M ρ a w hH h1 ht => by
    have e1 := hH.evS (ev_of hx h1)
    simp only [RepS, RepV] at e1
    obtain ⟨xs, b, o, m, cap, f1, f2, e2⟩ := e1
    obtain ⟨a', cap', h3, h4, h5, h6⟩ := bag_inner (hH.tabs.res id _ ht.1) hq f1 f2
    simp only [Value.slice.injEq] at h3
    rcases h6 with ⟨h6, _⟩ | ⟨b', o', arr, el, fz, h6, h7, h7', h8, h9⟩
    · rw [h6] at h3; cases h3.1
    · rw [h6] at h3
      have hb : b = b' ∧ o = o' := by have := h3.1; simp at this; exact this
      obtain ⟨rfl, rfl⟩ := hb
      obtain ⟨us, g1, _, g3⟩ := h9.cells (ρ := ρ)
      obtain ⟨ds, k9, k10⟩ := repVs_of (M := M) (ρ := ρ) (vs := vs.map V.p) (g := fun j => arr[o + (kk + j)]?) fun j u hj => by
        rw [List.getElem?_map, Option.map_eq_some_iff] at hj
        obtain ⟨p, hp, rfl⟩ := hj
        obtain ⟨c, hc, hr⟩ := repVs_at g1 (m := kk + j) (v := .p p) (by rw [List.getElem?_map, hvs j p hp]; rfl)
        exact ⟨c, g3 _ c hc, hr⟩
      obtain ⟨u, hu, hr⟩ := run_loadVar_cells (w := w) (b := b) (o := o + kk) h k9 (fun q c hc => by
        have := k10 q c hc
        simp only [← Nat.add_assoc] at this
        simp [World.cell?, h7, this]) hv
      exact ⟨u, by simp only [execOp, e2, Sem.run_bind, Instr.loadAt, Instr.sureAddr, Sem.run_pure, Result.andThen_ok, hu], hr⟩
/-- A store into an array of a bag. -/
theorem L_store_bag {id e q kk : Nat} {L : List (List (List PV))} {rs rs' : List (List PV)} {us : List PV} {s : S} {sh : Option Nat} (hx : okc x (.one (.np id q kk))) (hy : okc y s) (h : shp P t = some sh) (hc : cellsOf s = some (us.map V.p)) (hl : us.length = sh.getD 1)
    (hq : L[q]? = some rs) (hrl : rs'.length = rs.length) (hre : ∀ r ∈ rs', r.length = e) (hb : kk + us.length ≤ rs.length * e)
    (hn : ∀ m p, rs'.flatten[m]? = some p → (kk ≤ m ∧ us[m - kk]? = some p) ∨ ((m < kk ∨ kk + us.length ≤ m) ∧ rs.flatten[m]? = some p)) :
    Snd P ⟨d, .store t x y, ty, ps, af, g⟩ (rq x (.one (.np id q kk)) ++ rq y s) [(id, .bag e L)] [] .un [(id, some (.bag e (L.set q rs')))] := by
  intro C st M ρ a w hH h1 ht _ hd k Q hk
  rw [okS_append] at h1
  have e0 := hH.evS (ev_of hx h1.1)
  have ey := cellsOf_spec hc (hH.evS (ev_of hy h1.2))
  simp only [RepS, RepV] at e0
  obtain ⟨xs, b, o, m, cap, f1, f2, e2⟩ := e0
  obtain ⟨cs, g1, gn, gc, gap⟩ := hH.tabs.res id _ ht.1
  have f1' := f1
  rw [g1] at f1
  simp only [Value.tuple.injEq] at f1
  have f3 : xs = cs := by have := congrArg Array.toList f1; simpa using this.symm
  subst f3
  obtain ⟨c0, c1, c2⟩ := gc q _ hq
  rw [f2] at c1
  obtain rfl := Option.some.inj c1
  obtain ⟨ai, capi, i1, i2, i3, i6⟩ := c2
  simp only [Value.slice.injEq] at i1
  rcases i6 with ⟨i6, _⟩ | ⟨b', o', arr, el, fz, i6, i7, i7', i8, i9⟩
  · rw [i6] at i1; cases i1.1
  rw [i6] at i1
  have hbo : b = b' ∧ o = o' := by have := i1.1; simp at this; exact this
  obtain ⟨rfl, rfl⟩ := hbo
  have hm : m = rs.length := i1.2.1
  have hcp : cap = capi := i1.2.2
  subst hm; subst hcp
  obtain ⟨ii, hinf, hs⟩ := shp_size h
  have hlen : (a.eval y).cells.toList.length = us.length := by rw [ey.length, List.length_map]
  have hie : rs.length * e ≤ cap * e := Nat.mul_le_mul_right e i2
  have hst := run_storeCells_blk (P := P) b (o + kk) el fz (a.eval y).cells.toList 0 arr w i7 i7' (by rw [hlen]; omega) ey.one
  have hrun : (execOp a.eval ⟨d, .store t x y, ty, ps, af, g⟩).run P w = .ok .skip (w.setRow b (setAt arr.toList (o + kk) (a.eval y).cells.toList).toArray) := by
    have hsz : ¬ ((a.eval y).cells.size ≠ ii.size) := by rw [hs, ← hl, ← hlen]; simp
    simp only [execOp, e2, Instr.storeAt, Instr.sureAddr, Sem.run_bind, Sem.run_pure, Result.andThen_ok, storeVar, run_sizeOf hinf, if_neg hsz]
    simp only [hst, Result.andThen_ok, Nat.add_zero]
  unfold Oper.wp
  rw [hrun, Oper.upon_skip]
  have hcsl : o + kk + (a.eval y).cells.toList.length ≤ arr.toList.length := by rw [hlen]; simp; omega
  have hsz : (setAt arr.toList (o + kk) (a.eval y).cells.toList).toArray.size = arr.size := by simp [setAt_length _ _ _ hcsl]
  have hget : ∀ m : Nat, (setAt arr.toList (o + kk) (a.eval y).cells.toList).toArray[o + m]? = if o + m < o + kk then arr[o + m]? else if o + m < o + kk + us.length then (a.eval y).cells.toList[o + m - (o + kk)]? else arr[o + m]? := fun m => by
    rw [List.getElem?_toArray, setAt_get _ _ _ _ (by omega), hlen]; simp
  generalize hW : setAt arr.toList (o + kk) (a.eval y).cells.toList = narr at *
  have hoB : ∀ k : Nat, k ≠ b → (w.setRow b narr.toArray).heap[k]? = w.heap[k]? := fun k hk => setRow_other w b k _ hk
  have hnB : (w.setRow b narr.toArray).heap[b]? = some (.cells narr.toArray el fz) := setRow_heap w b _ _ el _ i7
  -- the array anew
  have hinner : ArrIn M (w.setRow b narr.toArray) (.slice (some ⟨b, o, none⟩) rs.length cap) e rs' := by
    refine ⟨some ⟨b, o, none⟩, cap, by rw [hrl], by omega, i3, .inr ⟨b, o, narr.toArray, el, fz, rfl, hnB, by rw [hsz]; exact i7', by rw [hsz]; exact i8, ?_⟩⟩
    obtain ⟨u1, u2, _, u4⟩ := i9.cells (ρ := ρ)
    obtain ⟨ds, k9, k10⟩ := repVs_of (M := M) (ρ := ρ) (vs := rs'.flatten.map V.p) (g := fun j => narr.toArray[o + j]?) fun j v hj => by
      rw [List.getElem?_map, Option.map_eq_some_iff] at hj
      obtain ⟨p, hp, rfl⟩ := hj
      rcases hn j p hp with ⟨n1, n2⟩ | ⟨n1, n2⟩
      · have hlt : j - kk < us.length := (List.getElem?_eq_some_iff.1 n2).1
        obtain ⟨c, v1, v2⟩ := repVs_at ey (m := j - kk) (v := .p p) (by rw [List.getElem?_map, n2]; rfl)
        refine ⟨c, ?_, v2⟩
        rw [hget, if_neg (by omega), if_pos (by omega), ← v1]; congr 1; omega
      · obtain ⟨c, v1, v2⟩ := repVs_at u2 (m := j) (v := .p p) (by rw [List.getElem?_map, n2]; rfl)
        refine ⟨c, ?_, v2⟩
        rw [hget]
        rcases n1 with n1 | n1
        · rw [if_pos (by omega)]; exact u4 _ c v1
        · rw [if_neg (by omega), if_neg (by omega)]; exact u4 _ c v1
    exact RowsIn.of_cells (ρ := ρ) hre k9 fun j c hc => k10 j c hc
  have hblk : blk (.slice (some ⟨b, o, none⟩) rs.length cap) = some b := rfl
  have hap2 : ∀ j c, j ≠ q → xs[j]? = some c → ∀ b2, blk c = some b2 → b2 ≠ b := fun j c hne hj b2 hb2 e => by
    subst e
    exact gap j q b2 c _ hj f2 hne hb2 hblk
  refine hk _ _ M ρ (hH.turn ht.1 (fun k hk => hoB k fun e => hk (by rw [e, g1]; exact bk_of f2 hblk)) (by simp) rfl rfl rfl
    ⟨xs, g1, by rw [List.length_set]; exact gn, fun j p hj => ?_, gap⟩ (by simp only [RepS]) hd)
  rw [List.getElem?_set] at hj
  split at hj
  · rename_i hjq
    subst hjq
    split at hj
    · obtain rfl := Option.some.inj hj
      exact ⟨_, f2, hinner⟩
    · cases hj
  · rename_i hjq
    obtain ⟨c, v1, v2⟩ := gc j p hj
    exact ⟨c, v1, v2.world fun b2 hb2 => hoB b2 (hap2 j c (fun e => hjq e.symm) v1 b2 hb2)⟩
end
section
variable {P : Program} {C : Ctx} {k : List Frm} {n : Nat} {sl : Slots} {tab : Tab} {Q : Exit → St → Prop} {all : Array Oper} {rest : List Oper}
theorem g_lenB (T : Ty P) {d : Nat} {x : Operand} {t ty : TypeId} {ps : String} {af : Array Edge} {g0 : Option (Nat × Bool)} {gs : Slots} {md : Mode} (hC : C.low) {id e q : Nat} {L : List (List (List PV))} {rs : List (List PV)} {el : TypeId} {m : Nat}
    (hx : ev sl x = some (.one (.nv id q))) (hT : tg tab id = some (.bag e L)) (hq : L[q]? = some rs) (he : T.es t = some (el, m)) (hm : metL all sl g0 = some gs) (hd : Nat.blt d n = true)
    (g : Goal P C (.ops all rest (nx md ⟨some d, gs ++ rq x (.one (.nv id q)), [(id, .bag e L)], [], I rs.length, []⟩)) k n ((d, I rs.length) :: sl) tab Q) :
    Goal P C (.ops all (⟨some d, .call ⟨.builtin .len, #[x], #[t]⟩, ty, ps, af, g0⟩ :: rest) md) k n sl tab Q := by
  have e1 := of_ev (st := ⟨n, sl, tab⟩) hx
  have := metL_step hm (L_len_bag (e := e) (L := L) (as' := #[t]) (ty := ty) (ps := ps) (af := af) (g := g0) (d := some d) e1.1 hq rfl (T.es_ok _ _ he)) (n := n) (tab := tab)
  exact g_law (L := ⟨some d, gs ++ rq x (.one (.nv id q)), [(id, .bag e L)], [], I rs.length, []⟩) hC this.1 rfl ⟨by rw [okS_append]; exact ⟨this.2, e1.2⟩, ⟨hT, trivial⟩, rfl, hd⟩ g
theorem g_idxB (T : Ty P) {d : Nat} {x y : Operand} {t ty : TypeId} {ps : String} {af : Array Edge} {g0 : Option (Nat × Bool)} {gs : Slots} {md : Mode} (hC : C.low) {id e q : Nat} {L : List (List (List PV))} {rs : List (List PV)} {k0 : IntKind} {i : Int} {el : TypeId}
    (hx : ev sl x = some (.one (.nv id q))) (hy : ev sl y = some (Kk k0 i)) (hT : tg tab id = some (.bag e L)) (hq : L[q]? = some rs) (he : T.es t = some (el, e)) (h0 : 0 ≤ i) (hi : i < rs.length) (hm : metL all sl g0 = some gs) (hd : Nat.blt d n = true)
    (g : Goal P C (.ops all rest (nx md ⟨some d, gs ++ (rq x (.one (.nv id q)) ++ rq y (Kk k0 i)), [(id, .bag e L)], [], .one (.np id q (i.toNat * e)), []⟩)) k n ((d, .one (.np id q (i.toNat * e))) :: sl) tab Q) :
    Goal P C (.ops all (⟨some d, .indexAddr t x y, ty, ps, af, g0⟩ :: rest) md) k n sl tab Q := by
  have e1 := of_ev (st := ⟨n, sl, tab⟩) hx
  have e2 := of_ev (st := ⟨n, sl, tab⟩) hy
  have := metL_step hm (L_index_bag (e := e) (L := L) (ty := ty) (ps := ps) (af := af) (g := g0) (d := some d) e1.1 e2.1 hq (T.es_ok _ _ he) h0 hi) (n := n) (tab := tab)
  exact g_law (L := ⟨some d, gs ++ (rq x (.one (.nv id q)) ++ rq y (Kk k0 i)), [(id, .bag e L)], [], .one (.np id q (i.toNat * e)), []⟩) hC this.1 rfl ⟨by rw [okS_append, okS_append]; exact ⟨this.2, e1.2, e2.2⟩, ⟨hT, trivial⟩, rfl, hd⟩ g
theorem g_loadB (T : Ty P) {d : Nat} {x : Operand} {t ty : TypeId} {ps : String} {af : Array Edge} {g0 : Option (Nat × Bool)} {gs : Slots} {md : Mode} (hC : C.low) {id e q kk : Nat} {L : List (List (List PV))} {rs : List (List PV)} (vs : List PV) {s : Option Nat} {v : S}
    (hx : ev sl x = some (.one (.np id q kk))) (hT : tg tab id = some (.bag e L)) (hq : L[q]? = some rs) (hsh : T.sh t = some s) (hvs : ∀ j p, vs[j]? = some p → rs.flatten[kk + j]? = some p) (hv : ofCells s (vs.map V.p) = some v) (hm : metL all sl g0 = some gs) (hd : Nat.blt d n = true)
    (g : Goal P C (.ops all rest (nx md ⟨some d, gs ++ rq x (.one (.np id q kk)), [(id, .bag e L)], [], v, []⟩)) k n ((d, v) :: sl) tab Q) :
    Goal P C (.ops all (⟨some d, .load t x, ty, ps, af, g0⟩ :: rest) md) k n sl tab Q := by
  have e1 := of_ev (st := ⟨n, sl, tab⟩) hx
  have := metL_step hm (L_load_bag (e := e) (L := L) (ty := ty) (ps := ps) (af := af) (g := g0) (d := some d) e1.1 hq (T.sh_ok _ _ hsh) hvs hv) (n := n) (tab := tab)
  exact g_law (L := ⟨some d, gs ++ rq x (.one (.np id q kk)), [(id, .bag e L)], [], v, []⟩) hC this.1 rfl ⟨by rw [okS_append]; exact ⟨this.2, e1.2⟩, ⟨hT, trivial⟩, rfl, hd⟩ g
theorem g_storeB (T : Ty P) {x y : Operand} {t ty : TypeId} {ps : String} {af : Array Edge} {g0 : Option (Nat × Bool)} {gs : Slots} {md : Mode} (hC : C.low) {id e q kk : Nat} {L : List (List (List PV))} {rs : List (List PV)} (rs' : List (List PV)) {us : List PV} {s : S} {sh : Option Nat}
    (hx : ev sl x = some (.one (.np id q kk))) (hy : ev sl y = some s) (hT : tg tab id = some (.bag e L)) (hsh : T.sh t = some sh) (hc : cellsOf s = some (us.map V.p)) (hl : us.length = sh.getD 1)
    (hq : L[q]? = some rs) (hrl : rs'.length = rs.length) (hre : ∀ r ∈ rs', r.length = e) (hb : kk + us.length ≤ rs.length * e)
    (hn : ∀ m p, rs'.flatten[m]? = some p → (kk ≤ m ∧ us[m - kk]? = some p) ∨ ((m < kk ∨ kk + us.length ≤ m) ∧ rs.flatten[m]? = some p)) (hm : metL all sl g0 = some gs)
    (g : Goal P C (.ops all rest (nx md ⟨none, gs ++ (rq x (.one (.np id q kk)) ++ rq y s), [(id, .bag e L)], [], .un, [(id, some (.bag e (L.set q rs')))]⟩)) k n sl ((id, some (.bag e (L.set q rs'))) :: tab) Q) :
    Goal P C (.ops all (⟨none, .store t x y, ty, ps, af, g0⟩ :: rest) md) k n sl tab Q := by
  have e1 := of_ev (st := ⟨n, sl, tab⟩) hx
  have e2 := of_ev (st := ⟨n, sl, tab⟩) hy
  have := metL_step hm (L_store_bag (ty := ty) (ps := ps) (af := af) (g := g0) (d := none) e1.1 e2.1 (T.sh_ok _ _ hsh) hc hl hq hrl hre hb hn) (n := n) (tab := tab)
  exact g_law (L := ⟨none, gs ++ (rq x (.one (.np id q kk)) ++ rq y s), [(id, .bag e L)], [], .un, [(id, some (.bag e (L.set q rs')))]⟩) hC this.1 rfl ⟨by rw [okS_append, okS_append]; exact ⟨this.2, e1.2, e2.2⟩, ⟨hT, trivial⟩, rfl, rfl⟩ g
end
end Hw
/- The engine, part BE: resources that become one. -/
namespace Hw
open Go

/-- A resource under a new id, in new blocks or in the blocks of those that go away. -/
theorem Holds.merge {C : Ctx} {st : St} {M : Mem} {ρ : Nat → Value} {a : Act} {w : World} (h : Holds C st M ρ a w) {w' : World} (olds : List Nat) {id : Nat} {val : Value} {r' : Res}
    {d : Option Nat} {v : S} {x : Value}
    (hheap : ∀ b, b < w.heap.size → (∀ i r, i ∈ olds → tg st.tab i = some r → ¬ Bk (ρ i) b) → w'.heap[b]? = w.heap[b]?)
    (hsize : w.heap.size ≤ w'.heap.size) (hos : w'.os = w.os) (htape : w'.tape = w.tape) (hout : w'.output = w.output)
    (hval : ∀ b, Bk val b → w.heap.size ≤ b ∨ ∃ i r, i ∈ olds ∧ tg st.tab i = some r ∧ Bk (ρ i) b)
    (hf : Fresh C id st) (hR : HoldsR M (upd ρ id val) w' id r') (hx : RepS M (upd ρ id val) v x) (hd : dok d st.n = true) :
    Holds C (app d v ((id, some r') :: offs olds) st) M (upd ρ id val) (a.put d x) w' := by
  have hsl : ∀ k s, sg st.sl k = some s → RepS M (upd ρ id val) s (a.tmps.getD k undef) := fun k s hk =>
    RepS.agree (upd_agree ρ id val) _ _ (fun i hi => by subst hi; exact hf.1 k s hk) (h.slots k s hk)
  -- what an entry of the new table is
  have htab : ∀ j r, tg (((id, some r') :: offs olds) ++ st.tab) j = some r → (j = id ∧ r = r') ∨ (j ≠ id ∧ tg st.tab j = some r ∧ j ∉ olds) := fun j r hj => by
    simp only [List.cons_append, tg_cons] at hj
    split at hj
    · rename_i e; exact .inl ⟨e.symm, (Option.some.inj hj).symm⟩
    · rename_i e; exact .inr ⟨fun h => e h.symm, (tg_offs hj).2, (tg_offs hj).1⟩
  have hlt : ∀ j r b, tg st.tab j = some r → Bk (ρ j) b → b < w.heap.size := fun j r b hj hb => (h.tabs.res j r hj).lt hb
  have same : ∀ j r b, tg st.tab j = some r → j ∉ olds → Bk (ρ j) b → w'.heap[b]? = w.heap[b]? := fun j r b hj hne hb =>
    hheap b (hlt j r b hj hb) fun i ri hi hri hbi => h.tabs.dis i j ri r b hri hj (fun e => hne (e ▸ hi)) hbi hb
  have ne_new : ∀ j r b, tg st.tab j = some r → j ∉ olds → Bk (ρ j) b → ¬ Bk val b := fun j r b hj hne hb hv => by
    rcases hval b hv with h1 | ⟨i, ri, hi, hri, hbi⟩
    · have := hlt j r b hj hb; omega
    · exact h.tabs.dis i j ri r b hri hj (fun e => hne (e ▸ hi)) hbi hb
  have mlt : ∀ b o u, M b o = some u → b < w.heap.size := fun b o u hu => cell_lt (h.run.imm b o u hu)
  have frb : ∀ i r b, tg st.tab i = some r → Bk (ρ i) b → ¬ C.fr b := h.ownf
  have mb : ∀ b o u, M b o = some u → w'.heap[b]? = w.heap[b]? := fun b o u hu => hheap b (mlt b o u hu) fun i ri _ hri hbi => by
    have := h.tabs.own i ri b hri hbi o; rw [hu] at this; cases this
  refine ⟨by cases d <;> exact h.dfr, ?_, ?_, ⟨?_, ?_, ?_⟩, ?_, ⟨?_, ?_, ?_, h.run.base, h.run.newM, hos.trans h.run.os, htape.trans h.run.tape, hout.trans h.run.output⟩, ?_⟩
  · cases d <;> simp [Act.put, app, h.sz]
  · intro k s hk
    cases d with
    | none => exact hsl k s hk
    | some d =>
      simp only [app] at hk
      rw [sg_cons] at hk
      split at hk
      · rename_i e; subst e; simp at hk; subst hk
        rw [getD_put_same (by rw [h.sz]; exact dok_lt hd)]; exact hx
      · rename_i e; rw [getD_put_other (fun h => e h.symm)]; exact hsl k s hk
  · intro j r hj
    rcases htab j r hj with ⟨rfl, rfl⟩ | ⟨hne, hj', ho⟩
    · exact hR
    · exact ((h.tabs.res j r hj').world (fun b hb => same j r b hj' ho hb)).agree (upd_agree ρ id val) hne (fun i hi => by subst hi; exact (hf.2.1 j r hj').2)
  · intro i j ri rj b hi hj hne hbi hbj
    rcases htab i ri hi with ⟨rfl, rfl⟩ | ⟨hni, hi', hoi⟩ <;> rcases htab j rj hj with ⟨rfl, rfl⟩ | ⟨hnj, hj', hoj⟩
    · exact hne rfl
    · rw [upd_same] at hbi; rw [upd_other hnj] at hbj; exact ne_new j rj b hj' hoj hbj hbi
    · rw [upd_same] at hbj; rw [upd_other hni] at hbi; exact ne_new i ri b hi' hoi hbi hbj
    · rw [upd_other hni] at hbi; rw [upd_other hnj] at hbj; exact h.tabs.dis i j ri rj b hi' hj' hne hbi hbj
  · intro j r b hj hb o
    rcases htab j r hj with ⟨rfl, rfl⟩ | ⟨hne, hj', _⟩
    · rw [upd_same] at hb
      rcases hval b hb with h1 | ⟨i, ri, _, hri, hbi⟩
      · cases hm : M b o with
        | none => rfl
        | some u => have := mlt b o u hm; omega
      · exact h.tabs.own i ri b hri hbi o
    · rw [upd_other hne] at hb; exact h.tabs.own j r b hj' hb o
  · intro j r b hj hb
    rcases htab j r hj with ⟨rfl, rfl⟩ | ⟨hne, hj', _⟩
    · rw [upd_same] at hb
      rcases hval b hb with h1 | ⟨i, ri, _, hri, hbi⟩
      · intro hfr; have := hfr.1; have := h.run.size; omega
      · exact frb i ri b hri hbi
    · rw [upd_other hne] at hb; exact frb j r b hj' hb
  · intro b o u hu; rw [cell_of_heap (mb b o u hu)]; exact h.run.imm b o u hu
  · intro b hb
    rw [hheap b (Nat.lt_of_lt_of_le hb.1 h.run.size) fun i ri _ hri hbi => frb i ri b hri hbi hb]
    exact h.run.fram b hb
  · exact Nat.le_trans h.run.size hsize
  · intro j r hj
    rw [upd_other (fun e => by subst e; rw [hf.2.2] at hj; cases hj)]; exact h.keep j r hj


/-! ### Resources told anew: words are made out of words, nothing turns in the world -/
def RwV (F : (Nat → Value) → Prop) (v v' : V) : Prop := ∀ M ρ x, F ρ → RepV M ρ v x → RepV M ρ v' x
def RwVs (F : (Nat → Value) → Prop) (v v' : List V) : Prop := ∀ M ρ x, F ρ → RepVs M ρ v x → RepVs M ρ v' x
def RwS (F : (Nat → Value) → Prop) (v v' : S) : Prop := ∀ M ρ x, F ρ → RepS M ρ v x → RepS M ρ v' x
def RwR (F : (Nat → Value) → Prop) (r r' : Res) : Prop := ∀ M ρ w i, F ρ → HoldsR M ρ w i r → HoldsR M ρ w i r'
section
variable {F : (Nat → Value) → Prop}
theorem RwV.refl (v : V) : RwV F v v := fun _ _ _ _ h => h
theorem RwVs.nil : RwVs F [] [] := fun _ _ _ _ h => h
theorem RwVs.refl (v : List V) : RwVs F v v := fun _ _ _ _ h => h
theorem RwVs.cons {v v' : V} {vs vs' : List V} (h : RwV F v v') (hs : RwVs F vs vs') : RwVs F (v :: vs) (v' :: vs') := fun M ρ x hf hr => by
  cases x with
  | nil => simp only [RepVs] at hr
  | cons c cs => simp only [RepVs] at hr ⊢; exact ⟨h _ _ _ hf hr.1, hs _ _ _ hf hr.2⟩
theorem RwS.refl (v : S) : RwS F v v := fun _ _ _ _ h => h
theorem RwS.one {v v' : V} (h : RwV F v v') : RwS F (.one v) (.one v') := fun M ρ x hf hr => by simp only [RepS] at hr ⊢; exact h _ _ _ hf hr
theorem RwS.agg {v v' : List V} (h : RwVs F v v') : RwS F (.agg v) (.agg v') := fun M ρ x hf hr => by
  simp only [RepS] at hr ⊢; obtain ⟨cs, h1, h2⟩ := hr; exact ⟨cs, h1, h _ _ _ hf h2⟩
theorem RwR.refl (r : Res) : RwR F r r := fun _ _ _ _ _ h => h
theorem RwR.box {vs vs' : List V} (h : RwVs F vs vs') : RwR F (.box vs) (.box vs') := fun _ _ _ _ hr ⟨b, cs, el, e1, e2, e3⟩ => ⟨b, cs, el, e1, e2, h _ _ _ hr e3⟩
theorem RwR.vw {ids ids' : List Nat} {e : Nat} {rows rows' : List (List PC)} (hl : rows'.length = rows.length) (hle : ∀ r ∈ rows', r.length = e)
    (h : ∀ (j : Nat) (x' : PC), rows'.flatten[j]? = some x' → ∃ x, rows.flatten[j]? = some x ∧ RwV F (toV ids x) (toV ids' x')) : RwR F (.vw ids e rows) (.vw ids' e rows') := fun M ρ w i hF hr => by
  obtain ⟨a, cap, h1, h2, h3, _, h4⟩ := hr
  refine ⟨a, cap, by rw [hl]; exact h1, by omega, h3, hle, ?_⟩
  rcases h4 with h4 | ⟨b, o, cs, el, fz, h5, h6, h6', h7, h8⟩
  · exact .inl h4
  · refine .inr ⟨b, o, cs, el, fz, h5, h6, h6', h7, fun j x' hj => ?_⟩
    obtain ⟨x, hx, hv⟩ := h j x' hj
    obtain ⟨c, c1, c2⟩ := h8 j x hx
    exact ⟨c, c1, hv _ _ _ hF c2⟩
end
def upW (F : (Nat → Value) → Prop) (olds news : List Nat) (tab : Tab) : List (Nat × Res) → Prop
  | [] => True
  | (i, r') :: l => (∃ r, tg tab i = some r ∧ ((hasB i olds || hasB i news) = false ∧ RwR F r r')) ∧ upW F olds news tab l
theorem upW_tg {F : (Nat → Value) → Prop} {olds news : List Nat} {tab b : Tab} : ∀ {ups : List (Nat × Res)}, upW F olds news tab ups → ∀ {k : Nat} {r : Res}, tg (resT ups ++ b) k = some r →
    tg b k = some r ∨ ∃ r0, tg tab k = some r0 ∧ k ∉ olds ∧ k ∉ news ∧ RwR F r0 r
  | [], _, k, r, h => .inl h
  | (t, s') :: l, hu, k, r, h => by
    simp only [resT, List.cons_append, tg_cons] at h
    split at h
    · rename_i e; subst e; simp only [Option.some.injEq] at h; subst h
      obtain ⟨r0, h1, h2, h3⟩ := hu.1
      simp only [Bool.or_eq_false_iff] at h2
      have n1 : t ∉ olds := fun hm => by have := mem_hasB hm; rw [h2.1] at this; cases this
      have n2 : t ∉ news := fun hm => by have := mem_hasB hm; rw [h2.2] at this; cases this
      exact .inr ⟨r0, h1, n1, n2, h3⟩
    · exact upW_tg hu.2 h
/-- How the new words come about. -/
structure Remade (M : Mem) (ρ ρ' : Nat → Value) (w : World) (tab : Tab) (olds : List Nat) (news : RL) : Prop where
  agr : ∀ i, i ∉ news.ids → ρ' i = ρ i
  res : ∀ i r, tg (tb news) i = some r → HoldsR M ρ' w i r
  blk : ∀ i r b, tg (tb news) i = some r → Bk (ρ' i) b → ∃ j s, j ∈ olds ∧ tg tab j = some s ∧ Bk (ρ j) b
  dis : ∀ i j ri rj b, tg (tb news) i = some ri → tg (tb news) j = some rj → i ≠ j → Bk (ρ' i) b → Bk (ρ' j) b → False
theorem tg_tb_append {l : RL} {b : Tab} {i : Nat} {r : Res} (h : tg (tb l ++ b) i = some r) : tg (tb l) i = some r ∨ (i ∉ l.ids ∧ tg b i = some r) := by
  induction l with
  | nil => exact .inr ⟨by simp [RL.ids], h⟩
  | cons x l ih =>
    obtain ⟨j, s⟩ := x
    simp only [tb, List.cons_append, tg_cons] at h ⊢
    split at h
    · rename_i e; rw [if_pos e]; exact .inl h
    · rename_i e
      rw [if_neg e]
      rcases ih h with h1 | ⟨h1, h2⟩
      · exact .inl h1
      · exact .inr ⟨by simp only [RL.ids, List.mem_cons, not_or]; exact ⟨fun h => e h.symm, h1⟩, h2⟩
section
variable {P : Program} {C : Ctx} {k : List Frm} {n : Nat} {sl : Slots} {tab : Tab} {Q : Exit → St → Prop} {cur : Cur}
theorem g_reword (hC : C.low) (hc : lst cur = true) (olds : List Nat) (news : RL) (F : (Nat → Value) → Prop) (hf : allB (fun id => Nat.ble 100 id && freshB id ⟨n, sl, tab⟩) news.ids = true)
    (hmk : ∀ {M ρ w}, THolds M ρ w tab → ∃ ρ', F ρ' ∧ Remade M ρ ρ' w tab olds news)
    (ups : Slots) (hS : upS (RwS F) sl ups) (bs : List (Nat × Res)) (hB : upW F olds news.ids tab bs) (g : Goal P C cur k n (ups ++ sl) (resT bs ++ (tb news ++ (offs olds ++ tab))) Q) : Goal P C cur k n sl tab Q := by
  refine g_turn hc (fun {M ρ a w} h => ?_) g
  obtain ⟨ρ', hF, hR⟩ := hmk h.tabs
  have fresh : ∀ i ∈ news.ids, Fresh C i ⟨n, sl, tab⟩ := fun i hi => by
    have := allB_spec hf i hi
    simp only [Bool.and_eq_true] at this
    exact fresh_of this.2 (hC.none (Nat.le_of_ble_eq_true this.1))
  have hX : Agree (fun i => i ∈ news.ids) ρ ρ' := fun i hi => hR.agr i hi
  have hsl : ∀ k s, sg sl k = some s → RepS M ρ' s (a.tmps.getD k undef) := fun k s hk => RepS.agree hX _ _ (fun i hi => (fresh i hi).1 k s hk) (h.slots k s hk)
  have hold : ∀ i r, tg tab i = some r → HoldsR M ρ' w i r := fun i r hi =>
    (h.tabs.res i r hi).agree hX (fun hm => ((fresh i hm).2.1 i r hi).1 rfl) (fun j hj => ((fresh j hj).2.1 i r hi).2)
  have nn : ∀ i r, tg tab i = some r → i ∉ news.ids := fun i r hi hm => ((fresh i hm).2.1 i r hi).1 rfl
  -- what an entry of the new table is
  have htab : ∀ i r, tg (resT bs ++ (tb news ++ (offs olds ++ tab))) i = some r → (i ∈ news.ids ∧ tg (tb news) i = some r) ∨ (i ∉ olds ∧ i ∉ news.ids ∧ ∃ r0, tg tab i = some r0 ∧ (r = r0 ∨ RwR F r0 r)) := fun i r hi => by
    rcases upW_tg hB hi with h1 | ⟨r0, h1, h2, h3, h4⟩
    · rcases tg_tb_append h1 with h2 | ⟨h2, h3⟩
      · exact .inl ⟨ids_mem (tb_mem h2), h2⟩
      · have := tg_offs h3
        exact .inr ⟨this.1, h2, r, this.2, .inl rfl⟩
    · exact .inr ⟨h2, h3, r0, h1, .inr h4⟩
  have bkold : ∀ i, i ∉ news.ids → ∀ b, Bk (ρ' i) b → Bk (ρ i) b := fun i hi b hb => by rw [hR.agr i hi] at hb; exact hb
  have cross : ∀ i j ri b, tg (tb news) i = some ri → j ∉ olds → j ∉ news.ids → (∃ rj, tg tab j = some rj) → Bk (ρ' i) b → Bk (ρ' j) b → False := fun i j ri b hi hjo hjn ⟨rj, hj⟩ hbi hbj => by
    obtain ⟨q, s, hq, hs, hbq⟩ := hR.blk i ri b hi hbi
    exact h.tabs.dis q j s rj b hs hj (fun e => hjo (e ▸ hq)) hbq (bkold j hjn b hbj)
  refine ⟨M, ρ', h.dfr, h.sz, fun k s hk => ?_, ⟨fun i r hi => ?_, fun i j ri rj b hi hj hne hbi hbj => ?_, fun i r b hi hb o => ?_⟩, fun i r b hi hb => ?_, h.run, fun i r hi => ?_⟩
  · rcases upS_sg hS hk with h1 | ⟨s0, h1, h2⟩
    · exact hsl k s h1
    · exact h2 _ _ _ hF (hsl k s0 h1)
  · rcases htab i r hi with ⟨_, h1⟩ | ⟨_, _, r0, h1, h2⟩
    · exact hR.res i r h1
    · rcases h2 with rfl | h2
      · exact hold i r h1
      · exact h2 _ _ _ _ hF (hold i r0 h1)
  · rcases htab i ri hi with ⟨_, h1⟩ | ⟨i1, i2, r0, h1, _⟩ <;> rcases htab j rj hj with ⟨_, h2⟩ | ⟨j1, j2, s0, h2, _⟩
    · exact hR.dis i j ri rj b h1 h2 hne hbi hbj
    · exact cross i j ri b h1 j1 j2 ⟨s0, h2⟩ hbi hbj
    · exact cross j i rj b h2 i1 i2 ⟨r0, h1⟩ hbj hbi
    · exact h.tabs.dis i j r0 s0 b h1 h2 hne (bkold i i2 b hbi) (bkold j j2 b hbj)
  · rcases htab i r hi with ⟨_, h1⟩ | ⟨i1, i2, r0, h1, _⟩
    · obtain ⟨q, s, _, hs, hbq⟩ := hR.blk i r b h1 hb
      exact h.tabs.own q s b hs hbq o
    · exact h.tabs.own i r0 b h1 (bkold i i2 b hb) o
  · rcases htab i r hi with ⟨_, h1⟩ | ⟨i1, i2, r0, h1, _⟩
    · obtain ⟨q, s, _, hs, hbq⟩ := hR.blk i r b h1 hb
      exact h.ownf q s b hs hbq
    · exact h.ownf i r0 b h1 (bkold i i2 b hb)
  · rw [hR.agr i fun hm => by have := (fresh i hm).2.2; rw [hi] at this; cases this]
    exact h.keep i r hi
/-- What is known behind a bag that has taken an array in. -/
def TkF (id id2 id' m : Nat) (ρ : Nat → Value) : Prop := ∃ cs : List Value, ρ id = .tuple cs.toArray ∧ cs.length = m ∧ (ρ id2).oneCell' = true ∧ ρ id' = .tuple (cs ++ [ρ id2]).toArray
theorem TkF.nv {id id2 id' m j : Nat} : RwV (TkF id id2 id' m) (.nv id j) (.nv id' j) := fun M ρ x hF hr => by
  obtain ⟨cs, h1, h2, h3, h4⟩ := hF
  simp only [RepV] at hr ⊢
  obtain ⟨xs, f1, f2, f3⟩ := hr
  rw [h1] at f1
  have : xs = cs := by simp only [Value.tuple.injEq] at f1; have := congrArg Array.toList f1; simpa using this.symm
  subst this
  exact ⟨_, h4, by rw [List.getElem?_append_left (List.getElem?_eq_some_iff.1 f2).1]; exact f2, f3⟩
theorem TkF.ar {id id2 id' m : Nat} : RwV (TkF id id2 id' m) (.ar id2) (.nv id' m) := fun M ρ x hF hr => by
  obtain ⟨cs, h1, h2, h3, h4⟩ := hF
  simp only [RepV] at hr ⊢
  exact ⟨_, h4, by rw [List.getElem?_append_right (by omega), h2, Nat.sub_self, hr.1]; rfl, hr.2⟩
theorem apart_snoc {cs : List Value} {v : Value} (h : Apart cs) (hv : ∀ (j b : Nat) z, cs[j]? = some z → blk z = some b → blk v ≠ some b) : Apart (cs ++ [v]) := by
  have get : ∀ (i : Nat) z, (cs ++ [v])[i]? = some z → cs[i]? = some z ∨ (i = cs.length ∧ z = v) := fun i z hz => by
    rcases Nat.lt_or_ge i cs.length with hlt | hge
    · rw [List.getElem?_append_left hlt] at hz; exact .inl hz
    · rw [List.getElem?_append_right hge] at hz
      have h0 : i - cs.length = 0 := by have := (List.getElem?_eq_some_iff.1 hz).1; simp at this; omega
      rw [h0] at hz
      simp only [List.getElem?_cons_zero, Option.some.injEq] at hz
      exact .inr ⟨by omega, hz.symm⟩
  intro i j b p q hp hq hne hbp hbq
  rcases get i p hp with hi | ⟨rfl, rfl⟩ <;> rcases get j q hq with hj | ⟨rfl, rfl⟩
  · exact h i j b p q hi hj hne hbp hbq
  · exact hv i b p hi hbp hbq
  · exact hv j b q hj hbq hbp
  · exact hne rfl
/-- A bag takes an owned array in. -/
theorem g_take (hC : C.low) (hc : lst cur = true) (id id2 id' : Nat) {e : Nat} {L : List (List (List PV))} {rs : List (List PV)} (hid : tg tab id = some (.bag e L)) (hid2 : tg tab id2 = some (.arr e rs)) (hne : Nat.beq id id2 = false)
    (hf : (Nat.ble 100 id' && freshB id' ⟨n, sl, tab⟩) = true)
    (ups : Slots) (hS : upS (RwS (TkF id id2 id' L.length)) sl ups) (bs : List (Nat × Res)) (hB : upW (TkF id id2 id' L.length) [id, id2] [id'] tab bs)
    (g : Goal P C cur k n (ups ++ sl) (resT bs ++ ((id', some (.bag e (L ++ [rs]))) :: (id, none) :: (id2, none) :: tab)) Q) : Goal P C cur k n sl tab Q := by
  have hne' : id ≠ id2 := fun e => by subst e; rw [beq_self] at hne; cases hne
  refine g_reword hC hc [id, id2] [(id', .bag e (L ++ [rs]))] (TkF id id2 id' L.length) (by simp only [RL.ids, allB, hf, Bool.and_true]) (fun {M ρ w} hT => ?_) ups hS bs hB g
  simp only [Bool.and_eq_true] at hf
  have nid : ∀ i r, tg tab i = some r → i ≠ id' := fun i r hi e => by
    have := (fresh_of (C := C) hf.2 (hC.none (Nat.le_of_ble_eq_true hf.1))).2.1 i r hi
    exact this.1 e
  obtain ⟨cs, h1, h2, h3, h4⟩ := hT.res id _ hid
  have hA : ArrIn M w (ρ id2) e rs := hT.res id2 _ hid2
  obtain ⟨a2, cap2, g1, _⟩ := hA
  have hA : ArrIn M w (ρ id2) e rs := hT.res id2 _ hid2
  have n1 := nid id _ hid
  have n2 := nid id2 _ hid2
  have bk2 : ∀ q, blk (ρ id2) = some q → Bk (ρ id2) q := fun q hq => by rw [g1] at hq ⊢; exact hq
  have only : ∀ i r, tg (tb [(id', Res.bag e (L ++ [rs]))]) i = some r → i = id' ∧ r = .bag e (L ++ [rs]) := fun i r hi => by
    simp only [tb, tg_cons] at hi
    split at hi
    · rename_i e; exact ⟨e.symm, (Option.some.inj hi).symm⟩
    · cases hi
  refine ⟨upd ρ id' (.tuple (cs ++ [ρ id2]).toArray), ⟨cs, by rw [upd_other n1]; exact h1, h2, by rw [upd_other n2, g1]; rfl, by rw [upd_same, upd_other n2]⟩, fun i hi => upd_other (by simpa [RL.ids] using hi), fun i r hi => ?_, fun i r b hi hb => ?_, fun i j ri rj b hi hj hne _ _ => ?_⟩
  · obtain ⟨rfl, rfl⟩ := only i r hi
    refine ⟨_, upd_same _ _ _, by simp [h2], fun j rs' hj => ?_, apart_snoc h4 fun j b z hj hz hv => hT.dis id id2 _ _ b hid hid2 hne' (by rw [h1]; exact bk_of hj hz) (bk2 b hv)⟩
    rcases Nat.lt_or_ge j L.length with hlt | hge
    · rw [List.getElem?_append_left hlt] at hj
      obtain ⟨c, c1, c2⟩ := h3 j rs' hj
      exact ⟨c, by rw [List.getElem?_append_left (by omega)]; exact c1, c2⟩
    · rw [List.getElem?_append_right hge] at hj
      have h0 : j - L.length = 0 := by have := (List.getElem?_eq_some_iff.1 hj).1; simp at this; omega
      rw [h0] at hj
      simp only [List.getElem?_cons_zero, Option.some.injEq] at hj
      subst hj
      exact ⟨ρ id2, by rw [List.getElem?_append_right (by omega), show j - cs.length = 0 by omega]; rfl, hA⟩
  · obtain ⟨rfl, _⟩ := only i r hi
    rw [upd_same] at hb
    obtain ⟨x, hx, hxb⟩ := hb
    have hx' : x ∈ cs ∨ x = ρ id2 := by simpa using hx
    rcases hx' with hx' | rfl
    · obtain ⟨j, hj⟩ := List.mem_iff_getElem?.1 hx'
      exact ⟨id, _, by simp, hid, by rw [h1]; exact bk_of hj hxb⟩
    · exact ⟨id2, _, by simp, hid2, bk2 b hxb⟩
  · obtain ⟨rfl, _⟩ := only i ri hi
    obtain ⟨rfl, _⟩ := only j rj hj
    exact hne rfl
/-- A bag of nothing. -/
theorem g_bag (hC : C.low) (hc : lst cur = true) (id' e : Nat) (hf : (Nat.ble 100 id' && freshB id' ⟨n, sl, tab⟩) = true) (g : Goal P C cur k n sl ((id', some (.bag e [])) :: tab) Q) : Goal P C cur k n sl tab Q := by
  refine g_reword hC hc [] [(id', .bag e [])] (fun _ => True) (by simp only [RL.ids, allB, hf, Bool.and_true]) (fun {M ρ w} hT => ?_) [] trivial [] trivial g
  have only : ∀ i r, tg (tb [(id', Res.bag e [])]) i = some r → i = id' ∧ r = .bag e [] := fun i r hi => by
    simp only [tb, tg_cons] at hi
    split at hi
    · rename_i e; exact ⟨e.symm, (Option.some.inj hi).symm⟩
    · cases hi
  refine ⟨upd ρ id' (.tuple ([] : List Value).toArray), trivial, fun i hi => upd_other (by simpa [RL.ids] using hi), fun i r hi => ?_, fun i r b hi hb => ?_, fun i j ri rj b hi hj hne _ _ => ?_⟩
  · obtain ⟨rfl, rfl⟩ := only i r hi
    exact ⟨[], upd_same _ _ _, rfl, fun j rs hj => by simp at hj, fun i j b x y hx => by simp at hx⟩
  · obtain ⟨rfl, _⟩ := only i r hi
    rw [upd_same] at hb
    obtain ⟨x, hx, _⟩ := hb
    simp at hx
  · obtain ⟨rfl, _⟩ := only i ri hi
    obtain ⟨rfl, _⟩ := only j rj hj
    exact hne rfl
end
end Hw
/- The engine, part BF: owned arrays whose cells may lead to other resources (Res.vw): index, length, load, store, append, literal. -/
namespace Hw
open Go

section
variable {P : Program} {d : Option Nat} {ty : TypeId} {ps : String} {af : Array Edge} {g : Option (Nat × Bool)} {x y : Operand} {t : TypeId}
theorem L_index_vw {id e : Nat} {rows : List (List PC)} {ids : List Nat} {i : Int} {k : IntKind} {el : TypeId} (hx : okc x (.one (.ar id))) (hy : okc y (Kk k i))
    (h : elemSz P t = some (el, e)) (h0 : 0 ≤ i) (hi : i < rows.length) :
    Snd P ⟨d, .indexAddr t x y, ty, ps, af, g⟩ (rq x (.one (.ar id)) ++ rq y (Kk k i)) [(id, .vw ids e rows)] [] (.one (.el id (i.toNat * e))) [] :=
  snd_quiet fun C st M ρ a w hH h1 ht => by
    rw [okS_append] at h1
    have e' := hH.evS (ev_of hx h1.1)
    have e2 := hH.k (ev_of hy h1.2)
    simp only [RepS, RepV] at e'
    obtain ⟨a', cap, h3, h4, h5, _, h6⟩ := hH.tabs.res id _ ht.1
    obtain ⟨ii, hu, hinf, hsz⟩ := elemSz_spec h
    rcases h6 with ⟨h6, h7⟩ | ⟨b, o, cs, el', fz, h6, _⟩
    · subst h7; omega
    · subst h6
      refine ⟨.pointer (some ⟨b, o + i.toNat * e, none⟩), ?_, by simp only [RepS, RepV]; exact ⟨b, o, _, _, h3, rfl⟩⟩
      rw [h3] at e'
      simp only [execOp, e'.1, e2, Instr.indexAt, asIntOf, Sem.run_bind, Sem.run_pure, Result.andThen_ok, run_underlying hu]
      rw [if_pos ⟨h0, hi⟩]
      simp only [Sem.run_bind, Sem.run_pure, Result.andThen_ok, run_sizeOf hinf, add_addr, hsz]
theorem L_len_vw {id e : Nat} {rows : List (List PC)} {ids : List Nat} {as' : Array TypeId} {el : TypeId} {n : Nat} (hx : okc x (.one (.ar id))) (ha : as'[0]? = some t) (h : elemSz P t = some (el, n)) :
    Snd P ⟨d, .call ⟨.builtin .len, #[x], as'⟩, ty, ps, af, g⟩ (rq x (.one (.ar id))) [(id, .vw ids e rows)] [] (I rows.length) [] :=
  snd_quiet fun C st M ρ a w hH h1 ht => by
    have e' := hH.evS (ev_of hx h1)
    simp only [RepS, RepV] at e'
    obtain ⟨a', cap, h3, h4, h5, _, h6⟩ := hH.tabs.res id _ ht.1
    obtain ⟨ii, hu, hinf, hsz⟩ := elemSz_spec h
    rw [h3] at e'
    exact ⟨.int .i64 rows.length, by simp [execOp, resolve, invoke, builtin, Builtin.len_, ha, e'.1, run_underlying hu, goInt], repK _ _⟩
theorem L_load_vw {id kk e : Nat} {rows : List (List PC)} {ids : List Nat} {vs : List V} {s : Option Nat} {v : S} (hx : okc x (.one (.el id kk))) (h : shp P t = some s)
    (hvs : ∀ j v, vs[j]? = some v → ∃ p, rows.flatten[kk + j]? = some p ∧ toV ids p = v) (hv : ofCells s vs = some v) :
    Snd P ⟨d, .load t x, ty, ps, af, g⟩ (rq x (.one (.el id kk))) [(id, .vw ids e rows)] [] v [] :=
  snd_quiet fun C st M ρ a w hH h1 ht => by
    have e' := hH.evS (ev_of hx h1)
    simp only [RepS, RepV] at e'
    obtain ⟨b, o, m, cap, e1, e2⟩ := e'
    obtain ⟨a', cap', h2, h3, h4, _, h5⟩ := hH.tabs.res id _ ht.1
    rw [e1] at h2
    simp only [Value.slice.injEq] at h2
    rcases h5 with ⟨h5, _⟩ | ⟨b', o', cs, el, fz, h5, h6, h6', h7, h8⟩
    · rw [h5] at h2; cases h2.1
    · rw [h5] at h2
      have hb : b = b' ∧ o = o' := by have := h2.1; simp at this; exact this
      obtain ⟨rfl, rfl⟩ := hb
      obtain ⟨ds, h9, h10⟩ := repVs_of (M := M) (ρ := ρ) (vs := vs) (g := fun j => cs[o + (kk + j)]?) fun j u hj => by
        obtain ⟨p, hp, e⟩ := hvs j u hj
        obtain ⟨c, hc, hr⟩ := h8 _ p hp
        exact ⟨c, hc, e ▸ hr⟩
      obtain ⟨u, hu, hr⟩ := run_loadVar_cells (w := w) (b := b) (o := o + kk) h h9 (fun q c hc => by
        have := h10 q c hc
        simp only [← Nat.add_assoc] at this
        simp [World.cell?, h6, this]) hv
      exact ⟨u, by simp only [execOp, e2, Sem.run_bind, Instr.loadAt, Instr.sureAddr, Sem.run_pure, Result.andThen_ok, hu], hr⟩
/-- A store that says what stands in the array then. -/
theorem L_store_vw {id kk e : Nat} {rows rows' : List (List PC)} {ids ids' : List Nat} {us : List V} {s : S} {sh : Option Nat} (hx : okc x (.one (.el id kk))) (hy : okc y s) (h : shp P t = some sh)
    (hc : cellsOf s = some us) (hl : us.length = sh.getD 1) (hln : rows'.length = rows.length) (hle : ∀ r ∈ rows', r.length = e) (hb : kk + us.length ≤ rows.length * e)
    (hn : ∀ q p, rows'.flatten[q]? = some p → (kk ≤ q ∧ us[q - kk]? = some (toV ids' p)) ∨ ((q < kk ∨ kk + us.length ≤ q) ∧ ∃ p0, rows.flatten[q]? = some p0 ∧ toV ids p0 = toV ids' p)) :
    Snd P ⟨d, .store t x y, ty, ps, af, g⟩ (rq x (.one (.el id kk)) ++ rq y s) [(id, .vw ids e rows)] [] .un [(id, some (.vw ids' e rows'))] := by
  intro C st M ρ a w hH h1 ht _ hd k Q hk
  rw [okS_append] at h1
  have e0 := hH.evS (ev_of hx h1.1)
  have e' := cellsOf_spec hc (hH.evS (ev_of hy h1.2))
  simp only [RepS, RepV] at e0
  obtain ⟨b, o, m, cap, e1, e2⟩ := e0
  obtain ⟨a', cap', h2, h3, h4, hl0, h5⟩ := hH.tabs.res id _ ht.1
  have h2' := h2
  rw [e1] at h2
  simp only [Value.slice.injEq] at h2
  rcases h5 with ⟨h5, _⟩ | ⟨b', o', cs, el, fz, h5, h6, h6', h7, h8⟩
  · rw [h5] at h2; cases h2.1
  · rw [h5] at h2
    have hbo : b = b' ∧ o = o' := by have := h2.1; simp at this; exact this
    obtain ⟨rfl, rfl⟩ := hbo
    obtain ⟨ii, hinf, hs⟩ := shp_size h
    have hlen : (a.eval y).cells.toList.length = us.length := by rw [e'.length]
    have hie : rows.length * e ≤ cap' * e := Nat.mul_le_mul_right e h3
    have hst := run_storeCells_blk (P := P) b (o + kk) el fz (a.eval y).cells.toList 0 cs w h6 h6' (by rw [hlen]; omega) e'.one
    have hrun : (execOp a.eval ⟨d, .store t x y, ty, ps, af, g⟩).run P w = .ok .skip (w.setRow b (setAt cs.toList (o + kk) (a.eval y).cells.toList).toArray) := by
      have hsz : ¬ ((a.eval y).cells.size ≠ ii.size) := by rw [hs, ← hl, ← hlen]; simp
      simp only [execOp, e2, Instr.storeAt, Instr.sureAddr, Sem.run_bind, Sem.run_pure, Result.andThen_ok, storeVar, run_sizeOf hinf, if_neg hsz]
      simp only [hst, Result.andThen_ok, Nat.add_zero]
    unfold Oper.wp
    rw [hrun, Oper.upon_skip]
    have hcsl : o + kk + (a.eval y).cells.toList.length ≤ cs.toList.length := by rw [hlen]; simp; omega
    have hsz : (setAt cs.toList (o + kk) (a.eval y).cells.toList).toArray.size = cs.size := by simp [setAt_length _ _ _ hcsl]
    refine hk _ _ M ρ (hH.turn ht.1 (fun k hk => setRow_other w b k _ (fun e => hk (by simp [h2', h5, Bk, blk, e]))) (by simp) rfl rfl rfl
      ⟨a', cap', by rw [hln]; exact h2', by omega, by omega, hle, .inr ⟨b, o, _, el, fz, h5, setRow_heap w b _ _ el _ h6, by rw [hsz]; exact h6', by rw [hsz]; exact h7, fun q p hq => ?_⟩⟩ (by simp only [RepS]) hd)
    have hget : (setAt cs.toList (o + kk) (a.eval y).cells.toList).toArray[o + q]? = if o + q < o + kk then cs[o + q]? else if o + q < o + kk + us.length then (a.eval y).cells.toList[o + q - (o + kk)]? else cs[o + q]? := by
      rw [List.getElem?_toArray, setAt_get _ _ _ _ (by omega), hlen]; simp
    rcases hn q p hq with ⟨g1, g2⟩ | ⟨g1, p0, g2, g3⟩
    · have hlt : q - kk < us.length := (List.getElem?_eq_some_iff.1 g2).1
      obtain ⟨c, c1, c2⟩ := repVs_at e' g2
      refine ⟨c, ?_, c2⟩
      rw [hget, if_neg (by omega), if_pos (by omega), ← c1]; congr 1; omega
    · obtain ⟨c, c1, c2⟩ := h8 q p0 g2
      refine ⟨c, ?_, g3 ▸ c2⟩
      rw [hget]
      rcases g1 with g1 | g1
      · rw [if_pos (by omega)]; exact c1
      · rw [if_neg (by omega), if_neg (by omega)]; exact c1

/-- What is appended: its rows, but for some cells. -/
def SrcW (P : Program) (e : Nat) (tx : TypeId) (s : S) (rt : RL) (rows : List (List PC)) (ids : List Nat) : Prop :=
  ∀ (C : Ctx) (st : St) (M : Mem) (ρ : Nat → Value) (a : Act) (w : World) (v : Value), Holds C st M ρ a w → RepS M ρ s v → okT rt st →
    ∃ news, Src P e tx v rows.length news w ∧ (∀ (j : Nat) (p : PC), rows.flatten[j]? = some p → ∃ c, news[j]? = some c ∧ RepV M ρ (toV ids p) c) ∧ ∀ r ∈ rows, r.length = e
theorem SrcW.vw {e : Nat} {tx el : TypeId} {id : Nat} {rows : List (List PC)} {ids : List Nat} (h : elemSz P tx = some (el, e)) : SrcW P e tx (.one (.ar id)) [(id, .vw ids e rows)] rows ids := by
  intro C st M ρ a w v hH hr ht
  obtain ⟨_, hu, _, _⟩ := elemSz_spec h
  obtain ⟨b, cap, h1, h2, h3, hl, h4⟩ := hH.tabs.res id _ ht.1
  simp only [RepS, RepV] at hr
  rw [h1] at hr; rw [hr.1]
  rcases h4 with ⟨rfl, hc⟩ | ⟨b', o, cs, el', fz, rfl, h6, _, _, h8⟩
  · have : rows = [] := List.length_eq_zero_iff.1 (by omega)
    subst this
    exact ⟨[], Src.ofNil w hu cap, by simp, by simp⟩
  · obtain ⟨us, h9, h10⟩ := repVs_of (M := M) (ρ := ρ) (vs := rows.flatten.map (toV ids)) (g := fun j => cs[o + j]?) fun j u hj => by
      rw [List.getElem?_map, Option.map_eq_some_iff] at hj
      obtain ⟨p, hp, rfl⟩ := hj
      exact h8 j p hp
    refine ⟨us, Src.ofSlice w hu _ _ cap us (by rw [h9.length, List.length_map, flat_len hl]) (fun j u hj => by rw [add_addr]; have := h10 j u hj; simp [World.cell?, h6, this]) h9.one, fun j p hj => ?_, hl⟩
    exact repVs_at h9 (m := j) (by rw [List.getElem?_map, hj]; rfl)

theorem L_append_vw {id id' e bytes : Nat} {rows rows2 rows3 : List (List PC)} {ids ids2 ids' : List Nat} {sy : S} {rt2 : RL} {tx el : TypeId} {z : List V} (hx : okc x (.one (.ar id))) (hy : okc y sy) (hs : SrcW P e tx sy rt2 rows2 ids2) (hm1 : mentI id' ids' = false) (h3l : rows3.length = rows.length + rows2.length) (h3e : ∀ r ∈ rows3, r.length = e)
    (h31 : ∀ (j : Nat) (x' : PC), j < rows.length * e → rows3.flatten[j]? = some x' → ∃ x, rows.flatten[j]? = some x ∧ toV ids x = toV ids' x') (h32 : ∀ (j : Nat) (x' : PC), rows3.flatten[rows.length * e + j]? = some x' → ∃ x, rows2.flatten[j]? = some x ∧ toV ids2 x = toV ids' x')
    (he : elemSz P t = some (el, e)) (hz : zeroV P el = some z) (hzl : z.length = e) (hby : (P.info? el).map (·.bytes) = some bytes) (hb : (rows.length + rows2.length) * bytes ≤ 140737488355328) (hlen : rows.length + rows2.length ≤ 9223372036854775807) :
    Snd P ⟨d, .call ⟨.builtin .append, #[x, y], #[t, tx]⟩, ty, ps, af, g⟩ (rq x (.one (.ar id)) ++ rq y sy) ((id, .vw ids e rows) :: rt2) [id'] (.one (.ar id')) [(id', some (.vw ids' e rows3)), (id, none)] := by
  intro C st M ρ a w hH h1 hT hF hd k Q hk
  rw [okS_append] at h1
  have e1 := hH.evS (ev_of hx h1.1)
  have e2 := hH.evS (ev_of hy h1.2)
  obtain ⟨b, cap, h2, h3, h4, hl0, h5⟩ := hH.tabs.res id _ hT.1
  simp only [RepS, RepV] at e1
  obtain ⟨ii, hu, hinf, hsz⟩ := elemSz_spec he
  obtain ⟨news, hsrc, hnews, hlen2⟩ := hs C st M ρ a w _ hH e2 hT.2
  obtain ⟨i', zv, hi', hzv, hzs⟩ := zeroV_len hz
  rw [hinf] at hi'; simp only [Option.some.injEq] at hi'; subst hi'
  rw [hinf] at hby; simp only [Option.map_some, Option.some.injEq] at hby
  have hnl : news.length = rows2.length * e := hsrc.newsLen
  have hfr := flat_len hl0
  -- cells of the old and the new, as the new name says them
  have hnew : ∀ (val : Value) (f : Nat → Option Value), (∀ j p, rows.flatten[j]? = some p → ∃ c, f j = some c ∧ RepV M ρ (toV ids p) c) → (∀ j c, news[j]? = some c → f (rows.length * e + j) = some c) →
      ∀ j p, rows3.flatten[j]? = some p → ∃ c, f j = some c ∧ RepV M (upd ρ id' val) (toV ids' p) c := fun val f hf1 hf2 j p hj => by
    rcases Nat.lt_or_ge j (rows.length * e) with hlt | hge
    · obtain ⟨x, hx, he⟩ := h31 j p hlt hj
      obtain ⟨c, c1, c2⟩ := hf1 j x hx
      refine ⟨c, c1, ?_⟩
      rw [he] at c2
      exact RepV.agree (upd_agree ρ id' val) _ _ (fun i hi => by subst hi; exact toV_ment hm1 p) c2
    · have e3 : rows.length * e + (j - rows.length * e) = j := by omega
      obtain ⟨x, hx, he⟩ := h32 (j - rows.length * e) p (by rw [e3]; exact hj)
      obtain ⟨c, c1, c2⟩ := hnews _ x hx
      refine ⟨c, by have := hf2 _ c c1; rwa [e3] at this, ?_⟩
      rw [he] at c2
      exact RepV.agree (upd_agree ρ id' val) _ _ (fun i hi => by subst hi; exact toV_ment hm1 _) c2
  have hcall : execOp a.eval ⟨d, .call ⟨.builtin .append, #[x, y], #[t, tx]⟩, ty, ps, af, g⟩ = (do pure (.value (← Builtin.append_ #[t, tx] ty #[a.eval x, a.eval y]))) := by
    simp [execOp, resolve, invoke, builtin]
  have fin : ∀ {val : Value} {w' : World}, (Builtin.append_ #[t, tx] ty #[a.eval x, a.eval y]).run P w = .ok val w' →
      (∀ b', b' < w.heap.size → (∀ i r, (some id) = some i → tg st.tab i = some r → ¬ Bk (ρ i) b') → w'.heap[b']? = w.heap[b']?) → w.heap.size ≤ w'.heap.size → w'.os = w.os → w'.tape = w.tape → w'.output = w.output →
      (∀ b', Bk val b' → w.heap.size ≤ b' ∨ ∃ i r, (some id) = some i ∧ tg st.tab i = some r ∧ Bk (ρ i) b') → HoldsR M (upd ρ id' val) w' id' (.vw ids' e rows3) → val.oneCell' = true →
      Oper.wp P ⟨d, .call ⟨.builtin .append, #[x, y], #[t, tx]⟩, ty, ps, af, g⟩ a w k Q := fun {val w'} hrun g1 g2 g3 g4 g5 g6 g7 g8 => by
    unfold Oper.wp
    rw [hcall]
    simp only [Sem.run_bind, hrun, Result.andThen_ok, Sem.run_pure, Oper.upon_value]
    exact hk _ _ _ _ (hH.step (some id) g1 g2 g3 g4 g5 g6 hF.1 g7 (by simp only [RepS, RepV]; exact ⟨(upd_same _ _ _).symm, g8⟩) hd)
  have hex : a.eval x = .slice b rows.length cap := e1.1.trans h2
  rcases Nat.lt_or_ge cap (rows.length + rows2.length) with hlt | hge
  · -- a new row
    have hold : ∃ olds : List Value, (Builtin.firstCells ii.size rows.length (.slice b rows.length cap)).run P w.drew = .ok olds.toArray w.drew ∧ (∀ (j : Nat) (p : PC), rows.flatten[j]? = some p → ∃ c, olds[j]? = some c ∧ RepV M ρ (toV ids p) c) ∧ olds.length = rows.length * e := by
      rcases h5 with ⟨rfl, hc⟩ | ⟨b', o, cs, el', fz, rfl, h6, _, _, h8⟩
      · have : rows = [] := List.length_eq_zero_iff.1 (by omega)
        subst this
        exact ⟨[], run_firstCells_none w.drew _ _ _ _, by simp, by simp⟩
      · obtain ⟨us, h9, h10⟩ := repVs_of (M := M) (ρ := ρ) (vs := rows.flatten.map (toV ids)) (g := fun j => cs[o + j]?) fun j u hj => by
          rw [List.getElem?_map, Option.map_eq_some_iff] at hj
          obtain ⟨p, hp, rfl⟩ := hj
          exact h8 j p hp
        have hul : us.length = rows.length * e := by rw [h9.length, List.length_map, hfr]
        refine ⟨us, ?_, fun j p hj => repVs_at h9 (m := j) (by rw [List.getElem?_map, hj]; rfl), hul⟩
        rw [hsz]
        exact run_firstCells_some w.drew e rows.length ⟨b', o, none⟩ _ cap us hul (fun j u hj => by
          rw [add_addr]
          have := h10 j u hj
          have h6' : w.drew.heap[b']? = some (.cells cs el' fz) := h6
          simp [World.cell?, h6', this])
    obtain ⟨olds, ho1, ho2, ho3⟩ := hold
    have hrun := run_append_grow_src (P := P) w t tx ty el ii zv hu hinf hzv b rows.length cap olds ho1 (a.eval y) rows2.length news (by rw [hsz]; exact hsrc) hlt (by omega) (growslice_fits hlt (by rw [hby]; exact hb))
    rw [← hex] at hrun
    have hcap := grownCap_ge w (rows.length + rows2.length) cap el
    refine fin hrun (fun b' hb' _ => heap_push_old w.drew _ b' hb') (by simp) rfl rfl rfl (fun b' hb' => .inl ?_) ⟨some ⟨w.heap.size, 0, none⟩, grownCap w (rows.length + rows2.length) cap el, by rw [upd_same, h3l], by rw [h3l]; exact hcap, (by have := grownCap_le_maxLen w (rows.length + rows2.length) cap el (by unfold maxLen; omega); unfold maxLen at this; omega), h3e, .inr
      ⟨w.heap.size, 0, _, el, (0, 0), rfl, heap_push_new w.drew _, fun i _ => by simp, ?_, ?_⟩⟩ rfl
    · simp only [Bk, blk, Option.some.injEq] at hb'; omega
    · simp only [Array.size_append, List.size_toArray, List.length_append, size_zeroCells, hzs, hzl, ho3, hnl, ← Nat.add_mul, Nat.zero_add]
      apply Nat.mul_le_mul_right; omega
    · refine hnew _ _ (fun j p hj => ?_) (fun j c hj => ?_)
      · obtain ⟨c, c1, c2⟩ := ho2 j p hj
        have hjl : j < olds.length := (List.getElem?_eq_some_iff.1 c1).1
        refine ⟨c, ?_, c2⟩
        rw [Nat.zero_add, Array.getElem?_append_left (by simp; omega)]
        simp only [List.getElem?_toArray]
        rw [List.getElem?_append_left hjl]; exact c1
      · have hjl : j < news.length := (List.getElem?_eq_some_iff.1 hj).1
        rw [Nat.zero_add, Array.getElem?_append_left (by simp; omega)]
        simp only [List.getElem?_toArray]
        rw [List.getElem?_append_right (by omega), ho3]
        rw [show rows.length * e + j - rows.length * e = j by omega]; exact hj
  · -- room
    rcases h5 with ⟨rfl, hc⟩ | ⟨b', o, cs, el', fz, rfl, h6, h6', h7, h8⟩
    · have e3 : rows2 = [] := List.length_eq_zero_iff.1 (by omega)
      have e4 : rows = [] := List.length_eq_zero_iff.1 (by omega)
      subst e3; subst e4; subst hc
      have hn0 : news = [] := List.eq_nil_of_length_eq_zero (by simpa using hnl)
      subst hn0
      have hrun : (Builtin.append_ #[t, tx] ty #[a.eval x, a.eval y]).run P w = .ok (.slice none 0 0) w := by
        rw [hex]
        have hl : (Builtin.lenOf (a.eval y)).run P w = .ok 0 w := hsrc.len w
        have hc : (Builtin.firstCells e 0 (a.eval y)).run P w = .ok #[] w := hsrc.cells
        rcases hsrc.kind with ⟨e', hk'⟩ | hk' <;> simp [Builtin.append_, run_underlying hu, run_underlying hk', Go.sizeOf, typeInfo, hinf, hl, hsz, hc]
      exact fin hrun (fun _ _ _ => rfl) (Nat.le_refl _) rfl rfl rfl (fun b' hb' => by simp [Bk, blk] at hb') ⟨none, 0, by rw [upd_same, h3l]; rfl, by rw [h3l]; simp, by simp, h3e, .inl ⟨rfl, rfl⟩⟩ rfl
    · have hfit : o + rows.length * e + 0 + news.length ≤ cs.size := by
        rw [hnl]
        have : (rows.length + rows2.length) * e ≤ cap * e := Nat.mul_le_mul_right _ hge
        rw [Nat.add_mul] at this
        omega
      have hst := run_storeCells_blk (P := P) b' (o + rows.length * e) el' fz news 0 cs w h6 h6' hfit hsrc.one
      have hrun : (Builtin.append_ #[t, tx] ty #[a.eval x, a.eval y]).run P w = .ok (.slice (some ⟨b', o, none⟩) (rows.length + rows2.length) cap) (w.setRow b' (setAt cs.toList (o + rows.length * e + 0) news).toArray) := by
        rw [hex]
        have hl := hsrc.len w
        have hc := hsrc.cells
        rcases hsrc.kind with ⟨e', hk'⟩ | hk' <;> simp [Builtin.append_, run_underlying hu, run_underlying hk', Go.sizeOf, typeInfo, hinf, hl, hsz, hc, hge, add_addr, hst]
      have hob : Bk (ρ id) b' := by rw [h2]; rfl
      have hsl : (setAt cs.toList (o + rows.length * e + 0) news).length = cs.size := by rw [setAt_length _ _ _ (by simpa using hfit)]; simp
      refine fin hrun (fun b2 hb2 hne => heap_setRow_other w b' _ b2 fun e => hne id _ rfl hT.1 (e ▸ hob)) (by simp [World.setRow]) rfl rfl rfl
        (fun b2 hb2 => .inr ⟨id, _, rfl, hT.1, by simp only [Bk, blk, Option.some.injEq] at hb2; rw [← hb2]; exact hob⟩)
        ⟨some ⟨b', o, none⟩, cap, by rw [upd_same, h3l], by rw [h3l]; exact hge, h4, h3e, .inr ⟨b', o, _, el', fz, rfl, setRow_heap w b' cs _ el' fz h6, ?_, ?_, ?_⟩⟩ rfl
      · simp only [List.size_toArray, hsl]; exact h6'
      · simp only [List.size_toArray, hsl]; exact h7
      · refine hnew _ _ (fun j p hj => ?_) (fun j c hj => ?_)
        · obtain ⟨c, c1, c2⟩ := h8 j p hj
          have hjl : j < rows.flatten.length := (List.getElem?_eq_some_iff.1 hj).1
          refine ⟨c, ?_, c2⟩
          simp only [List.getElem?_toArray]
          rw [setAt_get _ _ _ _ (by simp; omega), if_pos (by omega)]; simpa using c1
        · have hjl : j < news.length := (List.getElem?_eq_some_iff.1 hj).1
          simp only [List.getElem?_toArray]
          rw [setAt_get _ _ _ _ (by simp; omega), if_neg (by omega), if_pos (by omega)]
          rw [show o + (rows.length * e + j) - (o + rows.length * e + 0) = j by omega]
          exact hj

/-- A literal of one part whose cells lead to resources. -/
theorem L_lit_vw {id e : Nat} {row : List PC} {ids : List Nat} {s : S} {us : List V} {el : TypeId} {z : List V} (hx : okc x s) (hc : cellsOf s = some us) (hus : row.map (toV ids) = us) (hrl : row.length = e) (hm : mentI id ids = false)
    (he : elemSz P t = some (el, e)) (hz : zeroV P el = some z) (he0 : 0 < e) (heb : e ≤ 16777216) :
    Snd P ⟨d, .buildSlice t 1 #[(0, x)], ty, ps, af, g⟩ (rq x s) [] [id] (.one (.ar id)) [(id, some (.vw ids e [row]))] := by
  intro C st M ρ a w hH h1 hT hF hd k Q hk
  have e' := cellsOf_spec hc (hH.evS (ev_of hx h1))
  obtain ⟨ii, hu, hinf, hsz⟩ := elemSz_spec he
  obtain ⟨i', zv, hi', hzv, hzs⟩ := zeroV_len hz
  rw [hinf] at hi'; simp only [Option.some.injEq] at hi'; subst hi'
  have hul : us.length = e := by rw [← hus, List.length_map, hrl]
  have hcl : (a.eval x).cells.size = e := by have := e'.length; simp at this; omega
  have hfill : ∀ cur : Array Value, cur.size = e → Instr.fill (fun i => some (i * e, e)) cur [(0, a.eval x)] = some (a.eval x).cells := fun cur hcur => by
    simp only [Instr.fill]
    have hcond : ¬ ((a.eval x).cells.size ≠ e || 0 * e + (a.eval x).cells.size > cur.size) = true := by
      simp only [ne_eq, Bool.or_eq_true, decide_eq_true_eq]; omega
    have hfold := zipIdx_fold cur (0 * e) (a.eval x).cells.toList 0 cur (by simp; omega)
    have hfold' : (a.eval x).cells.zipIdx.foldl (fun cs (p : Value × Nat) => cs.setIfInBounds (0 * e + p.2) p.1) cur = (setAt cur.toList (0 * e) (a.eval x).cells.toList).toArray := by
      rw [← Array.foldl_toList]
      simpa using hfold
    rw [if_neg hcond, hfold']
    congr 1
    unfold setAt
    have : cur.toList.drop (0 * e + (a.eval x).cells.toList.length) = [] := by apply List.drop_eq_nil_of_le; simp; omega
    rw [this]; simp
  have hrun : (execOp a.eval ⟨d, .buildSlice t 1 #[(0, x)], ty, ps, af, g⟩).run P w = .ok (.value (.slice (some ⟨w.heap.size, 0, none⟩) 1 1)) (w.alloc (.cells (a.eval x).cells el)) := by
    have hn : ¬ 16777216 < e := by omega
    have h0 : ¬ e = 0 := by omega
    have hf := hfill ((Array.range (1 * e)).map fun x => zv.cells[x % zv.cells.size]!) (by simp)
    have hzrun : (zeroValue el).run P w = .ok zv w := by simp [zeroValue, typeInfo, hinf, hzv]
    simp [execOp, Instr.buildSlice, run_underlying hu, run_sizeOf hinf, hsz, hn, h0, newRow, hzrun] at hf ⊢
    simp [hf]
  unfold Oper.wp
  rw [hrun, Oper.upon_value]
  refine hk _ _ M _ (hH.alloc (val := .slice (some ⟨w.heap.size, 0, none⟩) 1 1) (fun b hb => by simp only [Bk, blk, Option.some.injEq] at hb; exact hb.symm) hF.1
    ⟨some ⟨w.heap.size, 0, none⟩, 1, upd_same _ _ _, by simp, by simp, by simp [hrl], .inr ⟨w.heap.size, 0, (a.eval x).cells, el, (0, 0), rfl, heap_push_new w _, fun i hi => by simp, by omega, fun j p hj => ?_⟩⟩ (by simp only [RepS, RepV]; exact ⟨(upd_same _ _ _).symm, rfl⟩) hd)
  simp only [List.flatten_cons, List.flatten_nil, List.append_nil] at hj
  obtain ⟨c, c1, c2⟩ := repVs_at e' (m := j) (v := toV ids p) (by rw [← hus, List.getElem?_map, hj]; rfl)
  refine ⟨c, by rw [Nat.zero_add]; simpa using c1, RepV.agree (upd_agree ρ id _) _ _ (fun i hi => by subst hi; exact toV_ment hm p) c2⟩
end
section
variable {P : Program} {C : Ctx} {k : List Frm} {n : Nat} {sl : Slots} {tab : Tab} {Q : Exit → St → Prop} {all : Array Oper} {rest : List Oper} {cur : Cur}
theorem g_idxW (T : Ty P) {d : Nat} {x y : Operand} {t : TypeId} {ty : TypeId} {ps : String} {af : Array Edge} {g0 : Option (Nat × Bool)} {gs : Slots} {md : Mode} (hC : C.low) {id e : Nat} {rows : List (List PC)} {ids : List Nat} {k0 : IntKind} {i : Int} {el : TypeId}
    (hx : ev sl x = some (.one (.ar id))) (hy : ev sl y = some (Kk k0 i)) (hT : tg tab id = some (.vw ids e rows)) (he : T.es t = some (el, e)) (h0 : 0 ≤ i) (hi : i < rows.length) (hm : metL all sl g0 = some gs) (hd : Nat.blt d n = true)
    (g : Goal P C (.ops all rest (nx md ⟨some d, gs ++ (rq x (.one (.ar id)) ++ rq y (Kk k0 i)), [(id, .vw ids e rows)], [], .one (.el id (i.toNat * e)), []⟩)) k n ((d, .one (.el id (i.toNat * e))) :: sl) tab Q) :
    Goal P C (.ops all (⟨some d, .indexAddr t x y, ty, ps, af, g0⟩ :: rest) md) k n sl tab Q := by
  have e1 := of_ev (st := ⟨n, sl, tab⟩) hx
  have e2 := of_ev (st := ⟨n, sl, tab⟩) hy
  have := metL_step hm (L_index_vw (ids := ids) (ty := ty) (ps := ps) (af := af) (g := g0) (d := some d) e1.1 e2.1 (T.es_ok _ _ he) h0 hi) (n := n) (tab := tab)
  exact g_law (L := ⟨some d, gs ++ (rq x (.one (.ar id)) ++ rq y (Kk k0 i)), [(id, .vw ids e rows)], [], .one (.el id (i.toNat * e)), []⟩) hC this.1 rfl ⟨by rw [okS_append, okS_append]; exact ⟨this.2, e1.2, e2.2⟩, ⟨hT, trivial⟩, rfl, hd⟩ g
theorem g_lenW (T : Ty P) {d : Nat} {x : Operand} {t : TypeId} {ty : TypeId} {ps : String} {af : Array Edge} {g0 : Option (Nat × Bool)} {gs : Slots} {md : Mode} (hC : C.low) {id e : Nat} {rows : List (List PC)} {ids : List Nat} {el : TypeId} {m : Nat}
    (hx : ev sl x = some (.one (.ar id))) (hT : tg tab id = some (.vw ids e rows)) (he : T.es t = some (el, m)) (hm : metL all sl g0 = some gs) (hd : Nat.blt d n = true)
    (g : Goal P C (.ops all rest (nx md ⟨some d, gs ++ rq x (.one (.ar id)), [(id, .vw ids e rows)], [], I rows.length, []⟩)) k n ((d, I rows.length) :: sl) tab Q) :
    Goal P C (.ops all (⟨some d, .call ⟨.builtin .len, #[x], #[t]⟩, ty, ps, af, g0⟩ :: rest) md) k n sl tab Q := by
  have e1 := of_ev (st := ⟨n, sl, tab⟩) hx
  have := metL_step hm (L_len_vw (e := e) (rows := rows) (ids := ids) (as' := #[t]) (ty := ty) (ps := ps) (af := af) (g := g0) (d := some d) e1.1 rfl (T.es_ok _ _ he)) (n := n) (tab := tab)
  exact g_law (L := ⟨some d, gs ++ rq x (.one (.ar id)), [(id, .vw ids e rows)], [], I rows.length, []⟩) hC this.1 rfl ⟨by rw [okS_append]; exact ⟨this.2, e1.2⟩, ⟨hT, trivial⟩, rfl, hd⟩ g
theorem g_loadW (T : Ty P) {d : Nat} {x : Operand} {t ty : TypeId} {ps : String} {af : Array Edge} {g0 : Option (Nat × Bool)} {gs : Slots} {md : Mode} (hC : C.low) {id kk e : Nat} {rows : List (List PC)} {ids : List Nat} (vs : List V) {s : Option Nat} {v : S}
    (hx : ev sl x = some (.one (.el id kk))) (hT : tg tab id = some (.vw ids e rows)) (hsh : T.sh t = some s) (hvs : ∀ j v, vs[j]? = some v → ∃ p, rows.flatten[kk + j]? = some p ∧ toV ids p = v) (hv : ofCells s vs = some v) (hm : metL all sl g0 = some gs) (hd : Nat.blt d n = true)
    (g : Goal P C (.ops all rest (nx md ⟨some d, gs ++ rq x (.one (.el id kk)), [(id, .vw ids e rows)], [], v, []⟩)) k n ((d, v) :: sl) tab Q) :
    Goal P C (.ops all (⟨some d, .load t x, ty, ps, af, g0⟩ :: rest) md) k n sl tab Q := by
  have e1 := of_ev (st := ⟨n, sl, tab⟩) hx
  have := metL_step hm (L_load_vw (e := e) (ty := ty) (ps := ps) (af := af) (g := g0) (d := some d) e1.1 (T.sh_ok _ _ hsh) hvs hv) (n := n) (tab := tab)
  exact g_law (L := ⟨some d, gs ++ rq x (.one (.el id kk)), [(id, .vw ids e rows)], [], v, []⟩) hC this.1 rfl ⟨by rw [okS_append]; exact ⟨this.2, e1.2⟩, ⟨hT, trivial⟩, rfl, hd⟩ g
theorem g_storeW (T : Ty P) {x y : Operand} {t ty : TypeId} {ps : String} {af : Array Edge} {g0 : Option (Nat × Bool)} {gs : Slots} {md : Mode} (hC : C.low) {id kk e : Nat} {rows : List (List PC)} (rows' : List (List PC)) {ids : List Nat} (ids' : List Nat) {us : List V} {s : S} {sh : Option Nat}
    (hx : ev sl x = some (.one (.el id kk))) (hy : ev sl y = some s) (hT : tg tab id = some (.vw ids e rows)) (hsh : T.sh t = some sh) (hc : cellsOf s = some us) (hl : us.length = sh.getD 1) (hln : rows'.length = rows.length) (hle : ∀ r ∈ rows', r.length = e) (hb : kk + us.length ≤ rows.length * e)
    (hn : ∀ q p, rows'.flatten[q]? = some p → (kk ≤ q ∧ us[q - kk]? = some (toV ids' p)) ∨ ((q < kk ∨ kk + us.length ≤ q) ∧ ∃ p0, rows.flatten[q]? = some p0 ∧ toV ids p0 = toV ids' p)) (hm : metL all sl g0 = some gs)
    (g : Goal P C (.ops all rest (nx md ⟨none, gs ++ (rq x (.one (.el id kk)) ++ rq y s), [(id, .vw ids e rows)], [], .un, [(id, some (.vw ids' e rows'))]⟩)) k n sl ((id, some (.vw ids' e rows')) :: tab) Q) :
    Goal P C (.ops all (⟨none, .store t x y, ty, ps, af, g0⟩ :: rest) md) k n sl tab Q := by
  have e1 := of_ev (st := ⟨n, sl, tab⟩) hx
  have e2 := of_ev (st := ⟨n, sl, tab⟩) hy
  have := metL_step hm (L_store_vw (ty := ty) (ps := ps) (af := af) (g := g0) (d := none) e1.1 e2.1 (T.sh_ok _ _ hsh) hc hl hln hle hb hn) (n := n) (tab := tab)
  exact g_law (L := ⟨none, gs ++ (rq x (.one (.el id kk)) ++ rq y s), [(id, .vw ids e rows)], [], .un, [(id, some (.vw ids' e rows'))]⟩) hC this.1 rfl ⟨by rw [okS_append, okS_append]; exact ⟨this.2, e1.2, e2.2⟩, ⟨hT, trivial⟩, rfl, rfl⟩ g
theorem g_appendW (T : Ty P) (id' : Nat) {d : Nat} {x y : Operand} {t tx ty : TypeId} {ps : String} {af : Array Edge} {g0 : Option (Nat × Bool)} {gs : Slots} {md : Mode} (hC : C.low) {id e bytes : Nat} {rows rows2 : List (List PC)} {ids ids2 : List Nat} (ids' : List Nat) (rows3 : List (List PC)) {sy : S} {rt2 : RL} {el : TypeId} {z : List V}
    (hx : ev sl x = some (.one (.ar id))) (hy : ev sl y = some sy) (hT : tg tab id = some (.vw ids e rows)) (hT2 : rdT tab rt2 = rt2) (hs : SrcW P e tx sy rt2 rows2 ids2) (hm1 : mentI id' ids' = false) (h3l : rows3.length = rows.length + rows2.length) (h3e : ∀ r ∈ rows3, r.length = e)
    (h31 : ∀ (j : Nat) (x' : PC), j < rows.length * e → rows3.flatten[j]? = some x' → ∃ x, rows.flatten[j]? = some x ∧ toV ids x = toV ids' x') (h32 : ∀ (j : Nat) (x' : PC), rows3.flatten[rows.length * e + j]? = some x' → ∃ x, rows2.flatten[j]? = some x ∧ toV ids2 x = toV ids' x')
    (he : T.es t = some (el, e)) (hz : T.zs el = some z) (hzl : Nat.beq z.length e = true) (hby : (P.info? el).map (·.bytes) = some bytes)
    (hb : (rows.length + rows2.length) * bytes ≤ 140737488355328) (hlen : rows.length + rows2.length ≤ 9223372036854775807) (hm : metL all sl g0 = some gs) (hd : Nat.blt d n = true) (hf : (Nat.ble 100 id' && freshB id' ⟨n, sl, tab⟩) = true)
    (g : Goal P C (.ops all rest (nx md ⟨some d, gs ++ (rq x (.one (.ar id)) ++ rq y sy), (id, .vw ids e rows) :: rt2, [id'], .one (.ar id'), [(id', some (.vw ids' e rows3)), (id, none)]⟩)) k n ((d, .one (.ar id')) :: sl) ([(id', some (.vw ids' e rows3)), (id, none)] ++ tab) Q) :
    Goal P C (.ops all (⟨some d, .call ⟨.builtin .append, #[x, y], #[t, tx]⟩, ty, ps, af, g0⟩ :: rest) md) k n sl tab Q := by
  have e1 := of_ev (st := ⟨n, sl, tab⟩) hx
  have e2 := of_ev (st := ⟨n, sl, tab⟩) hy
  have := metL_step hm (L_append_vw (P := P) (ty := ty) (ps := ps) (af := af) (g := g0) (d := some d) (id' := id') e1.1 e2.1 hs hm1 h3l h3e h31 h32 (T.es_ok _ _ he) (T.zs_ok _ _ hz) (Nat.eq_of_beq_eq_true hzl) hby hb hlen) (n := n) (tab := tab)
  exact g_law (L := ⟨some d, gs ++ (rq x (.one (.ar id)) ++ rq y sy), (id, .vw ids e rows) :: rt2, [id'], .one (.ar id'), [(id', some (.vw ids' e rows3)), (id, none)]⟩) hC this.1 rfl
    ⟨by rw [okS_append, okS_append]; exact ⟨this.2, e1.2, e2.2⟩, ⟨hT, rdT_ok hT2⟩, fr_one hf, hd⟩ g
theorem g_litW (T : Ty P) {d : Nat} {x : Operand} {t ty : TypeId} {ps : String} {af : Array Edge} {g0 : Option (Nat × Bool)} {gs : Slots} {md : Mode} (hC : C.low) {e : Nat} (row : List PC) (ids : List Nat) {s : S} {us : List V} {el : TypeId} {z : List V}
    (hx : ev sl x = some s) (hc : cellsOf s = some us) (hus : row.map (toV ids) = us) (hrl : row.length = e) (hmx : mentI (1000 + d) ids = false) (he : T.es t = some (el, e)) (hz : T.zs el = some z) (he0 : Nat.blt 0 e = true) (heb : Nat.ble e 16777216 = true)
    (hm : metL all sl g0 = some gs) (hd : Nat.blt d n = true) (hf : (Nat.ble 100 (1000 + d) && freshB (1000 + d) ⟨n, sl, tab⟩) = true)
    (g : Goal P C (.ops all rest (nx md ⟨some d, gs ++ rq x s, [], [1000 + d], .one (.ar (1000 + d)), [(1000 + d, some (.vw ids e [row]))]⟩)) k n ((d, .one (.ar (1000 + d))) :: sl) ((1000 + d, some (.vw ids e [row])) :: tab) Q) :
    Goal P C (.ops all (⟨some d, .buildSlice t 1 #[(0, x)], ty, ps, af, g0⟩ :: rest) md) k n sl tab Q := by
  have e1 := of_ev (st := ⟨n, sl, tab⟩) hx
  have := metL_step hm (L_lit_vw (P := P) (ty := ty) (ps := ps) (af := af) (g := g0) (d := some d) (id := 1000 + d) e1.1 hc hus hrl hmx (T.es_ok _ _ he) (T.zs_ok _ _ hz) (by simpa [Nat.blt_eq] using he0) (Nat.le_of_ble_eq_true heb)) (n := n) (tab := tab)
  exact g_law (L := ⟨some d, gs ++ rq x s, [], [1000 + d], .one (.ar (1000 + d)), [(1000 + d, some (.vw ids e [row]))]⟩) hC this.1 rfl ⟨by rw [okS_append]; exact ⟨this.2, e1.2⟩, trivial, fr_one hf, hd⟩ g

/-- An owned array of pure cells, told so. -/
theorem HoldsR.to_vw {M : Mem} {ρ : Nat → Value} {w : World} {id e : Nat} (ids : List Nat) {rows : List (List PV)} (h : HoldsR M ρ w id (.arr e rows)) : HoldsR M ρ w id (.vw ids e (rows.map (·.map PC.p))) := by
  obtain ⟨a, cap, h1, h2, h3, hl, h4⟩ := h.toV
  have hfl : (rows.map (·.map PC.p)).flatten = rows.flatten.map PC.p := by rw [List.map_flatten]
  refine ⟨a, cap, by rw [List.length_map]; exact h1, by rw [List.length_map]; exact h2, h3, fun r hr => ?_, ?_⟩
  · obtain ⟨r0, h0, rfl⟩ := List.mem_map.1 hr
    rw [List.length_map]; exact hl r0 h0
  · rcases h4 with h4 | ⟨b, o, cs, el, fz, h5, h6, h6', h7, h8⟩
    · exact .inl h4
    · refine .inr ⟨b, o, cs, el, fz, h5, h6, h6', h7, fun j p hj => ?_⟩
      rw [hfl, List.getElem?_map, Option.map_eq_some_iff] at hj
      obtain ⟨p, hp, rfl⟩ := hj
      exact h8 j p hp
theorem g_toW (hc : lst cur = true) (id : Nat) (ids : List Nat) {e : Nat} {rows : List (List PV)} {rows' : List (List PC)} (hid : tg tab id = some (.arr e rows)) (hr : rows.map (·.map PC.p) = rows') (g : Goal P C cur k n sl ((id, some (.vw ids e rows')) :: tab) Q) : Goal P C cur k n sl tab Q := by
  subst hr
  exact g_res hc hid (fun _ _ _ h => h.to_vw ids) g
/-- The same array by another list of ids. -/
theorem g_idsW (hc : lst cur = true) (id : Nat) {ids : List Nat} (ids' : List Nat) {e : Nat} {rows : List (List PC)} (rows' : List (List PC)) (hid : tg tab id = some (.vw ids e rows)) (hl : rows'.length = rows.length) (hle : ∀ r ∈ rows', r.length = e)
    (h : ∀ (j : Nat) (x' : PC), rows'.flatten[j]? = some x' → ∃ x, rows.flatten[j]? = some x ∧ toV ids x = toV ids' x') (g : Goal P C cur k n sl ((id, some (.vw ids' e rows')) :: tab) Q) : Goal P C cur k n sl tab Q :=
  g_res hc hid (fun M ρ w hr => RwR.vw (F := fun _ => True) hl hle (fun j x' hj => let ⟨x, h1, h2⟩ := h j x' hj; ⟨x, h1, by rw [h2]; exact RwV.refl _⟩) M ρ w id trivial hr) g
/-- A whole row is stored. -/
theorem row_store {e i : Nat} {ids ids' : List Nat} {rows : List (List PC)} {row' : List PC} (hl : ∀ r ∈ rows, r.length = e) (hr : row'.length = e) (hi : ∀ x ∈ rows.flatten, toV ids x = toV ids' x) :
    ∀ q p, (rows.set i row').flatten[q]? = some p → (i * e ≤ q ∧ (row'.map (toV ids'))[q - i * e]? = some (toV ids' p)) ∨ ((q < i * e ∨ i * e + (row'.map (toV ids')).length ≤ q) ∧ ∃ p0, rows.flatten[q]? = some p0 ∧ toV ids p0 = toV ids' p) := fun q p hq => by
  rcases flat_set hl hr hq with ⟨h1, h2⟩ | ⟨h1, h2⟩
  · obtain ⟨h2, h3⟩ := h2
    subst h2
    exact .inl ⟨by omega, by rw [List.getElem?_map, show i * e + h1 - i * e = h1 by omega, h3.2]; rfl⟩
  · exact .inr ⟨by rw [List.length_map, hr]; exact h1, p, h2, hi p (List.mem_of_getElem? h2)⟩
/-- Rows joined to rows, by a longer list of ids. -/
theorem rows_join {e : Nat} {ids ids2 ids' : List Nat} {rows rows2 rows2' : List (List PC)} (hl : ∀ r ∈ rows, r.length = e) (hl2 : ∀ r ∈ rows2', r.length = e) (hn : rows2'.length = rows2.length) (hi : ∀ x ∈ rows.flatten, toV ids x = toV ids' x)
    (h2 : ∀ (j : Nat) (x' : PC), rows2'.flatten[j]? = some x' → ∃ x, rows2.flatten[j]? = some x ∧ toV ids2 x = toV ids' x') :
    (rows ++ rows2').length = rows.length + rows2.length ∧ (∀ r ∈ rows ++ rows2', r.length = e) ∧ (∀ (j : Nat) (x' : PC), j < rows.length * e → (rows ++ rows2').flatten[j]? = some x' → ∃ x, rows.flatten[j]? = some x ∧ toV ids x = toV ids' x') ∧
      ∀ (j : Nat) (x' : PC), (rows ++ rows2').flatten[rows.length * e + j]? = some x' → ∃ x, rows2.flatten[j]? = some x ∧ toV ids2 x = toV ids' x' := by
  have hf := flat_len hl
  refine ⟨by rw [List.length_append, hn], fun r hr => (List.mem_append.1 hr).elim (hl r) (hl2 r), fun j x' hj hx => ?_, fun j x' hx => ?_⟩
  · rw [List.flatten_append, List.getElem?_append_left (by omega)] at hx
    exact ⟨x', hx, hi x' (List.mem_of_getElem? hx)⟩
  · rw [List.flatten_append, List.getElem?_append_right (by omega), hf, Nat.add_sub_cancel_left] at hx
    exact h2 j x' hx
end
end Hw
/- The engine, part BH: resources lent to a call as memory that nobody writes; resources that are written no more. -/
namespace Hw
open Go

open Classical in
/-- Memory with the cells of these resources' blocks. -/
noncomputable def lentN (M : Mem) (ρ : Nat → Value) (w : World) (B : RL) : Mem := fun b o => match M b o with
  | some v => some v
  | none => if ∃ i r, (i, r) ∈ B ∧ Bk (ρ i) b then w.cell? ⟨b, o, none⟩ else none
def HasAll (M : Mem) (ρ : Nat → Value) (w : World) (B : RL) : Prop := Imm M w ∧ ∀ i r, (i, r) ∈ B → HoldsR M ρ w i r
theorem lentN_le {M : Mem} {ρ : Nat → Value} {w : World} {B : RL} : MLe M (lentN M ρ w B) := fun b o v hv => by simp only [lentN, hv]
theorem lentN_imm {M : Mem} {ρ : Nat → Value} {w : World} {B : RL} (h : Imm M w) : Imm (lentN M ρ w B) w := fun b o v hv => by
  simp only [lentN] at hv
  split at hv
  · rename_i u hu; simp only [Option.some.injEq] at hv; subst hv; exact h b o u hu
  · split at hv
    · exact hv
    · cases hv
theorem lentN_new {M : Mem} {ρ : Nat → Value} {w : World} {B : RL} {b o : Nat} {v : Value} (h : lentN M ρ w B b o = some v) : M b o = some v ∨ ∃ i r, (i, r) ∈ B ∧ Bk (ρ i) b := by
  simp only [lentN] at h
  split at h
  · rename_i u hu; simp only [Option.some.injEq] at h; subst h; exact .inl hu
  · split at h
    · rename_i hb; exact .inr hb
    · cases h
theorem lentN_cell {M : Mem} {ρ : Nat → Value} {w : World} {B : RL} (hI : Imm M w) {b : Nat} (hb : ∃ i r, (i, r) ∈ B ∧ Bk (ρ i) b) {cs : Array Value} {el : TypeId} {fz : Nat × Nat} (hh : w.heap[b]? = some (.cells cs el fz)) (i : Nat) (c : Value) (hc : cs[i]? = some c) : lentN M ρ w B b i = some c := by
  have hc' : w.cell? ⟨b, i, none⟩ = some c := by simp [World.cell?, hh, hc]
  simp only [lentN]
  cases hm0 : M b i with
  | none => simp only; rw [if_pos hb]; exact hc'
  | some u => have := hI b i u hm0; rw [hc'] at this; exact this.symm
theorem lent_arr {M : Mem} {ρ : Nat → Value} {w : World} {B : RL} (hI : Imm M w) {v : Value} {e : Nat} {rs : List (List PV)} (h : ArrIn M w v e rs) (hb : ∀ b, blk v = some b → ∃ i r, (i, r) ∈ B ∧ Bk (ρ i) b) : RepPV (lentN M ρ w B) (.sl e rs) v := by
  obtain ⟨a0, cap, h1, h2, h3, h4⟩ := h
  simp only [RepPV]
  refine ⟨a0, cap, h1, h2, Nat.le_trans h2 h3, ?_⟩
  rcases h4 with ⟨rfl, hc⟩ | ⟨b, o, cs, el, fz, h5, h6, h6', h7, h8⟩
  · exact .inl (List.length_eq_zero_iff.1 (by omega))
  · exact .inr ⟨b, o, h5, RowsIn.mono lentN_le (fun i c hc => lentN_cell hI (hb b (by rw [h1, h5]; rfl)) h6 i c hc) _ _ h8⟩

def LnV (B : RL) (v v' : V) : Prop := ∀ M ρ w u, HasAll M ρ w B → RepV M ρ v u → RepV (lentN M ρ w B) ρ v' u
def LnVs (B : RL) (v v' : List V) : Prop := ∀ M ρ w u, HasAll M ρ w B → RepVs M ρ v u → RepVs (lentN M ρ w B) ρ v' u
def LnS (B : RL) (v v' : S) : Prop := ∀ M ρ w u, HasAll M ρ w B → RepS M ρ v u → RepS (lentN M ρ w B) ρ v' u
def LnSs (B : RL) (v v' : List S) : Prop := ∀ M ρ w u, HasAll M ρ w B → RepSs M ρ v u → RepSs (lentN M ρ w B) ρ v' u
section
variable {B : RL}
theorem LnV.le {v v' : V} (h : LeV v v') : LnV B v v' := fun _ _ _ _ _ hr => h _ _ _ (RepV.mono lentN_le _ _ hr)
theorem LnV.refl (v : V) : LnV B v v := .le (.refl v)
theorem LnS.le {v v' : S} (h : LeS v v') : LnS B v v' := fun _ _ _ _ _ hr => h _ _ _ (RepS.mono lentN_le _ _ hr)
theorem LnS.refl (v : S) : LnS B v v := .le (.refl v)
theorem LnVs.nil : LnVs B [] [] := fun _ _ _ x _ hr => by cases x <;> simp only [RepVs] at hr ⊢
theorem LnVs.cons {v v' : V} {vs vs' : List V} (h : LnV B v v') (hs : LnVs B vs vs') : LnVs B (v :: vs) (v' :: vs') := fun M ρ w x hf hr => by
  cases x with
  | nil => simp only [RepVs] at hr
  | cons c cs => simp only [RepVs] at hr ⊢; exact ⟨h _ _ _ _ hf hr.1, hs _ _ _ _ hf hr.2⟩
theorem LnVs.refl : ∀ v : List V, LnVs B v v
  | [] => .nil
  | v :: vs => .cons (.refl v) (LnVs.refl vs)
theorem LnS.one {v v' : V} (h : LnV B v v') : LnS B (.one v) (.one v') := fun M ρ w x hf hr => by simp only [RepS] at hr ⊢; exact h _ _ _ _ hf hr
theorem LnS.agg {v v' : List V} (h : LnVs B v v') : LnS B (.agg v) (.agg v') := fun M ρ w x hf hr => by
  simp only [RepS] at hr ⊢; obtain ⟨cs, h1, h2⟩ := hr; exact ⟨cs, h1, h _ _ _ _ hf h2⟩
theorem LnSs.nil : LnSs B [] [] := fun _ _ _ x _ hr => by cases x <;> simp only [RepSs] at hr ⊢
theorem LnSs.cons {v v' : S} {vs vs' : List S} (h : LnS B v v') (hs : LnSs B vs vs') : LnSs B (v :: vs) (v' :: vs') := fun M ρ w x hf hr => by
  cases x with
  | nil => simp only [RepSs] at hr
  | cons c cs => simp only [RepSs] at hr ⊢; exact ⟨h _ _ _ _ hf hr.1, hs _ _ _ _ hf hr.2⟩
theorem LnSs.refl : ∀ v : List S, LnSs B v v
  | [] => .nil
  | v :: vs => .cons (.refl v) (LnSs.refl vs)
theorem LnV.ar {id e : Nat} {rows : List (List PV)} (hm : (id, .arr e rows) ∈ B) : LnV B (.ar id) (.p (.sl e rows)) := fun M ρ w u hH hr => by
  simp only [RepV] at hr ⊢
  have hA : ArrIn M w (ρ id) e rows := hH.2 id _ hm
  rw [hr.1]
  obtain ⟨a, cap, h1, _⟩ := hA
  have hA : ArrIn M w (ρ id) e rows := hH.2 id _ hm
  exact lent_arr hH.1 hA fun b hb => ⟨id, _, hm, by rw [h1] at hb ⊢; exact hb⟩
theorem LnV.nv {id e q : Nat} {L : List (List (List PV))} {rs : List (List PV)} (hm : (id, .bag e L) ∈ B) (hq : L[q]? = some rs) : LnV B (.nv id q) (.p (.sl e rs)) := fun M ρ w u hH hr => by
  simp only [RepV] at hr ⊢
  obtain ⟨xs, f1, f2, _⟩ := hr
  exact lent_arr hH.1 (bag_inner (hH.2 id _ hm) hq f1 f2) fun b hb => ⟨id, _, hm, by rw [f1]; exact bk_of f2 hb⟩
theorem LnV.vw {id e : Nat} {ids : List Nat} {rows : List (List PC)} {rows' : List (List PV)} (hm : (id, .vw ids e rows) ∈ B) (hl : rows'.length = rows.length) (hle : ∀ r ∈ rows', r.length = e)
    (hc : ∀ (j : Nat) (x' : PV), rows'.flatten[j]? = some x' → ∃ x, rows.flatten[j]? = some x ∧ LnV B (toV ids x) (.p x')) : LnV B (.ar id) (.p (.sl e rows')) := fun M ρ w u hH hr => by
  simp only [RepV, RepPV] at hr ⊢
  obtain ⟨a, cap, h1, h2, h3, _, h4⟩ := hH.2 id _ hm
  refine ⟨a, cap, by rw [hl]; exact hr.1.trans h1, by omega, by omega, ?_⟩
  rcases h4 with ⟨rfl, hcap⟩ | ⟨b, o, cs, el, fz, h5, h6, h6', h7, h8⟩
  · exact .inl (List.length_eq_zero_iff.1 (by omega))
  · refine .inr ⟨b, o, h5, ?_⟩
    have hb : ∃ i r, (i, r) ∈ B ∧ Bk (ρ i) b := ⟨id, _, hm, by rw [h1, h5]; rfl⟩
    obtain ⟨ds, k9, k10⟩ := repVs_of (M := lentN M ρ w B) (ρ := ρ) (vs := rows'.flatten.map V.p) (g := fun j => cs[o + j]?) fun j v hj => by
      rw [List.getElem?_map, Option.map_eq_some_iff] at hj
      obtain ⟨x', hx', rfl⟩ := hj
      obtain ⟨x, hx, hv⟩ := hc j x' hx'
      obtain ⟨c, c1, c2⟩ := h8 j x hx
      exact ⟨c, c1, hv _ _ _ _ hH c2⟩
    exact RowsIn.mono (MLe.refl _) (fun i c hcc => lentN_cell hH.1 hb h6 i c hcc) _ _ (RowsIn.of_cells (ρ := ρ) hle k9 fun j c hj => k10 j c hj)
end
/-- Row by row, so cell by cell. -/
theorem flat_rel {α β : Type} {e : Nat} {rows : List (List α)} {rows' : List (List β)} {R : α → β → Prop} (hl : ∀ r ∈ rows, r.length = e) (hl' : ∀ r ∈ rows', r.length = e)
    (h : ∀ (i : Nat) (row' : List β), rows'[i]? = some row' → ∃ row, rows[i]? = some row ∧ ∀ (c : Nat) (x' : β), row'[c]? = some x' → ∃ x, row[c]? = some x ∧ R x x') :
    ∀ (j : Nat) (x' : β), rows'.flatten[j]? = some x' → ∃ x, rows.flatten[j]? = some x ∧ R x x' := fun j x' hj => by
  obtain ⟨i, c, row', h1, h2, h3, h4⟩ := flat_get hl' hj
  obtain ⟨row, g1, g2⟩ := h i row' h3
  obtain ⟨x, g3, g4⟩ := g2 c x' h4
  exact ⟨x, by rw [h1, flat_at hl h2, g1]; exact g3, g4⟩
section
variable {P : Program} {d : Option Nat} {ty : TypeId} {ps : String} {af : Array Edge} {g : Option (Nat × Bool)}
/-- A call that is lent resources, owns nothing and hands back plain cells. -/
theorem L_callN {f : FuncId} {args : List S} {res : S} (h : FnOK P f args [] res []) (B : RL) {x : Operand} {l : List Operand} {ts : Array TypeId} {first caps : List V} {ss : List S}
    (hx : okc x (.one (.cl f first caps))) (hl : okcs l ss) (hle : LnSs B (ones first ++ ss ++ ones caps) args) (hf : flatS res = true) :
    Snd P ⟨d, .call ⟨.value x, l.toArray, ts⟩, ty, ps, af, g⟩ (rq x (.one (.cl f first caps)) ++ rqs l ss) B [] res [] := by
  intro C st M ρ a w hH h1 hT hF hd k Q hk
  rw [okS_append] at h1
  have e1 := hH.evS (ev_of hx h1.1)
  have e2 := hH.evsS (evs_of hl h1.2)
  simp only [RepS, RepV] at e1
  obtain ⟨xs, ys, e3, e4, e5⟩ := e1
  have hall : HasAll M ρ w B := ⟨hH.run.imm, fun i r hm => hH.tabs.res i r (okT_mem hT hm)⟩
  have e6 : RepSs (lentN M ρ w B) ρ args (xs ++ l.map a.eval ++ ys) := hle _ _ _ _ hall (RepSs_append (RepSs_append (RepSs_ones e4) e2) (RepSs_ones e5))
  have e7 : THolds (lentN M ρ w B) ρ w (tb []) := ⟨fun _ _ h => (by cases h), fun _ _ _ _ _ h => (by cases h), fun _ _ _ h => (by cases h)⟩
  unfold Oper.wp
  rw [run_call h.1 e3, Oper.upon_enter]
  refine Calls.mono (h.2 (lentN M ρ w B) ρ w _ e6 e7 (lentN_imm hH.run.imm) (hH.gok.mono lentN_le)) fun e w' ⟨v, M', ρ', he, hr⟩ => ?_
  subst he
  have hH' := hH.grow (w' := w') (fun b hb => hr.fram b hb (fun ⟨i, r, h, _⟩ => by cases h)) hr.size hr.os hr.tape hr.output
  exact hk _ _ _ _ (hH'.app_val hd (flatS_any hf hr.rep))
end
section
variable {P : Program} {C : Ctx} {k : List Frm} {n : Nat} {sl : Slots} {tab : Tab} {Q : Exit → St → Prop} {all : Array Oper} {rest : List Oper} {cur : Cur}
theorem g_callN {d : Nat} {x : Operand} {l : List Operand} {ts : Array TypeId} {ty : TypeId} {ps : String} {af : Array Edge} {g0 : Option (Nat × Bool)} {gs : Slots} {md : Mode} (hC : C.low) {f : FuncId} {args ss : List S} {first caps : List V} {res : S}
    (h : FnOK P f args [] res []) (B : RL) (hx : ev sl x = some (.one (.cl f first caps))) (hl : evs sl l = some ss) (ha : LnSs B (ones first ++ ss ++ ones caps) args) (hc : flatS res = true) (hm : metL all sl g0 = some gs) (hB : rdT tab B = B) (hd : Nat.blt d n = true)
    (g : Goal P C (.ops all rest (nx md ⟨some d, gs ++ (rq x (.one (.cl f first caps)) ++ rqs l ss), B, [], res, []⟩)) k n ((d, res) :: sl) tab Q) :
    Goal P C (.ops all (⟨some d, .call ⟨.value x, l.toArray, ts⟩, ty, ps, af, g0⟩ :: rest) md) k n sl tab Q := by
  have e1 := of_ev (st := ⟨n, sl, tab⟩) hx
  have e2 := of_evs (st := ⟨n, sl, tab⟩) hl
  have := metL_step hm (L_callN (ty := ty) (ps := ps) (af := af) (g := g0) (d := some d) (ts := ts) h B e1.1 e2.1 ha hc) (n := n) (tab := tab)
  exact g_law (L := ⟨some d, gs ++ (rq x (.one (.cl f first caps)) ++ rqs l ss), B, [], res, []⟩) hC this.1 rfl ⟨by rw [okS_append, okS_append]; exact ⟨this.2, e1.2, e2.2⟩, rdT_ok hB, rfl, hd⟩ g
/-- Resources, said by what is written no more. -/
def LnR (B : RL) (r r' : Res) : Prop := ∀ M ρ w i, HasAll M ρ w B → HoldsR M ρ w i r → HoldsR (lentN M ρ w B) ρ w i r'
theorem LnR.box {B : RL} {vs vs' : List V} (h : LnVs B vs vs') : LnR B (.box vs) (.box vs') := fun _ _ _ _ hr ⟨b, cs, el, e1, e2, e3⟩ => ⟨b, cs, el, e1, e2, h _ _ _ _ hr e3⟩
def upN (B : RL) (tab : Tab) : List (Nat × Res) → Prop
  | [] => True
  | (i, r') :: l => (∃ r, tg tab i = some r ∧ (hasB i B.ids = false ∧ LnR B r r')) ∧ upN B tab l
theorem upN_tg {B : RL} {tab b : Tab} : ∀ {ups : List (Nat × Res)}, upN B tab ups → ∀ {k : Nat} {r : Res}, tg (resT ups ++ b) k = some r →
    tg b k = some r ∨ ∃ r0, tg tab k = some r0 ∧ k ∉ B.ids ∧ LnR B r0 r
  | [], _, k, r, h => .inl h
  | (t, s') :: l, hu, k, r, h => by
    simp only [resT, List.cons_append, tg_cons] at h
    split at h
    · rename_i e; subst e; simp only [Option.some.injEq] at h; subst h
      obtain ⟨r0, h1, h2, h3⟩ := hu.1
      have n1 : t ∉ B.ids := fun hm => by have := mem_hasB hm; rw [h2] at this; cases this
      exact .inr ⟨r0, h1, n1, h3⟩
    · exact upN_tg hu.2 h
theorem g_freezeN (hc : lst cur = true) (B : RL) (hBT : rdT tab B = B) (ups : Slots) (hS : upS (LnS B) sl ups) (bs : List (Nat × Res)) (hB : upN B tab bs)
    (g : Goal P C cur k n (ups ++ sl) (resT bs ++ (offs B.ids ++ tab)) Q) : Goal P C cur k n sl tab Q := by
  refine g_turn hc (fun {M ρ a w} h => ?_) g
  have hTB := rdT_ok (n := n) (sl := sl) hBT
  have hall : HasAll M ρ w B := ⟨h.run.imm, fun i r hm => h.tabs.res i r (okT_mem hTB hm)⟩
  have htab : ∀ i r, tg (resT bs ++ (offs B.ids ++ tab)) i = some r → i ∉ B.ids ∧ ∃ r0, tg tab i = some r0 ∧ (r = r0 ∨ LnR B r0 r) := fun i r hi => by
    rcases upN_tg hB hi with h1 | ⟨r0, h1, h2, h3⟩
    · have := tg_offs h1
      exact ⟨this.1, r, this.2, .inl rfl⟩
    · exact ⟨h2, r0, h1, .inr h3⟩
  refine ⟨lentN M ρ w B, ρ, h.dfr, h.sz, fun k s hk => ?_, ⟨fun i r hi => ?_, fun i j ri rj b hi hj hne hbi hbj => ?_, fun i r b hi hb o => ?_⟩, fun i r b hi hb => ?_,
    ⟨lentN_imm h.run.imm, h.run.fram, h.run.size, h.run.base.trans lentN_le, fun b o u hu => ?_, h.run.os, h.run.tape, h.run.output⟩, h.keep⟩
  · rcases upS_sg hS hk with h1 | ⟨s0, h1, h2⟩
    · exact RepS.mono lentN_le _ _ (h.slots k s h1)
    · exact h2 _ _ _ _ hall (h.slots k s0 h1)
  · obtain ⟨_, r0, h1, h2⟩ := htab i r hi
    rcases h2 with rfl | h2
    · exact (h.tabs.res i r h1).mono lentN_le
    · exact h2 _ _ _ _ hall (h.tabs.res i r0 h1)
  · obtain ⟨_, r0, h1, _⟩ := htab i ri hi
    obtain ⟨_, s0, h2, _⟩ := htab j rj hj
    exact h.tabs.dis i j r0 s0 b h1 h2 hne hbi hbj
  · obtain ⟨i1, r0, h1, _⟩ := htab i r hi
    cases hm : lentN M ρ w B b o with
    | none => rfl
    | some u =>
      rcases lentN_new hm with h3 | ⟨j, s, hj, hbj⟩
      · rw [h.tabs.own i r0 b h1 hb o] at h3; cases h3
      · exact (h.tabs.dis i j r0 s b h1 (okT_mem hTB hj) (fun e => i1 (e ▸ ids_mem hj)) hb hbj).elim
  · obtain ⟨_, r0, h1, _⟩ := htab i r hi
    exact h.ownf i r0 b h1 hb
  · rcases lentN_new hu with h3 | ⟨j, s, hj, hbj⟩
    · exact h.run.newM b o u h3
    · exact .inr (h.ownf j s b (okT_mem hTB hj) hbj)
end
end Hw
