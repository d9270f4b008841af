/- The engine, part AW: a literal of one part in a box; rows of integers as cells; what a call of the library's leaves in an array of the run's own. -/
import Derived.Test.YtnijeifpjjeccaaGreatDoorE3
import Derived.Laws.IdiomCopy
import Derived.Laws.IdiomStrings
import Derived.Laws.Slices
import Derived.Below
import Derived.Laws.StructEq
import Derived.Laws.Strings3
set_option linter.unusedVariables false
set_option linter.unusedSimpArgs false
namespace Hw
open Go

theorem setCells_row (b : Nat) (t : TypeId) (fz : Nat × Nat) : ∀ (vs : List Value) (o : Nat) (cur : Array Value) (w : World), w.heap[b]? = some (.cells cur t fz) → o + vs.length ≤ cur.size → w.setCells b o vs = w.setRow b (setAt cur.toList o vs).toArray
  | [], o, cur, w, hg, _ => by
    simp only [setAt, World.setCells, List.append_nil, List.length_nil, Nat.add_zero, List.take_append_drop, Array.toArray_toList]
    exact (setRow_self w b cur t fz hg).symm
  | v :: rest, o, cur, w, hg, hl => by
    simp only [List.length_cons] at hl
    have ih := setCells_row b t fz rest (o + 1) (cur.setIfInBounds o v) (w.setRow b (cur.setIfInBounds o v)) (setRow_heap w b cur _ t _ hg) (by simp; omega)
    rw [World.setCells, setCell_eq_setRow w b o cur t fz v hg, ih, setRow_setRow]
    congr 2
    have e := list_seg_step cur.toList o v rest (by simp; omega)
    simpa [setAt, Array.toList_setIfInBounds, Nat.add_assoc] using e

/-- Rows of integers, as cells. -/
theorem ints_rows {M : Mem} {g : Nat → Option Value} {l : List (List PV)} {vs : List Value} {o : Nat} (hl : ∀ r ∈ l, r.length = 1) (hr : RepVs M (fun _ => undef) (l.flatten.map V.p) vs) (h : ∀ j c, vs[j]? = some c → g (o + j) = some c) : RowsIn M g 1 l o :=
  RowsIn.of_cells (ρ := fun _ => undef) hl hr h

/-- What a call leaves that hands back one array under a new name: it lies in the old array's block, or in a new one. -/
theorem ret_arr {M : Mem} {ρ : Nat → Value} {w w' : World} {R : RL} {r0 : Res} {e : Nat} {rows : List (List PV)} {B o cap : Nat} {cs : Array Value} {el : TypeId} {fz : Nat × Nat} (hR : tg (tb R) 0 = some r0) (hT : THolds M ρ w (tb R)) (hI : Imm M w) (hid : 2 ∉ R.ids)
    (hB : w'.heap[B]? = some (.cells cs el fz)) (hU : Unfrozen fz cs.size) (hc : o + cap * e ≤ cs.size) (hn : rows.length ≤ cap) (hm : cap ≤ 9223372036854775807) (hrows : RowsIn M (fun i => cs[i]?) e rows o)
    (hown : w.heap.size ≤ B ∨ Bk (ρ 0) B) (hold : ∀ k, k < w.heap.size → ¬ Bk (ρ 0) k → w'.heap[k]? = w.heap[k]?) (hs : w.heap.size ≤ w'.heap.size) (h1 : w'.os = w.os) (h2 : w'.tape = w.tape) (h3 : w'.output = w.output) :
    Ret M ρ w R (.one (.ar 2)) [(2, .arr e rows)] (.slice (some ⟨B, o, none⟩) rows.length cap) M (upd ρ 2 (.slice (some ⟨B, o, none⟩) rows.length cap)) w' := by
  have hMB : ∀ q, M B q = none := fun q => by
    rcases hown with h | h
    · cases hm' : M B q with
      | none => rfl
      | some u => have := cell_lt (hI B q u hm'); omega
    · exact hT.own 0 _ B hR h q
  have only : ∀ i r, tg (tb [(2, Res.arr e rows)]) i = some r → i = 2 ∧ r = .arr e rows := fun i r hi => by
    simp only [tb, tg_cons] at hi
    split at hi
    · rename_i e'; exact ⟨e'.symm, (Option.some.inj hi).symm⟩
    · cases hi
  refine ⟨by simp only [RepS, RepV]; exact ⟨(upd_same _ _ _).symm, rfl⟩, ⟨fun i r hi => ?_, fun i j ri rj b hi hj hne _ _ => ?_, fun i r b hi hb q => ?_⟩, fun b q v hv => ?_, MLe.refl M, fun b q u hu => .inl hu, fun b hb => ?_, fun b hb hn => ?_, hs, h1, h2, h3, fun id hid' => ?_⟩
  · obtain ⟨rfl, rfl⟩ := only i r hi
    exact ⟨some ⟨B, o, none⟩, cap, upd_same _ _ _, hn, hm, .inr ⟨B, o, cs, el, fz, rfl, hB, hU, hc, hrows⟩⟩
  · obtain ⟨rfl, _⟩ := only i ri hi
    obtain ⟨rfl, _⟩ := only j rj hj
    exact hne rfl
  · obtain ⟨rfl, _⟩ := only i r hi
    rw [upd_same] at hb
    simp only [Bk, blk, Option.some.injEq] at hb; subst hb; exact hMB q
  · have hbl := cell_lt (hI b q v hv)
    have hne : ¬ Bk (ρ 0) b := fun h => by rw [hT.own 0 _ b hR h q] at hv; cases hv
    rw [cell_of_heap (hold b hbl hne)]; exact hI b q v hv
  · obtain ⟨i, r, hi, hb⟩ := hb
    obtain ⟨rfl, _⟩ := only i r hi
    rw [upd_same] at hb
    simp only [Bk, blk, Option.some.injEq] at hb; subst hb
    exact hown.imp id fun h => ⟨0, r0, hR, h⟩
  · exact hold b hb fun h => hn ⟨0, r0, hR, h⟩
  · exact upd_other fun h => hid (h ▸ hid')

section
variable {P : Program} {d : Option Nat} {ty : TypeId} {ps : String} {af : Array Edge} {g : Option (Nat × Bool)} {x y : Operand} {t : TypeId}
theorem L_remI {t' : TypeId} {k : IntKind} {n m : Int} (h0 : m ≠ 0) (hx : okc x (Kk k n)) (hy : okc y (Kk k m)) :
    Snd P ⟨d, .binOp .rem t x y t', ty, ps, af, g⟩ (rq x (Kk k n) ++ rq y (Kk k m)) [] [] (Kk k (n.tmod m)) [] :=
  L_bin hx hy rfl fun w => ⟨rfl, by rw [binOp_rem]; simp [Op.intDiv, h0]⟩
theorem L_quoI {t' : TypeId} {k : IntKind} {n m : Int} (h0 : m ≠ 0) (hx : okc x (Kk k n)) (hy : okc y (Kk k m)) :
    Snd P ⟨d, .binOp .quo t x y t', ty, ps, af, g⟩ (rq x (Kk k n) ++ rq y (Kk k m)) [] [] (Kk k (k.wrap (n.tdiv m))) [] :=
  L_bin hx hy rfl fun w => ⟨rfl, by rw [binOp_quo]; simp [Op.intDiv, h0]⟩
/-- A literal of one part, in a box of the run's own. -/
theorem L_lit_bs {id e : Nat} {s : S} {us : List V} {el : TypeId} {z : List V} (hx : okc x s) (hc : cellsOf s = some us) (hrl : us.length = e) (hm : mentVs id us = false)
    (he : elemSz P t = some (el, e)) (hz : zeroV P el = some z) (he0 : 0 < e) (heb : e ≤ 16777216) :
    Snd P ⟨d, .buildSlice t 1 #[(0, x)], ty, ps, af, g⟩ (rq x s) [] [id] (.one (.bs id 0 1)) [(id, some (.box us))] := by
  intro C st M ρ a w hH h1 hT hF hd k Q hk
  have e' := cellsOf_spec hc (hH.evS (ev_of hx h1))
  obtain ⟨ii, hu, hinf, hsz⟩ := elemSz_spec he
  obtain ⟨i', zv, hi', hzv, hzs⟩ := zeroV_len hz
  rw [hinf] at hi'; simp only [Option.some.injEq] at hi'; subst hi'
  have hcl : (a.eval x).cells.size = e := by have := e'.length; simp at this; omega
  have hfill : ∀ cur : Array Value, cur.size = e → Instr.fill (fun i => some (i * e, e)) cur [(0, a.eval x)] = some (a.eval x).cells := fun cur hcur => by
    simp only [Instr.fill]
    have hcond : ¬ ((a.eval x).cells.size ≠ e || 0 * e + (a.eval x).cells.size > cur.size) = true := by
      simp only [ne_eq, Bool.or_eq_true, decide_eq_true_eq]; omega
    have hfold := zipIdx_fold cur (0 * e) (a.eval x).cells.toList 0 cur (by simp; omega)
    have hfold' : (a.eval x).cells.zipIdx.foldl (fun cs (p : Value × Nat) => cs.setIfInBounds (0 * e + p.2) p.1) cur = (setAt cur.toList (0 * e) (a.eval x).cells.toList).toArray := by
      rw [← Array.foldl_toList]
      simpa using hfold
    rw [if_neg hcond, hfold']
    congr 1
    unfold setAt
    have : cur.toList.drop (0 * e + (a.eval x).cells.toList.length) = [] := by apply List.drop_eq_nil_of_le; simp; omega
    rw [this]; simp
  have hrun : (execOp a.eval ⟨d, .buildSlice t 1 #[(0, x)], ty, ps, af, g⟩).run P w = .ok (.value (.slice (some ⟨w.heap.size, 0, none⟩) 1 1)) (w.alloc (.cells (a.eval x).cells el)) := by
    have hn : ¬ 16777216 < e := by omega
    have h0 : ¬ e = 0 := by omega
    have hf := hfill ((Array.range (1 * e)).map fun x => zv.cells[x % zv.cells.size]!) (by simp)
    have hzrun : (zeroValue el).run P w = .ok zv w := by simp [zeroValue, typeInfo, hinf, hzv]
    simp [execOp, Instr.buildSlice, run_underlying hu, run_sizeOf hinf, hsz, hn, h0, newRow, hzrun] at hf ⊢
    simp [hf]
  unfold Oper.wp
  rw [hrun, Oper.upon_value]
  refine hk _ _ M _ (hH.alloc (val := .pointer (some ⟨w.heap.size, 0, none⟩)) (fun b hb => by simp only [Bk, blk, Option.some.injEq] at hb; exact hb.symm) hF.1
    ⟨w.heap.size, (a.eval x).cells.toList, el, upd_same _ _ _, by simpa using heap_push_new w _, RepVs.agree (upd_agree ρ id _) _ _ (fun i hi => by subst hi; exact hm) e'⟩
    (by simp only [RepS, RepV]; exact ⟨w.heap.size, 1, upd_same _ _ _, rfl, Nat.le_refl 1⟩) hd)
end

section
variable {P : Program} {C : Ctx} {k : List Frm} {n : Nat} {sl : Slots} {tab : Tab} {Q : Exit → St → Prop} {all : Array Oper} {rest : List Oper} {cur : Cur}
theorem g_rem {d : Nat} {x y : Operand} {t t' ty : TypeId} {ps : String} {af : Array Edge} {g0 : Option (Nat × Bool)} {gs : Slots} {md : Mode} (hC : C.low) {k0 : IntKind} {a m : Int}
    (hx : ev sl x = some (Kk k0 a)) (hy : ev sl y = some (Kk k0 m)) (h0 : m ≠ 0) (hm : metL all sl g0 = some gs) (hd : Nat.blt d n = true)
    (g : Goal P C (.ops all rest (nx md ⟨some d, gs ++ (rq x (Kk k0 a) ++ rq y (Kk k0 m)), [], [], Kk k0 (a.tmod m), []⟩)) k n ((d, Kk k0 (a.tmod m)) :: sl) tab Q) :
    Goal P C (.ops all (⟨some d, .binOp .rem t x y t', ty, ps, af, g0⟩ :: rest) md) k n sl tab Q := by
  have e1 := of_ev (st := ⟨n, sl, tab⟩) hx
  have e2 := of_ev (st := ⟨n, sl, tab⟩) hy
  have := metL_step hm (L_remI (P := P) (ty := ty) (ps := ps) (af := af) (g := g0) (d := some d) (t := t) (t' := t') h0 e1.1 e2.1) (n := n) (tab := tab)
  exact g_law (L := ⟨some d, gs ++ (rq x (Kk k0 a) ++ rq y (Kk k0 m)), [], [], Kk k0 (a.tmod m), []⟩) hC this.1 rfl ⟨by rw [okS_append, okS_append]; exact ⟨this.2, e1.2, e2.2⟩, trivial, rfl, hd⟩ g
theorem g_quo {d : Nat} {x y : Operand} {t t' ty : TypeId} {ps : String} {af : Array Edge} {g0 : Option (Nat × Bool)} {gs : Slots} {md : Mode} (hC : C.low) {k0 : IntKind} {a m : Int}
    (hx : ev sl x = some (Kk k0 a)) (hy : ev sl y = some (Kk k0 m)) (h0 : m ≠ 0) (hm : metL all sl g0 = some gs) (hd : Nat.blt d n = true)
    (g : Goal P C (.ops all rest (nx md ⟨some d, gs ++ (rq x (Kk k0 a) ++ rq y (Kk k0 m)), [], [], Kk k0 (k0.wrap (a.tdiv m)), []⟩)) k n ((d, Kk k0 (k0.wrap (a.tdiv m))) :: sl) tab Q) :
    Goal P C (.ops all (⟨some d, .binOp .quo t x y t', ty, ps, af, g0⟩ :: rest) md) k n sl tab Q := by
  have e1 := of_ev (st := ⟨n, sl, tab⟩) hx
  have e2 := of_ev (st := ⟨n, sl, tab⟩) hy
  have := metL_step hm (L_quoI (P := P) (ty := ty) (ps := ps) (af := af) (g := g0) (d := some d) (t := t) (t' := t') h0 e1.1 e2.1) (n := n) (tab := tab)
  exact g_law (L := ⟨some d, gs ++ (rq x (Kk k0 a) ++ rq y (Kk k0 m)), [], [], Kk k0 (k0.wrap (a.tdiv m)), []⟩) hC this.1 rfl ⟨by rw [okS_append, okS_append]; exact ⟨this.2, e1.2, e2.2⟩, trivial, rfl, hd⟩ g
theorem g_litB (T : Ty P) {d : Nat} {x : Operand} {t ty : TypeId} {ps : String} {af : Array Edge} {g0 : Option (Nat × Bool)} {gs : Slots} {md : Mode} (hC : C.low) {e : Nat} {s : S} {us : List V} {el : TypeId} {z : List V}
    (hx : ev sl x = some s) (hc : cellsOf s = some us) (hrl : us.length = e) (hmu : mentVs (1000 + d) us = false) (he : T.es t = some (el, e)) (hz : T.zs el = some z) (he0 : Nat.blt 0 e = true) (heb : Nat.ble e 16777216 = true)
    (hm : metL all sl g0 = some gs) (hd : Nat.blt d n = true) (hf : (Nat.ble 100 (1000 + d) && freshB (1000 + d) ⟨n, sl, tab⟩) = true)
    (g : Goal P C (.ops all rest (nx md ⟨some d, gs ++ rq x s, [], [1000 + d], .one (.bs (1000 + d) 0 1), [(1000 + d, some (.box us))]⟩)) k n ((d, .one (.bs (1000 + d) 0 1)) :: sl) ((1000 + d, some (.box us)) :: tab) Q) :
    Goal P C (.ops all (⟨some d, .buildSlice t 1 #[(0, x)], ty, ps, af, g0⟩ :: rest) md) k n sl tab Q := by
  have e1 := of_ev (st := ⟨n, sl, tab⟩) hx
  have := metL_step hm (L_lit_bs (P := P) (ty := ty) (ps := ps) (af := af) (g := g0) (d := some d) (id := 1000 + d) e1.1 hc hrl hmu (T.es_ok _ _ he) (T.zs_ok _ _ hz) (by simpa [Nat.blt_eq] using he0) (Nat.le_of_ble_eq_true heb)) (n := n) (tab := tab)
  exact g_law (L := ⟨some d, gs ++ rq x s, [], [1000 + d], .one (.bs (1000 + d) 0 1), [(1000 + d, some (.box us))]⟩) hC this.1 rfl ⟨by rw [okS_append]; exact ⟨this.2, e1.2⟩, trivial, fr_one hf, hd⟩ g
end
end Hw
/- The engine, part AX: bytes and strings: sums, conversions, slices of an array in a box, cells of a global array, calls of plain library functions. -/
namespace Hw
open Go

theorem bytesR_append (a b : ByteArray) : bytesR (a ++ b) = bytesR a ++ bytesR b := by
  simp only [bytesR, ByteArray.data_append, Array.toList_append, List.map_append]
theorem bytesR_len (a : ByteArray) : (bytesR a).length = a.size := by simp only [bytesR, List.length_map, Array.length_toList]; rfl
theorem bytesR_one (a : ByteArray) : ∀ r ∈ bytesR a, r.length = 1 := fun r hr => by
  obtain ⟨b, _, rfl⟩ := List.mem_map.1 hr; rfl
theorem bytesR_mk (l : List UInt8) : bytesR ⟨l.toArray⟩ = l.map fun b => [.k (.int .u8 b.toNat)] := rfl
theorem size_app (a b : ByteArray) : (a ++ b).size = a.size + b.size := ByteArray.size_append

/-- A library's function of one plain argument that leaves the world alone. -/
theorem fn_pure1 {P : Program} {f : FuncId} {a v : Value} (hc : CallOK P f) (h : ∀ w : World, Calls P f #[a] w fun e w' => e = .returned v ∧ w' = w) (h1 : v.oneCell' = true) : FnOK P f [.one (.p (.k a))] [] (.one (.p (.k v))) [] := by
  refine ⟨hc, fun M ρ w xs hx _ hI _ => ?_⟩
  match xs, hx with
  | [x], hx =>
    simp only [RepSs, RepS, RepV, RepPV] at hx
    obtain ⟨⟨rfl, _⟩, _⟩ := hx
    refine (h w).mono fun e w' ⟨he, hw⟩ => ?_
    subst hw
    refine ⟨v, M, ρ, he, by simp only [RepS, RepV, RepPV]; exact ⟨trivial, h1⟩, ⟨fun _ _ h => (by cases h), fun _ _ _ _ _ h => (by cases h), fun _ _ _ h => (by cases h)⟩, hI, MLe.refl M, fun b o u hu => .inl hu, fun b hb => ?_, fun b _ _ => rfl, Nat.le_refl _, rfl, rfl, rfl, fun id hid => rfl⟩
    obtain ⟨i, r, h, _⟩ := hb; cases h
  | [], hx => simp [RepSs] at hx
  | _ :: _ :: _, hx => simp [RepSs] at hx

/-- What a world holds of the program's variables. -/
def GOw (w : World) : Prop := GOn w ∧ (∀ b ∈ G1, ∃ m : Int, w.cell? ⟨b, 0, none⟩ = some (.int .i64 m)) ∧ ∀ p ∈ G2, ∃ el fz, w.heap[p.1]? = some (.cells p.2 el fz)
theorem gow_of {M : Mem} {w : World} (hI : Imm M w) (hG : GOk M w) : GOw w := ⟨fun b o u hu => hI b o u (hG.le b o u hu), fun b hb => let ⟨m, hm⟩ := hG.op b hb; ⟨m, hI _ _ _ hm⟩, hG.gb⟩
theorem reps_k {M : Mem} {ρ : Nat → Value} : ∀ {av xs : List Value}, RepSs M ρ (av.map fun a => .one (.p (.k a))) xs → xs = av
  | [], [], _ => rfl
  | [], _ :: _, h => by simp [RepSs] at h
  | _ :: _, [], h => by simp [RepSs] at h
  | a :: r, x :: xs, h => by
    simp only [List.map_cons, RepSs, RepS, RepV, RepPV] at h
    rw [h.1.1, reps_k h.2]
/-- A library's function of plain arguments that leaves the world alone; it may read the program's variables. -/
theorem fn_pureL {P : Program} {f : FuncId} {av : List Value} {v : Value} (hc : CallOK P f) (h : ∀ w : World, GOw w → Calls P f av.toArray w fun e w' => e = .returned v ∧ w' = w) (h1 : v.oneCell' = true) :
    FnOK P f (av.map fun a => .one (.p (.k a))) [] (.one (.p (.k v))) [] := by
  refine ⟨hc, fun M ρ w xs hx _ hI hG => ?_⟩
  obtain rfl := reps_k hx
  refine (h w (gow_of hI hG)).mono fun e w' ⟨he, hw⟩ => ?_
  subst hw
  refine ⟨v, M, ρ, he, by simp only [RepS, RepV, RepPV]; exact ⟨trivial, h1⟩, ⟨fun _ _ h => (by cases h), fun _ _ _ _ _ h => (by cases h), fun _ _ _ h => (by cases h)⟩, hI, MLe.refl M, fun b o u hu => .inl hu, fun b hb => ?_, fun b _ _ => rfl, Nat.le_refl _, rfl, rfl, rfl, fun id hid => rfl⟩
  obtain ⟨i, r, h, _⟩ := hb; cases h

/-- A call that leaves old blocks alone, without resources: what it hands back. -/
theorem ret_below {M : Mem} {ρ : Nat → Value} {w w' : World} {res : S} {v : Value} (hI : Imm M w) (hb : RowKit.Below w.heap.size w w') (hr : RepS M ρ res v) : Ret M ρ w [] res [] v M ρ w' :=
  ⟨hr, ⟨fun _ _ h => (by cases h), fun _ _ _ _ _ h => (by cases h), fun _ _ _ h => (by cases h)⟩, fun b o u hu => by rw [cell_of_heap (hb.block b (cell_lt (hI b o u hu)))]; exact hI b o u hu, MLe.refl M, fun b o u hu => .inl hu,
    fun b ⟨_, _, h, _⟩ => (by cases h), fun b h _ => hb.block b h, hb.size, hb.os, hb.tape, hb.output, fun _ _ => rfl⟩
/-- A library's function of plain arguments that leaves old blocks alone. -/
theorem fn_belowL {P : Program} {f : FuncId} {av : List Value} {v : Value} (hc : CallOK P f) (h : ∀ w : World, GOw w → Calls P f av.toArray w fun e w' => e = .returned v ∧ RowKit.Below w.heap.size w w') (h1 : v.oneCell' = true) :
    FnOK P f (av.map fun a => .one (.p (.k a))) [] (.one (.p (.k v))) [] := by
  refine ⟨hc, fun M ρ w xs hx _ hI hG => ?_⟩
  obtain rfl := reps_k hx
  refine (h w (gow_of hI hG)).mono fun e w' ⟨he, hw⟩ => ?_
  exact ⟨v, M, ρ, he, ret_below hI hw (by simp only [RepS, RepV, RepPV]; exact ⟨trivial, h1⟩)⟩
/-- The same of a slice of strings and a string. -/
theorem fn_strsS {P : Program} {f : FuncId} {l : List ByteArray} {s : ByteArray} {v : Value} (hc : CallOK P f) (h0 : l = [] → ∀ (w : World) (a : Option Addr) (c : Nat), Calls P f #[.slice a 0 c, .string s] w fun e w' => e = .returned v ∧ RowKit.Below w.heap.size w w')
    (h : ∀ (w : World) (b o c : Nat), b < w.heap.size → l.length ≤ c → (∀ (j : Nat) x, l[j]? = some x → w.cell? ⟨b, o + j, none⟩ = some (.string x)) → Calls P f #[.slice (some ⟨b, o, none⟩) l.length c, .string s] w fun e w' => e = .returned v ∧ RowKit.Below w.heap.size w w') (h1 : v.oneCell' = true) :
    FnOK P f [.one (.p (.sl 1 (l.map fun x => [PV.k (.string x)]))), .one (.p (.k (.string s)))] [] (.one (.p (.k v))) [] := by
  refine ⟨hc, fun M ρ w xs hx _ hI _ => ?_⟩
  match xs, hx with
  | [x, y], hx =>
    simp only [RepSs, RepS, RepV, RepPV, List.length_map] at hx
    obtain ⟨⟨a, cap, rfl, hcap, _, hr⟩, ⟨rfl, _⟩, _⟩ := hx
    have fin : ∀ {e w'}, e = Ending.returned v ∧ RowKit.Below w.heap.size w w' → ∃ v' M' ρ', e = .returned v' ∧ Ret M ρ w [] (.one (.p (.k v))) [] v' M' ρ' w' := fun {e w'} hh =>
      ⟨v, M, ρ, hh.1, ret_below hI hh.2 (by simp only [RepS, RepV, RepPV]; exact ⟨trivial, h1⟩)⟩
    rcases hr with hr | ⟨b, o, rfl, hr⟩
    · have hl : l = [] := by simpa using hr
      have := h0 hl w a cap
      rw [hl]
      exact this.mono fun e w' hh => fin hh
    · by_cases hl : l = []
      · have := h0 hl w (some ⟨b, o, none⟩) cap
        rw [hl]
        exact this.mono fun e w' hh => fin hh
      have hcell : ∀ (j : Nat) x, l[j]? = some x → w.cell? ⟨b, o + j, none⟩ = some (.string x) := fun j x hj => by
        have := (hr.get (i := j) (r := [PV.k (.string x)]) (by rw [List.getElem?_map, hj]; rfl)).2
        simp only [RowIn, RepPV, Nat.mul_one] at this
        obtain ⟨⟨c, hc1, hc2, _⟩, _⟩ := this
        rw [← hc2]; exact hI _ _ _ hc1
      have hb : b < w.heap.size := by
        cases hd : l with
        | nil => exact absurd hd hl
        | cons x r => exact cell_lt (hcell 0 x (by rw [hd]; rfl))
      exact (h w b o cap hb hcap hcell).mono fun e w' hh => fin hh
  | [], hx => simp [RepSs] at hx
  | [_], hx => simp [RepSs] at hx
  | _ :: _ :: _ :: _, hx => simp [RepSs] at hx

section
variable {P : Program} {d : Option Nat} {ty : TypeId} {ps : String} {af : Array Edge} {g : Option (Nat × Bool)} {x y : Operand} {t : TypeId}
theorem L_catS {t' : TypeId} {a b : ByteArray} (hs : a.size + b.size ≤ 9223372036854775807) (hx : okc x (Sr a)) (hy : okc y (Sr b)) :
    Snd P ⟨d, .binOp .add t x y t', ty, ps, af, g⟩ (rq x (Sr a) ++ rq y (Sr b)) [] [] (Sr (a ++ b)) [] :=
  L_bin hx hy rfl fun w => ⟨rfl, by
    have hn : ¬ (((a.size + b.size : Nat) : Int) > IntKind.i64.max) := by
      have : IntKind.i64.max = 9223372036854775807 := rfl
      rw [this]; omega
    have e : binOp .add t (.string a) (.string b) = Op.stringOp .add a b := rfl
    rw [e]
    simp only [Op.stringOp, if_neg hn, Sem.run_pure]⟩
/-- A cell's address of an array that a variable is. -/
theorem L_idxG {gl : Nat} {len : Nat} {el : TypeId} {i : Int} {k : IntKind} {row : List PV} {p : PV} (hy : okc y (Kk k i)) (ht : P.underlying t = some (.array len el)) (hz : (P.info? el).map (·.size) = some 1)
    (hrow : ∀ M, MLe G0 M → RowIn M (M gl) row 0) (h0 : 0 ≤ i) (hi : i < len) (hp : row[i.toNat]? = some p) :
    Snd P ⟨d, .indexAddr t (.global gl) y, ty, ps, af, g⟩ (rq y (Kk k i)) [] [] (.one (.pi [p] 0)) [] :=
  snd_quiet fun C st M ρ a w hH h1 _ => by
    have e2 := hH.k (ev_of hy h1)
    have hl : P.arrayLen t = len := by simp [Program.arrayLen, ht]
    have he : P.elem t = el := by simp [Program.elem, ht]
    have hM : MLe G0 M := hH.gok.le
    have hr := (hrow M hM).get hp
    obtain ⟨c, c1, c2⟩ := hr
    obtain ⟨ii, hinf, hsz⟩ := Option.map_eq_some_iff.1 hz
    refine ⟨.pointer (some ⟨gl, i.toNat, none⟩), ?_, by simp only [RepS, RepV]; exact ⟨gl, i.toNat, by simp, by simp only [RowIn]; exact ⟨⟨c, by simpa using c1, c2⟩, trivial⟩⟩⟩
    have hrun := run_indexAt_array (P := P) (w := w) t ⟨gl, 0, none⟩ k i (by rw [hl, he]; exact ht)
    rw [hl, he, if_pos ⟨h0, hi⟩] at hrun
    have ha : a.eval (.global gl) = .pointer (some ⟨gl, 0, none⟩) := rfl
    simp only [execOp, ha, e2, Sem.run_bind, hrun, run_sizeOf hinf, Result.andThen_ok, Sem.run_pure, hsz, add_addr, Nat.mul_one, Nat.zero_add]
/-- The first cells of an array in a box, as a slice. -/
theorem L_slA {id len : Nat} {n : Nat} {el : TypeId} {k : IntKind} {vs : List V} (hx : okc x (.one (.bx id 0))) (hy : okc y (Kk k (n : Int))) (ht : P.underlying t = some (.array len el)) (hz : (P.info? el).map (·.size) = some 1) (hn : n ≤ len) :
    Snd P ⟨d, .slice t x none (some y) none, ty, ps, af, g⟩ (rq x (.one (.bx id 0)) ++ rq y (Kk k (n : Int))) [(id, .box vs)] [] (.one (.bs id 0 n)) [] :=
  snd_quiet fun C st M ρ a w hH h1 hT => by
    rw [okS_append] at h1
    have e1 := hH.evS (ev_of hx h1.1)
    have e2 := hH.k (ev_of hy h1.2)
    simp only [RepS, RepV] at e1
    obtain ⟨b, f1, f2⟩ := e1
    have hl : P.arrayLen t = len := by simp [Program.arrayLen, ht]
    have he : P.elem t = el := by simp [Program.elem, ht]
    obtain ⟨ii, hinf, hsz⟩ := Option.map_eq_some_iff.1 hz
    have hrun := run_sliceAt_array_h (P := P) (w := w) (t := t) (a := ⟨b, 0, none⟩) (by rw [hl, he]; exact ht) k (n : Int) (by omega) (by rw [hl]; omega)
    refine ⟨.slice (some ⟨b, 0, none⟩) n len, ?_, by simp only [RepS, RepV]; exact ⟨b, len, f1, rfl, hn⟩⟩
    simp only [execOp, f2, e2, Sem.run_bind, Option.map_none, Option.map_some, hrun, hl, he, run_sizeOf hinf, Result.andThen_ok, Sem.run_pure, slicedAt, Nat.zero_mul, Int.toNat_natCast, Nat.sub_zero]
    congr 2
    split
    · rfl
    · rw [add_addr]
/-- What is appended: the first cells of a box. -/
theorem SrcS.bs {e id n : Nat} {tx el : TypeId} {rows : List (List PV)} {vs : List V} (h : elemSz P tx = some (el, e)) (hv : vs.take (n * e) = rows.flatten.map V.p) (hl : ∀ r ∈ rows, r.length = e) (hn : rows.length = n) : SrcS P e tx (.one (.bs id 0 n)) [(id, .box vs)] rows := by
  intro C st M ρ a w v hH hr hT
  obtain ⟨_, hu, _, _⟩ := elemSz_spec h
  simp only [RepS, RepV] at hr
  obtain ⟨b, c, f1, rfl, _⟩ := hr
  obtain ⟨b', cs, el', g1, g2, g3⟩ := hH.tabs.res id _ hT.1
  rw [f1] at g1
  simp only [Value.pointer.injEq, Option.some.injEq, Addr.mk.injEq] at g1
  obtain ⟨rfl, _⟩ := g1
  have g4 := g3.take (n * e)
  rw [hv] at g4
  subst hn
  refine ⟨cs.take (rows.length * e), Src.ofSlice w hu ⟨b, 0, none⟩ rows.length c _ ?_ (fun j u hj => ?_) g4.one, g4, hl⟩
  · rw [g4.length, List.length_map, List.length_flatten]
    have : (rows.map List.length) = List.replicate rows.length e := by
      rw [List.eq_replicate_iff]
      exact ⟨by rw [List.length_map], fun q hq => by obtain ⟨r, hr, rfl⟩ := List.mem_map.1 hq; exact hl r hr⟩
    rw [this, List.sum_replicate_nat]
  · rw [add_addr, Nat.zero_add]
    rw [List.getElem?_take] at hj
    split at hj
    · simp [World.cell?, g2, hj]
    · cases hj
/-- A string out of bytes. -/
theorem L_b2s {id : Nat} {s : ByteArray} {src dst e : TypeId} (hx : okc x (.one (.ar id))) (hs : P.underlying src = some (.slice e)) (he : P.underlying e = some (.int .u8)) (hd : P.underlying dst = some .string) :
    Snd P ⟨d, .convert src dst x, ty, ps, af, g⟩ (rq x (.one (.ar id))) [(id, .arr 1 (bytesR s))] [] (Sr s) [] :=
  snd_quiet fun C st M ρ a w hH h1 hT => by
    have e1 := hH.evS (ev_of hx h1)
    simp only [RepS, RepV] at e1
    obtain ⟨a', cap, f1, f2, f3, f4⟩ := hH.tabs.res id _ hT.1
    rw [f1, bytesR_len] at e1
    rw [bytesR_len] at f2
    refine ⟨.string s, ?_, by simp only [RepS, RepV, RepPV]; exact ⟨trivial, rfl⟩⟩
    rcases f4 with ⟨rfl, hc⟩ | ⟨b, o, cs, el, fz, rfl, f5, _, _, f6⟩
    · have h0 : s.size = 0 := by omega
      have : s = ByteArray.empty := by
        have := ByteArray.size_eq_zero_iff.1 h0
        exact this
      subst this
      simp only [execOp, e1.1, Sem.run_bind, convert, run_underlying hs, run_underlying hd, Result.andThen_ok, run_underlying he, Conv.bytesToString, Sem.run_pure]
    · have hlen : s.data.toList.length = s.size := by rw [Array.length_toList]; rfl
      have hcell : ∀ j (hj : j < s.data.toList.length), w.cell? ((⟨b, o, none⟩ : Addr).add j) = some (.int .u8 ((s.data.toList)[j].toNat : Int)) := fun j hj => by
        have := (f6.get (i := j) (r := [.k (.int .u8 ((s.data.toList)[j].toNat : Int))]) (by simp only [bytesR, List.getElem?_map, List.getElem?_eq_getElem hj, Option.map_some])).2
        simp only [RowIn, RepPV, Nat.mul_one] at this
        obtain ⟨⟨c, c1, c2, _⟩, _⟩ := this
        rw [add_addr]
        simp [World.cell?, f5, c1, c2]
      have hrun := run_convert_bytes_back (P := P) w src dst e ⟨b, o, none⟩ cap s.data.toList hs he hd hcell
      rw [hlen] at hrun
      simp only [execOp, e1.1, Sem.run_bind, hrun, Result.andThen_ok, Sem.run_pure]
/-- A string out of a rune. -/
theorem L_r2s {n : Int} {k : IntKind} {k' : IntKind} {src dst : TypeId} (hx : okc x (Kk k n)) (hs : P.underlying src = some (.int k')) (hd : P.underlying dst = some .string) :
    Snd P ⟨d, .convert src dst x, ty, ps, af, g⟩ (rq x (Kk k n)) [] [] (Sr (Utf8.encode n)) [] :=
  snd_quiet fun C st M ρ a w hH h1 _ => by
    have e1 := hH.k (ev_of hx h1)
    exact ⟨.string (Utf8.encode n), by simp only [execOp, e1, Sem.run_bind, convert, run_underlying hs, run_underlying hd, Result.andThen_ok, Conv.intToString, Sem.run_pure], by simp only [RepS, RepV, RepPV]; exact ⟨trivial, rfl⟩⟩
end

section
variable {P : Program} {C : Ctx} {k : List Frm} {n : Nat} {sl : Slots} {tab : Tab} {Q : Exit → St → Prop} {all : Array Oper} {rest : List Oper} {cur : Cur}
theorem g_cat {d : Nat} {x y : Operand} {t t' ty : TypeId} {ps : String} {af : Array Edge} {g0 : Option (Nat × Bool)} {gs : Slots} {md : Mode} (hC : C.low) {a b : ByteArray}
    (hx : ev sl x = some (Sr a)) (hy : ev sl y = some (Sr b)) (hs : a.size + b.size ≤ 9223372036854775807) (hm : metL all sl g0 = some gs) (hd : Nat.blt d n = true)
    (g : Goal P C (.ops all rest (nx md ⟨some d, gs ++ (rq x (Sr a) ++ rq y (Sr b)), [], [], Sr (a ++ b), []⟩)) k n ((d, Sr (a ++ b)) :: sl) tab Q) :
    Goal P C (.ops all (⟨some d, .binOp .add t x y t', ty, ps, af, g0⟩ :: rest) md) k n sl tab Q := by
  have e1 := of_ev (st := ⟨n, sl, tab⟩) hx
  have e2 := of_ev (st := ⟨n, sl, tab⟩) hy
  have := metL_step hm (L_catS (P := P) (ty := ty) (ps := ps) (af := af) (g := g0) (d := some d) (t := t) (t' := t') hs e1.1 e2.1) (n := n) (tab := tab)
  exact g_law (L := ⟨some d, gs ++ (rq x (Sr a) ++ rq y (Sr b)), [], [], Sr (a ++ b), []⟩) hC this.1 rfl ⟨by rw [okS_append, okS_append]; exact ⟨this.2, e1.2, e2.2⟩, trivial, rfl, hd⟩ g
theorem g_neg {d : Nat} {x : Operand} {t ty : TypeId} {ps : String} {af : Array Edge} {g0 : Option (Nat × Bool)} {gs : Slots} {md : Mode} (hC : C.low) {k0 : IntKind} {a : Int}
    (hx : ev sl x = some (Kk k0 a)) (hm : metL all sl g0 = some gs) (hd : Nat.blt d n = true)
    (g : Goal P C (.ops all rest (nx md ⟨some d, gs ++ rq x (Kk k0 a), [], [], Kk k0 (k0.wrap (0 - a)), []⟩)) k n ((d, Kk k0 (k0.wrap (0 - a))) :: sl) tab Q) :
    Goal P C (.ops all (⟨some d, .unOp .neg t x, ty, ps, af, g0⟩ :: rest) md) k n sl tab Q := by
  have e1 := of_ev (st := ⟨n, sl, tab⟩) hx
  have := metL_step hm (L_neg (P := P) (ty := ty) (ps := ps) (af := af) (g := g0) (d := some d) (t := t) e1.1) (n := n) (tab := tab)
  exact g_law (L := ⟨some d, gs ++ rq x (Kk k0 a), [], [], Kk k0 (k0.wrap (0 - a)), []⟩) hC this.1 rfl ⟨by rw [okS_append]; exact ⟨this.2, e1.2⟩, trivial, rfl, hd⟩ g
theorem g_idxG {d gl : Nat} {y : Operand} {t ty : TypeId} {ps : String} {af : Array Edge} {g0 : Option (Nat × Bool)} {gs : Slots} {md : Mode} (hC : C.low) {len : Nat} {el : TypeId} {i : Int} {k0 : IntKind} {row : List PV} {p : PV}
    (hy : ev sl y = some (Kk k0 i)) (ht : P.underlying t = some (.array len el)) (hz : (P.info? el).map (·.size) = some 1) (hrow : ∀ M, MLe G0 M → RowIn M (M gl) row 0) (h0 : 0 ≤ i) (hi : i < len) (hp : row[i.toNat]? = some p) (hm : metL all sl g0 = some gs) (hd : Nat.blt d n = true)
    (g : Goal P C (.ops all rest (nx md ⟨some d, gs ++ rq y (Kk k0 i), [], [], .one (.pi [p] 0), []⟩)) k n ((d, .one (.pi [p] 0)) :: sl) tab Q) :
    Goal P C (.ops all (⟨some d, .indexAddr t (.global gl) y, ty, ps, af, g0⟩ :: rest) md) k n sl tab Q := by
  have e1 := of_ev (st := ⟨n, sl, tab⟩) hy
  have := metL_step hm (L_idxG (P := P) (ty := ty) (ps := ps) (af := af) (g := g0) (d := some d) (t := t) e1.1 ht hz hrow h0 hi hp) (n := n) (tab := tab)
  exact g_law (L := ⟨some d, gs ++ rq y (Kk k0 i), [], [], .one (.pi [p] 0), []⟩) hC this.1 rfl ⟨by rw [okS_append]; exact ⟨this.2, e1.2⟩, trivial, rfl, hd⟩ g
theorem g_slA {d : Nat} {x y : Operand} {t ty : TypeId} {ps : String} {af : Array Edge} {g0 : Option (Nat × Bool)} {gs : Slots} {md : Mode} (hC : C.low) {id len : Nat} (m : Nat) {el : TypeId} {k0 : IntKind} {vs : List V}
    (hx : ev sl x = some (.one (.bx id 0))) (hy : ev sl y = some (Kk k0 (m : Int))) (hT : tg tab id = some (.box vs)) (ht : P.underlying t = some (.array len el)) (hz : (P.info? el).map (·.size) = some 1) (hn : m ≤ len) (hm : metL all sl g0 = some gs) (hd : Nat.blt d n = true)
    (g : Goal P C (.ops all rest (nx md ⟨some d, gs ++ (rq x (.one (.bx id 0)) ++ rq y (Kk k0 (m : Int))), [(id, .box vs)], [], .one (.bs id 0 m), []⟩)) k n ((d, .one (.bs id 0 m)) :: sl) tab Q) :
    Goal P C (.ops all (⟨some d, .slice t x none (some y) none, ty, ps, af, g0⟩ :: rest) md) k n sl tab Q := by
  have e1 := of_ev (st := ⟨n, sl, tab⟩) hx
  have e2 := of_ev (st := ⟨n, sl, tab⟩) hy
  have := metL_step hm (L_slA (P := P) (vs := vs) (ty := ty) (ps := ps) (af := af) (g := g0) (d := some d) (t := t) e1.1 e2.1 ht hz hn) (n := n) (tab := tab)
  exact g_law (L := ⟨some d, gs ++ (rq x (.one (.bx id 0)) ++ rq y (Kk k0 (m : Int))), [(id, .box vs)], [], .one (.bs id 0 m), []⟩) hC this.1 rfl ⟨by rw [okS_append, okS_append]; exact ⟨this.2, e1.2, e2.2⟩, ⟨hT, trivial⟩, rfl, hd⟩ g
theorem g_b2s {d : Nat} {x : Operand} {src dst e ty : TypeId} {ps : String} {af : Array Edge} {g0 : Option (Nat × Bool)} {gs : Slots} {md : Mode} (hC : C.low) {id : Nat} {s : ByteArray}
    (hx : ev sl x = some (.one (.ar id))) (hT : tg tab id = some (.arr 1 (bytesR s))) (hs : P.underlying src = some (.slice e)) (he : P.underlying e = some (.int .u8)) (hdd : P.underlying dst = some .string) (hm : metL all sl g0 = some gs) (hd : Nat.blt d n = true)
    (g : Goal P C (.ops all rest (nx md ⟨some d, gs ++ rq x (.one (.ar id)), [(id, .arr 1 (bytesR s))], [], Sr s, []⟩)) k n ((d, Sr s) :: sl) tab Q) :
    Goal P C (.ops all (⟨some d, .convert src dst x, ty, ps, af, g0⟩ :: rest) md) k n sl tab Q := by
  have e1 := of_ev (st := ⟨n, sl, tab⟩) hx
  have := metL_step hm (L_b2s (P := P) (s := s) (ty := ty) (ps := ps) (af := af) (g := g0) (d := some d) e1.1 hs he hdd) (n := n) (tab := tab)
  exact g_law (L := ⟨some d, gs ++ rq x (.one (.ar id)), [(id, .arr 1 (bytesR s))], [], Sr s, []⟩) hC this.1 rfl ⟨by rw [okS_append]; exact ⟨this.2, e1.2⟩, ⟨hT, trivial⟩, rfl, hd⟩ g
theorem g_r2s {d : Nat} {x : Operand} {src dst ty : TypeId} {ps : String} {af : Array Edge} {g0 : Option (Nat × Bool)} {gs : Slots} {md : Mode} (hC : C.low) {a : Int} {k0 k1 : IntKind}
    (hx : ev sl x = some (Kk k0 a)) (hs : P.underlying src = some (.int k1)) (hdd : P.underlying dst = some .string) (hm : metL all sl g0 = some gs) (hd : Nat.blt d n = true)
    (g : Goal P C (.ops all rest (nx md ⟨some d, gs ++ rq x (Kk k0 a), [], [], Sr (Utf8.encode a), []⟩)) k n ((d, Sr (Utf8.encode a)) :: sl) tab Q) :
    Goal P C (.ops all (⟨some d, .convert src dst x, ty, ps, af, g0⟩ :: rest) md) k n sl tab Q := by
  have e1 := of_ev (st := ⟨n, sl, tab⟩) hx
  have := metL_step hm (L_r2s (P := P) (ty := ty) (ps := ps) (af := af) (g := g0) (d := some d) e1.1 hs hdd) (n := n) (tab := tab)
  exact g_law (L := ⟨some d, gs ++ rq x (Kk k0 a), [], [], Sr (Utf8.encode a), []⟩) hC this.1 rfl ⟨by rw [okS_append]; exact ⟨this.2, e1.2⟩, trivial, rfl, hd⟩ g
end
end Hw
/- The engine, part AY: arrays as values: literals, elements by a number. -/
namespace Hw
open Go

theorem repVs_drop {M : Mem} {ρ : Nat → Value} : ∀ {vs : List V} {cs : List Value} (n : Nat), RepVs M ρ vs cs → RepVs M ρ (vs.drop n) (cs.drop n)
  | _, _, 0, h => h
  | [], [], n + 1, h => h
  | [], _ :: _, _ + 1, h => by simp [RepVs] at h
  | _ :: _, [], _ + 1, h => by simp [RepVs] at h
  | _ :: _, _ :: _, n + 1, h => repVs_drop n (by simp only [RepVs] at h; exact h.2)
theorem repVs_take {M : Mem} {ρ : Nat → Value} : ∀ {vs : List V} {cs : List Value} (n : Nat), RepVs M ρ vs cs → RepVs M ρ (vs.take n) (cs.take n)
  | _, _, 0, h => by simp [RepVs]
  | [], [], n + 1, h => by simp [RepVs]
  | [], _ :: _, _ + 1, h => by simp [RepVs] at h
  | _ :: _, [], _ + 1, h => by simp [RepVs] at h
  | v :: vs, c :: cs, n + 1, h => by
    simp only [RepVs] at h
    simp only [List.take_succ_cons, RepVs]
    exact ⟨h.1, repVs_take n h.2⟩
section
variable {P : Program} {d : Option Nat} {ty : TypeId} {ps : String} {af : Array Edge} {g : Option (Nat × Bool)} {x y : Operand} {t : TypeId}
/-- An array's literal. -/
theorem L_buildA {l : List (Nat × Operand)} {ss : List S} {vparts : List (Nat × List V)} {zs vs : List V} {len e : Nat} {el : TypeId}
    (hx : okcs (l.map (·.2)) ss) (ht : P.underlying t = some (.array len el)) (he : (P.info? el).map (·.size) = some e) (hz : zeroV P t = some zs) (hv : zipParts (l.map (·.1)) ss = some vparts) (hf : fillV (fun i => some (i * e, e)) zs vparts = some vs) :
    Snd P ⟨d, .build t l.toArray, ty, ps, af, g⟩ (rqs (l.map (·.2)) ss) [] [] (.agg vs) [] :=
  snd_quiet fun C st M ρ a w hH h1 _ => by
    have e := hH.evsS (evs_of hx h1)
    obtain ⟨h2, h3⟩ := zipParts_spec hv e
    obtain ⟨zv, hz1, hz2, _⟩ := zeroV_spec hz M ρ w
    have hzip : l.map (fun p => (p.1, a.eval p.2)) = (l.map (·.1)).zip ((l.map (·.2)).map a.eval) := by
      rw [List.map_map]; simp [List.zip_map']
    obtain ⟨out, h4, h5⟩ := fill_spec _ vparts zs vs zv.cells hz2 h2 h3 hf
    obtain ⟨ii, hinf, hsz⟩ := Option.map_eq_some_iff.1 he
    refine ⟨.agg out, ?_, by simp only [RepS]; exact ⟨out.toList, by simp, h5⟩⟩
    simp only [execOp, Instr.build, Sem.run_bind, hz1, Result.andThen_ok, run_underlying ht, run_sizeOf hinf, hsz]
    have hl : (l.toArray.map fun p => (p.1, a.eval p.2)).toList = (l.map (·.1)).zip ((l.map (·.2)).map a.eval) := by simpa using hzip
    rw [hl, h4]
    rfl
/-- An element of an array's value. -/
theorem L_indexA {vs : List V} {len e : Nat} {el : TypeId} {i : Int} {k : IntKind} (hx : okc x (.agg vs)) (hy : okc y (Kk k i)) (ht : P.underlying t = some (.array len el)) (he : (P.info? el).map (·.size) = some e) (hs : shp P el = some (some e)) (h0 : 0 ≤ i) (hi : i < len) :
    Snd P ⟨d, .index t x y, ty, ps, af, g⟩ (rq x (.agg vs) ++ rq y (Kk k i)) [] [] (.agg ((vs.drop (i.toNat * e)).take e)) [] :=
  snd_quiet fun C st M ρ a w hH h1 _ => by
    rw [okS_append] at h1
    have e1 := hH.evS (ev_of hx h1.1)
    have e2 := hH.k (ev_of hy h1.2)
    simp only [RepS] at e1
    obtain ⟨cs, e1, e3⟩ := e1
    obtain ⟨ii, hinf, hsz⟩ := Option.map_eq_some_iff.1 he
    refine ⟨.agg (cs.toArray.extract (i.toNat * e) (i.toNat * e + e)), ?_, by simp only [RepS]; exact ⟨(cs.drop (i.toNat * e)).take e, by simp [List.extract_eq_take_drop], repVs_take _ (repVs_drop _ e3)⟩⟩
    simp only [execOp, e1, e2, Instr.index, asIntOf, Sem.run_bind, Sem.run_pure, Result.andThen_ok, run_underlying ht]
    rw [if_pos ⟨h0, hi⟩]
    simp [part, run_isAgg_some hs, run_sizeOf hinf, hsz]
end
section
variable {P : Program} {C : Ctx} {k : List Frm} {n : Nat} {sl : Slots} {tab : Tab} {Q : Exit → St → Prop} {all : Array Oper} {rest : List Oper}
theorem g_buildA {d : Nat} {t : TypeId} {l : List (Nat × Operand)} {ty : TypeId} {ps : String} {af : Array Edge} {g0 : Option (Nat × Bool)} {gs : Slots} {md : Mode} (hC : C.low) {ss : List S} {vparts : List (Nat × List V)} {zs vs : List V} {len e : Nat} {el : TypeId}
    (hl : evs sl (l.map (·.2)) = some ss) (ht : P.underlying t = some (.array len el)) (he : (P.info? el).map (·.size) = some e) (hz : zeroV P t = some zs) (hv : zipParts (l.map (·.1)) ss = some vparts) (hf : fillV (fun i => some (i * e, e)) zs vparts = some vs) (hm : metL all sl g0 = some gs) (hd : Nat.blt d n = true)
    (g : Goal P C (.ops all rest (nx md ⟨some d, gs ++ rqs (l.map (·.2)) ss, [], [], .agg vs, []⟩)) k n ((d, .agg vs) :: sl) tab Q) :
    Goal P C (.ops all (⟨some d, .build t l.toArray, ty, ps, af, g0⟩ :: rest) md) k n sl tab Q := by
  have e2 := of_evs (st := ⟨n, sl, tab⟩) hl
  have := metL_step hm (L_buildA (ty := ty) (ps := ps) (af := af) (g := g0) (d := some d) e2.1 ht he hz hv hf) (n := n) (tab := tab)
  exact g_law (L := ⟨some d, gs ++ rqs (l.map (·.2)) ss, [], [], .agg vs, []⟩) hC this.1 rfl ⟨by rw [okS_append]; exact ⟨this.2, e2.2⟩, trivial, rfl, hd⟩ g
theorem g_indexA {d : Nat} {x y : Operand} {t ty : TypeId} {ps : String} {af : Array Edge} {g0 : Option (Nat × Bool)} {gs : Slots} {md : Mode} (hC : C.low) {vs us : List V} {len e : Nat} {el : TypeId} {k0 : IntKind} {i : Int}
    (hx : ev sl x = some (.agg vs)) (hy : ev sl y = some (Kk k0 i)) (ht : P.underlying t = some (.array len el)) (he : (P.info? el).map (·.size) = some e) (hs : shp P el = some (some e)) (h0 : 0 ≤ i) (hi : i < len) (hu : (vs.drop (i.toNat * e)).take e = us) (hm : metL all sl g0 = some gs) (hd : Nat.blt d n = true)
    (g : Goal P C (.ops all rest (nx md ⟨some d, gs ++ (rq x (.agg vs) ++ rq y (Kk k0 i)), [], [], .agg us, []⟩)) k n ((d, .agg us) :: sl) tab Q) :
    Goal P C (.ops all (⟨some d, .index t x y, ty, ps, af, g0⟩ :: rest) md) k n sl tab Q := by
  subst hu
  have e1 := of_ev (st := ⟨n, sl, tab⟩) hx
  have e2 := of_ev (st := ⟨n, sl, tab⟩) hy
  have := metL_step hm (L_indexA (ty := ty) (ps := ps) (af := af) (g := g0) (d := some d) e1.1 e2.1 ht he hs h0 hi) (n := n) (tab := tab)
  exact g_law (L := ⟨some d, gs ++ (rq x (.agg vs) ++ rq y (Kk k0 i)), [], [], .agg ((vs.drop (i.toNat * e)).take e), []⟩) hC this.1 rfl ⟨by rw [okS_append, okS_append]; exact ⟨this.2, e1.2, e2.2⟩, trivial, rfl, hd⟩ g
end
/-- A first argument that is nil stands for an owned array without elements. -/
theorem FnOK.nil0 {P : Program} {f : FuncId} {args : List S} {res : S} {R' : RL} {e : Nat} (h : FnOK P f (.one (.ar 0) :: args) [(0, .arr e [])] res R') (hm : mentSs 0 args = false) : FnOK P f (.one (.p (.k (.slice none 0 0))) :: args) [] res R' := by
  refine ⟨h.1, fun M ρ w xs hx ht hI hM => ?_⟩
  match xs, hx with
  | [], hx => simp [RepSs] at hx
  | x :: xs, hx =>
    simp only [RepSs, RepS, RepV, RepPV] at hx
    obtain ⟨⟨hx0, hx1⟩, hxs⟩ := hx
    have hρ : upd ρ 0 (.slice none 0 0) 0 = .slice none 0 0 := upd_same _ _ _
    have agr := upd_agree ρ 0 (.slice none 0 0)
    have hb0 : ∀ b, ¬ Owns (tb [(0, .arr e [])]) (upd ρ 0 (.slice none 0 0)) b := fun b ⟨id, r, h1, h2⟩ => by
      simp only [tb, tg_cons] at h1
      split at h1
      · rename_i e'; subst e'; rw [hρ] at h2; simp [Bk, blk] at h2
      · simp [tg] at h1
    have one : ∀ id r, tg (tb [(0, .arr e [])]) id = some r → id = 0 ∧ r = .arr e [] := fun id r h1 => by
      simp only [tb, tg_cons] at h1
      split at h1
      · rename_i e'; exact ⟨e'.symm, (Option.some.inj h1).symm⟩
      · simp [tg] at h1
    refine (h.2 M (upd ρ 0 (.slice none 0 0)) w (x :: xs) ?_ ⟨fun id r h1 => ?_, fun i j ri rj b h1 h2 hne => ?_, fun id r b h1 h2 => ?_⟩ hI hM).mono fun ex w' ⟨v, M', ρ', he, hR⟩ => ⟨v, M', ρ', he, ?_⟩
    · simp only [RepSs, RepS, RepV]
      exact ⟨⟨by rw [hρ]; exact hx0, by rw [hx0]; exact hx1⟩, RepSs.agree agr _ _ (fun i hi => by subst hi; exact hm) hxs⟩
    · obtain ⟨rfl, rfl⟩ := one id r h1
      exact ⟨none, 0, hρ, Nat.le_refl _, by simp, .inl ⟨rfl, rfl⟩⟩
    · exact absurd ((one i ri h1).1.trans (one j rj h2).1.symm) hne
    · exact (hb0 b ⟨id, r, h1, h2⟩).elim
    · exact ⟨hR.rep, hR.tabs, hR.imm, hR.mle, fun b o u hu => (hR.newM b o u hu).imp id fun h3 => h3.imp id fun h4 => (hb0 b h4).elim, fun b hb => .inl ((hR.own b hb).resolve_right (hb0 b)), fun b hb _ => hR.fram b hb (hb0 b), hR.size, hR.os, hR.tape, hR.output, fun id hid => by simp [RL.ids] at hid⟩
section
variable {K : Type} [DecidableEq K] {P : Program} {d : Option Nat} {ty : TypeId} {ps : String} {af : Array Edge} {g : Option (Nat × Bool)} {x y u : Operand} {t kt et : TypeId}
/-- An entry of a map's literal. -/
theorem L_insert {κ : KeyKind K} {id : Nat} {l : List (K × PV)} {k0 : K} {v : PV} (hx : okc x (.one (.mp id))) (hy : okc y (.one (.p (.k (κ.enc k0))))) (hv : okc u (.one (.p v))) (hu : P.underlying t = some (.map kt et)) (hk0 : P.underlying kt = some κ.d) :
    Snd P ⟨d, .insert t x y u, ty, ps, af, g⟩ (rq x (.one (.mp id)) ++ rq y (.one (.p (.k (κ.enc k0)))) ++ rq u (.one (.p v))) [(id, .map (encE κ l))] [] .un [(id, some (.map (encE κ (putK l k0 v))))] := by
  intro C st M ρ a w hH h1 hT hF hd k Q hk
  have := L_mapUpdate (P := P) (d := d) (ty := ty) (ps := ps) (af := af) (g := g) (l := l) hx hy hv hu hk0 C st M ρ a w hH h1 hT hF hd k Q hk
  unfold Oper.wp at this ⊢
  exact this
end
section
variable {P : Program} {C : Ctx} {k : List Frm} {n : Nat} {sl : Slots} {tab : Tab} {Q : Exit → St → Prop} {all : Array Oper} {rest : List Oper}
theorem g_insert {K : Type} [DecidableEq K] (κ : KeyKind K) {x y u : Operand} {t kt et ty : TypeId} {ps : String} {af : Array Edge} {g0 : Option (Nat × Bool)} {gs : Slots} {md : Mode} (hC : C.low) {id : Nat} {l l' : List (K × PV)} {k0 : K} {pv : PV}
    (hx : ev sl x = some (.one (.mp id))) (hy : ev sl y = some (.one (.p (.k (κ.enc k0))))) (hw : ev sl u = some (.one (.p pv))) (hT : tg tab id = some (.map (encE κ l))) (hu : P.underlying t = some (.map kt et)) (hk0 : P.underlying kt = some κ.d)
    (hv : putK l k0 pv = l') (hm : metL all sl g0 = some gs)
    (g : Goal P C (.ops all rest (nx md ⟨none, gs ++ (rq x (.one (.mp id)) ++ rq y (.one (.p (.k (κ.enc k0)))) ++ rq u (.one (.p pv))), [(id, .map (encE κ l))], [], .un, [(id, some (.map (encE κ l')))]⟩)) k n sl ((id, some (.map (encE κ l'))) :: tab) Q) :
    Goal P C (.ops all (⟨none, .insert t x y u, ty, ps, af, g0⟩ :: rest) md) k n sl tab Q := by
  subst hv
  have e1 := of_ev (st := ⟨n, sl, tab⟩) hx
  have e2 := of_ev (st := ⟨n, sl, tab⟩) hy
  have e3 := of_ev (st := ⟨n, sl, tab⟩) hw
  have := metL_step hm (L_insert (P := P) (ty := ty) (ps := ps) (af := af) (g := g0) (d := none) (l := l) e1.1 e2.1 e3.1 hu hk0) (n := n) (tab := tab)
  exact g_law (L := ⟨none, gs ++ (rq x (.one (.mp id)) ++ rq y (.one (.p (.k (κ.enc k0)))) ++ rq u (.one (.p pv))), [(id, .map (encE κ l))], [], .un, [(id, some (.map (encE κ (putK l k0 pv))))]⟩) hC this.1 rfl ⟨by rw [okS_append, okS_append, okS_append]; exact ⟨this.2, ⟨e1.2, e2.2⟩, e3.2⟩, ⟨hT, trivial⟩, rfl, rfl⟩ g
end
section
variable {P : Program} {d : Option Nat} {ty : TypeId} {ps : String} {af : Array Edge} {g : Option (Nat × Bool)} {x y : Operand} {t : TypeId}
/-- A string out of a plain slice of bytes. -/
theorem L_b2sP {s : ByteArray} {src dst e : TypeId} (h0 : 0 < s.size) (hx : okc x (.one (.p (.sl 1 (bytesR s))))) (hs : P.underlying src = some (.slice e)) (he : P.underlying e = some (.int .u8)) (hd : P.underlying dst = some .string) :
    Snd P ⟨d, .convert src dst x, ty, ps, af, g⟩ (rq x (.one (.p (.sl 1 (bytesR s))))) [] [] (Sr s) [] :=
  snd_quiet fun C st M ρ a w hH h1 hT => by
    have e1 := hH.evS (ev_of hx h1)
    simp only [RepS, RepV, RepPV] at e1
    obtain ⟨a', cap, f1, f2, f3, f4⟩ := e1
    rw [bytesR_len] at f1
    refine ⟨.string s, ?_, by simp only [RepS, RepV, RepPV]; exact ⟨trivial, rfl⟩⟩
    rcases f4 with h0 | ⟨b, o, rfl, f6⟩
    · have : (bytesR s).length = 0 := by rw [h0]; rfl
      rw [bytesR_len] at this
      omega
    · have hlen : s.data.toList.length = s.size := by rw [Array.length_toList]; rfl
      have hcell : ∀ j (hj : j < s.data.toList.length), w.cell? ((⟨b, o, none⟩ : Addr).add j) = some (.int .u8 ((s.data.toList)[j].toNat : Int)) := fun j hj => by
        have := (f6.get (i := j) (r := [.k (.int .u8 ((s.data.toList)[j].toNat : Int))]) (by simp only [bytesR, List.getElem?_map, List.getElem?_eq_getElem hj, Option.map_some])).2
        simp only [RowIn, RepPV, Nat.mul_one] at this
        obtain ⟨⟨c, c1, c2, _⟩, _⟩ := this
        rw [add_addr]
        subst c2
        exact hH.run.imm b (o + j) _ c1
      have hrun := run_convert_bytes_back (P := P) w src dst e ⟨b, o, none⟩ cap s.data.toList hs he hd hcell
      rw [hlen] at hrun
      simp only [execOp, f1, Sem.run_bind, hrun, Result.andThen_ok, Sem.run_pure]
end
section
variable {P : Program} {C : Ctx} {k : List Frm} {n : Nat} {sl : Slots} {tab : Tab} {Q : Exit → St → Prop} {all : Array Oper} {rest : List Oper}
theorem g_b2sP {d : Nat} {x : Operand} {src dst e ty : TypeId} {ps : String} {af : Array Edge} {g0 : Option (Nat × Bool)} {gs : Slots} {md : Mode} (hC : C.low) {s : ByteArray} (h0 : 0 < s.size)
    (hx : ev sl x = some (.one (.p (.sl 1 (bytesR s))))) (hs : P.underlying src = some (.slice e)) (he : P.underlying e = some (.int .u8)) (hdd : P.underlying dst = some .string) (hm : metL all sl g0 = some gs) (hd : Nat.blt d n = true)
    (g : Goal P C (.ops all rest (nx md ⟨some d, gs ++ rq x (.one (.p (.sl 1 (bytesR s)))), [], [], Sr s, []⟩)) k n ((d, Sr s) :: sl) tab Q) :
    Goal P C (.ops all (⟨some d, .convert src dst x, ty, ps, af, g0⟩ :: rest) md) k n sl tab Q := by
  have e1 := of_ev (st := ⟨n, sl, tab⟩) hx
  have := metL_step hm (L_b2sP (P := P) (s := s) (ty := ty) (ps := ps) (af := af) (g := g0) (d := some d) h0 e1.1 hs he hdd) (n := n) (tab := tab)
  exact g_law (L := ⟨some d, gs ++ rq x (.one (.p (.sl 1 (bytesR s)))), [], [], Sr s, []⟩) hC this.1 rfl ⟨by rw [okS_append]; exact ⟨this.2, e1.2⟩, trivial, rfl, hd⟩ g
end
end Hw
/- The engine, part AZ: nil slices within rows. -/
namespace Hw
open Go

/-! Plain values that say more than others: nil slices within rows. -/
mutual
inductive LP : PV → PV → Prop
  | refl (p : PV) : LP p p
  | nil (e : Nat) : LP (.k (.slice none 0 0)) (.sl e [])
  | sl {e : Nat} {rows rows' : List (List PV)} (h : LRs rows rows') : LP (.sl e rows) (.sl e rows')
inductive LRs : List (List PV) → List (List PV) → Prop
  | nil : LRs [] []
  | cons {r r' : List PV} {rs rs' : List (List PV)} (h : LR r r') (hs : LRs rs rs') : LRs (r :: rs) (r' :: rs')
inductive LR : List PV → List PV → Prop
  | nil : LR [] []
  | cons {p p' : PV} {ps ps' : List PV} (h : LP p p') (hs : LR ps ps') : LR (p :: ps) (p' :: ps')
end
theorem LR.len {r r' : List PV} : LR r r' → r'.length = r.length
  | .nil => rfl
  | .cons _ hs => by rw [List.length_cons, List.length_cons, LR.len hs]
theorem LRs.len {r r' : List (List PV)} : LRs r r' → r'.length = r.length
  | .nil => rfl
  | .cons _ hs => by rw [List.length_cons, List.length_cons, LRs.len hs]
mutual
theorem LP.rep {M : Mem} {p q : PV} {v : Value} : LP p q → RepPV M p v → RepPV M q v
  | .refl _, h => h
  | .nil e, h => by
    simp only [RepPV] at h ⊢
    exact ⟨none, 0, h.1, Nat.le_refl _, Nat.zero_le _, .inl trivial⟩
  | .sl hr, h => by
    simp only [RepPV] at h ⊢
    obtain ⟨a, cap, h1, h2, h3, h4⟩ := h
    rw [hr.len]
    refine ⟨a, cap, h1, h2, h3, ?_⟩
    rcases h4 with h4 | ⟨b, o, h4, h5⟩
    · left
      have := hr.len
      rw [h4] at this
      exact List.length_eq_zero_iff.1 this
    · exact .inr ⟨b, o, h4, LRs.rep hr h5⟩
theorem LRs.rep {M : Mem} {g : Nat → Option Value} {e o : Nat} {rows rows' : List (List PV)} : LRs rows rows' → RowsIn M g e rows o → RowsIn M g e rows' o
  | .nil, h => h
  | .cons hr hs, h => by
    simp only [RowsIn] at h ⊢
    exact ⟨hr.len.trans h.1, LR.rep hr h.2.1, LRs.rep hs h.2.2⟩
theorem LR.rep {M : Mem} {g : Nat → Option Value} {o : Nat} {r r' : List PV} : LR r r' → RowIn M g r o → RowIn M g r' o
  | .nil, h => h
  | .cons hp hs, h => by
    simp only [RowIn] at h ⊢
    obtain ⟨⟨c, c1, c2⟩, h2⟩ := h
    exact ⟨⟨c, c1, LP.rep hp c2⟩, LR.rep hs h2⟩
end
theorem LeV.lp {p q : PV} (h : LP p q) : LeV (.p p) (.p q) := fun M ρ x hr => by simp only [RepV] at hr ⊢; exact LP.rep h hr
theorem LeVs.lr : ∀ {r r' : List PV}, LR r r' → LeVs (r.map V.p) (r'.map V.p)
  | _, _, .nil => .nil
  | _, _, .cons h hs => .cons (.lp h) (LeVs.lr hs)
theorem LeS.lr {r r' : List PV} (h : LR r r') : LeS (.agg (r.map V.p)) (.agg (r'.map V.p)) := LeS.agg (LeVs.lr h)
end Hw
/- The engine, part BA: structs of two strings, compared. -/
namespace Hw
open Go

/-! Structs of two strings, compared. -/
def twoStr (P : Program) (t : TypeId) : Bool := match P.underlying t with
  | some (.struct fs) => match fs.toList with
    | [f, g] => decide (f.name ≠ "_") && decide (g.name ≠ "_") && Nat.beq f.offset 0 && Nat.beq g.offset 1 && (match P.underlying f.type with | some .string => true | _ => false) && (match P.underlying g.type with | some .string => true | _ => false) && !P.stoodInHeld t && !P.eqGuardType P.depth t
    | _ => false
  | _ => false
theorem run_two {P : Program} {t : TypeId} (h : twoStr P t = true) (a b c d : ByteArray) (w : World) : (binOp .neq t (.agg #[.string a, .string b]) (.agg #[.string c, .string d])).run P w = .ok (.bool (!(decide (a = c) && decide (b = d)))) w := by
  unfold twoStr at h
  split at h
  · rename_i fs hu
    split at h
    · rename_i f g hfs
      simp only [Bool.and_eq_true, decide_eq_true_eq, Bool.not_eq_true'] at h
      obtain ⟨⟨⟨⟨⟨⟨⟨h1, h2⟩, h3⟩, h4⟩, h5⟩, h6⟩, h7⟩, h8⟩ := h
      have h3 := Nat.eq_of_beq_eq_true h3
      have h4 := Nat.eq_of_beq_eq_true h4
      have hf : P.underlying f.type = some .string := by split at h5 <;> first | assumption | cases h5
      have hg : P.underlying g.type = some .string := by split at h6 <;> first | assumption | cases h6
      have hF : P.fieldsOf t = fs := by simp [Program.fieldsOf, hu]
      rw [run_neq_struct, run_equalIn_agg (d := 9999) w t _ _ (by rw [hF]; exact hu) h7, hF, hfs]
      have p1 : ∀ (u v : ByteArray), (part f.type #[.string u, .string v] f.offset).run P w = .ok (.string u) w := fun u v => by simp [part, isAgg, run_underlying hf, h3]
      have p2 : ∀ (u v : ByteArray), (part g.type #[.string u, .string v] g.offset).run P w = .ok (.string v) w := fun u v => by simp [part, isAgg, run_underlying hg, h4]
      have q1 : ∀ (u v : ByteArray), (Op.equalIn 9999 f.type (.string u) (.string v)).run P w = .ok (decide (u = v)) w := fun u v => by
        rw [run_equalIn_string (d := 9998) w f.type u v hf, ← beq_toListBytes, bytes_eq]
      have q2 : ∀ (u v : ByteArray), (Op.equalIn 9999 g.type (.string u) (.string v)).run P w = .ok (decide (u = v)) w := fun u v => by
        rw [run_equalIn_string (d := 9998) w g.type u v hg, ← beq_toListBytes, bytes_eq]
      simp only [Op.eqFields, if_pos h1, if_pos h2, Sem.run_bind, p1, p2, q1, q2, Result.andThen_ok, Sem.run_ite]
      by_cases e1 : a = c
      · by_cases e2 : b = d
        · simp [e1, e2]
        · simp [e1, e2]
      · simp [e1]
    · cases h
  · cases h
theorem guard_two {P : Program} {t : TypeId} (h : twoStr P t = true) (x y : Operand) (xs ys : Array Value) (w : World) : (eqGuard .neq t x y (.agg xs) (.agg ys)).run P w = .ok () w := by
  refine run_eqGuard_agg w .neq t x y xs ys ?_
  unfold twoStr at h
  split at h
  · split at h
    · simp only [Bool.and_eq_true, Bool.not_eq_true'] at h; exact h.2
    · cases h
  · cases h
section
variable {P : Program} {d : Option Nat} {ty : TypeId} {ps : String} {af : Array Edge} {g : Option (Nat × Bool)} {x y : Operand} {t : TypeId}
theorem L_neqSS {t' : TypeId} {a b a' b' : ByteArray} (hx : okc x (.agg [.p (.k (.string a)), .p (.k (.string b))])) (hy : okc y (.agg [.p (.k (.string a')), .p (.k (.string b'))])) (h : twoStr P t = true) :
    Snd P ⟨d, .binOp .neq t x y t', ty, ps, af, g⟩ (rq x (.agg [.p (.k (.string a)), .p (.k (.string b))]) ++ rq y (.agg [.p (.k (.string a')), .p (.k (.string b'))])) [] [] (.bq (!(decide (a = a') && decide (b = b')))) [] :=
  snd_quiet fun C st M ρ ac w hH h1 _ => by
    rw [okS_append] at h1
    have e1 := hH.evS (ev_of hx h1.1)
    have e2 := hH.evS (ev_of hy h1.2)
    simp only [RepS] at e1 e2
    obtain ⟨cs, e1, f1⟩ := e1
    obtain ⟨ds, e2, f2⟩ := e2
    match cs, ds, f1, f2 with
    | [c1, c2], [d1, d2], f1, f2 =>
      simp only [RepVs, RepV, RepPV] at f1 f2
      obtain ⟨⟨rfl, _⟩, ⟨rfl, _⟩, _⟩ := f1
      obtain ⟨⟨rfl, _⟩, ⟨rfl, _⟩, _⟩ := f2
      exact ⟨.bool (!(decide (a = a') && decide (b = b'))), by simp only [execOp, e1, e2, Sem.run_bind, guard_two h, run_two h, Result.andThen_ok, Sem.run_pure], by simp only [RepS]⟩
    | [], _, f1, _ => simp [RepVs] at f1
    | [_], _, f1, _ => simp [RepVs] at f1
    | _ :: _ :: _ :: _, _, f1, _ => simp [RepVs] at f1
    | [_, _], [], _, f2 => simp [RepVs] at f2
    | [_, _], [_], _, f2 => simp [RepVs] at f2
    | [_, _], _ :: _ :: _ :: _, _, f2 => simp [RepVs] at f2
end
section
variable {P : Program} {C : Ctx} {k : List Frm} {n : Nat} {sl : Slots} {tab : Tab} {Q : Exit → St → Prop} {all : Array Oper} {rest : List Oper}
theorem g_neqSS {d : Nat} {x y : Operand} {t t' ty : TypeId} {ps : String} {af : Array Edge} {g0 : Option (Nat × Bool)} {gs : Slots} {md : Mode} (hC : C.low) {a b a' b' : ByteArray}
    (hx : ev sl x = some (.agg [.p (.k (.string a)), .p (.k (.string b))])) (hy : ev sl y = some (.agg [.p (.k (.string a')), .p (.k (.string b'))])) (h : twoStr P t = true) (hm : metL all sl g0 = some gs) (hd : Nat.blt d n = true)
    (g : Goal P C (.ops all rest (nx md ⟨some d, gs ++ (rq x (.agg [.p (.k (.string a)), .p (.k (.string b))]) ++ rq y (.agg [.p (.k (.string a')), .p (.k (.string b'))])), [], [], .bq (!(decide (a = a') && decide (b = b'))), []⟩)) k n ((d, .bq (!(decide (a = a') && decide (b = b')))) :: sl) tab Q) :
    Goal P C (.ops all (⟨some d, .binOp .neq t x y t', ty, ps, af, g0⟩ :: rest) md) k n sl tab Q := by
  have e1 := of_ev (st := ⟨n, sl, tab⟩) hx
  have e2 := of_ev (st := ⟨n, sl, tab⟩) hy
  have := metL_step hm (L_neqSS (P := P) (ty := ty) (ps := ps) (af := af) (g := g0) (d := some d) (t' := t') e1.1 e2.1 h) (n := n) (tab := tab)
  exact g_law (L := ⟨some d, gs ++ (rq x (.agg [.p (.k (.string a)), .p (.k (.string b))]) ++ rq y (.agg [.p (.k (.string a')), .p (.k (.string b'))])), [], [], .bq (!(decide (a = a') && decide (b = b'))), []⟩) hC this.1 rfl ⟨by rw [okS_append, okS_append]; exact ⟨this.2, e1.2, e2.2⟩, trivial, rfl, hd⟩ g
end
end Hw
/- The engine, part BB: slices of strings. -/
namespace Hw
open Go
section
variable {P : Program} {d : Option Nat} {ty : TypeId} {ps : String} {af : Array Edge} {g : Option (Nat × Bool)} {x y : Operand} {t : TypeId}
theorem L_slTo {a : ByteArray} {j : Int} {k : IntKind} (hx : okc x (Sr a)) (hy : okc y (Kk k j)) (ht : P.underlying t = some .string) (h0 : 0 ≤ j) (h1 : j ≤ a.size) :
    Snd P ⟨d, .slice t x none (some y) none, ty, ps, af, g⟩ (rq x (Sr a) ++ rq y (Kk k j)) [] [] (Sr (a.extract 0 j.toNat)) [] :=
  snd_quiet fun C st M ρ b w hH hs _ => by
    rw [okS_append] at hs
    have e1 := hH.k (ev_of hx hs.1)
    have e2 := hH.k (ev_of hy hs.2)
    refine ⟨.string (a.extract 0 j.toNat), ?_, by simp only [RepS, RepV, RepPV]; exact ⟨trivial, rfl⟩⟩
    simp only [execOp, e1, e2, Option.map_none, Option.map_some, Sem.run_bind, run_sliceAt_string w t _ _ _ _ ht, run_slice_string_to_if w t a k j ht, if_pos (⟨h0, h1⟩ : 0 ≤ j ∧ j ≤ (a.size : Int)), Result.andThen_ok, Sem.run_pure]
theorem L_slFrom {a : ByteArray} {j : Int} {k : IntKind} (hx : okc x (Sr a)) (hy : okc y (Kk k j)) (ht : P.underlying t = some .string) (h0 : 0 ≤ j) (h1 : j ≤ a.size) :
    Snd P ⟨d, .slice t x (some y) none none, ty, ps, af, g⟩ (rq x (Sr a) ++ rq y (Kk k j)) [] [] (Sr (a.extract j.toNat a.size)) [] :=
  snd_quiet fun C st M ρ b w hH hs _ => by
    rw [okS_append] at hs
    have e1 := hH.k (ev_of hx hs.1)
    have e2 := hH.k (ev_of hy hs.2)
    refine ⟨.string (a.extract j.toNat a.size), ?_, by simp only [RepS, RepV, RepPV]; exact ⟨trivial, rfl⟩⟩
    simp only [execOp, e1, e2, Option.map_none, Option.map_some, Sem.run_bind, run_sliceAt_string w t _ _ _ _ ht, run_slice_string_from_if w t a k j ht, if_pos (⟨h0, h1⟩ : 0 ≤ j ∧ j ≤ (a.size : Int)), Result.andThen_ok, Sem.run_pure]
end
variable {P : Program} {C : Ctx} {k : List Frm} {n : Nat} {sl : Slots} {tab : Tab} {Q : Exit → St → Prop} {all : Array Oper} {rest : List Oper}
theorem g_slTo {d : Nat} {x y : Operand} {t ty : TypeId} {ps : String} {af : Array Edge} {g0 : Option (Nat × Bool)} {gs : Slots} {md : Mode} (hC : C.low) {a : ByteArray} {j : Int} {k0 : IntKind}
    (hx : ev sl x = some (Sr a)) (hy : ev sl y = some (Kk k0 j)) (ht : P.underlying t = some .string) (h0 : 0 ≤ j) (h1 : j ≤ a.size) (hm : metL all sl g0 = some gs) (hd : Nat.blt d n = true)
    (g : Goal P C (.ops all rest (nx md ⟨some d, gs ++ (rq x (Sr a) ++ rq y (Kk k0 j)), [], [], Sr (a.extract 0 j.toNat), []⟩)) k n ((d, Sr (a.extract 0 j.toNat)) :: sl) tab Q) :
    Goal P C (.ops all (⟨some d, .slice t x none (some y) none, ty, ps, af, g0⟩ :: rest) md) k n sl tab Q := by
  have e1 := of_ev (st := ⟨n, sl, tab⟩) hx
  have e2 := of_ev (st := ⟨n, sl, tab⟩) hy
  have := metL_step hm (L_slTo (P := P) (ty := ty) (ps := ps) (af := af) (g := g0) (d := some d) (t := t) e1.1 e2.1 ht h0 h1) (n := n) (tab := tab)
  exact g_law (L := ⟨some d, gs ++ (rq x (Sr a) ++ rq y (Kk k0 j)), [], [], Sr (a.extract 0 j.toNat), []⟩) hC this.1 rfl ⟨by rw [okS_append, okS_append]; exact ⟨this.2, e1.2, e2.2⟩, trivial, rfl, hd⟩ g
theorem g_slFrom {d : Nat} {x y : Operand} {t ty : TypeId} {ps : String} {af : Array Edge} {g0 : Option (Nat × Bool)} {gs : Slots} {md : Mode} (hC : C.low) {a : ByteArray} {j : Int} {k0 : IntKind}
    (hx : ev sl x = some (Sr a)) (hy : ev sl y = some (Kk k0 j)) (ht : P.underlying t = some .string) (h0 : 0 ≤ j) (h1 : j ≤ a.size) (hm : metL all sl g0 = some gs) (hd : Nat.blt d n = true)
    (g : Goal P C (.ops all rest (nx md ⟨some d, gs ++ (rq x (Sr a) ++ rq y (Kk k0 j)), [], [], Sr (a.extract j.toNat a.size), []⟩)) k n ((d, Sr (a.extract j.toNat a.size)) :: sl) tab Q) :
    Goal P C (.ops all (⟨some d, .slice t x (some y) none none, ty, ps, af, g0⟩ :: rest) md) k n sl tab Q := by
  have e1 := of_ev (st := ⟨n, sl, tab⟩) hx
  have e2 := of_ev (st := ⟨n, sl, tab⟩) hy
  have := metL_step hm (L_slFrom (P := P) (ty := ty) (ps := ps) (af := af) (g := g0) (d := some d) (t := t) e1.1 e2.1 ht h0 h1) (n := n) (tab := tab)
  exact g_law (L := ⟨some d, gs ++ (rq x (Sr a) ++ rq y (Kk k0 j)), [], [], Sr (a.extract j.toNat a.size), []⟩) hC this.1 rfl ⟨by rw [okS_append, okS_append]; exact ⟨this.2, e1.2, e2.2⟩, trivial, rfl, hd⟩ g
end Hw
/- The engine, part BC: a string's bytes as an array of the run's own. -/
namespace Hw
open Go
section
variable {P : Program} {d : Option Nat} {ty : TypeId} {ps : String} {af : Array Edge} {g : Option (Nat × Bool)} {x y : Operand} {t : TypeId}
theorem bytes_rows {M : Mem} {g : Nat → Option Value} : ∀ (l : List UInt8) (o : Nat), (∀ (j : Nat) b, l[j]? = some b → g (o + j) = some (.int .u8 b.toNat)) → RowsIn M g 1 (l.map fun b => [PV.k (.int .u8 b.toNat)]) o
  | [], _, _ => by simp only [List.map_nil, RowsIn]
  | b :: l, o, h => by
    simp only [List.map_cons, RowsIn, RowIn, RepPV]
    refine ⟨rfl, ⟨⟨_, by simpa using h 0 b rfl, rfl, rfl⟩, trivial⟩, bytes_rows l (o + 1) fun j c hj => ?_⟩
    have := h (j + 1) c (by simpa using hj)
    rwa [show o + 1 + j = o + (j + 1) by omega]
theorem L_s2b {id : Nat} {s : ByteArray} {src dst e : TypeId} (hx : okc x (Sr s)) (hs : P.underlying src = some .string) (hd' : P.underlying dst = some (.slice e)) (he : P.underlying e = some (.int .u8)) (hl : s.size ≤ maxLen) :
    Snd P ⟨d, .convert src dst x, ty, ps, af, g⟩ (rq x (Sr s)) [] [id] (.one (.ar id)) [(id, some (.arr 1 (bytesR s)))] := by
  intro C st M ρ a w hH h1 hT hF hd k Q hk
  have e1 := hH.k (ev_of hx h1)
  have hge := grownCap_ge w s.size 0 e
  have hmx := grownCap_le_maxLen w s.size 0 e hl
  have hrun : (execOp a.eval ⟨d, .convert src dst x, ty, ps, af, g⟩).run P w = .ok (.value (.slice (some ⟨w.heap.size, 0, none⟩) s.size (grownCap w s.size 0 e)))
      (w.drew.alloc (.cells (bytesRow s (grownCap w s.size 0 e)) e ((bytesRow s (grownCap w s.size 0 e)).size, (bytesRow s (grownCap w s.size 0 e)).size + 1))) := by
    simp only [execOp, e1, Sem.run_bind, run_bytes_of_string w src dst e s hs hd' he, Result.andThen_ok, Sem.run_pure]
  unfold Oper.wp
  rw [hrun, Oper.upon_value]
  generalize grownCap w s.size 0 e = cap at *
  have hsz : (bytesRow s cap).size = cap := by
    simp only [bytesRow, Array.size_append, Array.size_map, Array.size_replicate]
    have : s.data.size = s.size := rfl
    omega
  have hlen : (bytesR s).length = s.size := by simp only [bytesR, List.length_map, Array.length_toList]; rfl
  have hml : maxLen ≤ 9223372036854775807 := by decide
  generalize hW : w.drew.alloc (.cells (bytesRow s cap) e ((bytesRow s cap).size, (bytesRow s cap).size + 1)) = w'
  have hheap : w'.heap = w.heap.push (.cells (bytesRow s cap) e ((bytesRow s cap).size, (bytesRow s cap).size + 1)) := by rw [← hW]; rfl
  have hR : HoldsR M (upd ρ id (.slice (some ⟨w.heap.size, 0, none⟩) s.size cap)) w' id (.arr 1 (bytesR s)) := by
    refine ⟨some ⟨w.heap.size, 0, none⟩, cap, by rw [upd_same, hlen], by rw [hlen]; exact hge, by omega, .inr ⟨w.heap.size, 0, bytesRow s cap, e, _, rfl, by rw [hheap, Array.getElem?_push_size], fun i hi => ?_, by rw [hsz]; omega, bytes_rows _ 0 fun j b hj => ?_⟩⟩
    · simp only [Bool.and_eq_false_iff, decide_eq_false_iff_not]; omega
    have hlt := (List.getElem?_eq_some_iff.1 hj).1
    rw [Array.length_toList] at hlt
    rw [Array.getElem?_toList] at hj
    rw [Nat.zero_add, bytesRow, Array.getElem?_append_left (by rw [Array.size_map]; exact hlt), Array.getElem?_map, hj]
    rfl
  refine hk _ _ M _ (hH.step none (val := .slice (some ⟨w.heap.size, 0, none⟩) s.size cap) (fun b hb _ => by rw [hheap, Array.getElem?_push, if_neg (by omega)]) (by rw [hheap]; simp) (by rw [← hW]; rfl) (by rw [← hW]; rfl) (by rw [← hW]; rfl)
    (fun b hb => by simp only [Bk, blk, Option.some.injEq] at hb; exact .inl (by omega)) hF.1 hR (by simp only [RepS, RepV]; exact ⟨(upd_same _ _ _).symm, rfl⟩) hd)
end
variable {P : Program} {C : Ctx} {k : List Frm} {n : Nat} {sl : Slots} {tab : Tab} {Q : Exit → St → Prop} {all : Array Oper} {rest : List Oper}
theorem g_s2b {d : Nat} {x : Operand} {src dst e ty : TypeId} {ps : String} {af : Array Edge} {g0 : Option (Nat × Bool)} {gs : Slots} {md : Mode} (hC : C.low) {s : ByteArray}
    (hx : ev sl x = some (Sr s)) (hs : P.underlying src = some .string) (hd' : P.underlying dst = some (.slice e)) (he : P.underlying e = some (.int .u8)) (hl : s.size ≤ 140737488355328) (hm : metL all sl g0 = some gs) (hd : Nat.blt d n = true)
    (hf : (Nat.ble 100 (1000 + d) && freshB (1000 + d) ⟨n, sl, tab⟩) = true)
    (g : Goal P C (.ops all rest (nx md ⟨some d, gs ++ rq x (Sr s), [], [1000 + d], .one (.ar (1000 + d)), [(1000 + d, some (.arr 1 (bytesR s)))]⟩)) k n ((d, .one (.ar (1000 + d))) :: sl) ((1000 + d, some (.arr 1 (bytesR s))) :: tab) Q) :
    Goal P C (.ops all (⟨some d, .convert src dst x, ty, ps, af, g0⟩ :: rest) md) k n sl tab Q := by
  have e1 := of_ev (st := ⟨n, sl, tab⟩) hx
  have hml : 140737488355328 ≤ maxLen := by decide
  have := metL_step hm (L_s2b (P := P) (ty := ty) (ps := ps) (af := af) (g := g0) (d := some d) (id := 1000 + d) e1.1 hs hd' he (by omega)) (n := n) (tab := tab)
  exact g_law (L := ⟨some d, gs ++ rq x (Sr s), [], [1000 + d], .one (.ar (1000 + d)), [(1000 + d, some (.arr 1 (bytesR s)))]⟩) hC this.1 rfl ⟨by rw [okS_append]; exact ⟨this.2, e1.2⟩, trivial, fr_one hf, hd⟩ g
end Hw
