/- The engine, part AW: a literal of one part in a box; rows of integers as cells; what a call of the library's leaves in an array of the run's own. -/
import Derived.Test.YtnijeifpjjeccaaGreatE3
import Derived.Laws.IdiomCopy
import Derived.Laws.IdiomStrings
import Derived.Laws.Slices
import Derived.Below
import Derived.Laws.StructEq
import Derived.Laws.Strings3
set_option linter.unusedVariables false
set_option linter.unusedSimpArgs false
namespace Hw
open Go

theorem setCells_row (b : Nat) (t : TypeId) (fz : Nat × Nat) : ∀ (vs : List Value) (o : Nat) (cur : Array Value) (w : World), w.heap[b]? = some (.cells cur t fz) → o + vs.length ≤ cur.size → w.setCells b o vs = w.setRow b (setAt cur.toList o vs).toArray
  | [], o, cur, w, hg, _ => by
    simp only [setAt, World.setCells, List.append_nil, List.length_nil, Nat.add_zero, List.take_append_drop, Array.toArray_toList]
    exact (setRow_self w b cur t fz hg).symm
  | v :: rest, o, cur, w, hg, hl => by
    simp only [List.length_cons] at hl
    have ih := setCells_row b t fz rest (o + 1) (cur.setIfInBounds o v) (w.setRow b (cur.setIfInBounds o v)) (setRow_heap w b cur _ t _ hg) (by simp; omega)
    rw [World.setCells, setCell_eq_setRow w b o cur t fz v hg, ih, setRow_setRow]
    congr 2
    have e := list_seg_step cur.toList o v rest (by simp; omega)
    simpa [setAt, Array.toList_setIfInBounds, Nat.add_assoc] using e

/-- Rows of integers, as cells. -/
theorem ints_rows {M : Mem} {g : Nat → Option Value} {l : List (List PV)} {vs : List Value} {o : Nat} (hl : ∀ r ∈ l, r.length = 1) (hr : RepVs M (fun _ => undef) (l.flatten.map V.p) vs) (h : ∀ j c, vs[j]? = some c → g (o + j) = some c) : RowsIn M g 1 l o :=
  RowsIn.of_cells (ρ := fun _ => undef) hl hr h

section
variable {P : Program} {d : Option Nat} {ty : TypeId} {ps : String} {af : Array Edge} {g : Option (Nat × Bool)} {x y : Operand} {t : TypeId}
theorem L_quoI {t' : TypeId} {k : IntKind} {n m : Int} (h0 : m ≠ 0) (hx : okc x (Kk k n)) (hy : okc y (Kk k m)) :
    Snd P ⟨d, .binOp .quo t x y t', ty, ps, af, g⟩ (rq x (Kk k n) ++ rq y (Kk k m)) [] [] (Kk k (k.wrap (n.tdiv m))) [] :=
  L_bin hx hy rfl fun w => ⟨rfl, by rw [binOp_quo]; simp [Op.intDiv, h0]⟩
/-- A literal of one part, in a box of the run's own. -/
theorem L_lit_bs {id e : Nat} {s : S} {us : List V} {el : TypeId} {z : List V} (hx : okc x s) (hc : cellsOf s = some us) (hrl : us.length = e) (hm : mentVs id us = false)
    (he : elemSz P t = some (el, e)) (hz : zeroV P el = some z) (he0 : 0 < e) (heb : e ≤ 16777216) :
    Snd P ⟨d, .buildSlice t 1 #[(0, x)], ty, ps, af, g⟩ (rq x s) [] [id] (.one (.bs id 0 1)) [(id, some (.box us))] := by
  intro C st M ρ a w hH h1 hT hF hd k Q hk
  have e' := cellsOf_spec hc (hH.evS (ev_of hx h1))
  obtain ⟨ii, hu, hinf, hsz⟩ := elemSz_spec he
  obtain ⟨i', zv, hi', hzv, hzs⟩ := zeroV_len hz
  rw [hinf] at hi'; simp only [Option.some.injEq] at hi'; subst hi'
  have hcl : (a.eval x).cells.size = e := by have := e'.length; simp at this; omega
  have hfill : ∀ cur : Array Value, cur.size = e → Instr.fill (fun i => some (i * e, e)) cur [(0, a.eval x)] = some (a.eval x).cells := fun cur hcur => by
    simp only [Instr.fill]
    have hcond : ¬ ((a.eval x).cells.size ≠ e || 0 * e + (a.eval x).cells.size > cur.size) = true := by
      simp only [ne_eq, Bool.or_eq_true, decide_eq_true_eq]; omega
    have hfold := zipIdx_fold cur (0 * e) (a.eval x).cells.toList 0 cur (by simp; omega)
    have hfold' : (a.eval x).cells.zipIdx.foldl (fun cs (p : Value × Nat) => cs.setIfInBounds (0 * e + p.2) p.1) cur = (setAt cur.toList (0 * e) (a.eval x).cells.toList).toArray := by
      rw [← Array.foldl_toList]
      simpa using hfold
    rw [if_neg hcond, hfold']
    congr 1
    unfold setAt
    have : cur.toList.drop (0 * e + (a.eval x).cells.toList.length) = [] := by apply List.drop_eq_nil_of_le; simp; omega
    rw [this]; simp
  have hrun : (execOp a.eval ⟨d, .buildSlice t 1 #[(0, x)], ty, ps, af, g⟩).run P w = .ok (.value (.slice (some ⟨w.heap.size, 0, none⟩) 1 1)) (w.alloc (.cells (a.eval x).cells el)) := by
    have hn : ¬ 16777216 < e := by omega
    have h0 : ¬ e = 0 := by omega
    have hf := hfill ((Array.range (1 * e)).map fun x => zv.cells[x % zv.cells.size]!) (by simp)
    have hzrun : (zeroValue el).run P w = .ok zv w := by simp [zeroValue, typeInfo, hinf, hzv]
    simp [execOp, Instr.buildSlice, run_underlying hu, run_sizeOf hinf, hsz, hn, h0, newRow, hzrun] at hf ⊢
    simp [hf]
  unfold Oper.wp
  rw [hrun, Oper.upon_value]
  refine hk _ _ M _ (hH.alloc (val := .pointer (some ⟨w.heap.size, 0, none⟩)) (fun b hb => by simp only [Bk, blk, Option.some.injEq] at hb; exact hb.symm) hF.1
    ⟨w.heap.size, (a.eval x).cells.toList, el, upd_same _ _ _, by simpa using heap_push_new w _, RepVs.agree (upd_agree ρ id _) _ _ (fun i hi => by subst hi; exact hm) e'⟩
    (by simp only [RepS, RepV]; exact ⟨w.heap.size, 1, upd_same _ _ _, rfl, Nat.le_refl 1⟩) hd)
end

section
variable {P : Program} {C : Ctx} {k : List Frm} {n : Nat} {sl : Slots} {tab : Tab} {Q : Exit → St → Prop} {all : Array Oper} {rest : List Oper} {cur : Cur}
theorem g_quo {d : Nat} {x y : Operand} {t t' ty : TypeId} {ps : String} {af : Array Edge} {g0 : Option (Nat × Bool)} {gs : Slots} {md : Mode} (hC : C.low) {k0 : IntKind} {a m : Int}
    (hx : ev sl x = some (Kk k0 a)) (hy : ev sl y = some (Kk k0 m)) (h0 : m ≠ 0) (hm : metL all sl g0 = some gs) (hd : Nat.blt d n = true)
    (g : Goal P C (.ops all rest (nx md ⟨some d, gs ++ (rq x (Kk k0 a) ++ rq y (Kk k0 m)), [], [], Kk k0 (k0.wrap (a.tdiv m)), []⟩)) k n ((d, Kk k0 (k0.wrap (a.tdiv m))) :: sl) tab Q) :
    Goal P C (.ops all (⟨some d, .binOp .quo t x y t', ty, ps, af, g0⟩ :: rest) md) k n sl tab Q := by
  have e1 := of_ev (st := ⟨n, sl, tab⟩) hx
  have e2 := of_ev (st := ⟨n, sl, tab⟩) hy
  have := metL_step hm (L_quoI (P := P) (ty := ty) (ps := ps) (af := af) (g := g0) (d := some d) (t := t) (t' := t') h0 e1.1 e2.1) (n := n) (tab := tab)
  exact g_law (L := ⟨some d, gs ++ (rq x (Kk k0 a) ++ rq y (Kk k0 m)), [], [], Kk k0 (k0.wrap (a.tdiv m)), []⟩) hC this.1 rfl ⟨by rw [okS_append, okS_append]; exact ⟨this.2, e1.2, e2.2⟩, trivial, rfl, hd⟩ g
theorem g_litB (T : Ty P) {d : Nat} {x : Operand} {t ty : TypeId} {ps : String} {af : Array Edge} {g0 : Option (Nat × Bool)} {gs : Slots} {md : Mode} (hC : C.low) {e : Nat} {s : S} {us : List V} {el : TypeId} {z : List V}
    (hx : ev sl x = some s) (hc : cellsOf s = some us) (hrl : us.length = e) (hmu : mentVs (1000 + d) us = false) (he : T.es t = some (el, e)) (hz : T.zs el = some z) (he0 : Nat.blt 0 e = true) (heb : Nat.ble e 16777216 = true)
    (hm : metL all sl g0 = some gs) (hd : Nat.blt d n = true) (hf : (Nat.ble 100 (1000 + d) && freshB (1000 + d) ⟨n, sl, tab⟩) = true)
    (g : Goal P C (.ops all rest (nx md ⟨some d, gs ++ rq x s, [], [1000 + d], .one (.bs (1000 + d) 0 1), [(1000 + d, some (.box us))]⟩)) k n ((d, .one (.bs (1000 + d) 0 1)) :: sl) ((1000 + d, some (.box us)) :: tab) Q) :
    Goal P C (.ops all (⟨some d, .buildSlice t 1 #[(0, x)], ty, ps, af, g0⟩ :: rest) md) k n sl tab Q := by
  have e1 := of_ev (st := ⟨n, sl, tab⟩) hx
  have := metL_step hm (L_lit_bs (P := P) (ty := ty) (ps := ps) (af := af) (g := g0) (d := some d) (id := 1000 + d) e1.1 hc hrl hmu (T.es_ok _ _ he) (T.zs_ok _ _ hz) (by simpa [Nat.blt_eq] using he0) (Nat.le_of_ble_eq_true heb)) (n := n) (tab := tab)
  exact g_law (L := ⟨some d, gs ++ rq x s, [], [1000 + d], .one (.bs (1000 + d) 0 1), [(1000 + d, some (.box us))]⟩) hC this.1 rfl ⟨by rw [okS_append]; exact ⟨this.2, e1.2⟩, trivial, fr_one hf, hd⟩ g
end
end Hw
/- The engine, part AX: bytes and strings: sums, conversions, slices of an array in a box, cells of a global array, calls of plain library functions. -/
namespace Hw
open Go

/-- What a world holds of the program's variables. -/
def GOw (w : World) : Prop := GOn w ∧ (∀ b ∈ G1, ∃ m : Int, w.cell? ⟨b, 0, none⟩ = some (.int .i64 m)) ∧ ∀ p ∈ G2, ∃ el fz, w.heap[p.1]? = some (.cells p.2 el fz)
section
variable {P : Program} {d : Option Nat} {ty : TypeId} {ps : String} {af : Array Edge} {g : Option (Nat × Bool)} {x y : Operand} {t : TypeId}
/-- What is appended: the first cells of a box. -/
theorem SrcS.bs {e id n : Nat} {tx el : TypeId} {rows : List (List PV)} {vs : List V} (h : elemSz P tx = some (el, e)) (hv : vs.take (n * e) = rows.flatten.map V.p) (hl : ∀ r ∈ rows, r.length = e) (hn : rows.length = n) : SrcS P e tx (.one (.bs id 0 n)) [(id, .box vs)] rows := by
  intro C st M ρ a w v hH hr hT
  obtain ⟨_, hu, _, _⟩ := elemSz_spec h
  simp only [RepS, RepV] at hr
  obtain ⟨b, c, f1, rfl, _⟩ := hr
  obtain ⟨b', cs, el', g1, g2, g3⟩ := hH.tabs.res id _ hT.1
  rw [f1] at g1
  simp only [Value.pointer.injEq, Option.some.injEq, Addr.mk.injEq] at g1
  obtain ⟨rfl, _⟩ := g1
  have g4 := g3.take (n * e)
  rw [hv] at g4
  subst hn
  refine ⟨cs.take (rows.length * e), Src.ofSlice w hu ⟨b, 0, none⟩ rows.length c _ ?_ (fun j u hj => ?_) g4.one, g4, hl⟩
  · rw [g4.length, List.length_map, List.length_flatten]
    have : (rows.map List.length) = List.replicate rows.length e := by
      rw [List.eq_replicate_iff]
      exact ⟨by rw [List.length_map], fun q hq => by obtain ⟨r, hr, rfl⟩ := List.mem_map.1 hq; exact hl r hr⟩
    rw [this, List.sum_replicate_nat]
  · rw [add_addr, Nat.zero_add]
    rw [List.getElem?_take] at hj
    split at hj
    · simp [World.cell?, g2, hj]
    · cases hj
end

section
variable {P : Program} {C : Ctx} {k : List Frm} {n : Nat} {sl : Slots} {tab : Tab} {Q : Exit → St → Prop} {all : Array Oper} {rest : List Oper} {cur : Cur}
end
end Hw
/- The engine, part AY: arrays as values: literals, elements by a number. -/
namespace Hw
open Go

section
variable {P : Program} {d : Option Nat} {ty : TypeId} {ps : String} {af : Array Edge} {g : Option (Nat × Bool)} {x y : Operand} {t : TypeId}
end
section
variable {P : Program} {C : Ctx} {k : List Frm} {n : Nat} {sl : Slots} {tab : Tab} {Q : Exit → St → Prop} {all : Array Oper} {rest : List Oper}
end
section
variable {K : Type} [DecidableEq K] {P : Program} {d : Option Nat} {ty : TypeId} {ps : String} {af : Array Edge} {g : Option (Nat × Bool)} {x y u : Operand} {t kt et : TypeId}
end
section
variable {P : Program} {C : Ctx} {k : List Frm} {n : Nat} {sl : Slots} {tab : Tab} {Q : Exit → St → Prop} {all : Array Oper} {rest : List Oper}
end
section
variable {P : Program} {d : Option Nat} {ty : TypeId} {ps : String} {af : Array Edge} {g : Option (Nat × Bool)} {x y : Operand} {t : TypeId}
end
section
variable {P : Program} {C : Ctx} {k : List Frm} {n : Nat} {sl : Slots} {tab : Tab} {Q : Exit → St → Prop} {all : Array Oper} {rest : List Oper}
end
end Hw
/- The engine, part AZ: nil slices within rows. -/
namespace Hw
open Go

/-! Plain values that say more than others: nil slices within rows. -/
mutual
inductive LP : PV → PV → Prop
  | refl (p : PV) : LP p p
  | nil (e : Nat) : LP (.k (.slice none 0 0)) (.sl e [])
  | sl {e : Nat} {rows rows' : List (List PV)} (h : LRs rows rows') : LP (.sl e rows) (.sl e rows')
inductive LRs : List (List PV) → List (List PV) → Prop
  | nil : LRs [] []
  | cons {r r' : List PV} {rs rs' : List (List PV)} (h : LR r r') (hs : LRs rs rs') : LRs (r :: rs) (r' :: rs')
inductive LR : List PV → List PV → Prop
  | nil : LR [] []
  | cons {p p' : PV} {ps ps' : List PV} (h : LP p p') (hs : LR ps ps') : LR (p :: ps) (p' :: ps')
end
theorem LR.len {r r' : List PV} : LR r r' → r'.length = r.length
  | .nil => rfl
  | .cons _ hs => by rw [List.length_cons, List.length_cons, LR.len hs]
theorem LRs.len {r r' : List (List PV)} : LRs r r' → r'.length = r.length
  | .nil => rfl
  | .cons _ hs => by rw [List.length_cons, List.length_cons, LRs.len hs]
mutual
theorem LP.rep {M : Mem} {p q : PV} {v : Value} : LP p q → RepPV M p v → RepPV M q v
  | .refl _, h => h
  | .nil e, h => by
    simp only [RepPV] at h ⊢
    exact ⟨none, 0, h.1, Nat.le_refl _, Nat.zero_le _, .inl trivial⟩
  | .sl hr, h => by
    simp only [RepPV] at h ⊢
    obtain ⟨a, cap, h1, h2, h3, h4⟩ := h
    rw [hr.len]
    refine ⟨a, cap, h1, h2, h3, ?_⟩
    rcases h4 with h4 | ⟨b, o, h4, h5⟩
    · left
      have := hr.len
      rw [h4] at this
      exact List.length_eq_zero_iff.1 this
    · exact .inr ⟨b, o, h4, LRs.rep hr h5⟩
theorem LRs.rep {M : Mem} {g : Nat → Option Value} {e o : Nat} {rows rows' : List (List PV)} : LRs rows rows' → RowsIn M g e rows o → RowsIn M g e rows' o
  | .nil, h => h
  | .cons hr hs, h => by
    simp only [RowsIn] at h ⊢
    exact ⟨hr.len.trans h.1, LR.rep hr h.2.1, LRs.rep hs h.2.2⟩
theorem LR.rep {M : Mem} {g : Nat → Option Value} {o : Nat} {r r' : List PV} : LR r r' → RowIn M g r o → RowIn M g r' o
  | .nil, h => h
  | .cons hp hs, h => by
    simp only [RowIn] at h ⊢
    obtain ⟨⟨c, c1, c2⟩, h2⟩ := h
    exact ⟨⟨c, c1, LP.rep hp c2⟩, LR.rep hs h2⟩
end
end Hw
/- The engine, part BA: structs of two strings, compared. -/
namespace Hw
open Go

/-! Structs of two strings, compared. -/
def twoStr (P : Program) (t : TypeId) : Bool := match P.underlying t with
  | some (.struct fs) => match fs.toList with
    | [f, g] => decide (f.name ≠ "_") && decide (g.name ≠ "_") && Nat.beq f.offset 0 && Nat.beq g.offset 1 && (match P.underlying f.type with | some .string => true | _ => false) && (match P.underlying g.type with | some .string => true | _ => false) && !P.stoodInHeld t && !P.eqGuardType P.depth t
    | _ => false
  | _ => false
section
variable {P : Program} {d : Option Nat} {ty : TypeId} {ps : String} {af : Array Edge} {g : Option (Nat × Bool)} {x y : Operand} {t : TypeId}
end
section
variable {P : Program} {C : Ctx} {k : List Frm} {n : Nat} {sl : Slots} {tab : Tab} {Q : Exit → St → Prop} {all : Array Oper} {rest : List Oper}
end
end Hw
/- The engine, part BB: slices of strings. -/
namespace Hw
open Go
section
variable {P : Program} {d : Option Nat} {ty : TypeId} {ps : String} {af : Array Edge} {g : Option (Nat × Bool)} {x y : Operand} {t : TypeId}
end
variable {P : Program} {C : Ctx} {k : List Frm} {n : Nat} {sl : Slots} {tab : Tab} {Q : Exit → St → Prop} {all : Array Oper} {rest : List Oper}
end Hw
/- The engine, part BC: a string's bytes as an array of the run's own. -/
namespace Hw
open Go
section
variable {P : Program} {d : Option Nat} {ty : TypeId} {ps : String} {af : Array Edge} {g : Option (Nat × Bool)} {x y : Operand} {t : TypeId}
end
variable {P : Program} {C : Ctx} {k : List Frm} {n : Nat} {sl : Slots} {tab : Tab} {Q : Exit → St → Prop} {all : Array Oper} {rest : List Oper}
end Hw
