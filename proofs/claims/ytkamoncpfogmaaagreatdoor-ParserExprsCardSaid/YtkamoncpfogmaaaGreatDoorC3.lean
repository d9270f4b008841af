/- The engine, part BF: owned arrays whose cells may lead to other resources (Res.vw): index, length, load, store, append, literal. -/
import Derived.Test.YtkamoncpfogmaaaGreatDoorC2
import Derived.Laws.StructEq
import Derived.Laws.DeepStrings4
import Derived.Sort.Grow
set_option linter.unusedVariables false
set_option linter.unusedSimpArgs false
namespace Hw
open Go

section
variable {P : Program} {d : Option Nat} {ty : TypeId} {ps : String} {af : Array Edge} {g : Option (Nat × Bool)} {x y : Operand} {t : TypeId}
/-- What is appended: its rows, but for some cells. -/
def SrcW (P : Program) (e : Nat) (tx : TypeId) (s : S) (rt : RL) (rows : List (List PC)) (ids : List Nat) : Prop :=
  ∀ (C : Ctx) (st : St) (M : Mem) (ρ : Nat → Value) (a : Act) (w : World) (v : Value), Holds C st M ρ a w → RepS M ρ s v → okT rt st →
    ∃ news, Src P e tx v rows.length news w ∧ (∀ (j : Nat) (p : PC), rows.flatten[j]? = some p → ∃ c, news[j]? = some c ∧ RepV M ρ (toV ids p) c) ∧ ∀ r ∈ rows, r.length = e
theorem SrcW.vw {e : Nat} {tx el : TypeId} {id : Nat} {rows : List (List PC)} {ids : List Nat} (h : elemSz P tx = some (el, e)) : SrcW P e tx (.one (.ar id)) [(id, .vw ids e rows)] rows ids := by
  intro C st M ρ a w v hH hr ht
  obtain ⟨_, hu, _, _⟩ := elemSz_spec h
  obtain ⟨b, cap, h1, h2, h3, hl, h4⟩ := hH.tabs.res id _ ht.1
  simp only [RepS, RepV] at hr
  rw [h1] at hr; rw [hr.1]
  rcases h4 with ⟨rfl, hc⟩ | ⟨b', o, cs, el', fz, rfl, h6, _, _, h8⟩
  · have : rows = [] := List.length_eq_zero_iff.1 (by omega)
    subst this
    exact ⟨[], Src.ofNil w hu cap, by simp, by simp⟩
  · obtain ⟨us, h9, h10⟩ := repVs_of (M := M) (ρ := ρ) (vs := rows.flatten.map (toV ids)) (g := fun j => cs[o + j]?) fun j u hj => by
      rw [List.getElem?_map, Option.map_eq_some_iff] at hj
      obtain ⟨p, hp, rfl⟩ := hj
      exact h8 j p hp
    refine ⟨us, Src.ofSlice w hu _ _ cap us (by rw [h9.length, List.length_map, flat_len hl]) (fun j u hj => by rw [add_addr]; have := h10 j u hj; simp [World.cell?, h6, this]) h9.one, fun j p hj => ?_, hl⟩
    exact repVs_at h9 (m := j) (by rw [List.getElem?_map, hj]; rfl)

end
section
variable {P : Program} {C : Ctx} {k : List Frm} {n : Nat} {sl : Slots} {tab : Tab} {Q : Exit → St → Prop} {all : Array Oper} {rest : List Oper} {cur : Cur}
end
end Hw
/- The engine, part BH: resources lent to a call as memory that nobody writes; resources that are written no more. -/
namespace Hw
open Go

open Classical in
/-- Memory with the cells of these resources' blocks. -/
noncomputable def lentN (M : Mem) (ρ : Nat → Value) (w : World) (B : RL) : Mem := fun b o => match M b o with
  | some v => some v
  | none => if ∃ i r, (i, r) ∈ B ∧ Bk (ρ i) b then w.cell? ⟨b, o, none⟩ else none
def HasAll (M : Mem) (ρ : Nat → Value) (w : World) (B : RL) : Prop := Imm M w ∧ ∀ i r, (i, r) ∈ B → HoldsR M ρ w i r
theorem lentN_le {M : Mem} {ρ : Nat → Value} {w : World} {B : RL} : MLe M (lentN M ρ w B) := fun b o v hv => by simp only [lentN, hv]
theorem lentN_cell {M : Mem} {ρ : Nat → Value} {w : World} {B : RL} (hI : Imm M w) {b : Nat} (hb : ∃ i r, (i, r) ∈ B ∧ Bk (ρ i) b) {cs : Array Value} {el : TypeId} {fz : Nat × Nat} (hh : w.heap[b]? = some (.cells cs el fz)) (i : Nat) (c : Value) (hc : cs[i]? = some c) : lentN M ρ w B b i = some c := by
  have hc' : w.cell? ⟨b, i, none⟩ = some c := by simp [World.cell?, hh, hc]
  simp only [lentN]
  cases hm0 : M b i with
  | none => simp only; rw [if_pos hb]; exact hc'
  | some u => have := hI b i u hm0; rw [hc'] at this; exact this.symm
theorem lent_arr {M : Mem} {ρ : Nat → Value} {w : World} {B : RL} (hI : Imm M w) {v : Value} {e : Nat} {rs : List (List PV)} (h : ArrIn M w v e rs) (hb : ∀ b, blk v = some b → ∃ i r, (i, r) ∈ B ∧ Bk (ρ i) b) : RepPV (lentN M ρ w B) (.sl e rs) v := by
  obtain ⟨a0, cap, h1, h2, h3, h4⟩ := h
  simp only [RepPV]
  refine ⟨a0, cap, h1, h2, Nat.le_trans h2 h3, ?_⟩
  rcases h4 with ⟨rfl, hc⟩ | ⟨b, o, cs, el, fz, h5, h6, h6', h7, h8⟩
  · exact .inl (List.length_eq_zero_iff.1 (by omega))
  · exact .inr ⟨b, o, h5, RowsIn.mono lentN_le (fun i c hc => lentN_cell hI (hb b (by rw [h1, h5]; rfl)) h6 i c hc) _ _ h8⟩

def LnV (B : RL) (v v' : V) : Prop := ∀ M ρ w u, HasAll M ρ w B → RepV M ρ v u → RepV (lentN M ρ w B) ρ v' u
def LnVs (B : RL) (v v' : List V) : Prop := ∀ M ρ w u, HasAll M ρ w B → RepVs M ρ v u → RepVs (lentN M ρ w B) ρ v' u
def LnS (B : RL) (v v' : S) : Prop := ∀ M ρ w u, HasAll M ρ w B → RepS M ρ v u → RepS (lentN M ρ w B) ρ v' u
def LnSs (B : RL) (v v' : List S) : Prop := ∀ M ρ w u, HasAll M ρ w B → RepSs M ρ v u → RepSs (lentN M ρ w B) ρ v' u
section
variable {B : RL}
theorem LnV.le {v v' : V} (h : LeV v v') : LnV B v v' := fun _ _ _ _ _ hr => h _ _ _ (RepV.mono lentN_le _ _ hr)
theorem LnV.refl (v : V) : LnV B v v := .le (.refl v)
theorem LnS.le {v v' : S} (h : LeS v v') : LnS B v v' := fun _ _ _ _ _ hr => h _ _ _ (RepS.mono lentN_le _ _ hr)
theorem LnS.refl (v : S) : LnS B v v := .le (.refl v)
theorem LnVs.nil : LnVs B [] [] := fun _ _ _ x _ hr => by cases x <;> simp only [RepVs] at hr ⊢
theorem LnVs.cons {v v' : V} {vs vs' : List V} (h : LnV B v v') (hs : LnVs B vs vs') : LnVs B (v :: vs) (v' :: vs') := fun M ρ w x hf hr => by
  cases x with
  | nil => simp only [RepVs] at hr
  | cons c cs => simp only [RepVs] at hr ⊢; exact ⟨h _ _ _ _ hf hr.1, hs _ _ _ _ hf hr.2⟩
theorem LnVs.refl : ∀ v : List V, LnVs B v v
  | [] => .nil
  | v :: vs => .cons (.refl v) (LnVs.refl vs)
theorem LnS.one {v v' : V} (h : LnV B v v') : LnS B (.one v) (.one v') := fun M ρ w x hf hr => by simp only [RepS] at hr ⊢; exact h _ _ _ _ hf hr
theorem LnS.agg {v v' : List V} (h : LnVs B v v') : LnS B (.agg v) (.agg v') := fun M ρ w x hf hr => by
  simp only [RepS] at hr ⊢; obtain ⟨cs, h1, h2⟩ := hr; exact ⟨cs, h1, h _ _ _ _ hf h2⟩
theorem LnSs.nil : LnSs B [] [] := fun _ _ _ x _ hr => by cases x <;> simp only [RepSs] at hr ⊢
theorem LnSs.cons {v v' : S} {vs vs' : List S} (h : LnS B v v') (hs : LnSs B vs vs') : LnSs B (v :: vs) (v' :: vs') := fun M ρ w x hf hr => by
  cases x with
  | nil => simp only [RepSs] at hr
  | cons c cs => simp only [RepSs] at hr ⊢; exact ⟨h _ _ _ _ hf hr.1, hs _ _ _ _ hf hr.2⟩
theorem LnSs.refl : ∀ v : List S, LnSs B v v
  | [] => .nil
  | v :: vs => .cons (.refl v) (LnSs.refl vs)
theorem LnV.ar {id e : Nat} {rows : List (List PV)} (hm : (id, .arr e rows) ∈ B) : LnV B (.ar id) (.p (.sl e rows)) := fun M ρ w u hH hr => by
  simp only [RepV] at hr ⊢
  have hA : ArrIn M w (ρ id) e rows := hH.2 id _ hm
  rw [hr.1]
  obtain ⟨a, cap, h1, _⟩ := hA
  have hA : ArrIn M w (ρ id) e rows := hH.2 id _ hm
  exact lent_arr hH.1 hA fun b hb => ⟨id, _, hm, by rw [h1] at hb ⊢; exact hb⟩
theorem LnV.nv {id e q : Nat} {L : List (List (List PV))} {rs : List (List PV)} (hm : (id, .bag e L) ∈ B) (hq : L[q]? = some rs) : LnV B (.nv id q) (.p (.sl e rs)) := fun M ρ w u hH hr => by
  simp only [RepV] at hr ⊢
  obtain ⟨xs, f1, f2, _⟩ := hr
  exact lent_arr hH.1 (bag_inner (hH.2 id _ hm) hq f1 f2) fun b hb => ⟨id, _, hm, by rw [f1]; exact bk_of f2 hb⟩
theorem LnV.vw {id e : Nat} {ids : List Nat} {rows : List (List PC)} {rows' : List (List PV)} (hm : (id, .vw ids e rows) ∈ B) (hl : rows'.length = rows.length) (hle : ∀ r ∈ rows', r.length = e)
    (hc : ∀ (j : Nat) (x' : PV), rows'.flatten[j]? = some x' → ∃ x, rows.flatten[j]? = some x ∧ LnV B (toV ids x) (.p x')) : LnV B (.ar id) (.p (.sl e rows')) := fun M ρ w u hH hr => by
  simp only [RepV, RepPV] at hr ⊢
  obtain ⟨a, cap, h1, h2, h3, _, h4⟩ := hH.2 id _ hm
  refine ⟨a, cap, by rw [hl]; exact hr.1.trans h1, by omega, by omega, ?_⟩
  rcases h4 with ⟨rfl, hcap⟩ | ⟨b, o, cs, el, fz, h5, h6, h6', h7, h8⟩
  · exact .inl (List.length_eq_zero_iff.1 (by omega))
  · refine .inr ⟨b, o, h5, ?_⟩
    have hb : ∃ i r, (i, r) ∈ B ∧ Bk (ρ i) b := ⟨id, _, hm, by rw [h1, h5]; rfl⟩
    obtain ⟨ds, k9, k10⟩ := repVs_of (M := lentN M ρ w B) (ρ := ρ) (vs := rows'.flatten.map V.p) (g := fun j => cs[o + j]?) fun j v hj => by
      rw [List.getElem?_map, Option.map_eq_some_iff] at hj
      obtain ⟨x', hx', rfl⟩ := hj
      obtain ⟨x, hx, hv⟩ := hc j x' hx'
      obtain ⟨c, c1, c2⟩ := h8 j x hx
      exact ⟨c, c1, hv _ _ _ _ hH c2⟩
    exact RowsIn.mono (MLe.refl _) (fun i c hcc => lentN_cell hH.1 hb h6 i c hcc) _ _ (RowsIn.of_cells (ρ := ρ) hle k9 fun j c hj => k10 j c hj)
end
section
variable {P : Program} {d : Option Nat} {ty : TypeId} {ps : String} {af : Array Edge} {g : Option (Nat × Bool)}
end
section
variable {P : Program} {C : Ctx} {k : List Frm} {n : Nat} {sl : Slots} {tab : Tab} {Q : Exit → St → Prop} {all : Array Oper} {rest : List Oper} {cur : Cur}
/-- Resources, said by what is written no more. -/
def LnR (B : RL) (r r' : Res) : Prop := ∀ M ρ w i, HasAll M ρ w B → HoldsR M ρ w i r → HoldsR (lentN M ρ w B) ρ w i r'
theorem LnR.box {B : RL} {vs vs' : List V} (h : LnVs B vs vs') : LnR B (.box vs) (.box vs') := fun _ _ _ _ hr ⟨b, cs, el, e1, e2, e3⟩ => ⟨b, cs, el, e1, e2, h _ _ _ _ hr e3⟩
def upN (B : RL) (tab : Tab) : List (Nat × Res) → Prop
  | [] => True
  | (i, r') :: l => (∃ r, tg tab i = some r ∧ (hasB i B.ids = false ∧ LnR B r r')) ∧ upN B tab l
end
end Hw
/- The engine, part AY: arrays as values: literals, elements by a number. -/
namespace Hw
open Go

section
variable {P : Program} {d : Option Nat} {ty : TypeId} {ps : String} {af : Array Edge} {g : Option (Nat × Bool)} {x y : Operand} {t : TypeId}
/-- An array's literal. -/
theorem L_buildA {l : List (Nat × Operand)} {ss : List S} {vparts : List (Nat × List V)} {zs vs : List V} {len e : Nat} {el : TypeId}
    (hx : okcs (l.map (·.2)) ss) (ht : P.underlying t = some (.array len el)) (he : (P.info? el).map (·.size) = some e) (hz : zeroV P t = some zs) (hv : zipParts (l.map (·.1)) ss = some vparts) (hf : fillV (fun i => some (i * e, e)) zs vparts = some vs) :
    Snd P ⟨d, .build t l.toArray, ty, ps, af, g⟩ (rqs (l.map (·.2)) ss) [] [] (.agg vs) [] :=
  snd_quiet fun C st M ρ a w hH h1 _ => by
    have e := hH.evsS (evs_of hx h1)
    obtain ⟨h2, h3⟩ := zipParts_spec hv e
    obtain ⟨zv, hz1, hz2, _⟩ := zeroV_spec hz M ρ w
    have hzip : l.map (fun p => (p.1, a.eval p.2)) = (l.map (·.1)).zip ((l.map (·.2)).map a.eval) := by
      rw [List.map_map]; simp [List.zip_map']
    obtain ⟨out, h4, h5⟩ := fill_spec _ vparts zs vs zv.cells hz2 h2 h3 hf
    obtain ⟨ii, hinf, hsz⟩ := Option.map_eq_some_iff.1 he
    refine ⟨.agg out, ?_, by simp only [RepS]; exact ⟨out.toList, by simp, h5⟩⟩
    simp only [execOp, Instr.build, Sem.run_bind, hz1, Result.andThen_ok, run_underlying ht, run_sizeOf hinf, hsz]
    have hl : (l.toArray.map fun p => (p.1, a.eval p.2)).toList = (l.map (·.1)).zip ((l.map (·.2)).map a.eval) := by simpa using hzip
    rw [hl, h4]
    rfl
end
section
variable {P : Program} {C : Ctx} {k : List Frm} {n : Nat} {sl : Slots} {tab : Tab} {Q : Exit → St → Prop} {all : Array Oper} {rest : List Oper}
theorem g_buildA {d : Nat} {t : TypeId} {l : List (Nat × Operand)} {ty : TypeId} {ps : String} {af : Array Edge} {g0 : Option (Nat × Bool)} {gs : Slots} {md : Mode} (hC : C.low) {ss : List S} {vparts : List (Nat × List V)} {zs vs : List V} {len e : Nat} {el : TypeId}
    (hl : evs sl (l.map (·.2)) = some ss) (ht : P.underlying t = some (.array len el)) (he : (P.info? el).map (·.size) = some e) (hz : zeroV P t = some zs) (hv : zipParts (l.map (·.1)) ss = some vparts) (hf : fillV (fun i => some (i * e, e)) zs vparts = some vs) (hm : metL all sl g0 = some gs) (hd : Nat.blt d n = true)
    (g : Goal P C (.ops all rest (nx md ⟨some d, gs ++ rqs (l.map (·.2)) ss, [], [], .agg vs, []⟩)) k n ((d, .agg vs) :: sl) tab Q) :
    Goal P C (.ops all (⟨some d, .build t l.toArray, ty, ps, af, g0⟩ :: rest) md) k n sl tab Q := by
  have e2 := of_evs (st := ⟨n, sl, tab⟩) hl
  have := metL_step hm (L_buildA (ty := ty) (ps := ps) (af := af) (g := g0) (d := some d) e2.1 ht he hz hv hf) (n := n) (tab := tab)
  exact g_law (L := ⟨some d, gs ++ rqs (l.map (·.2)) ss, [], [], .agg vs, []⟩) hC this.1 rfl ⟨by rw [okS_append]; exact ⟨this.2, e2.2⟩, trivial, rfl, hd⟩ g
end
section
variable {K : Type} [DecidableEq K] {P : Program} {d : Option Nat} {ty : TypeId} {ps : String} {af : Array Edge} {g : Option (Nat × Bool)} {x y u : Operand} {t kt et : TypeId}
end
section
variable {P : Program} {C : Ctx} {k : List Frm} {n : Nat} {sl : Slots} {tab : Tab} {Q : Exit → St → Prop} {all : Array Oper} {rest : List Oper}
end
section
variable {P : Program} {d : Option Nat} {ty : TypeId} {ps : String} {af : Array Edge} {g : Option (Nat × Bool)} {x y : Operand} {t : TypeId}
end
section
variable {P : Program} {C : Ctx} {k : List Frm} {n : Nat} {sl : Slots} {tab : Tab} {Q : Exit → St → Prop} {all : Array Oper} {rest : List Oper}
end
end Hw
/- The engine, part AZ: nil slices within rows. -/
namespace Hw
open Go

/-! Plain values that say more than others: nil slices within rows. -/
mutual
inductive LP : PV → PV → Prop
  | refl (p : PV) : LP p p
  | nil (e : Nat) : LP (.k (.slice none 0 0)) (.sl e [])
  | sl {e : Nat} {rows rows' : List (List PV)} (h : LRs rows rows') : LP (.sl e rows) (.sl e rows')
inductive LRs : List (List PV) → List (List PV) → Prop
  | nil : LRs [] []
  | cons {r r' : List PV} {rs rs' : List (List PV)} (h : LR r r') (hs : LRs rs rs') : LRs (r :: rs) (r' :: rs')
inductive LR : List PV → List PV → Prop
  | nil : LR [] []
  | cons {p p' : PV} {ps ps' : List PV} (h : LP p p') (hs : LR ps ps') : LR (p :: ps) (p' :: ps')
end
theorem LR.len {r r' : List PV} : LR r r' → r'.length = r.length
  | .nil => rfl
  | .cons _ hs => by rw [List.length_cons, List.length_cons, LR.len hs]
theorem LRs.len {r r' : List (List PV)} : LRs r r' → r'.length = r.length
  | .nil => rfl
  | .cons _ hs => by rw [List.length_cons, List.length_cons, LRs.len hs]
mutual
theorem LP.rep {M : Mem} {p q : PV} {v : Value} : LP p q → RepPV M p v → RepPV M q v
  | .refl _, h => h
  | .nil e, h => by
    simp only [RepPV] at h ⊢
    exact ⟨none, 0, h.1, Nat.le_refl _, Nat.zero_le _, .inl trivial⟩
  | .sl hr, h => by
    simp only [RepPV] at h ⊢
    obtain ⟨a, cap, h1, h2, h3, h4⟩ := h
    rw [hr.len]
    refine ⟨a, cap, h1, h2, h3, ?_⟩
    rcases h4 with h4 | ⟨b, o, h4, h5⟩
    · left
      have := hr.len
      rw [h4] at this
      exact List.length_eq_zero_iff.1 this
    · exact .inr ⟨b, o, h4, LRs.rep hr h5⟩
theorem LRs.rep {M : Mem} {g : Nat → Option Value} {e o : Nat} {rows rows' : List (List PV)} : LRs rows rows' → RowsIn M g e rows o → RowsIn M g e rows' o
  | .nil, h => h
  | .cons hr hs, h => by
    simp only [RowsIn] at h ⊢
    exact ⟨hr.len.trans h.1, LR.rep hr h.2.1, LRs.rep hs h.2.2⟩
theorem LR.rep {M : Mem} {g : Nat → Option Value} {o : Nat} {r r' : List PV} : LR r r' → RowIn M g r o → RowIn M g r' o
  | .nil, h => h
  | .cons hp hs, h => by
    simp only [RowIn] at h ⊢
    obtain ⟨⟨c, c1, c2⟩, h2⟩ := h
    exact ⟨⟨c, c1, LP.rep hp c2⟩, LR.rep hs h2⟩
end
theorem LeV.lp {p q : PV} (h : LP p q) : LeV (.p p) (.p q) := fun M ρ x hr => by simp only [RepV] at hr ⊢; exact LP.rep h hr
theorem LeVs.lr : ∀ {r r' : List PV}, LR r r' → LeVs (r.map V.p) (r'.map V.p)
  | _, _, .nil => .nil
  | _, _, .cons h hs => .cons (.lp h) (LeVs.lr hs)
theorem LeS.lr {r r' : List PV} (h : LR r r') : LeS (.agg (r.map V.p)) (.agg (r'.map V.p)) := LeS.agg (LeVs.lr h)
end Hw
/- The engine, part BA: structs of two strings, compared. -/
namespace Hw
open Go

/-! Structs of two strings, compared. -/
def twoStr (P : Program) (t : TypeId) : Bool := match P.underlying t with
  | some (.struct fs) => match fs.toList with
    | [f, g] => decide (f.name ≠ "_") && decide (g.name ≠ "_") && Nat.beq f.offset 0 && Nat.beq g.offset 1 && (match P.underlying f.type with | some .string => true | _ => false) && (match P.underlying g.type with | some .string => true | _ => false) && !P.stoodInHeld t && !P.eqGuardType P.depth t
    | _ => false
  | _ => false
section
variable {P : Program} {d : Option Nat} {ty : TypeId} {ps : String} {af : Array Edge} {g : Option (Nat × Bool)} {x y : Operand} {t : TypeId}
end
section
variable {P : Program} {C : Ctx} {k : List Frm} {n : Nat} {sl : Slots} {tab : Tab} {Q : Exit → St → Prop} {all : Array Oper} {rest : List Oper}
end
end Hw
/- The engine, part BI: structs of numbers and strings, compared; interfaces held against nil. -/
namespace Hw
open Go

/-! Structs of numbers and strings -/
inductive Sc where
  | i (k : IntKind) (n : Int)
  | s (b : ByteArray)
  deriving DecidableEq
def Sc.v : Sc → Value
  | .i k n => .int k n
  | .s b => .string b
def Sc.V (c : Sc) : V := .p (.k c.v)
inductive SK where
  | i (k : IntKind)
  | s
def okSK : SK → Sc → Bool
  | .i k, .i k' _ => decide (k = k')
  | .s, .s _ => true
  | _, _ => false
def okSKs : List SK → List Sc → Bool
  | [], [] => true
  | k :: ks, c :: cs => okSK k c && okSKs ks cs
  | _, _ => false
def isStc (P : Program) (t : TypeId) : Bool := match P.underlying t with
  | some (.struct _) => true
  | _ => false
def eqFs (P : Program) (r : TypeId → Option (List SK)) : List Field → Nat → Option (List SK)
  | [], _ => some []
  | f :: fs, off => match decide (f.name ≠ "_") && Nat.beq f.offset off with
    | true => match r f.type with
      | some l => match !isStc P f.type || decide ((P.info? f.type).map (·.size) = some l.length) with
        | true => match eqFs P r fs (off + l.length) with
          | some l' => some (l ++ l')
          | none => none
        | false => none
      | none => none
    | false => none
def eqSh (P : Program) : Nat → TypeId → Option (List SK)
  | 0, _ => none
  | f + 1, t => match P.underlying t with
    | some (.int k) => some [.i k]
    | some .string => some [.s]
    | some (.struct fs) => match P.stoodInHeld t with
      | true => none
      | false => eqFs P (eqSh P f) fs.toList 0
    | _ => none
theorem okSKs_len : ∀ {l : List SK} {cs : List Sc}, okSKs l cs = true → cs.length = l.length
  | [], [], _ => rfl
  | [], _ :: _, h => by simp [okSKs] at h
  | _ :: _, [], h => by simp [okSKs] at h
  | k :: ks, c :: cs, h => by simp only [okSKs, Bool.and_eq_true] at h; simp [okSKs_len h.2]
theorem okSKs_split : ∀ {l l' : List SK} {cs : List Sc}, okSKs (l ++ l') cs = true → okSKs l (cs.take l.length) = true ∧ okSKs l' (cs.drop l.length) = true
  | [], _, cs, h => by simp only [List.nil_append] at h; simp [okSKs, h]
  | _ :: _, _, [], h => by simp [okSKs] at h
  | k :: ks, l', c :: cs, h => by
    simp only [List.cons_append, okSKs, Bool.and_eq_true] at h
    have := okSKs_split h.2
    simp only [List.length_cons, List.take_succ_cons, List.drop_succ_cons, okSKs, h.1, this.1, this.2, Bool.and_self, and_self]
/-- A value of such a type, out of its cells. -/
def valSc (P : Program) (t : TypeId) (cs : List Sc) : Value := if isStc P t = true then .agg (cs.map Sc.v).toArray else match cs with
  | c :: _ => c.v
  | [] => undef
theorem equal_flat {P : Program} : ∀ (f : Nat) (t : TypeId) (l : List SK), eqSh P f t = some l → ∀ (d : Nat), f ≤ d → ∀ (a b : List Sc), okSKs l a = true → okSKs l b = true → ∀ w : World,
    (Op.equalIn d t (valSc P t a) (valSc P t b)).run P w = .ok (decide (a = b)) w := by
  intro f
  induction f with
  | zero => intro t l h; cases h
  | succ f ih =>
  intro t l h d hd a b ha hb w
  obtain ⟨d, rfl⟩ : ∃ d', d = d' + 1 := ⟨d - 1, by omega⟩
  simp only [eqSh] at h
  split at h
  · rename_i k hu
    simp only [Option.some.injEq] at h; subst h
    match a, b, ha, hb with
    | [.i k1 x], [.i k2 y], ha, hb =>
      simp only [okSKs, okSK, Bool.and_true, decide_eq_true_eq] at ha hb
      subst ha; subst hb
      have hs : isStc P t = false := by simp [isStc, hu]
      simp only [valSc, hs, Bool.false_eq_true, if_false, Sc.v]
      rw [run_equalIn_int w d t k k x y hu]
      by_cases e : x = y
      · subst e; simp
      · simp [e]
    | [.s _], _, ha, _ => simp [okSKs, okSK] at ha
    | [], _, ha, _ => simp [okSKs] at ha
    | _ :: _ :: _, _, ha, _ => simp [okSKs] at ha
    | [.i _ _], [.s _], _, hb => simp [okSKs, okSK] at hb
    | [.i _ _], [], _, hb => simp [okSKs] at hb
    | [.i _ _], _ :: _ :: _, _, hb => simp [okSKs] at hb
  · rename_i hu
    simp only [Option.some.injEq] at h; subst h
    match a, b, ha, hb with
    | [.s x], [.s y], ha, hb =>
      have hs : isStc P t = false := by simp [isStc, hu]
      simp only [valSc, hs, Bool.false_eq_true, if_false, Sc.v]
      rw [run_equalIn_string w d t x y hu, ← beq_toListBytes, bytes_eq]
      by_cases e : x = y
      · subst e; simp
      · simp [e]
    | [.i _ _], _, ha, _ => simp [okSKs, okSK] at ha
    | [], _, ha, _ => simp [okSKs] at ha
    | _ :: _ :: _, _, ha, _ => simp [okSKs] at ha
    | [.s _], [.i _ _], _, hb => simp [okSKs, okSK] at hb
    | [.s _], [], _, hb => simp [okSKs] at hb
    | [.s _], _ :: _ :: _, _, hb => simp [okSKs] at hb
  · rename_i fs hu
    split at h
    · cases h
    · rename_i hst
      have hF : P.fieldsOf t = fs := by simp [Program.fieldsOf, hu]
      have hs : isStc P t = true := by simp [isStc, hu]
      simp only [valSc, hs, if_true]
      rw [run_equalIn_agg w d t _ _ (by rw [hF]; exact hu) hst, hF]
      -- field by field
      have key : ∀ (fl : List Field) (off : Nat) (l' : List SK), eqFs P (eqSh P f) fl off = some l' → ∀ a0 b0 : List Sc, off ≤ a0.length → off ≤ b0.length → okSKs l' (a0.drop off) = true → okSKs l' (b0.drop off) = true →
          (Op.eqFields d (a0.map Sc.v).toArray (b0.map Sc.v).toArray fl).run P w = .ok (decide (a0.drop off = b0.drop off)) w := by
        intro fl
        induction fl with
        | nil =>
          intro off l' hl a0 b0 _ _ h1 h2
          simp only [eqFs, Option.some.injEq] at hl; subst hl
          have e1 : a0.drop off = [] := List.eq_nil_of_length_eq_zero (okSKs_len h1)
          have e2 : b0.drop off = [] := List.eq_nil_of_length_eq_zero (okSKs_len h2)
          simp [Op.eqFields, e1, e2]
        | cons fd fl ihf =>
          intro off l' hl a0 b0 ho1 ho2 h1 h2
          simp only [eqFs] at hl
          split at hl
          · rename_i hname
            simp only [Bool.and_eq_true, decide_eq_true_eq] at hname
            have hoff := Nat.eq_of_beq_eq_true hname.2
            split at hl
            · rename_i lf hlf
              split at hl
              · rename_i hsz
                split at hl
                · rename_i lr hlr
                  simp only [Option.some.injEq] at hl; subst hl
                  obtain ⟨a1, a2⟩ := okSKs_split h1
                  obtain ⟨b1, b2⟩ := okSKs_split h2
                  have al := okSKs_len a1
                  have bl := okSKs_len b1
                  simp only [List.length_take, List.length_drop] at al bl
                  have hpart : ∀ c0 : List Sc, off + lf.length ≤ c0.length → okSKs lf ((c0.drop off).take lf.length) = true → (part fd.type (c0.map Sc.v).toArray fd.offset).run P w = .ok (valSc P fd.type ((c0.drop off).take lf.length)) w := fun c0 hc0 hok => by
                    rw [hoff]
                    cases hstr : isStc P fd.type with
                    | true =>
                      obtain ⟨fs', hu'⟩ : ∃ fs', P.underlying fd.type = some (.struct fs') := by
                        unfold isStc at hstr
                        split at hstr
                        · rename_i fs' e; exact ⟨fs', e⟩
                        · cases hstr
                      rw [hstr] at hsz
                      simp only [Bool.not_true, Bool.false_or, decide_eq_true_eq, Option.map_eq_some_iff] at hsz
                      obtain ⟨ii, hii, hsz⟩ := hsz
                      simp only [part, isAgg, Sem.run_bind, run_underlying hu', Result.andThen_ok, Sem.run_pure, if_true, run_sizeOf hii, hsz, valSc, hstr]
                      congr 2
                      apply Array.ext'
                      simp only [Array.toList_extract, List.extract_eq_take_drop, List.map_take, List.map_drop]
                      rw [Nat.add_sub_cancel_left]
                    | false =>
                      have hna : (isAgg fd.type).run P w = .ok false w := by
                        cases f with
                        | zero => cases hlf
                        | succ f' =>
                          simp only [eqSh] at hlf
                          split at hlf
                          · rename_i hu'; simp [isAgg, run_underlying hu']
                          · rename_i hu'; simp [isAgg, run_underlying hu']
                          · rename_i hu'; simp [isStc, hu'] at hstr
                          · cases hlf
                      have h1l : lf.length = 1 := by
                        cases f with
                        | zero => cases hlf
                        | succ f' =>
                          simp only [eqSh] at hlf
                          split at hlf
                          · simp only [Option.some.injEq] at hlf; subst hlf; rfl
                          · simp only [Option.some.injEq] at hlf; subst hlf; rfl
                          · rename_i hu'; simp [isStc, hu'] at hstr
                          · cases hlf
                      obtain ⟨c, hc⟩ : ∃ c, c0[off]? = some c := ⟨c0[off]'(by omega), List.getElem?_eq_getElem (by omega)⟩
                      have ht : (c0.drop off).take lf.length = [c] := by
                        rw [h1l, List.take_one, List.head?_drop, hc]; rfl
                      simp only [part, Sem.run_bind, hna, Result.andThen_ok, Bool.false_eq_true, if_false, List.getElem?_toArray, List.getElem?_map, hc, Option.map_some, Sem.run_pure, ht, valSc, hstr]
                  have hq := ih fd.type lf hlf d (by omega) _ _ a1 b1 w
                  simp only [Op.eqFields, if_pos hname.1, Sem.run_bind, hpart a0 (by omega) a1, hpart b0 (by omega) b1, hq, Result.andThen_ok, Sem.run_ite]
                  have hcat : ∀ c0 : List Sc, c0.drop off = (c0.drop off).take lf.length ++ c0.drop (off + lf.length) := fun c0 => by
                    rw [← List.drop_drop, List.take_append_drop]
                  rw [List.drop_drop] at a2 b2
                  by_cases e : (a0.drop off).take lf.length = (b0.drop off).take lf.length
                  · rw [decide_eq_true e]
                    simp only [Bool.not_true, Bool.false_eq_true, if_false]
                    rw [ihf _ _ hlr a0 b0 (by omega) (by omega) a2 b2]
                    congr 1
                    have : (a0.drop off = b0.drop off) ↔ (a0.drop (off + lf.length) = b0.drop (off + lf.length)) := by
                      rw [hcat a0, hcat b0, e]
                      exact ⟨fun h => List.append_cancel_left h, fun h => by rw [h]⟩
                    exact decide_eq_decide.2 this.symm
                  · rw [decide_eq_false e]
                    simp only [Bool.not_false, if_true, Sem.run_pure]
                    congr 1
                    refine (decide_eq_false fun h => e ?_).symm
                    rw [h]
                · cases hl
              · cases hl
            · cases hl
          · cases hl
      have := key fs.toList 0 l h a b (Nat.zero_le _) (Nat.zero_le _) (by simpa using ha) (by simpa using hb)
      simpa using this
  · cases h
section
variable {P : Program} {d : Option Nat} {ty : TypeId} {ps : String} {af : Array Edge} {g : Option (Nat × Bool)} {x y : Operand} {t : TypeId}
theorem rep_sc {M : Mem} {ρ : Nat → Value} : ∀ {a : List Sc} {cs : List Value}, RepVs M ρ (a.map Sc.V) cs → cs = a.map Sc.v
  | [], [], _ => rfl
  | [], _ :: _, h => by simp only [List.map_nil, RepVs] at h
  | _ :: _, [], h => by simp only [List.map_cons, RepVs] at h
  | c :: a, v :: cs, h => by
    simp only [List.map_cons, Sc.V, RepVs, RepV, RepPV] at h
    rw [h.1.1, rep_sc h.2]; rfl
/-- Structs of numbers and strings, held against one another. -/
theorem L_eqF {t' : TypeId} {neg : Bool} {l : List SK} {a b : List Sc} (hx : okc x (.agg (a.map Sc.V))) (hy : okc y (.agg (b.map Sc.V))) (hs : isStc P t = true) (h : eqSh P 8 t = some l) (ha : okSKs l a = true) (hb : okSKs l b = true) (hg : P.eqGuardType P.depth t = false) :
    Snd P ⟨d, .binOp (if neg = true then .neq else .eql) t x y t', ty, ps, af, g⟩ (rq x (.agg (a.map Sc.V)) ++ rq y (.agg (b.map Sc.V))) [] [] (.bq (if neg = true then !decide (a = b) else decide (a = b))) [] :=
  snd_quiet fun C st M ρ ac w hH h1 _ => by
    rw [okS_append] at h1
    have e1 := hH.evS (ev_of hx h1.1)
    have e2 := hH.evS (ev_of hy h1.2)
    simp only [RepS] at e1 e2
    obtain ⟨cs, e1, f1⟩ := e1
    obtain ⟨ds, e2, f2⟩ := e2
    rw [rep_sc f1] at e1
    rw [rep_sc f2] at e2
    have hq := equal_flat 8 t l h 10000 (by omega) a b ha hb w
    simp only [valSc, hs, if_true] at hq
    cases neg with
    | true =>
      refine ⟨.bool (!decide (a = b)), ?_, by simp only [RepS, if_true]⟩
      simp only [execOp, if_true, e1, e2, Sem.run_bind, run_eqGuard_agg w _ t x y _ _ hg, Result.andThen_ok, run_neq_struct, hq, Sem.run_pure]
    | false =>
      refine ⟨.bool (decide (a = b)), ?_, by simp only [RepS, Bool.false_eq_true, if_false]⟩
      simp only [execOp, Bool.false_eq_true, if_false, e1, e2, Sem.run_bind, run_eqGuard_agg w _ t x y _ _ hg, Result.andThen_ok, run_eql_struct, hq, Sem.run_pure]
end
section
variable {P : Program} {C : Ctx} {k : List Frm} {n : Nat} {sl : Slots} {tab : Tab} {Q : Exit → St → Prop} {all : Array Oper} {rest : List Oper}
theorem g_eqF {d : Nat} {x y : Operand} {t t' ty : TypeId} {ps : String} {af : Array Edge} {g0 : Option (Nat × Bool)} {gs : Slots} {md : Mode} (hC : C.low) (l : List SK) (a b : List Sc)
    (hx : ev sl x = some (.agg (a.map Sc.V))) (hy : ev sl y = some (.agg (b.map Sc.V))) (hs : isStc P t = true) (h : eqSh P 8 t = some l) (ha : okSKs l a = true) (hb : okSKs l b = true) (hg : P.eqGuardType P.depth t = false) (hm : metL all sl g0 = some gs) (hd : Nat.blt d n = true)
    (g : Goal P C (.ops all rest (nx md ⟨some d, gs ++ (rq x (.agg (a.map Sc.V)) ++ rq y (.agg (b.map Sc.V))), [], [], .bq (decide (a = b)), []⟩)) k n ((d, .bq (decide (a = b))) :: sl) tab Q) :
    Goal P C (.ops all (⟨some d, .binOp .eql t x y t', ty, ps, af, g0⟩ :: rest) md) k n sl tab Q := by
  have e1 := of_ev (st := ⟨n, sl, tab⟩) hx
  have e2 := of_ev (st := ⟨n, sl, tab⟩) hy
  have := metL_step hm (L_eqF (P := P) (neg := false) (ty := ty) (ps := ps) (af := af) (g := g0) (d := some d) (t' := t') e1.1 e2.1 hs h ha hb hg) (n := n) (tab := tab)
  exact g_law (L := ⟨some d, gs ++ (rq x (.agg (a.map Sc.V)) ++ rq y (.agg (b.map Sc.V))), [], [], .bq (decide (a = b)), []⟩) hC this.1 rfl ⟨by rw [okS_append, okS_append]; exact ⟨this.2, e1.2, e2.2⟩, trivial, rfl, hd⟩ g
end
end Hw
/- The engine, part BJ: parts of strings and of slices; interfaces held against nil. -/
namespace Hw
open Go

section
variable {P : Program} {d : Option Nat} {ty : TypeId} {ps : String} {af : Array Edge} {g : Option (Nat × Bool)} {x y z : Operand} {t : TypeId}
theorem L_slMid {a : ByteArray} {i j : Int} {k k' : IntKind} (hx : okc x (Sr a)) (hy : okc y (Kk k i)) (hz : okc z (Kk k' j)) (ht : P.underlying t = some .string) (h0 : 0 ≤ i) (h1 : i ≤ j) (h2 : j ≤ a.size) :
    Snd P ⟨d, .slice t x (some y) (some z) none, ty, ps, af, g⟩ (rq x (Sr a) ++ rq y (Kk k i) ++ rq z (Kk k' j)) [] [] (Sr (a.extract i.toNat j.toNat)) [] :=
  snd_quiet fun C st M ρ b w hH hs _ => by
    rw [okS_append, okS_append] at hs
    have e1 := hH.k (ev_of hx hs.1.1)
    have e2 := hH.k (ev_of hy hs.1.2)
    have e3 := hH.k (ev_of hz hs.2)
    refine ⟨.string (a.extract i.toNat j.toNat), ?_, by simp only [RepS, RepV, RepPV]; exact ⟨trivial, rfl⟩⟩
    simp only [execOp, e1, e2, e3, Option.map_none, Option.map_some, Sem.run_bind, run_sliceAt_string w t _ _ _ _ ht, run_slice_string_if w t a k k' i j ht, if_pos (⟨by omega, h2⟩ : 0 ≤ j ∧ j ≤ (a.size : Int)), if_pos (⟨h0, h1⟩ : 0 ≤ i ∧ i ≤ j), Result.andThen_ok, Sem.run_pure]
/-- An element of an array's value, the elements of one cell. -/
theorem L_index1 {vs : List V} {len : Nat} {el : TypeId} {i : Int} {k : IntKind} {v : V} (hx : okc x (.agg vs)) (hy : okc y (Kk k i)) (ht : P.underlying t = some (.array len el)) (he : (P.info? el).map (·.size) = some 1) (hs : shp P el = some none) (h0 : 0 ≤ i) (hi : i < len) (hv : vs[i.toNat]? = some v) :
    Snd P ⟨d, .index t x y, ty, ps, af, g⟩ (rq x (.agg vs) ++ rq y (Kk k i)) [] [] (.one v) [] :=
  snd_quiet fun C st M ρ a w hH h1 _ => by
    rw [okS_append] at h1
    have e1 := hH.evS (ev_of hx h1.1)
    have e2 := hH.k (ev_of hy h1.2)
    simp only [RepS] at e1
    obtain ⟨cs, e1, e3⟩ := e1
    obtain ⟨ii, hinf, hsz⟩ := Option.map_eq_some_iff.1 he
    obtain ⟨c, c1, c2⟩ := repVs_at e3 hv
    refine ⟨c, ?_, by simp only [RepS]; exact c2⟩
    simp only [execOp, e1, e2, Instr.index, asIntOf, Sem.run_bind, Sem.run_pure, Result.andThen_ok, run_underlying ht]
    rw [if_pos ⟨h0, hi⟩]
    simp [part, run_isAgg_one hs, run_sizeOf hinf, hsz, c1]
def isIfc (P : Program) (t : TypeId) : Bool := match P.underlying t with
  | some (.interface _) => true
  | _ => false
theorem isIfc_spec {P : Program} {t : TypeId} (h : isIfc P t = true) : ∃ ms, P.underlying t = some (.interface ms) := by
  unfold isIfc at h
  split at h
  · rename_i ms e; exact ⟨ms, e⟩
  · cases h
/-- An interface that holds something, against nil. -/
theorem L_ifc {t' : TypeId} {id : Nat} {neg : Bool} (hx : okc x (.one (.ar id))) (ht : isIfc P t = true) :
    Snd P ⟨d, .binOp (if neg = true then .neq else .eql) t x (.const .nilIface) t', ty, ps, af, g⟩ (rq x (.one (.ar id))) [(id, .ifc)] [] (Bo neg) [] :=
  snd_quiet fun C st M ρ a w hH h1 hT => by
    obtain ⟨ms, ht⟩ := isIfc_spec ht
    have e1 := hH.evS (ev_of hx h1)
    simp only [RepS, RepV] at e1
    obtain ⟨te, pe, hv⟩ := hH.tabs.res id _ hT.1
    rw [hv] at e1
    have h : ∀ q : Nat, (Op.equalIn (q + 1) t (.iface te pe) .nilIface).run P w = .ok false w := fun q => by simp [Op.equalIn, run_underlying ht]
    have e0 : a.eval (.const .nilIface) = .nilIface := rfl
    refine ⟨.bool neg, ?_, repB neg⟩
    cases neg with
    | true =>
      simp only [execOp, if_true, e1.1, e0, Sem.run_bind]
      simp [eqGuard, binOp, Op.equal, Op.maxDepth, h 9999, Sem.run_pure]
    | false =>
      simp only [execOp, Bool.false_eq_true, if_false, e1.1, e0, Sem.run_bind]
      simp [eqGuard, binOp, Op.equal, Op.maxDepth, h 9999, Sem.run_pure]
theorem L_ifn {t' : TypeId} {neg : Bool} (hx : okc x (.one (.p (.k .nilIface)))) (ht : isIfc P t = true) :
    Snd P ⟨d, .binOp (if neg = true then .neq else .eql) t x (.const .nilIface) t', ty, ps, af, g⟩ (rq x (.one (.p (.k .nilIface)))) [] [] (Bo (!neg)) [] :=
  snd_quiet fun C st M ρ a w hH h1 hT => by
    obtain ⟨ms, ht⟩ := isIfc_spec ht
    have e1 := hH.evS (ev_of hx h1)
    simp only [RepS, RepV, RepPV] at e1
    have h : ∀ q : Nat, (Op.equalIn (q + 1) t .nilIface .nilIface).run P w = .ok true w := fun q => by simp [Op.equalIn, run_underlying ht]
    have e0 : a.eval (.const .nilIface) = .nilIface := rfl
    refine ⟨.bool (!neg), ?_, repB (!neg)⟩
    cases neg with
    | true =>
      simp only [execOp, if_true, e1.1, e0, Sem.run_bind]
      simp [eqGuard, binOp, Op.equal, Op.maxDepth, h 9999, Sem.run_pure]
    | false =>
      simp only [execOp, Bool.false_eq_true, if_false, e1.1, e0, Sem.run_bind]
      simp [eqGuard, binOp, Op.equal, Op.maxDepth, h 9999, Sem.run_pure]
end
section
variable {P : Program} {C : Ctx} {k : List Frm} {n : Nat} {sl : Slots} {tab : Tab} {Q : Exit → St → Prop} {all : Array Oper} {rest : List Oper}
theorem g_slMid {d : Nat} {x y z : Operand} {t ty : TypeId} {ps : String} {af : Array Edge} {g0 : Option (Nat × Bool)} {gs : Slots} {md : Mode} (hC : C.low) {a : ByteArray} {i j : Int} {k0 k1 : IntKind}
    (hx : ev sl x = some (Sr a)) (hy : ev sl y = some (Kk k0 i)) (hz : ev sl z = some (Kk k1 j)) (ht : P.underlying t = some .string) (h0 : 0 ≤ i) (h1 : i ≤ j) (h2 : j ≤ a.size) (hm : metL all sl g0 = some gs) (hd : Nat.blt d n = true)
    (g : Goal P C (.ops all rest (nx md ⟨some d, gs ++ (rq x (Sr a) ++ rq y (Kk k0 i) ++ rq z (Kk k1 j)), [], [], Sr (a.extract i.toNat j.toNat), []⟩)) k n ((d, Sr (a.extract i.toNat j.toNat)) :: sl) tab Q) :
    Goal P C (.ops all (⟨some d, .slice t x (some y) (some z) none, ty, ps, af, g0⟩ :: rest) md) k n sl tab Q := by
  have e1 := of_ev (st := ⟨n, sl, tab⟩) hx
  have e2 := of_ev (st := ⟨n, sl, tab⟩) hy
  have e3 := of_ev (st := ⟨n, sl, tab⟩) hz
  have := metL_step hm (L_slMid (P := P) (ty := ty) (ps := ps) (af := af) (g := g0) (d := some d) (t := t) e1.1 e2.1 e3.1 ht h0 h1 h2) (n := n) (tab := tab)
  exact g_law (L := ⟨some d, gs ++ (rq x (Sr a) ++ rq y (Kk k0 i) ++ rq z (Kk k1 j)), [], [], Sr (a.extract i.toNat j.toNat), []⟩) hC this.1 rfl ⟨by rw [okS_append, okS_append, okS_append]; exact ⟨this.2, ⟨e1.2, e2.2⟩, e3.2⟩, trivial, rfl, hd⟩ g
theorem g_index1 {d : Nat} {x y : Operand} {t ty : TypeId} {ps : String} {af : Array Edge} {g0 : Option (Nat × Bool)} {gs : Slots} {md : Mode} (hC : C.low) {vs : List V} {len : Nat} {el : TypeId} {k0 : IntKind} {i : Int} {v : V}
    (hx : ev sl x = some (.agg vs)) (hy : ev sl y = some (Kk k0 i)) (ht : P.underlying t = some (.array len el)) (he : (P.info? el).map (·.size) = some 1) (hs : shp P el = some none) (h0 : 0 ≤ i) (hi : i < len) (hv : vs[i.toNat]? = some v) (hm : metL all sl g0 = some gs) (hd : Nat.blt d n = true)
    (g : Goal P C (.ops all rest (nx md ⟨some d, gs ++ (rq x (.agg vs) ++ rq y (Kk k0 i)), [], [], .one v, []⟩)) k n ((d, .one v) :: sl) tab Q) :
    Goal P C (.ops all (⟨some d, .index t x y, ty, ps, af, g0⟩ :: rest) md) k n sl tab Q := by
  have e1 := of_ev (st := ⟨n, sl, tab⟩) hx
  have e2 := of_ev (st := ⟨n, sl, tab⟩) hy
  have := metL_step hm (L_index1 (P := P) (ty := ty) (ps := ps) (af := af) (g := g0) (d := some d) (t := t) e1.1 e2.1 ht he hs h0 hi hv) (n := n) (tab := tab)
  exact g_law (L := ⟨some d, gs ++ (rq x (.agg vs) ++ rq y (Kk k0 i)), [], [], .one v, []⟩) hC this.1 rfl ⟨by rw [okS_append, okS_append]; exact ⟨this.2, e1.2, e2.2⟩, trivial, rfl, hd⟩ g
theorem g_ifcE {d : Nat} {x : Operand} {t t' ty : TypeId} {ps : String} {af : Array Edge} {g0 : Option (Nat × Bool)} {gs : Slots} {md : Mode} (hC : C.low) {id : Nat}
    (hx : ev sl x = some (.one (.ar id))) (hT : tg tab id = some .ifc) (ht : isIfc P t = true) (hm : metL all sl g0 = some gs) (hd : Nat.blt d n = true)
    (g : Goal P C (.ops all rest (nx md ⟨some d, gs ++ rq x (.one (.ar id)), [(id, .ifc)], [], Bo false, []⟩)) k n ((d, Bo false) :: sl) tab Q) :
    Goal P C (.ops all (⟨some d, .binOp .eql t x (.const .nilIface) t', ty, ps, af, g0⟩ :: rest) md) k n sl tab Q := by
  have e1 := of_ev (st := ⟨n, sl, tab⟩) hx
  have := metL_step hm (L_ifc (P := P) (neg := false) (ty := ty) (ps := ps) (af := af) (g := g0) (d := some d) (t' := t') e1.1 ht) (n := n) (tab := tab)
  exact g_law (L := ⟨some d, gs ++ rq x (.one (.ar id)), [(id, .ifc)], [], Bo false, []⟩) hC this.1 rfl ⟨by rw [okS_append]; exact ⟨this.2, e1.2⟩, ⟨hT, trivial⟩, rfl, hd⟩ g
theorem g_ifnE {d : Nat} {x : Operand} {t t' ty : TypeId} {ps : String} {af : Array Edge} {g0 : Option (Nat × Bool)} {gs : Slots} {md : Mode} (hC : C.low)
    (hx : ev sl x = some (.one (.p (.k .nilIface)))) (ht : isIfc P t = true) (hm : metL all sl g0 = some gs) (hd : Nat.blt d n = true)
    (g : Goal P C (.ops all rest (nx md ⟨some d, gs ++ rq x (.one (.p (.k .nilIface))), [], [], Bo true, []⟩)) k n ((d, Bo true) :: sl) tab Q) :
    Goal P C (.ops all (⟨some d, .binOp .eql t x (.const .nilIface) t', ty, ps, af, g0⟩ :: rest) md) k n sl tab Q := by
  have e1 := of_ev (st := ⟨n, sl, tab⟩) hx
  have := metL_step hm (L_ifn (P := P) (neg := false) (ty := ty) (ps := ps) (af := af) (g := g0) (d := some d) (t' := t') e1.1 ht) (n := n) (tab := tab)
  exact g_law (L := ⟨some d, gs ++ rq x (.one (.p (.k .nilIface))), [], [], Bo true, []⟩) hC this.1 rfl ⟨by rw [okS_append]; exact ⟨this.2, e1.2⟩, trivial, rfl, hd⟩ g
end
end Hw
/- The engine, part BK: parts of owned arrays. -/
namespace Hw
open Go

section
variable {P : Program} {d : Option Nat} {ty : TypeId} {ps : String} {af : Array Edge} {g : Option (Nat × Bool)} {x y z : Operand} {t : TypeId}
/-- What is appended: a part of an owned array. -/
theorem SrcW.sv {e : Nat} {tx el : TypeId} {id l m : Nat} {ids : List Nat} {rows : List (List PC)} (h : elemSz P tx = some (el, e)) (hl : l + m ≤ rows.length) : SrcW P e tx (.one (.sv id (l * e) m)) [(id, .vw ids e rows)] ((rows.drop l).take m) ids := by
  intro C st M ρ a w v hH hr ht
  obtain ⟨_, hu, _, _⟩ := elemSz_spec h
  have hlen : ((rows.drop l).take m).length = m := by rw [List.length_take, List.length_drop]; omega
  obtain ⟨b, cap, h1, h2, h3, hle, h4⟩ := hH.tabs.res id _ ht.1
  have hle' : ∀ r ∈ (rows.drop l).take m, r.length = e := fun r hr => hle r (List.mem_of_mem_drop (List.mem_of_mem_take hr))
  simp only [RepS, RepV] at hr
  rw [hlen]
  rcases hr with ⟨rfl, a0, c0, rfl⟩ | ⟨b0, o0, N, cap0, c0, f1, rfl, f3, f4⟩
  · refine ⟨[], ?_, by simp, by simp⟩
    cases a0 with
    | none => exact Src.ofNil w hu c0
    | some ad => exact Src.ofSlice w hu ad 0 c0 [] (by simp) (by simp) (by simp)
  · rcases h4 with ⟨rfl, hc⟩ | ⟨b', o, cs, el', fz, rfl, h6, _, _, h8⟩
    · rw [h1] at f1; simp at f1
    · rw [h1] at f1
      simp only [Value.slice.injEq, Option.some.injEq, Addr.mk.injEq] at f1
      obtain ⟨⟨rfl, rfl, _⟩, _, rfl⟩ := f1
      have hfl := flat_len hle'
      rw [hlen] at hfl
      have hat : ∀ j x, ((rows.drop l).take m).flatten[j]? = some x → rows.flatten[l * e + j]? = some x := fun j x hj => by
        obtain ⟨i, c, row, g1, g2, g3, g4⟩ := flat_get hle' hj
        have him : i < m := by have := (List.getElem?_eq_some_iff.1 g3).1; omega
        rw [List.getElem?_take, if_pos him, List.getElem?_drop] at g3
        have := flat_at hle (i := l + i) (c := c) g2
        rw [g3, Nat.add_mul] at this
        rw [g1, ← Nat.add_assoc, this]; exact g4
      obtain ⟨us, h9, h10⟩ := repVs_of (M := M) (ρ := ρ) (vs := ((rows.drop l).take m).flatten.map (toV ids)) (g := fun j => cs[o + (l * e + j)]?) fun j u hj => by
        rw [List.getElem?_map, Option.map_eq_some_iff] at hj
        obtain ⟨p, hp, rfl⟩ := hj
        exact h8 _ p (hat j p hp)
      refine ⟨us, Src.ofSlice w hu _ _ c0 us (by rw [h9.length, List.length_map, hfl]) (fun j u hj => by rw [add_addr]; have := h10 j u hj; simp only [← Nat.add_assoc] at this; simp [World.cell?, h6, this]) h9.one, fun j p hj => ?_, hle'⟩
      exact repVs_at h9 (m := j) (by rw [List.getElem?_map, hj]; rfl)
end
section
variable {P : Program} {C : Ctx} {k : List Frm} {n : Nat} {sl : Slots} {tab : Tab} {Q : Exit → St → Prop} {all : Array Oper} {rest : List Oper}
end
end Hw
/- The engine, part BL: an array is taken out of a bag; arrays of a bag as what is appended. -/
namespace Hw
open Go

/-- What is known behind an array that was taken out of a bag. -/
def OpF (id id' id2 j : Nat) (ρ : Nat → Value) : Prop := ∃ (cs : List Value) (v : Value), ρ id = .tuple cs.toArray ∧ cs[j]? = some v ∧ ρ id2 = v ∧ ρ id' = .tuple (cs.set j (.slice none 0 0)).toArray
theorem OpF.nv {id id' id2 j i : Nat} (h : i ≠ j) : RwV (OpF id id' id2 j) (.nv id i) (.nv id' i) := fun M ρ x hF hr => by
  obtain ⟨cs, v, h1, h2, h3, h4⟩ := hF
  simp only [RepV] at hr ⊢
  obtain ⟨xs, f1, f2, f3⟩ := hr
  rw [h1] at f1
  have : xs = cs := by simp only [Value.tuple.injEq] at f1; have := congrArg Array.toList f1; simpa using this.symm
  subst this
  exact ⟨_, h4, by rw [List.getElem?_set_ne (fun e => h e.symm)]; exact f2, f3⟩
theorem OpF.ar {id id' id2 j : Nat} : RwV (OpF id id' id2 j) (.nv id j) (.ar id2) := fun M ρ x hF hr => by
  obtain ⟨cs, v, h1, h2, h3, h4⟩ := hF
  simp only [RepV] at hr ⊢
  obtain ⟨xs, f1, f2, f3⟩ := hr
  rw [h1] at f1
  have : xs = cs := by simp only [Value.tuple.injEq] at f1; have := congrArg Array.toList f1; simpa using this.symm
  subst this
  rw [h2] at f2
  exact ⟨by rw [h3]; exact (Option.some.inj f2).symm, f3⟩
section
variable {P : Program} {C : Ctx} {k : List Frm} {n : Nat} {sl : Slots} {tab : Tab} {Q : Exit → St → Prop} {cur : Cur}
end
section
variable {P : Program}
/-- What is appended: an array of a bag. -/
theorem SrcS.nv {e q : Nat} {tx el : TypeId} {id : Nat} {L : List (List (List PV))} {rs : List (List PV)} (h : elemSz P tx = some (el, e)) (hq : L[q]? = some rs) (hl : ∀ r ∈ rs, r.length = e) : SrcS P e tx (.one (.nv id q)) [(id, .bag e L)] rs := by
  intro C st M ρ a w v hH hr hT
  obtain ⟨_, hu, _, _⟩ := elemSz_spec h
  simp only [RepS, RepV] at hr
  obtain ⟨xs, f1, f2, _⟩ := hr
  obtain ⟨a', cap, rfl, h2, h3, h4⟩ := bag_inner (hH.tabs.res id _ hT.1) hq f1 f2
  rcases h4 with ⟨rfl, hc⟩ | ⟨b', o, cs, el', fz, rfl, h6, _, _, h8⟩
  · have : rs = [] := List.length_eq_zero_iff.1 (by omega)
    subst this
    exact ⟨[], Src.ofNil w hu cap, by simp [RepVs], by simp⟩
  · obtain ⟨us, g1, g2, g3⟩ := h8.cells (ρ := ρ)
    exact ⟨us, Src.ofSlice w hu _ _ cap us g2 (fun j u hj => by rw [add_addr]; have := g3 j u hj; simp [World.cell?, h6, this]) g1.one, g1, hl⟩
end
end Hw
/- The engine, part BN: a bag's arrays numbered anew; grids: an owned array of owned arrays, row by row; grids lent and frozen. -/
namespace Hw
open Go Go.Proofs

/-- What is known behind a bag of some of a bag's arrays. -/
def RbF (id id' : Nat) (js : List Nat) (ρ : Nat → Value) : Prop := ∃ cs ds : List Value, ρ id = .tuple cs.toArray ∧ ρ id' = .tuple ds.toArray ∧ ∀ (i q : Nat), js[i]? = some q → ds[i]? = cs[q]?
theorem RbF.nv {id id' i q : Nat} {js : List Nat} (h : js[i]? = some q) : RwV (RbF id id' js) (.nv id q) (.nv id' i) := fun M ρ x hF hr => by
  obtain ⟨cs, ds, h1, h2, h3⟩ := hF
  simp only [RepV] at hr ⊢
  obtain ⟨xs, f1, f2, f3⟩ := hr
  rw [h1] at f1
  have : xs = cs := by simp only [Value.tuple.injEq] at f1; have := congrArg Array.toList f1; simpa using this.symm
  subst this
  exact ⟨ds, h2, by rw [h3 i q h]; exact f2, f3⟩
section
variable {P : Program} {C : Ctx} {k : List Frm} {n : Nat} {sl : Slots} {tab : Tab} {Q : Exit → St → Prop} {cur : Cur}
/-- The rows of a grid: the arrays of a bag, in an order. -/
def grJ (js : List Nat) : List (List PC) := js.map fun q => [PC.n 0 q]
def gr (n : Nat) : List (List PC) := grJ (List.range n)
theorem grJ_len (js : List Nat) : (grJ js).length = js.length := List.length_map _
theorem gr_len (n : Nat) : (gr n).length = n := by rw [gr, grJ_len, List.length_range]
theorem grJ_one (js : List Nat) : ∀ r ∈ grJ js, r.length = 1 := fun r hr => by obtain ⟨_, _, rfl⟩ := List.mem_map.1 hr; rfl
theorem gr_one (n : Nat) : ∀ r ∈ gr n, r.length = 1 := grJ_one _
theorem grJ_flat (js : List Nat) : (grJ js).flatten = js.map (PC.n 0) := by
  induction js with
  | nil => rfl
  | cons a l ih => simp only [grJ, List.map_cons, List.flatten_cons] at ih ⊢; rw [ih]; rfl
theorem grJ_at {js : List Nat} {i q : Nat} (h : js[i]? = some q) : (grJ js).flatten[i]? = some (.n 0 q) := by rw [grJ_flat, List.getElem?_map, h]; rfl
theorem gr_at {n i : Nat} (h : i < n) : (gr n).flatten[i]? = some (.n 0 i) := grJ_at (by rw [List.getElem?_range h])
end
section
variable {P : Program} {d : Option Nat} {ty et : TypeId} {ps : String} {af : Array Edge} {g : Option (Nat × Bool)} {t t' : TypeId} {x : Operand}
end
section
variable {P : Program} {C : Ctx} {k : List Frm} {n : Nat} {sl : Slots} {tab : Tab} {Q : Exit → St → Prop} {all : Array Oper} {rest : List Oper}
end
section
variable {B : RL}
/-- A grid that is lent. -/
theorem LnV.grid {o id e : Nat} {L : List (List (List PV))} (ho : (o, .vw [id] 1 (gr L.length)) ∈ B) (hid : (id, .bag e L) ∈ B) : LnV B (.ar o) (.p (.sl 1 (L.map fun rs => [.sl e rs]))) :=
  LnV.vw ho (by rw [List.length_map, gr_len]) (fun r hr => by obtain ⟨_, _, rfl⟩ := List.mem_map.1 hr; rfl) fun j x' hj => by
    have hfl : (L.map fun rs => [PV.sl e rs]).flatten = L.map (PV.sl e) := by
      clear ho hid hj
      induction L with
      | nil => rfl
      | cons a l ih => simp only [List.map_cons, List.flatten_cons, List.singleton_append] at ih ⊢; rw [ih]
    rw [hfl, List.getElem?_map, Option.map_eq_some_iff] at hj
    obtain ⟨rs, hrs, rfl⟩ := hj
    have hlt := (List.getElem?_eq_some_iff.1 hrs).1
    exact ⟨_, gr_at hlt, LnV.nv hid hrs⟩
/-- A part of a row of pure cells, lent. -/
theorem LnV.sv {id e a m : Nat} {rows : List (List PV)} (hm : (id, .arr e rows) ∈ B) (hle : ∀ r ∈ rows, r.length = e) (ha : a + m ≤ rows.length) : LnV B (.sv id (a * e) m) (.p (.sl e ((rows.drop a).take m))) := fun M ρ w u hH hr => by
  simp only [RepV, RepPV] at hr ⊢
  have hlen : ((rows.drop a).take m).length = m := by rw [List.length_take, List.length_drop]; omega
  rcases hr with ⟨rfl, a', c, rfl⟩ | ⟨b, o, N, cap, c, h1, rfl, h3, h4⟩
  · exact ⟨a', c, by rw [List.take_zero]; rfl, by rw [List.take_zero]; exact Nat.zero_le _, by rw [List.take_zero]; exact Nat.zero_le _, .inl (List.take_zero)⟩
  · refine ⟨_, c, by rw [hlen], by rw [hlen]; exact h3, by rw [hlen]; omega, .inr ⟨b, _, rfl, ?_⟩⟩
    have hA : ArrIn M w (ρ id) e rows := hH.2 id _ hm
    obtain ⟨av, cap', g1, g2, g3, g4⟩ := hA
    rw [h1] at g1
    simp only [Value.slice.injEq] at g1
    rcases g4 with ⟨g4, _⟩ | ⟨b', o', cs, el, fz, g5, g6, _, _, g8⟩
    · rw [g4] at g1; cases g1.1
    · rw [g5] at g1
      simp only [Option.some.injEq, Addr.mk.injEq] at g1
      obtain ⟨⟨rfl, rfl, _⟩, _⟩ := g1
      have hb : ∃ i r, (i, r) ∈ B ∧ Bk (ρ i) b := ⟨id, _, hm, by rw [h1]; rfl⟩
      have := RowsIn.mono (M' := lentN M ρ w B) lentN_le (fun i c hc => lentN_cell hH.1 hb g6 i c hc) _ _ g8
      exact (this.drop a).take m
end
end Hw
/- The engine, part BO: what a call of the library's leaves, in general; rows that are laid over; arrays sorted. -/
namespace Hw
open Go Go.Proofs Go.Sort

section
variable {α : Type} [Inhabited α]
end
end Hw
/- The engine, part BP: grids that a call leaves: an owned array of owned arrays under new names. -/
namespace Hw
open Go Go.Proofs

theorem apart_pw {cs : List Value} : Apart cs ↔ cs.Pairwise fun x y => ∀ b, blk x = some b → blk y ≠ some b := by
  rw [List.pairwise_iff_getElem]
  constructor
  · intro h i j hi hj hij b hb hb'
    exact h i j b _ _ (List.getElem?_eq_getElem hi) (List.getElem?_eq_getElem hj) (by omega) hb hb'
  · intro h i j b x y hx hy hne hb hb'
    obtain ⟨hi, rfl⟩ := List.getElem?_eq_some_iff.1 hx
    obtain ⟨hj, rfl⟩ := List.getElem?_eq_some_iff.1 hy
    rcases Nat.lt_or_ge i j with h1 | h1
    · exact h i j hi hj h1 b hb hb'
    · exact h j i hj hi (by omega) b hb' hb
theorem Apart.sub {cs ds : List Value} (h : Apart cs) (hs : ds.Sublist cs) : Apart ds := apart_pw.2 ((apart_pw.1 h).sublist hs)
theorem Apart.cons {cs : List Value} {v : Value} (h : Apart cs) (hv : ∀ c ∈ cs, ∀ b, blk c = some b → blk v ≠ some b) : Apart (v :: cs) :=
  apart_pw.2 (List.pairwise_cons.2 ⟨fun c hc b hb hb' => hv c hc b hb' hb, apart_pw.1 h⟩)

/-- The cells of a row, in the block of old or in a new one; all else as it was. -/
def RowDone (w w' : World) (b0 : Option Nat) (ys : List Value) (v : Value) : Prop := ∃ (B o cap : Nat) (cs : Array Value) (el : TypeId) (fz : Nat × Nat), v = .slice (some ⟨B, o, none⟩) ys.length cap ∧ w'.heap[B]? = some (.cells cs el fz) ∧ Unfrozen fz cs.size ∧
  o + cap ≤ cs.size ∧ ys.length ≤ cap ∧ cap ≤ 9223372036854775807 ∧ (∀ (j : Nat) u, ys[j]? = some u → cs[o + j]? = some u) ∧ (w.heap.size ≤ B ∨ b0 = some B) ∧ (∀ k, k < w.heap.size → b0 ≠ some k → w'.heap[k]? = w.heap[k]?) ∧
  w.heap.size ≤ w'.heap.size ∧ w'.os = w.os ∧ w'.tape = w.tape ∧ w'.output = w.output
end Hw
/- The engine, part BQ: laws of grids: lent, taken in, put together, read, written. -/
namespace Hw
open Go

theorem RwR.grid {F : (Nat → Value) → Prop} {a b n : Nat} (h : ∀ j, j < n → RwV F (.nv a j) (.nv b j)) : RwR F (.vw [a] 1 (gr n)) (.vw [b] 1 (gr n)) := RwR.vw rfl (gr_one n) fun j x' hj => by
  rw [gr, grJ_flat, List.getElem?_map, Option.map_eq_some_iff] at hj
  obtain ⟨q, hq, rfl⟩ := hj
  have hlt := (List.getElem?_eq_some_iff.1 hq).1
  rw [List.length_range] at hlt
  rw [List.getElem?_range hlt] at hq
  obtain rfl := Option.some.inj hq
  exact ⟨_, gr_at hlt, by simpa [toV] using h j hlt⟩
theorem TkF.arr {id id2 id' m n : Nat} (h : n = m) : RwV (TkF id id2 id' m) (.ar id2) (.nv id' n) := by subst h; exact TkF.ar
section
variable {P : Program} {C : Ctx} {k : List Frm} {n : Nat} {sl : Slots} {tab : Tab} {Q : Exit → St → Prop} {all : Array Oper} {rest : List Oper}
end
end Hw
/- The engine, part BR: an owned array whose cells are all pure, told so. -/
namespace Hw
open Go

section
variable {P : Program} {C : Ctx} {k : List Frm} {n : Nat} {sl : Slots} {tab : Tab} {Q : Exit → St → Prop} {cur : Cur}
end
section
variable {P : Program} {d : Option Nat} {ty : TypeId} {ps : String} {af : Array Edge} {g : Option (Nat × Bool)} {x y z : Operand} {t : TypeId}
end
section
variable {P : Program} {C : Ctx} {k : List Frm} {n : Nat} {sl : Slots} {tab : Tab} {Q : Exit → St → Prop} {all : Array Oper} {rest : List Oper}
end
end Hw
/- The engine, part BS: a literal slice of the run's own. -/
namespace Hw
open Go
section
variable {P : Program} {d : Option Nat} {ty : TypeId} {ps : String} {af : Array Edge} {g : Option (Nat × Bool)} {t : TypeId}
end
section
variable {P : Program} {C : Ctx} {k : List Frm} {n : Nat} {sl : Slots} {tab : Tab} {Q : Exit → St → Prop} {all : Array Oper} {rest : List Oper}
end
end Hw
/- The engine, part BT: a cell's address of an array in a box; the least and the greatest of two. -/
namespace Hw
open Go
section
variable {P : Program} {d : Option Nat} {ty : TypeId} {ps : String} {af : Array Edge} {g : Option (Nat × Bool)} {x y : Operand} {t : TypeId}
end
section
variable {P : Program} {C : Ctx} {k : List Frm} {n : Nat} {sl : Slots} {tab : Tab} {Q : Exit → St → Prop} {all : Array Oper} {rest : List Oper}
end
section
variable {P : Program} {d : Option Nat} {ty : TypeId} {ps : String} {af : Array Edge} {g : Option (Nat × Bool)} {x1 x2 : Operand}
end
section
variable {P : Program} {C : Ctx} {k : List Frm} {n : Nat} {sl : Slots} {tab : Tab} {Q : Exit → St → Prop} {all : Array Oper} {rest : List Oper}
end
end Hw
/- The engine, part BU: copy from one slice to another. -/
namespace Hw
open Go
section
variable {P : Program} {d : Option Nat} {ty : TypeId} {ps : String} {af : Array Edge} {g : Option (Nat × Bool)} {x y : Operand} {t tx : TypeId}
/-- The value is a part of the slice under id: m elements from the k-th on. -/
def DstV (ρ : Nat → Value) (id k e m : Nat) (v : Value) : Prop := (m = 0 ∧ ∃ (a : Option Addr) (c : Nat), v = .slice a 0 c) ∨ ∃ (b o N cap c : Nat), ρ id = .slice (some ⟨b, o, none⟩) N cap ∧ v = .slice (some ⟨b, o + k * e, none⟩) m c
/-- The value is a slice of n elements, which lie there. -/
def SrcC (e : Nat) (s : S) (rt : RL) (n : Nat) (rows2 : List (List PV)) : Prop :=
  ∀ (C : Ctx) (st : St) (M : Mem) (ρ : Nat → Value) (a : Act) (w : World) (v : Value), Holds C st M ρ a w → RepS M ρ s v → okT rt st →
    rows2.length = n ∧ ∃ (ad : Option Addr) (cap : Nat), v = .slice ad n cap ∧ (n = 0 ∨ ∃ (b o : Nat) (gg : Nat → Option Value), ad = some ⟨b, o, none⟩ ∧ (∀ i c, gg i = some c → w.cell? ⟨b, i, none⟩ = some c) ∧ RowsIn M gg e rows2 o)
theorem SrcC.sl {e : Nat} {rows : List (List PV)} : SrcC e (.one (.p (.sl e rows))) [] rows.length rows := fun C st M ρ a w v hH hr _ => by
  simp only [RepS, RepV, RepPV] at hr
  obtain ⟨ad, cap, h1, _, _, h4⟩ := hr
  refine ⟨rfl, ad, cap, h1, ?_⟩
  rcases h4 with h4 | ⟨b, o, h5, h6⟩
  · exact .inl (by rw [h4]; rfl)
  · exact .inr ⟨b, o, M b, h5, fun i c hi => hH.run.imm b i c hi, h6⟩
theorem SrcC.sv {id e n : Nat} {rows : List (List PV)} (hn : n ≤ rows.length) : SrcC e (.one (.sv id 0 n)) [(id, .arr e rows)] n (rows.take n) := fun C st M ρ a w v hH hr ht => by
  simp only [RepS, RepV] at hr
  refine ⟨by rw [List.length_take]; omega, ?_⟩
  rcases hr with ⟨h0, ad, c, h1⟩ | ⟨b, o, N, cap, c, h1, h2, _, _⟩
  · subst h0; exact ⟨ad, c, h1, .inl rfl⟩
  · refine ⟨_, c, h2, ?_⟩
    obtain ⟨ad, cap', h3, h4, h5, h6⟩ := hH.tabs.res id _ ht.1
    rw [h1] at h3
    simp only [Value.slice.injEq] at h3
    rcases h6 with ⟨h6, _⟩ | ⟨b', o', cs, el, fz, h6, h7, _, _, h8⟩
    · rw [h6] at h3; cases h3.1
    · rw [h6] at h3
      have hbo : b = b' ∧ o = o' := by have := h3.1; simp at this; exact this
      obtain ⟨rfl, rfl⟩ := hbo
      exact .inr ⟨b, o + 0, fun i => cs[i]?, rfl, fun i c hi => by simp only [World.cell?, h7]; simpa using hi, by rw [Nat.add_zero]; exact h8.take n⟩
theorem DstV.ar {C : Ctx} {st : St} {M : Mem} {ρ : Nat → Value} {a : Act} {w : World} (hH : Holds C st M ρ a w) {id e : Nat} {rows : List (List PV)} {v : Value} (hT : tg st.tab id = some (.arr e rows)) (h : RepS M ρ (.one (.ar id)) v) : DstV ρ id 0 e rows.length v := by
  simp only [RepS, RepV] at h
  obtain ⟨ad, cap, h3, h4, h5, h6⟩ := hH.tabs.res id _ hT
  rcases h6 with ⟨h6, h7⟩ | ⟨b, o, cs, el, fz, h6, _⟩
  · exact .inl ⟨by omega, ad, cap, by rw [h.1, h3, show rows.length = 0 by omega]⟩
  · exact .inr ⟨b, o, rows.length, cap, cap, by rw [h3, h6], by rw [h.1, h3, h6, Nat.zero_mul, Nat.add_zero]⟩
theorem DstV.sv {M : Mem} {ρ : Nat → Value} {id k e m : Nat} {v : Value} (h : RepS M ρ (.one (.sv id (k * e) m)) v) : DstV ρ id k e m v := by
  simp only [RepS, RepV] at h
  rcases h with ⟨h0, ad, c, h1⟩ | ⟨b, o, N, cap, c, h1, h2, _, _⟩
  · exact .inl ⟨h0, ad, c, h1⟩
  · exact .inr ⟨b, o, N, cap, c, h1, h2⟩
end
section
variable {P : Program} {C : Ctx} {k : List Frm} {n : Nat} {sl : Slots} {tab : Tab} {Q : Exit → St → Prop} {all : Array Oper} {rest : List Oper}
end
end Hw
/- The engine, part BV: a function with first arguments bound (a method's value). -/
namespace Hw
open Go
section
variable {P : Program} {d : Option Nat} {ty : TypeId} {ps : String} {af : Array Edge} {g : Option (Nat × Bool)}
theorem L_makeFuncF {f : FuncId} {fs l : List Operand} {ssf ss : List S} {first caps : List V} (hf : okcs fs ssf) (hcf : onesOf ssf = some first) (hx : okcs l ss) (hc : onesOf ss = some caps) :
    Snd P ⟨d, .makeFunc (.func f) fs.toArray l.toArray, ty, ps, af, g⟩ (rqs fs ssf ++ rqs l ss) [] [] (.one (.cl f first caps)) [] :=
  snd_quiet fun C st M ρ a w hH h1 _ => by
    rw [okS_append] at h1
    have e := hH.evsS (evs_of hx h1.2)
    have e' := onesOf_spec hc e
    have e2 := hH.evsS (evs_of hf h1.1)
    have e2' := onesOf_spec hcf e2
    exact ⟨.func (.func f) (fs.map a.eval).toArray (l.map a.eval).toArray, by simp [execOp, Instr.makeFunc], by simp only [RepS, RepV]; exact ⟨fs.map a.eval, l.map a.eval, rfl, e2', e'⟩⟩
end
section
variable {P : Program} {C : Ctx} {k : List Frm} {n : Nat} {sl : Slots} {tab : Tab} {Q : Exit → St → Prop} {all : Array Oper} {rest : List Oper}
theorem g_mkF {d : Nat} {f : FuncId} {fs l : List Operand} {ty : TypeId} {ps : String} {af : Array Edge} {g0 : Option (Nat × Bool)} {gs : Slots} {md : Mode} (hC : C.low) {ssf ss : List S} {first caps : List V}
    (hf : evs sl fs = some ssf) (hcf : onesOf ssf = some first) (hx : evs sl l = some ss) (hc : onesOf ss = some caps) (hm : metL all sl g0 = some gs) (hd : Nat.blt d n = true)
    (g : Goal P C (.ops all rest (nx md ⟨some d, gs ++ (rqs fs ssf ++ rqs l ss), [], [], .one (.cl f first caps), []⟩)) k n ((d, .one (.cl f first caps)) :: sl) tab Q) :
    Goal P C (.ops all (⟨some d, .makeFunc (.func f) fs.toArray l.toArray, ty, ps, af, g0⟩ :: rest) md) k n sl tab Q := by
  have e1 := of_evs (st := ⟨n, sl, tab⟩) hf
  have e2 := of_evs (st := ⟨n, sl, tab⟩) hx
  have := metL_step hm (L_makeFuncF (P := P) (ty := ty) (ps := ps) (af := af) (g := g0) (d := some d) (f := f) e1.1 hcf e2.1 hc) (n := n) (tab := tab)
  exact g_law (L := ⟨some d, gs ++ (rqs fs ssf ++ rqs l ss), [], [], .one (.cl f first caps), []⟩) hC this.1 rfl ⟨by rw [okS_append, okS_append]; exact ⟨this.2, e1.2, e2.2⟩, trivial, rfl, hd⟩ g
end
end Hw
