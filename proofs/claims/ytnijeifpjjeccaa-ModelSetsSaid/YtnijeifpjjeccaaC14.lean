/- The engine, part BS: a literal slice of the run's own. -/
import Derived.Test.YtnijeifpjjeccaaC3
import Derived.Test.YtnijeifpjjeccaaC13
set_option linter.unusedVariables false
set_option linter.unusedSimpArgs false
namespace Hw
open Go
section
variable {P : Program} {d : Option Nat} {ty : TypeId} {ps : String} {af : Array Edge} {g : Option (Nat × Bool)} {t : TypeId}
theorem L_litA {id e len : Nat} {l : List (Nat × Operand)} {ss : List S} {rows : List (List PV)} {el : TypeId} {z : List V} (hx : okcs (l.map (·.2)) ss) (he : elemSz P t = some (el, e)) (hz : zeroV P el = some z)
    (hr : partsR e 0 (l.map (·.1)) ss = some rows) (hl : Nat.beq l.length len = true) (hb : Nat.ble (len * e) 16777216 = true) (hb2 : Nat.ble len 16777216 = true) :
    Snd P ⟨d, .buildSlice t len l.toArray, ty, ps, af, g⟩ (rqs (l.map (·.2)) ss) [] [id] (.one (.ar id)) [(id, some (.arr e rows))] := by
  intro C st M ρ a w hH h1 hT hF hd k Q hk
  have e' := hH.evsS (evs_of hx h1)
  obtain ⟨h2, h3, out, h4, h5, h6⟩ := partsR_spec hr e'
  obtain ⟨ii, hu, hinf, hsz⟩ := elemSz_spec he
  obtain ⟨i', zv, hi', hzv, hzs⟩ := zeroV_len hz
  rw [hinf] at hi'; simp only [Option.some.injEq] at hi'; subst hi'
  have hl' : l.length = len := Nat.eq_of_beq_eq_true hl
  have hb' : len * e ≤ 16777216 := Nat.le_of_ble_eq_true hb
  have hrl : rows.length = len := by rw [h3]; simpa using hl'
  have hzip : (l.toArray.map fun p => (p.1, a.eval p.2)).toList = (l.map (·.1)).zip ((l.map (·.2)).map a.eval) := by
    rw [List.map_map]; simp [List.zip_map']
  have hfull : ∀ cur : Array Value, cur.size = len * e → (setAt cur.toList (0 * e) out).toArray = out.toArray := fun cur hc => by
    unfold setAt
    have : cur.toList.drop (0 * e + out.length) = [] := by apply List.drop_eq_nil_of_le; simp [h5, hrl, hc]
    rw [this]; simp
  have hrun : (execOp a.eval ⟨d, .buildSlice t len l.toArray, ty, ps, af, g⟩).run P w = .ok (.value (.slice (some ⟨w.heap.size, 0, none⟩) len len)) (w.alloc (.cells out.toArray el)) := by
    have hn : ¬ 16777216 < len * e := by omega
    by_cases h0 : len * e = 0
    · have hf := h6 ((Array.range (len * e)).map fun x => (#[] : Array Value)[x % 0]!) (by simp [hrl])
      rw [hfull _ (by simp)] at hf
      rw [← hzip] at hf
      simp only [h0] at hf
      simp [execOp, Instr.buildSlice, run_underlying hu, run_sizeOf hinf, hsz, h0, newRow] at hf ⊢
      simp [hf]
    · have hf := h6 ((Array.range (len * e)).map fun x => zv.cells[x % zv.cells.size]!) (by simp [hrl])
      rw [hfull _ (by simp)] at hf
      rw [← hzip] at hf
      have hzrun : (zeroValue el).run P w = .ok zv w := by simp [zeroValue, typeInfo, hinf, hzv]
      simp [execOp, Instr.buildSlice, run_underlying hu, run_sizeOf hinf, hsz, hn, h0, newRow, hzrun] at hf ⊢
      simp [hf]
  unfold Oper.wp
  rw [hrun, Oper.upon_value]
  refine hk _ _ M _ (hH.alloc (val := .slice (some ⟨w.heap.size, 0, none⟩) len len) (fun b hb => by simp only [Bk, blk, Option.some.injEq] at hb; exact hb.symm) hF.1
    ⟨some ⟨w.heap.size, 0, none⟩, len, by rw [hrl]; exact upd_same _ _ _, by omega, by have := Nat.le_of_ble_eq_true hb2; omega, .inr ⟨w.heap.size, 0, out.toArray, el, (0, 0), rfl, heap_push_new w _, fun i hi => by simp, by simp [h5, hrl], RowsIn.of_cells h2 h4 fun j c hj => ?_⟩⟩ (by simp only [RepS, RepV]; exact ⟨(upd_same _ _ _).symm, rfl⟩) hd)
  rw [Nat.zero_add]; simpa using hj
end
section
variable {P : Program} {C : Ctx} {k : List Frm} {n : Nat} {sl : Slots} {tab : Tab} {Q : Exit → St → Prop} {all : Array Oper} {rest : List Oper}
theorem g_litA (T : Ty P) (hC : C.low) {d : Nat} {t : TypeId} {len : Nat} {l : List (Nat × Operand)} {ty : TypeId} {ps : String} {af : Array Edge} {g0 : Option (Nat × Bool)} {gs : Slots} {md : Mode} {ss : List S} {rows : List (List PV)} {el : TypeId} {e : Nat} {z : List V}
    (hl : evs sl (l.map (·.2)) = some ss) (he : T.es t = some (el, e)) (hz : T.zs el = some z) (hr : partsR e 0 (l.map (·.1)) ss = some rows) (hl1 : Nat.beq l.length len = true) (hl2 : Nat.ble (len * e) 16777216 = true) (hl3 : Nat.ble len 16777216 = true)
    (hm : metL all sl g0 = some gs) (hd : Nat.blt d n = true) (hf : (Nat.ble 100 (1000 + d) && freshB (1000 + d) ⟨n, sl, tab⟩) = true)
    (g : Goal P C (.ops all rest (nx md ⟨some d, gs ++ rqs (l.map (·.2)) ss, [], [1000 + d], .one (.ar (1000 + d)), [(1000 + d, some (.arr e rows))]⟩)) k n ((d, .one (.ar (1000 + d))) :: sl) ((1000 + d, some (.arr e rows)) :: tab) Q) :
    Goal P C (.ops all (⟨some d, .buildSlice t len l.toArray, ty, ps, af, g0⟩ :: rest) md) k n sl tab Q := by
  have e2 := of_evs (st := ⟨n, sl, tab⟩) hl
  have := metL_step hm (L_litA (id := 1000 + d) (ty := ty) (ps := ps) (af := af) (g := g0) (d := some d) e2.1 (T.es_ok _ _ he) (T.zs_ok _ _ hz) hr hl1 hl2 hl3) (n := n) (tab := tab)
  exact g_law (L := ⟨some d, gs ++ rqs (l.map (·.2)) ss, [], [1000 + d], .one (.ar (1000 + d)), [(1000 + d, some (.arr e rows))]⟩) hC this.1 rfl ⟨by rw [okS_append]; exact ⟨this.2, e2.2⟩, trivial, fr_one hf, hd⟩ g
end
end Hw
/- The engine, part BT: a cell's address of an array in a box. -/
namespace Hw
open Go
section
variable {P : Program} {d : Option Nat} {ty : TypeId} {ps : String} {af : Array Edge} {g : Option (Nat × Bool)} {x y : Operand} {t : TypeId}
theorem L_idxArr {id len : Nat} {el : TypeId} {i : Int} {k : IntKind} (hx : okc x (.one (.bx id 0))) (hy : okc y (Kk k i)) (ht : P.underlying t = some (.array len el)) (hz : (P.info? el).map (·.size) = some 1) (h0 : 0 ≤ i) (hi : i < len) :
    Snd P ⟨d, .indexAddr t x y, ty, ps, af, g⟩ (rq x (.one (.bx id 0)) ++ rq y (Kk k i)) [] [] (.one (.bx id i.toNat)) [] :=
  snd_quiet fun C st M ρ a w hH h1 _ => by
    rw [okS_append] at h1
    have e1 := hH.evS (ev_of hx h1.1)
    have e2 := hH.k (ev_of hy h1.2)
    simp only [RepS, RepV] at e1
    obtain ⟨b, f1, f2⟩ := e1
    have hl : P.arrayLen t = len := by simp [Program.arrayLen, ht]
    have he : P.elem t = el := by simp [Program.elem, ht]
    obtain ⟨ii, hinf, hsz⟩ := Option.map_eq_some_iff.1 hz
    refine ⟨.pointer (some ⟨b, i.toNat, none⟩), ?_, by simp only [RepS, RepV]; exact ⟨b, f1, rfl⟩⟩
    have hrun := run_indexAt_array (P := P) (w := w) t ⟨b, 0, none⟩ k i (by rw [hl, he]; exact ht)
    rw [hl, he, if_pos ⟨h0, hi⟩] at hrun
    simp only [execOp, f2, e2, Sem.run_bind, hrun, run_sizeOf hinf, Result.andThen_ok, Sem.run_pure, hsz, add_addr, Nat.mul_one, Nat.zero_add]
end
section
variable {P : Program} {C : Ctx} {k : List Frm} {n : Nat} {sl : Slots} {tab : Tab} {Q : Exit → St → Prop} {all : Array Oper} {rest : List Oper}
theorem g_idxArr {d : Nat} {x y : Operand} {t ty : TypeId} {ps : String} {af : Array Edge} {g0 : Option (Nat × Bool)} {gs : Slots} {md : Mode} (hC : C.low) {id len : Nat} {el : TypeId} {i : Int} {k0 : IntKind}
    (hx : ev sl x = some (.one (.bx id 0))) (hy : ev sl y = some (Kk k0 i)) (ht : P.underlying t = some (.array len el)) (hz : (P.info? el).map (·.size) = some 1) (h0 : 0 ≤ i) (hi : i < len) (hm : metL all sl g0 = some gs) (hd : Nat.blt d n = true)
    (g : Goal P C (.ops all rest (nx md ⟨some d, gs ++ (rq x (.one (.bx id 0)) ++ rq y (Kk k0 i)), [], [], .one (.bx id i.toNat), []⟩)) k n ((d, .one (.bx id i.toNat)) :: sl) tab Q) :
    Goal P C (.ops all (⟨some d, .indexAddr t x y, ty, ps, af, g0⟩ :: rest) md) k n sl tab Q := by
  have e1 := of_ev (st := ⟨n, sl, tab⟩) hx
  have e2 := of_ev (st := ⟨n, sl, tab⟩) hy
  have := metL_step hm (L_idxArr (P := P) (ty := ty) (ps := ps) (af := af) (g := g0) (d := some d) (t := t) e1.1 e2.1 ht hz h0 hi) (n := n) (tab := tab)
  exact g_law (L := ⟨some d, gs ++ (rq x (.one (.bx id 0)) ++ rq y (Kk k0 i)), [], [], .one (.bx id i.toNat), []⟩) hC this.1 rfl ⟨by rw [okS_append, okS_append]; exact ⟨this.2, e1.2, e2.2⟩, trivial, rfl, hd⟩ g
end
end Hw
namespace Hw.Mo
open Go Go.Proofs Go.Shelf Hw.M

/-! models: the chapter's example; queries -/
def awkL : List OpT := [⟨1, [3, 10]⟩, ⟨1, [1, 7]⟩, ⟨1, [3, 11]⟩, ⟨7, [1]⟩, ⟨6, [3]⟩, ⟨4, [2]⟩, ⟨4, [0]⟩]
def awkR : List RsT := [⟨0, 0⟩, ⟨0, 0⟩, ⟨0, 1⟩, ⟨0, 3⟩, ⟨0, 1⟩, ⟨0, 1⟩, ⟨12, 0⟩]
theorem awake_ok : FnOK Try.prog 11 [] [] (.bq true) [] := by
  have hN := new_ok (k := 1) (by decide)
  have hRun := mRun_yes 1 [] awkL (by decide) (by decide) (by decide)
  have e : runS 1 [] awkL = ([[1, 7], [3, 11]], awkR) := by decide
  rw [e] at hRun
  have hS := rSame_ok 1 1 [[1, 7], [3, 11]] [[1, 7], [3, 11]]
  have e2 : (decide ((1 : Int) = 1) && decide (([[1, 7], [3, 11]] : Rws) = [[1, 7], [3, 11]])) = true := by decide
  rw [e2] at hS
  have hQ := sameResults_ok awkR awkR
  rw [decide_eq_true (rfl : awkR = awkR)] at hQ
  refine fn_ok T Try.func11 (by kernel_rfl) rfl rfl rfl rfl fun C hC => ?_
  repeat' first
    | refine g_go T hC true 400 rfl rfl ?_
    | (exfalso; simp at h; done)
    | refine g_cond rfl (fun h => ?_) (fun h => ?_)
    | refine g_end T hC (by kernel_rfl) ?_
    | refine g_splitD (fun h => ?_) (fun h => ?_)
    | refine g_splitG rfl rfl rfl (fun h => ?_) (fun h => ?_)
    | refine g_splitP rfl rfl (fun h => ?_) (fun h => ?_)
    | refine g_call hC (hN) rfl rfl (LeSs.refl _) rfl rfl rfl ?_
    | refine g_lit T hC rfl rfl rfl rfl rfl rfl rfl rfl rfl ?_
    | refine g_call hC (op_ok 1 [3, 10]) rfl rfl (LeSs.refl _) rfl rfl rfl ?_
    | refine g_call hC (op_ok 1 [1, 7]) rfl rfl (LeSs.refl _) rfl rfl rfl ?_
    | refine g_call hC (op_ok 1 [3, 11]) rfl rfl (LeSs.refl _) rfl rfl rfl ?_
    | refine g_call hC (op_ok 7 [1]) rfl rfl (LeSs.refl _) rfl rfl rfl ?_
    | refine g_call hC (op_ok 6 [3]) rfl rfl (LeSs.refl _) rfl rfl rfl ?_
    | refine g_call hC (op_ok 4 [2]) rfl rfl (LeSs.refl _) rfl rfl rfl ?_
    | refine g_call hC (op_ok 4 [0]) rfl rfl (LeSs.refl _) rfl rfl rfl ?_
    | refine g_call hC (hRun) rfl rfl (LeSs.refl _) rfl rfl rfl ?_
    | refine g_call hC (hS) rfl rfl (LeSs.refl _) rfl rfl rfl ?_
    | refine g_call hC (hQ) rfl rfl (LeSs.refl _) rfl rfl rfl ?_
  all_goals exact g_fin ⟨.inl rfl, id, _, rfl, by first | exact .refl _ | exact LeS.qb rfl, trivial, rfl, rfl⟩
theorem ask_ok (k : Int) (R : Rws) (c : Int) (l : List Int) (x : RsT) (hv : validS k R = true) (ho : okOp k ⟨c, l⟩ = true) (he : stepS k R ⟨c, l⟩ = (R, x)) :
    FnOK Try.prog 16 [aggS (stR k R), I c, pS (intsP l)] [] (.tup [aggS (rsR x), .bq true]) [] := by
  have hA := mApply_yes k R ⟨c, l⟩ hv ho
  rw [he] at hA
  have hS := mSame_ok k k R R
  rw [show (decide (k = k) && decide (R = R)) = true by simp] at hS
  have hO := op_ok c l
  refine fn_ok T Try.func16 (by kernel_rfl) rfl rfl rfl rfl fun C hC => ?_
  repeat' first
    | refine g_go T hC true 400 rfl rfl ?_
    | (exfalso; simp at h; done)
    | refine g_cond rfl (fun h => ?_) (fun h => ?_)
    | refine g_end T hC (by kernel_rfl) ?_
    | refine g_splitD (fun h => ?_) (fun h => ?_)
    | refine g_splitG rfl rfl rfl (fun h => ?_) (fun h => ?_)
    | refine g_splitP rfl rfl (fun h => ?_) (fun h => ?_)
    | refine g_call hC (hO) rfl rfl (LeSs.refl _) rfl rfl rfl ?_
    | refine g_call hC (hA) rfl rfl (LeSs.refl _) rfl rfl rfl ?_
    | refine g_call hC (hS) rfl rfl (LeSs.refl _) rfl rfl rfl ?_
  all_goals exact g_fin ⟨.inl rfl, id, _, rfl, by first | exact .refl _ | exact LeS.tup (.cons (.refl _) (.cons (LeS.qb rfl) .nil)), trivial, rfl, rfl⟩
end Hw.Mo
