/- The engine, part BS: a literal slice of the run's own. -/
import Derived.Test.YtnijeifpjjeccaaC3
import Derived.Test.YtnijeifpjjeccaaC13
set_option linter.unusedVariables false
set_option linter.unusedSimpArgs false
namespace Hw
open Go
section
variable {P : Program} {d : Option Nat} {ty : TypeId} {ps : String} {af : Array Edge} {g : Option (Nat × Bool)} {t : TypeId}
theorem L_litA {id e len : Nat} {l : List (Nat × Operand)} {ss : List S} {rows : List (List PV)} {el : TypeId} {z : List V} (hx : okcs (l.map (·.2)) ss) (he : elemSz P t = some (el, e)) (hz : zeroV P el = some z)
    (hr : partsR e 0 (l.map (·.1)) ss = some rows) (hl : Nat.beq l.length len = true) (hb : Nat.ble (len * e) 16777216 = true) (hb2 : Nat.ble len 16777216 = true) :
    Snd P ⟨d, .buildSlice t len l.toArray, ty, ps, af, g⟩ (rqs (l.map (·.2)) ss) [] [id] (.one (.ar id)) [(id, some (.arr e rows))] := by
  intro C st M ρ a w hH h1 hT hF hd k Q hk
  have e' := hH.evsS (evs_of hx h1)
  obtain ⟨h2, h3, out, h4, h5, h6⟩ := partsR_spec hr e'
  obtain ⟨ii, hu, hinf, hsz⟩ := elemSz_spec he
  obtain ⟨i', zv, hi', hzv, hzs⟩ := zeroV_len hz
  rw [hinf] at hi'; simp only [Option.some.injEq] at hi'; subst hi'
  have hl' : l.length = len := Nat.eq_of_beq_eq_true hl
  have hb' : len * e ≤ 16777216 := Nat.le_of_ble_eq_true hb
  have hrl : rows.length = len := by rw [h3]; simpa using hl'
  have hzip : (l.toArray.map fun p => (p.1, a.eval p.2)).toList = (l.map (·.1)).zip ((l.map (·.2)).map a.eval) := by
    rw [List.map_map]; simp [List.zip_map']
  have hfull : ∀ cur : Array Value, cur.size = len * e → (setAt cur.toList (0 * e) out).toArray = out.toArray := fun cur hc => by
    unfold setAt
    have : cur.toList.drop (0 * e + out.length) = [] := by apply List.drop_eq_nil_of_le; simp [h5, hrl, hc]
    rw [this]; simp
  have hrun : (execOp a.eval ⟨d, .buildSlice t len l.toArray, ty, ps, af, g⟩).run P w = .ok (.value (.slice (some ⟨w.heap.size, 0, none⟩) len len)) (w.alloc (.cells out.toArray el)) := by
    have hn : ¬ 16777216 < len * e := by omega
    by_cases h0 : len * e = 0
    · have hf := h6 ((Array.range (len * e)).map fun x => (#[] : Array Value)[x % 0]!) (by simp [hrl])
      rw [hfull _ (by simp)] at hf
      rw [← hzip] at hf
      simp only [h0] at hf
      simp [execOp, Instr.buildSlice, run_underlying hu, run_sizeOf hinf, hsz, h0, newRow] at hf ⊢
      simp [hf]
    · have hf := h6 ((Array.range (len * e)).map fun x => zv.cells[x % zv.cells.size]!) (by simp [hrl])
      rw [hfull _ (by simp)] at hf
      rw [← hzip] at hf
      have hzrun : (zeroValue el).run P w = .ok zv w := by simp [zeroValue, typeInfo, hinf, hzv]
      simp [execOp, Instr.buildSlice, run_underlying hu, run_sizeOf hinf, hsz, hn, h0, newRow, hzrun] at hf ⊢
      simp [hf]
  unfold Oper.wp
  rw [hrun, Oper.upon_value]
  refine hk _ _ M _ (hH.alloc (val := .slice (some ⟨w.heap.size, 0, none⟩) len len) (fun b hb => by simp only [Bk, blk, Option.some.injEq] at hb; exact hb.symm) hF.1
    ⟨some ⟨w.heap.size, 0, none⟩, len, by rw [hrl]; exact upd_same _ _ _, by omega, by have := Nat.le_of_ble_eq_true hb2; omega, .inr ⟨w.heap.size, 0, out.toArray, el, (0, 0), rfl, heap_push_new w _, fun i hi => by simp, by simp [h5, hrl], RowsIn.of_cells h2 h4 fun j c hj => ?_⟩⟩ (by simp only [RepS, RepV]; exact ⟨(upd_same _ _ _).symm, rfl⟩) hd)
  rw [Nat.zero_add]; simpa using hj
end
section
variable {P : Program} {C : Ctx} {k : List Frm} {n : Nat} {sl : Slots} {tab : Tab} {Q : Exit → St → Prop} {all : Array Oper} {rest : List Oper}
theorem g_litA (T : Ty P) (hC : C.low) {d : Nat} {t : TypeId} {len : Nat} {l : List (Nat × Operand)} {ty : TypeId} {ps : String} {af : Array Edge} {g0 : Option (Nat × Bool)} {gs : Slots} {md : Mode} {ss : List S} {rows : List (List PV)} {el : TypeId} {e : Nat} {z : List V}
    (hl : evs sl (l.map (·.2)) = some ss) (he : T.es t = some (el, e)) (hz : T.zs el = some z) (hr : partsR e 0 (l.map (·.1)) ss = some rows) (hl1 : Nat.beq l.length len = true) (hl2 : Nat.ble (len * e) 16777216 = true) (hl3 : Nat.ble len 16777216 = true)
    (hm : metL all sl g0 = some gs) (hd : Nat.blt d n = true) (hf : (Nat.ble 100 (1000 + d) && freshB (1000 + d) ⟨n, sl, tab⟩) = true)
    (g : Goal P C (.ops all rest (nx md ⟨some d, gs ++ rqs (l.map (·.2)) ss, [], [1000 + d], .one (.ar (1000 + d)), [(1000 + d, some (.arr e rows))]⟩)) k n ((d, .one (.ar (1000 + d))) :: sl) ((1000 + d, some (.arr e rows)) :: tab) Q) :
    Goal P C (.ops all (⟨some d, .buildSlice t len l.toArray, ty, ps, af, g0⟩ :: rest) md) k n sl tab Q := by
  have e2 := of_evs (st := ⟨n, sl, tab⟩) hl
  have := metL_step hm (L_litA (id := 1000 + d) (ty := ty) (ps := ps) (af := af) (g := g0) (d := some d) e2.1 (T.es_ok _ _ he) (T.zs_ok _ _ hz) hr hl1 hl2 hl3) (n := n) (tab := tab)
  exact g_law (L := ⟨some d, gs ++ rqs (l.map (·.2)) ss, [], [1000 + d], .one (.ar (1000 + d)), [(1000 + d, some (.arr e rows))]⟩) hC this.1 rfl ⟨by rw [okS_append]; exact ⟨this.2, e2.2⟩, trivial, fr_one hf, hd⟩ g
end
end Hw
namespace Hw.Mo
open Go Go.Proofs Go.Shelf Hw.M

/-! models: the chapter's example; queries -/
def awkL : List OpT := [⟨1, [3, 10]⟩, ⟨1, [1, 7]⟩, ⟨1, [3, 11]⟩, ⟨7, [1]⟩, ⟨6, [3]⟩, ⟨4, [2]⟩, ⟨4, [0]⟩]
def awkR : List RsT := [⟨0, 0⟩, ⟨0, 0⟩, ⟨0, 1⟩, ⟨0, 3⟩, ⟨0, 1⟩, ⟨0, 1⟩, ⟨12, 0⟩]
theorem awake_ok : FnOK Try.prog 11 [] [] (.bq true) [] := by
  have hN := new_ok (k := 1) (by decide)
  have hRun := mRun_yes 1 [] awkL (by decide) (by decide) (by decide)
  have e : runS 1 [] awkL = ([[1, 7], [3, 11]], awkR) := by decide
  rw [e] at hRun
  have hS := rSame_ok 1 1 [[1, 7], [3, 11]] [[1, 7], [3, 11]]
  have e2 : (decide ((1 : Int) = 1) && decide (([[1, 7], [3, 11]] : Rws) = [[1, 7], [3, 11]])) = true := by decide
  rw [e2] at hS
  have hQ := sameResults_ok awkR awkR
  rw [decide_eq_true (rfl : awkR = awkR)] at hQ
  refine fn_ok T Try.func11 (by kernel_rfl) rfl rfl rfl rfl fun C hC => ?_
  repeat' first
    | refine g_go T hC true 400 rfl rfl ?_
    | (exfalso; simp at h; done)
    | refine g_cond rfl (fun h => ?_) (fun h => ?_)
    | refine g_end T hC (by kernel_rfl) ?_
    | refine g_splitD (fun h => ?_) (fun h => ?_)
    | refine g_splitG rfl rfl rfl (fun h => ?_) (fun h => ?_)
    | refine g_splitP rfl rfl (fun h => ?_) (fun h => ?_)
    | refine g_call hC (hN) rfl rfl (LeSs.refl _) rfl rfl rfl ?_
    | refine g_lit T hC rfl rfl rfl rfl rfl rfl rfl rfl rfl ?_
    | refine g_call hC (op_ok 1 [3, 10]) rfl rfl (LeSs.refl _) rfl rfl rfl ?_
    | refine g_call hC (op_ok 1 [1, 7]) rfl rfl (LeSs.refl _) rfl rfl rfl ?_
    | refine g_call hC (op_ok 1 [3, 11]) rfl rfl (LeSs.refl _) rfl rfl rfl ?_
    | refine g_call hC (op_ok 7 [1]) rfl rfl (LeSs.refl _) rfl rfl rfl ?_
    | refine g_call hC (op_ok 6 [3]) rfl rfl (LeSs.refl _) rfl rfl rfl ?_
    | refine g_call hC (op_ok 4 [2]) rfl rfl (LeSs.refl _) rfl rfl rfl ?_
    | refine g_call hC (op_ok 4 [0]) rfl rfl (LeSs.refl _) rfl rfl rfl ?_
    | refine g_call hC (hRun) rfl rfl (LeSs.refl _) rfl rfl rfl ?_
    | refine g_call hC (hS) rfl rfl (LeSs.refl _) rfl rfl rfl ?_
    | refine g_call hC (hQ) rfl rfl (LeSs.refl _) rfl rfl rfl ?_
  all_goals exact g_fin ⟨.inl rfl, id, _, rfl, by first | exact .refl _ | exact LeS.qb rfl, trivial, rfl, rfl⟩
theorem ask_ok (k : Int) (R : Rws) (c : Int) (l : List Int) (x : RsT) (hv : validS k R = true) (ho : okOp k ⟨c, l⟩ = true) (he : stepS k R ⟨c, l⟩ = (R, x)) :
    FnOK Try.prog 16 [aggS (stR k R), I c, pS (intsP l)] [] (.tup [aggS (rsR x), .bq true]) [] := by
  have hA := mApply_yes k R ⟨c, l⟩ hv ho
  rw [he] at hA
  have hS := mSame_ok k k R R
  rw [show (decide (k = k) && decide (R = R)) = true by simp] at hS
  have hO := op_ok c l
  refine fn_ok T Try.func16 (by kernel_rfl) rfl rfl rfl rfl fun C hC => ?_
  repeat' first
    | refine g_go T hC true 400 rfl rfl ?_
    | (exfalso; simp at h; done)
    | refine g_cond rfl (fun h => ?_) (fun h => ?_)
    | refine g_end T hC (by kernel_rfl) ?_
    | refine g_splitD (fun h => ?_) (fun h => ?_)
    | refine g_splitG rfl rfl rfl (fun h => ?_) (fun h => ?_)
    | refine g_splitP rfl rfl (fun h => ?_) (fun h => ?_)
    | refine g_call hC (hO) rfl rfl (LeSs.refl _) rfl rfl rfl ?_
    | refine g_call hC (hA) rfl rfl (LeSs.refl _) rfl rfl rfl ?_
    | refine g_call hC (hS) rfl rfl (LeSs.refl _) rfl rfl rfl ?_
  all_goals exact g_fin ⟨.inl rfl, id, _, rfl, by first | exact .refl _ | exact LeS.tup (.cons (.refl _) (.cons (LeS.qb rfl) .nil)), trivial, rfl, rfl⟩
end Hw.Mo
namespace Hw.Mo
open Go Go.Proofs Go.Shelf Hw.M

/-! models: the law of heaps -/
abbrev I16 := {n : Int // -32768 ≤ n ∧ n ≤ 32767}
def i16R (x : I16) : List PV := [.k (.int .i16 x.1)]
def rowsS (l : List Int) : Rws := l.map fun x => [x]
theorem rowsS_len (l : List Int) : (rowsS l).length = l.length := List.length_map _
theorem rowsS_at {l : List Int} {i : Nat} {x : Int} (h : l[i]? = some x) : (rowsS l)[i]? = some [x] := by rw [rowsS, List.getElem?_map, h]; rfl
theorem map_rowsS (l : List Int) : (rowsS l).map (fun r => at0 r 0) = l := by
  unfold rowsS; rw [List.map_map]; conv => rhs; rw [← List.map_id l]
  rfl
theorem rows_rowsS {p : Rw → Rw → Bool} : ∀ {R : Rws}, TabOk 1 p R → R = rowsS (R.map fun r => at0 r 0)
  | [], _ => rfl
  | r :: R, h => by
    obtain ⟨x, rfl⟩ := len1 (h.wide r (List.mem_cons_self ..))
    have := rows_rowsS (R := R) ⟨fun r hr => h.wide r (List.mem_cons_of_mem _ hr), fun r hr => h.nums r (List.mem_cons_of_mem _ hr), (List.pairwise_cons.1 h.asc).2⟩
    simp only [rowsS, List.map_cons, List.map_map] at this ⊢
    rw [← this]; rfl
theorem heap_asc {R : Rws} (h : TabOk 1 (fun a b => !ltC 1 b a) R) : (R.map fun r => at0 r 0).Pairwise (· ≤ ·) := by
  rw [List.pairwise_map]
  refine h.asc.imp_of_mem fun {a b} ha hb hp => ?_
  have na : a ≠ [] := fun e => by have := h.wide a ha; rw [e] at this; simp at this
  have nb : b ≠ [] := fun e => by have := h.wide b hb; rw [e] at this; simp at this
  simp only [ltC_one nb na, Bool.not_eq_true', decide_eq_false_iff_not] at hp
  omega
theorem heap_rows {R : Rws} (h : TabOk 1 (fun a b => !ltC 1 b a) R) {l : List Int} (hp : (R.map fun r => at0 r 0).Perm l) : R = rowsS (sortI l) := by
  rw [rows_rowsS h]
  congr 1
  exact asc_uniq (hp.trans (sortI_perm l).symm) (heap_asc h) (sortI_asc l)
theorem heap_mk {l : List Int} (hl : l.length ≤ 500) (hn : ∀ x ∈ l, numB x = true) (ha : l.Pairwise (· ≤ ·)) : validS 2 (rowsS l) = true := by
  refine mk2 (by rw [rowsS_len]; exact hl) ⟨fun r hr => ?_, fun r hr => ?_, ?_⟩
  · obtain ⟨x, _, rfl⟩ := List.mem_map.1 hr; rfl
  · obtain ⟨x, hx, rfl⟩ := List.mem_map.1 hr
    intro y hy
    have : y = x := by simpa using hy
    rw [this]; exact hn x hx
  · rw [rowsS, List.pairwise_map]
    refine ha.imp fun {a b} hab => ?_
    simp only [ltC_one (a := [b]) (b := [a]) (by simp) (by simp), Bool.not_eq_true', decide_eq_false_iff_not, at0]
    simp; omega
theorem heap_ins {l : List Int} {a : Int} (hl : l.length < 500) (hn : ∀ x ∈ l, numB x = true) (ha : numB a = true) : stepS 2 (rowsS (sortI l)) ⟨1, [a]⟩ = (rowsS (sortI (l ++ [a])), okR 0) := by
  have hsl : (rowsS (sortI l)).length = l.length := by rw [rowsS_len, sortI_len]
  have hv := heap_mk (l := sortI l) (by rw [sortI_len]; omega) (fun x hx => hn x ((sortI_perm l).mem_iff.1 hx)) (sortI_asc l)
  have ho : okOp 2 ⟨1, [a]⟩ = true := by
    simp only [okOp, wordsL]; simp [ha]
  have hv2 := step_valid hv ho
  have e : stepS 2 (rowsS (sortI l)) ⟨1, [a]⟩ = (insR (rowsS (sortI l)) (posC 1 (rowsS (sortI l)) [a]) [a], okR 0) := by
    have e1 : stepS 2 (rowsS (sortI l)) ⟨1, [a]⟩ = heapS (rowsS (sortI l)) ⟨1, [a]⟩ := by simp only [stepS]; rfl
    rw [e1]
    simp only [heapS]
    rw [if_neg (by decide), if_pos trivial, if_neg (by omega)]
  rw [e] at hv2 ⊢
  have hT : TabOk 1 (fun a b => !ltC 1 b a) (insR (rowsS (sortI l)) (posC 1 (rowsS (sortI l)) [a]) [a]) := (valid2 hv2).2
  have hfin := heap_rows hT (l := l ++ [a]) ?_
  · rw [← hfin]
  simp only [insR, List.map_append, List.map_cons]
  refine List.perm_middle.trans ?_
  rw [← List.map_append, List.take_append_drop, map_rowsS]
  exact ((sortI_perm l).cons _).trans (List.perm_append_singleton _ _).symm
theorem heap_min {l : List Int} {j : Nat} {x : Int} (hj : l[j]? = some x) (c : Int) (hc : c = 2 ∨ c = 3) : stepS 2 (rowsS (l.drop j)) ⟨c, []⟩ = (if c = 3 then rowsS (l.drop (j + 1)) else rowsS (l.drop j), okR x) := by
  have hd := dropI hj
  have hl : (rowsS (l.drop j)).length = (l.drop (j + 1)).length + 1 := by rw [rowsS_len, hd, List.length_cons]
  show heapS _ _ = _
  simp only [heapS]
  rw [if_neg (by omega), if_neg (by omega), if_neg (by omega)]
  have h0 : rowA (rowsS (l.drop j)) 0 = [x] := by rw [hd]; rfl
  rw [h0]
  have he : (rowsS (l.drop j)).eraseIdx 0 = rowsS (l.drop (j + 1)) := by rw [hd]; rfl
  rw [he]; rfl
theorem modelHeap_ok (l : List I16) : FnOK Try.prog 4 [pS (.sl 1 (l.map i16R))] [] (.bq true) [] := by
  have hrl : (l.map i16R).length = l.length := List.length_map _
  by_cases h40 : 40 < l.length
  · refine fn_ok T Try.func4 (by kernel_rfl) rfl rfl rfl rfl fun C hC => ?_
    repeat' first
      | refine g_go T hC true 400 rfl rfl ?_
      | (exfalso; simp at h; done)
      | (exfalso; first | (simp only [decide_eq_true_eq, decide_eq_false_iff_not, List.length_map, Bool.not_eq_true', Bool.not_eq_false'] at *; omega) | (simp at h; done))
      | refine g_cond rfl (fun h => ?_) (fun h => ?_)
      | refine g_end T hC (by kernel_rfl) ?_
      | refine g_splitD (fun h => ?_) (fun h => ?_)
      | refine g_splitG rfl rfl rfl (fun h => ?_) (fun h => ?_)
      | refine g_splitP rfl rfl (fun h => ?_) (fun h => ?_)
      | refine g_call hC (awake_ok) rfl rfl (LeSs.refl _) rfl rfl rfl ?_
    all_goals exact g_fin ⟨.inl rfl, id, _, rfl, .refl _, trivial, rfl, rfl⟩
  generalize hw : l.map (fun x : I16 => x.1) = w
  have hwl : w.length = l.length := by rw [← hw, List.length_map]
  have hwn : ∀ x ∈ w, numB x = true := fun x hx => by
    rw [← hw] at hx
    obtain ⟨y, _, rfl⟩ := List.mem_map.1 hx
    have := y.2
    rw [numB_iff]; omega
  have hN := new_ok (k := 2) (by decide)
  refine fn_ok T Try.func4 (by kernel_rfl) rfl rfl rfl rfl fun C hC => ?_
  repeat' first
    | refine g_go T hC true 400 rfl rfl ?_
    | (exfalso; simp at h; done)
    | (exfalso; first | (simp only [decide_eq_true_eq, decide_eq_false_iff_not, List.length_map, Bool.not_eq_true', Bool.not_eq_false'] at *; omega) | (simp at h; done))
    | refine g_cond rfl (fun h => ?_) (fun h => ?_)
    | refine g_end T hC (by kernel_rfl) ?_
    | refine g_splitD (fun h => ?_) (fun h => ?_)
    | refine g_splitG rfl rfl rfl (fun h => ?_) (fun h => ?_)
    | refine g_splitP rfl rfl (fun h => ?_) (fun h => ?_)
    | refine g_call hC (awake_ok) rfl rfl (LeSs.refl _) rfl rfl rfl ?_
    | refine g_call hC (hN) rfl rfl (LeSs.refl _) rfl rfl rfl ?_
  refine g_adopt hC rfl 103 1 rfl [(5, .one (.ar 103))] ⟨⟨_, rfl, AdS.nil⟩, trivial⟩ [] trivial ?_
  rw [hrl]
  refine g_loop (fun i : Nat => i ≤ l.length) (fun i => ([(3, .one (.bx 1003 0)), (5, .one (.ar 103)), (34, pS (.sl 1 (l.map i16R))), (35, I l.length), (36, I i)], [(103, some (.arr 1 ((w.take i).map intR))), (1003, some (.box [.p (ki 2), .p (rowsP (rowsS (sortI (w.take i))))]))])) (fun i => l.length - i) hC
    0 (Nat.zero_le _) id ⟨rfl, ⟨rfl, rfl, rfl, rfl, rfl, trivial⟩, ⟨rfl, by rw [show rowsS (sortI (w.take 0)) = [] by simp [sortI, rowsS]]; rfl, trivial⟩, rfl, fun _ _ => rfl⟩ ?_
  intro i hi
  refine g_run' T hC true 200 rfl ?_
  refine g_cond rfl (fun h => ?_) (fun h => ?_)
  · have hlt : i < l.length := by simpa using h
    clear h
    obtain ⟨x, hx⟩ := exists_at hlt
    have hxw : w[i]? = some x.1 := by rw [← hw, List.getElem?_map, hx]; rfl
    have hsn := take_snoc hxw
    have hxn := hwn x.1 (List.mem_of_getElem? hxw)
    have htl : (w.take i).length = i := by rw [List.length_take]; omega
    have hst := heap_ins (l := w.take i) (a := x.1) (by omega) (fun y hy => hwn y (List.mem_of_mem_take hy)) hxn
    have hA := mApply_yes 2 (rowsS (sortI (w.take i))) ⟨1, [x.1]⟩ (heap_mk (by rw [sortI_len]; omega) (fun y hy => hwn y (List.mem_of_mem_take ((sortI_perm _).mem_iff.1 hy))) (sortI_asc _)) (by simp only [okOp, wordsL]; simp [hxn])
    rw [hst, ← hsn] at hA
    have hml : ((w.take i).map intR).length = i := by rw [List.length_map, htl]
    have hwx := x.2
    have hwr : IntKind.i64.wrap x.1 = x.1 := wrap64 (by omega)
    repeat' first
      | refine g_go T hC true 400 rfl rfl ?_
      | (exfalso; simp at h; done)
      | (exfalso; first | (simp only [decide_eq_true_eq, decide_eq_false_iff_not, List.length_map, Bool.not_eq_true', Bool.not_eq_false'] at *; omega) | (simp at h; done))
      | refine g_cond rfl (fun h => ?_) (fun h => ?_)
      | refine g_end T hC (by kernel_rfl) ?_
      | refine g_splitD (fun h => ?_) (fun h => ?_)
      | refine g_splitG rfl rfl rfl (fun h => ?_) (fun h => ?_)
      | refine g_splitP rfl rfl (fun h => ?_) (fun h => ?_)
      | refine g_idx T hC rfl rfl rfl (Int.natCast_nonneg _) (map_at hx) rfl rfl ?_
      | refine g_lit T hC rfl rfl rfl rfl rfl rfl rfl rfl rfl ?_
      | (rw [hwr]; refine g_call hC (op_ok 1 [x.1]) rfl rfl (LeSs.refl _) rfl rfl rfl ?_)
      | refine g_call hC (hA) rfl rfl (LeSs.refl _) rfl rfl rfl ?_
      | (rw [hwr]; refine g_append T 106 hC (id := 103) (rows := (w.take i).map intR) (rows2 := [intR x.1]) (rows3 := (w.take (i + 1)).map intR) (bytes := 8) rfl rfl rfl rfl (SrcS.sl (T.es_ok _ _ rfl)) (by rw [hsn, List.map_append]; rfl) rfl rfl rfl (by kernel_rfl) (by rw [hml, List.length_singleton]; omega) (by rw [hml, List.length_singleton]; omega) rfl rfl rfl ?_)
    rw [wrapS (by omega)]
    exact g_round (i + 1) (by omega) (mvU 103 106) (by omega) ⟨rfl, ⟨rfl, rfl, rfl, rfl, rfl, trivial⟩, ⟨rfl, rfl, trivial⟩, rfl, fun i hi => mvU_low (by omega) hi⟩
  · have hge : ¬ i < l.length := by simpa using h
    have e : w.take i = w := List.take_of_length_le (by omega)
    rw [e]
    clear h
    have hS := sort_ok w (by omega)
    have hSl := sortI_len w
    have hSn : ∀ x ∈ sortI w, numB x = true := fun x hx => hwn x ((sortI_perm w).mem_iff.1 hx)
    have hSa := sortI_asc w
    generalize sortI w = S at *
    have hSml : (S.map intR).length = S.length := List.length_map _
    repeat' first
      | refine g_go T hC true 400 rfl rfl ?_
      | refine g_cond rfl (fun h => ?_) (fun h => ?_)
      | refine g_end T hC (by kernel_rfl) ?_
      | refine g_splitD (fun h => ?_) (fun h => ?_)
      | refine g_splitG rfl rfl rfl (fun h => ?_) (fun h => ?_)
      | refine g_splitP rfl rfl (fun h => ?_) (fun h => ?_)
      | refine g_outE ?_
      | refine g_callR hC (hS) (nm [103]) rfl rfl (LeSs.refl _) rfl rfl rfl rfl rfl rfl rfl rfl ?_
    refine g_freeze rfl (id := 103) (e := 1) (rows := S.map intR) rfl [(61, pS (intsP S))] ⟨⟨_, rfl, FrS.ar⟩, trivial⟩ [] trivial ?_
    rw [hSml]
    have hval : ∀ j, validS 2 (rowsS (S.drop j)) = true := fun j => heap_mk (by rw [List.length_drop]; omega) (fun x hx => hSn x (List.mem_of_mem_drop hx)) (hSa.sublist (List.drop_sublist _ _))
    refine g_loop (fun j : Nat => j ≤ S.length) (fun j => ([(3, .one (.bx 1003 0)), (61, pS (intsP S)), (62, I S.length), (63, I j)], [(1003, some (.box [.p (ki 2), .p (rowsP (rowsS (S.drop j)))]))])) (fun j => S.length - j) hC
      0 (Nat.zero_le _) id ⟨rfl, ⟨rfl, rfl, rfl, rfl, trivial⟩, ⟨rfl, trivial⟩, rfl, fun _ _ => rfl⟩ ?_
    intro j hj
    refine g_run' T hC true 200 rfl ?_
    refine g_cond rfl (fun h => ?_) (fun h => ?_)
    · have hlt : j < S.length := by simpa using h
      clear h
      obtain ⟨x, hx⟩ := exists_at hlt
      have hK := ask_ok 2 (rowsS (S.drop j)) 2 [] (okR x) (hval j) (by decide) (heap_min hx 2 (.inl rfl))
      have hD := mApply_yes 2 (rowsS (S.drop j)) ⟨3, []⟩ (hval j) (by decide)
      rw [heap_min hx 3 (.inr rfl)] at hD
      have hQ := sameRes_ok (okR x) (okR x)
      rw [decide_eq_true (rfl : okR x = okR x)] at hQ
      repeat' first
        | refine g_go T hC true 400 rfl rfl ?_
        | (exfalso; simp at h; done)
        | refine g_cond rfl (fun h => ?_) (fun h => ?_)
        | refine g_end T hC (by kernel_rfl) ?_
        | refine g_splitD (fun h => ?_) (fun h => ?_)
        | refine g_splitG rfl rfl rfl (fun h => ?_) (fun h => ?_)
        | refine g_splitP rfl rfl (fun h => ?_) (fun h => ?_)
        | refine g_idx T hC rfl rfl rfl (Int.natCast_nonneg _) (map_at hx) rfl rfl ?_
        | (refine g_call hC hK rfl rfl (LeSs.cons (.refl _) (LeSs.cons (.refl _) (LeSs.cons (LeS.one (.nil 1)) .nil))) rfl rfl rfl ?_)
        | (refine g_call hC (op_ok 3 []) rfl rfl (LeSs.cons (.refl _) (LeSs.cons (LeS.one (.nil 1)) .nil)) rfl rfl rfl ?_)
        | refine g_call hC (hD) rfl rfl (LeSs.refl _) rfl rfl rfl ?_
        | refine g_call hC (hQ) rfl rfl (LeSs.refl _) rfl rfl rfl ?_
      rw [wrapS (by omega)]
      exact g_round (j + 1) (by omega) id (by omega) ⟨rfl, ⟨rfl, rfl, rfl, rfl, trivial⟩, ⟨rfl, trivial⟩, rfl, fun _ _ => rfl⟩
    · have hge : ¬ j < S.length := by simpa using h
      have e : S.drop j = [] := List.drop_of_length_le (by omega)
      rw [e]
      have hK := ask_ok 2 (rowsS []) 2 [] (erR 14) (by decide) (by decide) (by decide)
      have hQ := sameRes_ok (erR 14) (erR 14)
      rw [decide_eq_true (rfl : erR 14 = erR 14)] at hQ
      repeat' first
        | refine g_go T hC true 400 rfl rfl ?_
        | (exfalso; simp at h; done)
        | refine g_cond rfl (fun h => ?_) (fun h => ?_)
        | refine g_end T hC (by kernel_rfl) ?_
        | refine g_splitD (fun h => ?_) (fun h => ?_)
        | refine g_splitG rfl rfl rfl (fun h => ?_) (fun h => ?_)
        | refine g_splitP rfl rfl (fun h => ?_) (fun h => ?_)
        | refine g_outE ?_
        | (refine g_call hC hK rfl rfl (LeSs.cons (.refl _) (LeSs.cons (.refl _) (LeSs.cons (LeS.one (.nil 1)) .nil))) rfl rfl rfl ?_)
        | refine g_call hC (hQ) rfl rfl (LeSs.refl _) rfl rfl rfl ?_
      all_goals exact g_fin ⟨.inl rfl, id, _, rfl, by first | exact .refl _ | exact LeS.qb rfl, trivial, rfl, rfl⟩
end Hw.Mo
namespace Hw.Mo
open Go Go.Proofs Go.Shelf Hw.M

/-! models: the law of texts -/
abbrev U8 := {n : Int // 0 ≤ n ∧ n ≤ 255}
def u8R (x : U8) : List PV := [.k (.int .u8 x.1)]
def u8I (n : Int) : List PV := [.k (.int .u8 n)]
theorem u8_map (l : List U8) : l.map u8R = (l.map fun x => x.1).map u8I := by rw [List.map_map]; rfl
theorem eq8_ok (a b : List Int) : FnOK Try.prog 24 [pS (.sl 1 (a.map u8I)), pS (.sl 1 (b.map u8I))] [] (.bq (decide (a = b))) [] := by
  refine fn_ok T Try.func24 (by kernel_rfl) rfl rfl rfl rfl fun C hC => ?_
  refine g_len 0 rfl fun hlen => ?_
  rw [List.length_map] at hlen
  repeat' first
    | refine g_go T hC true 400 rfl rfl ?_
    | refine g_cond rfl (fun h => ?_) (fun h => ?_)
    | refine g_end T hC (by kernel_rfl) ?_
    | refine g_splitD (fun h => ?_) (fun h => ?_)
    | refine g_splitG rfl rfl rfl (fun h => ?_) (fun h => ?_)
    | refine g_splitP rfl rfl (fun h => ?_) (fun h => ?_)
    | refine g_retl T (.inl rfl) rfl ?_
  all_goals (try simp only [List.length_map] at *)
  · have : ¬ (a.length : Int) = (b.length : Int) := by simpa using h
    exact (decide_eq_false fun e => this (by rw [e])).symm
  · have hab : a.length = b.length := by have : (a.length : Int) = (b.length : Int) := by simpa using h
                                         omega
    refine g_loop (fun i : Nat => i ≤ a.length ∧ a.take i = b.take i) (fun i => ([(0, pS (.sl 1 (a.map u8I))), (1, pS (.sl 1 (b.map u8I))), (12, I a.length), (13, I i)], [])) (fun i => a.length - i) hC
      0 ⟨Nat.zero_le _, by simp⟩ id ⟨rfl, ⟨rfl, rfl, rfl, rfl, trivial⟩, trivial, rfl, fun _ _ => rfl⟩ ?_
    rintro i ⟨hi, hn⟩
    refine g_run' T hC true 200 rfl ?_
    refine g_cond rfl (fun h => ?_) (fun h => ?_)
    · have hlt : i < a.length := by simpa using h
      clear h
      obtain ⟨x, hx⟩ := exists_at hlt
      obtain ⟨y, hy⟩ := exists_at (hab ▸ hlt)
      repeat' first
        | refine g_go T hC true 400 rfl rfl ?_
        | refine g_cond rfl (fun h => ?_) (fun h => ?_)
        | refine g_end T hC (by kernel_rfl) ?_
        | refine g_splitD (fun h => ?_) (fun h => ?_)
        | refine g_splitG rfl rfl rfl (fun h => ?_) (fun h => ?_)
        | refine g_splitP rfl rfl (fun h => ?_) (fun h => ?_)
        | refine g_idx T hC rfl rfl rfl (Int.natCast_nonneg _) (map_at hx) rfl rfl ?_
        | refine g_idx T hC rfl rfl rfl (Int.natCast_nonneg _) (map_at hy) rfl rfl ?_
        | refine g_outR ?_
        | refine g_retl T (.inl rfl) rfl ?_
      · have hxy : x ≠ y := by simpa using h
        exact (decide_eq_false fun e => hxy (by subst e; rw [hx] at hy; exact Option.some.inj hy)).symm
      · have hxy : x = y := by simpa using h
        subst hxy
        rw [wrapS (by omega)]
        exact g_round (i + 1) ⟨by omega, take_eqT hx hy hn⟩ id (by omega) ⟨rfl, ⟨rfl, rfl, rfl, rfl, trivial⟩, trivial, rfl, fun _ _ => rfl⟩
    · have hge : ¬ i < a.length := by simpa using h
      repeat' first
        | refine g_go T hC true 400 rfl rfl ?_
        | refine g_cond rfl (fun h => ?_) (fun h => ?_)
        | refine g_end T hC (by kernel_rfl) ?_
        | refine g_splitD (fun h => ?_) (fun h => ?_)
        | refine g_splitG rfl rfl rfl (fun h => ?_) (fun h => ?_)
        | refine g_splitP rfl rfl (fun h => ?_) (fun h => ?_)
        | refine g_outE ?_
        | refine g_retl T (.inl rfl) rfl ?_
      rw [List.take_of_length_le (by omega), List.take_of_length_le (by omega)] at hn
      exact (decide_eq_true hn).symm
theorem numbers_ok (b : List Int) (hb : ∀ x ∈ b, 0 ≤ x ∧ x ≤ 255) (hl : b.length ≤ 1000) : FnOK Try.prog 23 [pS (.sl 1 (b.map u8I))] [] (pS (intsP b)) [] := by
  have hbl : (b.map u8I).length = b.length := List.length_map _
  refine fn_ok T Try.func23 (by kernel_rfl) rfl rfl rfl rfl fun C hC => ?_
  repeat' first
    | refine g_go T hC true 400 rfl rfl ?_
    | refine g_cond rfl (fun h => ?_) (fun h => ?_)
    | refine g_end T hC (by kernel_rfl) ?_
    | refine g_splitD (fun h => ?_) (fun h => ?_)
    | refine g_splitG rfl rfl rfl (fun h => ?_) (fun h => ?_)
    | refine g_splitP rfl rfl (fun h => ?_) (fun h => ?_)
  refine g_adopt hC rfl 103 1 rfl [(3, .one (.ar 103))] ⟨⟨_, rfl, AdS.nil⟩, trivial⟩ [] trivial ?_
  rw [hbl]
  refine g_loop (fun i : Nat => i ≤ b.length) (fun i => ([(3, .one (.ar 103)), (6, pS (.sl 1 (b.map u8I))), (7, I b.length), (8, I i)], [(103, some (.arr 1 ((b.take i).map intR)))])) (fun i => b.length - i) hC
    0 (Nat.zero_le _) id ⟨rfl, ⟨rfl, rfl, rfl, rfl, trivial⟩, ⟨rfl, trivial⟩, rfl, fun _ _ => rfl⟩ ?_
  intro i hi
  refine g_run' T hC true 200 rfl ?_
  refine g_cond rfl (fun h => ?_) (fun h => ?_)
  · have hlt : i < b.length := by simpa using h
    clear h
    obtain ⟨x, hx⟩ := exists_at hlt
    have hxr := hb x (List.mem_of_getElem? hx)
    have hsn := take_snoc hx
    have hwr : IntKind.i64.wrap x = x := wrap64 (by omega)
    have hml : ((b.take i).map intR).length = i := by rw [List.length_map, List.length_take]; omega
    repeat' first
      | refine g_go T hC true 400 rfl rfl ?_
      | refine g_cond rfl (fun h => ?_) (fun h => ?_)
      | refine g_end T hC (by kernel_rfl) ?_
      | refine g_splitD (fun h => ?_) (fun h => ?_)
      | refine g_splitG rfl rfl rfl (fun h => ?_) (fun h => ?_)
      | refine g_splitP rfl rfl (fun h => ?_) (fun h => ?_)
      | refine g_idx T hC rfl rfl rfl (Int.natCast_nonneg _) (map_at hx) rfl rfl ?_
      | refine g_lit T hC rfl rfl rfl rfl rfl rfl rfl rfl rfl ?_
      | (rw [hwr]; refine g_append T 106 hC (id := 103) (rows := (b.take i).map intR) (rows2 := [intR x]) (rows3 := (b.take (i + 1)).map intR) (bytes := 8) rfl rfl rfl rfl (SrcS.sl (T.es_ok _ _ rfl)) (by rw [hsn, List.map_append]; rfl) rfl rfl rfl (by kernel_rfl) (by rw [hml, List.length_singleton]; omega) (by rw [hml, List.length_singleton]; omega) rfl rfl rfl ?_)
    rw [wrapS (by omega)]
    exact g_round (i + 1) (by omega) (mvU 103 106) (by omega) ⟨rfl, ⟨rfl, rfl, rfl, rfl, trivial⟩, ⟨rfl, trivial⟩, rfl, fun i hi => mvU_low (by omega) hi⟩
  · have hge : ¬ i < b.length := by simpa using h
    have e : b.take i = b := List.take_of_length_le (by omega)
    rw [e]
    repeat' first
      | refine g_go T hC true 400 rfl rfl ?_
      | refine g_cond rfl (fun h => ?_) (fun h => ?_)
      | refine g_end T hC (by kernel_rfl) ?_
      | refine g_splitD (fun h => ?_) (fun h => ?_)
      | refine g_splitG rfl rfl rfl (fun h => ?_) (fun h => ?_)
      | refine g_splitP rfl rfl (fun h => ?_) (fun h => ?_)
      | refine g_outE ?_
    refine g_freeze rfl (id := 103) (e := 1) (rows := b.map intR) rfl [(2, pS (intsP b))] ⟨⟨_, rfl, FrS.ar⟩, trivial⟩ [] trivial ?_
    exact g_fin ⟨.inl rfl, id, _, rfl, .refl _, trivial, rfl, rfl⟩
theorem text_op {c : Int} {p : List Int} (hc : c = 1 ∨ c = 2 ∨ c = 3) (h1 : 1 ≤ p.length) (h2 : p.length ≤ 64) (h3 : ∀ x ∈ p, 0 ≤ x ∧ x ≤ 255) : okOp 6 ⟨c, p⟩ = true := by
  have ha : p.all chrB = true := List.all_eq_true.2 fun x hx => chrB_iff.2 (h3 x hx)
  rcases hc with rfl | rfl | rfl <;> simp [okOp, wordsL, ha, h1, h2]
theorem text_app0 {p : List Int} (h : p.length ≤ 500) : stepS 6 [] ⟨1, p⟩ = ([p], okR 0) := by
  have e : stepS 6 [] ⟨1, p⟩ = textS [] ⟨1, p⟩ := by simp only [stepS]; rfl
  rw [e]
  simp only [textS]; rw [if_neg (by decide), if_pos trivial, if_neg (by simp [rowA]; omega)]; rfl
theorem text_app1 {r p : List Int} (h : r.length + p.length ≤ 500) : stepS 6 [r] ⟨1, p⟩ = ([r ++ p], okR 0) := by
  have e : stepS 6 [r] ⟨1, p⟩ = textS [r] ⟨1, p⟩ := by simp only [stepS]; rfl
  rw [e]
  simp only [textS]; rw [if_neg (by decide), if_pos trivial, show rowA [r] 0 = r from rfl, if_neg (by omega)]
theorem text_cnt (r p : List Int) : stepS 6 [r] ⟨2, p⟩ = ([r], okR (occs r p).length) := by
  have e : stepS 6 [r] ⟨2, p⟩ = textS [r] ⟨2, p⟩ := by simp only [stepS]; rfl
  rw [e]; rfl
theorem text_size (r : List Int) : stepS 6 [r] ⟨4, []⟩ = ([r], okR r.length) := by
  have e : stepS 6 [r] ⟨4, []⟩ = textS [r] ⟨4, []⟩ := by simp only [stepS]; rfl
  rw [e]; rfl
theorem text_fnd (r p : List Int) : stepS 6 [r] ⟨3, p⟩ = ([r], if occs r p = [] then erR 12 else okR (hdI (occs r p))) := by
  have e : stepS 6 [r] ⟨3, p⟩ = textS [r] ⟨3, p⟩ := by simp only [stepS]; rfl
  rw [e]
  have e0 : textS [r] ⟨3, p⟩ = match (occs r p).head? with | some i => ([r], okR i) | none => ([r], erR 12) := rfl
  rw [e0]
  cases hh : occs r p with
  | nil => rfl
  | cons a l => rfl
theorem mText_p (w p : List Int) (c : Int) (k : Nat) (hc : 0 ≤ c ∧ c ≤ 255) (hkc : c % (w.length : Int) = k) (hkl : k < w.length) (hk : 0 < k) (hw : 1 ≤ w.length ∧ w.length ≤ 40) (hp : 1 ≤ p.length ∧ p.length ≤ 10) (hwc : ∀ x ∈ w, 0 ≤ x ∧ x ≤ 255) (hpc : ∀ x ∈ p, 0 ≤ x ∧ x ≤ 255) :
    FnOK Try.prog 8 [pS (.sl 1 (w.map u8I)), .one (.p (.k (.int .u8 c))), pS (.sl 1 (p.map u8I))] [] (.bq true) [] := by
  have hwl : (w.map u8I).length = w.length := List.length_map _
  have hpl : (p.map u8I).length = p.length := List.length_map _
  have hN := new_ok (k := 6) (by decide)
  have hF1 := numbers_ok w hwc (by omega)
  have hF3 := numbers_ok (w.drop k) (fun x hx => hwc x (List.mem_of_mem_drop hx)) (by rw [List.length_drop]; omega)
  have hF4 := numbers_ok p hpc (by omega)
  have hA1 := mApply_yes 6 [] ⟨1, w⟩ (by decide) (text_op (.inl rfl) hw.1 (by omega) hwc)
  rw [text_app0 (by omega)] at hA1
  have hvw : validS 6 [w] = true := mk6 hw.1 (by omega) fun x hx => chrB_iff.2 (hwc x hx)
  have hdc : ∀ x ∈ w.drop k, 0 ≤ x ∧ x ≤ 255 := fun x hx => hwc x (List.mem_of_mem_drop hx)
  have hdl : (w.drop k).length = w.length - k := List.length_drop
  have htc : ∀ x ∈ w.take k, 0 ≤ x ∧ x ≤ 255 := fun x hx => hwc x (List.mem_of_mem_take hx)
  have htl : (w.take k).length = k := by rw [List.length_take]; omega
  have hF2 := numbers_ok (w.take k) htc (by omega)
  have hA2 := mApply_yes 6 [] ⟨1, w.take k⟩ (by decide) (text_op (.inl rfl) (by omega) (by omega) htc)
  rw [text_app0 (by omega)] at hA2
  have hA3 := mApply_yes 6 [w.take k] ⟨1, w.drop k⟩ (mk6 (by omega) (by omega) fun x hx => chrB_iff.2 (htc x hx)) (text_op (.inl rfl) (by omega) (by omega) hdc)
  rw [text_app1 (by omega), List.take_append_drop] at hA3
  have hS := mSame_ok 6 6 [w] [w]
  rw [show (decide ((6 : Int) = 6) && decide ([w] = [w])) = true by simp] at hS
  have hK2 := ask_ok 6 [w] 2 p _ hvw (text_op (.inr (.inl rfl)) hp.1 (by omega) hpc) (text_cnt w p)
  have hK3 := ask_ok 6 [w] 3 p _ hvw (text_op (.inr (.inr rfl)) hp.1 (by omega) hpc) (text_fnd w p)
  have hK4 := ask_ok 6 [w] 4 [] _ hvw (by decide) (text_size w)
  have wr : ∀ x y : Nat, x ≤ 1000 → y ≤ 1000 → IntKind.i64.wrap ((x : Int) + (y : Int)) = ((x + y : Nat) : Int) := fun x y _ _ => by rw [wrap64 (by omega)]; omega
  have hcw : IntKind.i64.wrap c = c := wrap64 (by omega)
  have hrem : c.tmod (w.length : Int) = (k : Int) := by rw [Int.tmod_eq_emod_of_nonneg hc.1, hkc]
  have hdm : (w.map u8I).drop k = (w.drop k).map u8I := List.map_drop.symm
  have htm : (w.map u8I).take k = (w.take k).map u8I := List.map_take.symm
  refine fn_ok T Try.func8 (by kernel_rfl) rfl rfl rfl rfl fun C hC => ?_
  repeat' first
    | refine g_go T hC true 400 rfl rfl ?_
    | (exfalso; simp at h; done)
    | (exfalso; first | (simp only [decide_eq_true_eq, decide_eq_false_iff_not, List.length_map, Bool.not_eq_true', Bool.not_eq_false'] at *; omega) | (simp at h; done))
    | refine g_cond rfl (fun h => ?_) (fun h => ?_)
    | refine g_end T hC (by kernel_rfl) ?_
    | refine g_splitD (fun h => ?_) (fun h => ?_)
    | refine g_splitG rfl rfl rfl (fun h => ?_) (fun h => ?_)
    | refine g_splitP rfl rfl (fun h => ?_) (fun h => ?_)
    | refine g_call hC (awake_ok) rfl rfl (LeSs.refl _) rfl rfl rfl ?_
    | refine g_call hC (hN) rfl rfl (LeSs.refl _) rfl rfl rfl ?_
    | refine g_call hC (hF1) rfl rfl (LeSs.refl _) rfl rfl rfl ?_
    | refine g_call hC (op_ok 1 _) rfl rfl (LeSs.refl _) rfl rfl rfl ?_
    | refine g_call hC (hA1) rfl rfl (LeSs.refl _) rfl rfl rfl ?_
    | (rw [hcw]; refine g_rem hC rfl rfl (by rw [hwl]; omega) rfl rfl ?_; simp only [hwl, hrem])
    | (refine g_partH T hC ((w.take k).map u8I) rfl rfl rfl (by omega) (by rw [hwl]; omega) (by rw [Int.toNat_natCast]; exact htm) rfl rfl ?_)
    | refine g_call hC (hF2) rfl rfl (LeSs.refl _) rfl rfl rfl ?_
    | refine g_call hC (hA2) rfl rfl (LeSs.refl _) rfl rfl rfl ?_
    | (refine g_partL T hC ((w.drop k).map u8I) rfl rfl rfl (by omega) (by rw [hwl]; omega) (by rw [Int.toNat_natCast]; exact hdm) rfl rfl ?_)
    | refine g_call hC (hF3) rfl rfl (LeSs.refl _) rfl rfl rfl ?_
    | refine g_call hC (hA3) rfl rfl (LeSs.refl _) rfl rfl rfl ?_
    | refine g_call hC (hS) rfl rfl (LeSs.refl _) rfl rfl rfl ?_
  refine g_loop (fun i : Nat => i ≤ w.length) (fun i => ([(0, pS (.sl 1 (w.map u8I))), (2, pS (.sl 1 (p.map u8I))), (7, .one (.cl 23 [] [])), (10, .one (.bx 1010 0)), (16, I ((occT w p i).length)), (17, I (hdI (occT w p i))), (18, I i)], [(1010, some (.box [.p (ki 6), .p (rowsP [w])]))])) (fun i => w.length - i) hC
    0 (Nat.zero_le _) id ⟨rfl, ⟨rfl, rfl, rfl, rfl, rfl, rfl, rfl, trivial⟩, ⟨rfl, trivial⟩, rfl, fun _ _ => rfl⟩ ?_
  intro i hi
  have wri : IntKind.i64.wrap ((i : Int) + ((p.map u8I).length : Int)) = ((i + p.length : Nat) : Int) := by rw [hpl]; exact wr _ _ (by omega) (by omega)
  refine g_run' T hC true 200 rfl ?_
  refine g_cond rfl (fun h => ?_) (fun h => ?_)
  · have hlt : i + p.length ≤ w.length := by rw [wri, hwl] at h; have := of_decide_eq_true h; omega
    clear h
    have hE := eq8_ok ((w.drop i).take p.length) p
    have hol : occL w p i = decide ((w.drop i).take p.length = p) := rfl
    have hcl := occT_len w p i
    have hpart : ((w.map u8I).take (i + p.length)).drop i = ((w.drop i).take p.length).map u8I := by rw [List.drop_take, Nat.add_sub_cancel_left, List.map_take, List.map_drop]
    repeat' first
      | refine g_go T hC true 400 rfl rfl ?_
      | refine g_cond rfl (fun h => ?_) (fun h => ?_)
      | refine g_end T hC (by kernel_rfl) ?_
      | refine g_splitD (fun h => ?_) (fun h => ?_)
      | refine g_splitG rfl rfl rfl (fun h => ?_) (fun h => ?_)
      | refine g_splitP rfl rfl (fun h => ?_) (fun h => ?_)
      | (rw [wri]; refine g_partLH T hC (((w.drop i).take p.length).map u8I) rfl rfl rfl rfl (Int.natCast_nonneg _) (by omega) (by rw [hwl]; omega) (by rw [Int.toNat_natCast, Int.toNat_natCast]; exact hpart) rfl rfl ?_)
      | refine g_call hC (hE) rfl rfl (LeSs.refl _) rfl rfl rfl ?_
    · have hb : occL w p i = true := hol.trans (by assumption)
      rw [wrapS (i := i) (by omega), wrapS (i := (occT w p i).length) (by omega)]
      refine g_round (i + 1) (by omega) id (by omega) ?_
      rw [occT_yes hb, hdI_snoc, if_pos (of_decide_eq_true h), List.length_append]
      exact ⟨rfl, ⟨rfl, rfl, rfl, rfl, rfl, rfl, rfl, trivial⟩, ⟨rfl, trivial⟩, rfl, fun _ _ => rfl⟩
    · have hb : occL w p i = true := hol.trans (by assumption)
      rw [wrapS (i := i) (by omega), wrapS (i := (occT w p i).length) (by omega)]
      refine g_round (i + 1) (by omega) id (by omega) ?_
      rw [occT_yes hb, hdI_snoc, if_neg (of_decide_eq_false h), List.length_append]
      exact ⟨rfl, ⟨rfl, rfl, rfl, rfl, rfl, rfl, rfl, trivial⟩, ⟨rfl, trivial⟩, rfl, fun _ _ => rfl⟩
    · have hb : occL w p i = false := hol.trans (by assumption)
      rw [wrapS (i := i) (by omega)]
      refine g_round (i + 1) (by omega) id (by omega) ?_
      rw [occT_no hb]
      exact ⟨rfl, ⟨rfl, rfl, rfl, rfl, rfl, rfl, rfl, trivial⟩, ⟨rfl, trivial⟩, rfl, fun _ _ => rfl⟩
  · have hge : w.length < i + p.length := by rw [wri, hwl] at h; have := of_decide_eq_false h; omega
    rw [occT_all hp.1 hi hge]
    have hQ2 := sameRes_ok (okR ((occs w p).length : Nat)) (okR ((occs w p).length : Nat))
    rw [decide_eq_true rfl] at hQ2
    have hQ4 := sameRes_ok (okR (w.length : Nat)) (okR (w.length : Nat))
    rw [decide_eq_true rfl] at hQ4
    have hQ4' : FnOK Try.prog 17 [aggS (rsR (okR (w.length : Nat))), aggS (rsR (okR ((w.map u8I).length : Nat)))] [] (.bq true) [] := by rw [hwl]; exact hQ4
    clear h hge
    by_cases ho : occs w p = []
    · have hneg : hdI (occs w p) < 0 := hdI_nonneg.2 ho
      rw [if_pos ho] at hK3
      have hQ3 := sameRes_ok (erR 12) (erR 12)
      rw [decide_eq_true rfl] at hQ3
      repeat' first
        | refine g_go T hC true 400 rfl rfl ?_
        | (exfalso; simp at h; done)
        | (exfalso; first | (simp only [decide_eq_true_eq, decide_eq_false_iff_not, List.length_map, Bool.not_eq_true', Bool.not_eq_false'] at *; omega) | (simp at h; done))
        | refine g_cond rfl (fun h => ?_) (fun h => ?_)
        | refine g_end T hC (by kernel_rfl) ?_
        | refine g_splitD (fun h => ?_) (fun h => ?_)
        | refine g_splitG rfl rfl rfl (fun h => ?_) (fun h => ?_)
        | refine g_splitP rfl rfl (fun h => ?_) (fun h => ?_)
        | refine g_outE ?_
        | refine g_call hC (hF4) rfl rfl (LeSs.refl _) rfl rfl rfl ?_
        | refine g_call hC (hK2) rfl rfl (LeSs.refl _) rfl rfl rfl ?_
        | refine g_call hC (hK3) rfl rfl (LeSs.refl _) rfl rfl rfl ?_
        | (refine g_call hC hK4 rfl rfl (LeSs.cons (.refl _) (LeSs.cons (.refl _) (LeSs.cons (LeS.one (.nil 1)) .nil))) rfl rfl rfl ?_)
        | refine g_call hC (hQ2) rfl rfl (LeSs.refl _) rfl rfl rfl ?_
        | refine g_call hC (hQ3) rfl rfl (LeSs.refl _) rfl rfl rfl ?_
        | refine g_call hC (hQ4') rfl rfl (LeSs.refl _) rfl rfl rfl ?_
      all_goals exact g_fin ⟨.inl rfl, id, _, rfl, by first | exact .refl _ | exact LeS.qb rfl, trivial, rfl, rfl⟩
    · have hpos : ¬ hdI (occs w p) < 0 := fun e => ho (hdI_nonneg.1 e)
      rw [if_neg ho] at hK3
      have hQ3 := sameRes_ok (okR (hdI (occs w p))) (okR (hdI (occs w p)))
      rw [decide_eq_true rfl] at hQ3
      repeat' first
        | refine g_go T hC true 400 rfl rfl ?_
        | (exfalso; simp at h; done)
        | (exfalso; first | (simp only [decide_eq_true_eq, decide_eq_false_iff_not, List.length_map, Bool.not_eq_true', Bool.not_eq_false'] at *; omega) | (simp at h; done))
        | refine g_cond rfl (fun h => ?_) (fun h => ?_)
        | refine g_end T hC (by kernel_rfl) ?_
        | refine g_splitD (fun h => ?_) (fun h => ?_)
        | refine g_splitG rfl rfl rfl (fun h => ?_) (fun h => ?_)
        | refine g_splitP rfl rfl (fun h => ?_) (fun h => ?_)
        | refine g_outE ?_
        | refine g_call hC (hF4) rfl rfl (LeSs.refl _) rfl rfl rfl ?_
        | refine g_call hC (hK2) rfl rfl (LeSs.refl _) rfl rfl rfl ?_
        | refine g_call hC (hK3) rfl rfl (LeSs.refl _) rfl rfl rfl ?_
        | (refine g_call hC hK4 rfl rfl (LeSs.cons (.refl _) (LeSs.cons (.refl _) (LeSs.cons (LeS.one (.nil 1)) .nil))) rfl rfl rfl ?_)
        | refine g_call hC (hQ2) rfl rfl (LeSs.refl _) rfl rfl rfl ?_
        | refine g_call hC (hQ3) rfl rfl (LeSs.refl _) rfl rfl rfl ?_
        | refine g_call hC (hQ4') rfl rfl (LeSs.refl _) rfl rfl rfl ?_
      all_goals exact g_fin ⟨.inl rfl, id, _, rfl, by first | exact .refl _ | exact LeS.qb rfl, trivial, rfl, rfl⟩
theorem mText_z (w p : List Int) (c : Int) (k : Nat) (hc : 0 ≤ c ∧ c ≤ 255) (hkc : c % (w.length : Int) = k) (hkl : k < w.length) (hk : k = 0) (hw : 1 ≤ w.length ∧ w.length ≤ 40) (hp : 1 ≤ p.length ∧ p.length ≤ 10) (hwc : ∀ x ∈ w, 0 ≤ x ∧ x ≤ 255) (hpc : ∀ x ∈ p, 0 ≤ x ∧ x ≤ 255) :
    FnOK Try.prog 8 [pS (.sl 1 (w.map u8I)), .one (.p (.k (.int .u8 c))), pS (.sl 1 (p.map u8I))] [] (.bq true) [] := by
  have hwl : (w.map u8I).length = w.length := List.length_map _
  have hpl : (p.map u8I).length = p.length := List.length_map _
  have hN := new_ok (k := 6) (by decide)
  have hF1 := numbers_ok w hwc (by omega)
  have hF3 := numbers_ok (w.drop k) (fun x hx => hwc x (List.mem_of_mem_drop hx)) (by rw [List.length_drop]; omega)
  have hF4 := numbers_ok p hpc (by omega)
  have hA1 := mApply_yes 6 [] ⟨1, w⟩ (by decide) (text_op (.inl rfl) hw.1 (by omega) hwc)
  rw [text_app0 (by omega)] at hA1
  have hvw : validS 6 [w] = true := mk6 hw.1 (by omega) fun x hx => chrB_iff.2 (hwc x hx)
  have hdc : ∀ x ∈ w.drop k, 0 ≤ x ∧ x ≤ 255 := fun x hx => hwc x (List.mem_of_mem_drop hx)
  have hdl : (w.drop k).length = w.length - k := List.length_drop
  have hA3 := mApply_yes 6 [] ⟨1, w.drop k⟩ (by decide) (text_op (.inl rfl) (by omega) (by omega) hdc)
  rw [text_app0 (by omega), show ([w.drop k] : Rws) = [w] by rw [hk]; rfl] at hA3
  have hS := mSame_ok 6 6 [w] [w]
  rw [show (decide ((6 : Int) = 6) && decide ([w] = [w])) = true by simp] at hS
  have hK2 := ask_ok 6 [w] 2 p _ hvw (text_op (.inr (.inl rfl)) hp.1 (by omega) hpc) (text_cnt w p)
  have hK3 := ask_ok 6 [w] 3 p _ hvw (text_op (.inr (.inr rfl)) hp.1 (by omega) hpc) (text_fnd w p)
  have hK4 := ask_ok 6 [w] 4 [] _ hvw (by decide) (text_size w)
  have wr : ∀ x y : Nat, x ≤ 1000 → y ≤ 1000 → IntKind.i64.wrap ((x : Int) + (y : Int)) = ((x + y : Nat) : Int) := fun x y _ _ => by rw [wrap64 (by omega)]; omega
  have hcw : IntKind.i64.wrap c = c := wrap64 (by omega)
  have hrem : c.tmod (w.length : Int) = (k : Int) := by rw [Int.tmod_eq_emod_of_nonneg hc.1, hkc]
  have hdm : (w.map u8I).drop k = (w.drop k).map u8I := List.map_drop.symm
  have htm : (w.map u8I).take k = (w.take k).map u8I := List.map_take.symm
  refine fn_ok T Try.func8 (by kernel_rfl) rfl rfl rfl rfl fun C hC => ?_
  repeat' first
    | refine g_go T hC true 400 rfl rfl ?_
    | (exfalso; simp at h; done)
    | (exfalso; first | (simp only [decide_eq_true_eq, decide_eq_false_iff_not, List.length_map, Bool.not_eq_true', Bool.not_eq_false'] at *; omega) | (simp at h; done))
    | refine g_cond rfl (fun h => ?_) (fun h => ?_)
    | refine g_end T hC (by kernel_rfl) ?_
    | refine g_splitD (fun h => ?_) (fun h => ?_)
    | refine g_splitG rfl rfl rfl (fun h => ?_) (fun h => ?_)
    | refine g_splitP rfl rfl (fun h => ?_) (fun h => ?_)
    | refine g_call hC (awake_ok) rfl rfl (LeSs.refl _) rfl rfl rfl ?_
    | refine g_call hC (hN) rfl rfl (LeSs.refl _) rfl rfl rfl ?_
    | refine g_call hC (hF1) rfl rfl (LeSs.refl _) rfl rfl rfl ?_
    | refine g_call hC (op_ok 1 _) rfl rfl (LeSs.refl _) rfl rfl rfl ?_
    | refine g_call hC (hA1) rfl rfl (LeSs.refl _) rfl rfl rfl ?_
    | (rw [hcw]; refine g_rem hC rfl rfl (by rw [hwl]; omega) rfl rfl ?_; simp only [hwl, hrem])
    | (refine g_partL T hC ((w.drop k).map u8I) rfl rfl rfl (by omega) (by rw [hwl]; omega) (by rw [Int.toNat_natCast]; exact hdm) rfl rfl ?_)
    | refine g_call hC (hF3) rfl rfl (LeSs.refl _) rfl rfl rfl ?_
    | refine g_call hC (hA3) rfl rfl (LeSs.refl _) rfl rfl rfl ?_
    | refine g_call hC (hS) rfl rfl (LeSs.refl _) rfl rfl rfl ?_
  refine g_loop (fun i : Nat => i ≤ w.length) (fun i => ([(0, pS (.sl 1 (w.map u8I))), (2, pS (.sl 1 (p.map u8I))), (7, .one (.cl 23 [] [])), (10, .one (.bx 1010 0)), (16, I ((occT w p i).length)), (17, I (hdI (occT w p i))), (18, I i)], [(1010, some (.box [.p (ki 6), .p (rowsP [w])]))])) (fun i => w.length - i) hC
    0 (Nat.zero_le _) id ⟨rfl, ⟨rfl, rfl, rfl, rfl, rfl, rfl, rfl, trivial⟩, ⟨rfl, trivial⟩, rfl, fun _ _ => rfl⟩ ?_
  intro i hi
  have wri : IntKind.i64.wrap ((i : Int) + ((p.map u8I).length : Int)) = ((i + p.length : Nat) : Int) := by rw [hpl]; exact wr _ _ (by omega) (by omega)
  refine g_run' T hC true 200 rfl ?_
  refine g_cond rfl (fun h => ?_) (fun h => ?_)
  · have hlt : i + p.length ≤ w.length := by rw [wri, hwl] at h; have := of_decide_eq_true h; omega
    clear h
    have hE := eq8_ok ((w.drop i).take p.length) p
    have hol : occL w p i = decide ((w.drop i).take p.length = p) := rfl
    have hcl := occT_len w p i
    have hpart : ((w.map u8I).take (i + p.length)).drop i = ((w.drop i).take p.length).map u8I := by rw [List.drop_take, Nat.add_sub_cancel_left, List.map_take, List.map_drop]
    repeat' first
      | refine g_go T hC true 400 rfl rfl ?_
      | refine g_cond rfl (fun h => ?_) (fun h => ?_)
      | refine g_end T hC (by kernel_rfl) ?_
      | refine g_splitD (fun h => ?_) (fun h => ?_)
      | refine g_splitG rfl rfl rfl (fun h => ?_) (fun h => ?_)
      | refine g_splitP rfl rfl (fun h => ?_) (fun h => ?_)
      | (rw [wri]; refine g_partLH T hC (((w.drop i).take p.length).map u8I) rfl rfl rfl rfl (Int.natCast_nonneg _) (by omega) (by rw [hwl]; omega) (by rw [Int.toNat_natCast, Int.toNat_natCast]; exact hpart) rfl rfl ?_)
      | refine g_call hC (hE) rfl rfl (LeSs.refl _) rfl rfl rfl ?_
    · have hb : occL w p i = true := hol.trans (by assumption)
      rw [wrapS (i := i) (by omega), wrapS (i := (occT w p i).length) (by omega)]
      refine g_round (i + 1) (by omega) id (by omega) ?_
      rw [occT_yes hb, hdI_snoc, if_pos (of_decide_eq_true h), List.length_append]
      exact ⟨rfl, ⟨rfl, rfl, rfl, rfl, rfl, rfl, rfl, trivial⟩, ⟨rfl, trivial⟩, rfl, fun _ _ => rfl⟩
    · have hb : occL w p i = true := hol.trans (by assumption)
      rw [wrapS (i := i) (by omega), wrapS (i := (occT w p i).length) (by omega)]
      refine g_round (i + 1) (by omega) id (by omega) ?_
      rw [occT_yes hb, hdI_snoc, if_neg (of_decide_eq_false h), List.length_append]
      exact ⟨rfl, ⟨rfl, rfl, rfl, rfl, rfl, rfl, rfl, trivial⟩, ⟨rfl, trivial⟩, rfl, fun _ _ => rfl⟩
    · have hb : occL w p i = false := hol.trans (by assumption)
      rw [wrapS (i := i) (by omega)]
      refine g_round (i + 1) (by omega) id (by omega) ?_
      rw [occT_no hb]
      exact ⟨rfl, ⟨rfl, rfl, rfl, rfl, rfl, rfl, rfl, trivial⟩, ⟨rfl, trivial⟩, rfl, fun _ _ => rfl⟩
  · have hge : w.length < i + p.length := by rw [wri, hwl] at h; have := of_decide_eq_false h; omega
    rw [occT_all hp.1 hi hge]
    have hQ2 := sameRes_ok (okR ((occs w p).length : Nat)) (okR ((occs w p).length : Nat))
    rw [decide_eq_true rfl] at hQ2
    have hQ4 := sameRes_ok (okR (w.length : Nat)) (okR (w.length : Nat))
    rw [decide_eq_true rfl] at hQ4
    have hQ4' : FnOK Try.prog 17 [aggS (rsR (okR (w.length : Nat))), aggS (rsR (okR ((w.map u8I).length : Nat)))] [] (.bq true) [] := by rw [hwl]; exact hQ4
    clear h hge
    by_cases ho : occs w p = []
    · have hneg : hdI (occs w p) < 0 := hdI_nonneg.2 ho
      rw [if_pos ho] at hK3
      have hQ3 := sameRes_ok (erR 12) (erR 12)
      rw [decide_eq_true rfl] at hQ3
      repeat' first
        | refine g_go T hC true 400 rfl rfl ?_
        | (exfalso; simp at h; done)
        | (exfalso; first | (simp only [decide_eq_true_eq, decide_eq_false_iff_not, List.length_map, Bool.not_eq_true', Bool.not_eq_false'] at *; omega) | (simp at h; done))
        | refine g_cond rfl (fun h => ?_) (fun h => ?_)
        | refine g_end T hC (by kernel_rfl) ?_
        | refine g_splitD (fun h => ?_) (fun h => ?_)
        | refine g_splitG rfl rfl rfl (fun h => ?_) (fun h => ?_)
        | refine g_splitP rfl rfl (fun h => ?_) (fun h => ?_)
        | refine g_outE ?_
        | refine g_call hC (hF4) rfl rfl (LeSs.refl _) rfl rfl rfl ?_
        | refine g_call hC (hK2) rfl rfl (LeSs.refl _) rfl rfl rfl ?_
        | refine g_call hC (hK3) rfl rfl (LeSs.refl _) rfl rfl rfl ?_
        | (refine g_call hC hK4 rfl rfl (LeSs.cons (.refl _) (LeSs.cons (.refl _) (LeSs.cons (LeS.one (.nil 1)) .nil))) rfl rfl rfl ?_)
        | refine g_call hC (hQ2) rfl rfl (LeSs.refl _) rfl rfl rfl ?_
        | refine g_call hC (hQ3) rfl rfl (LeSs.refl _) rfl rfl rfl ?_
        | refine g_call hC (hQ4') rfl rfl (LeSs.refl _) rfl rfl rfl ?_
      all_goals exact g_fin ⟨.inl rfl, id, _, rfl, by first | exact .refl _ | exact LeS.qb rfl, trivial, rfl, rfl⟩
    · have hpos : ¬ hdI (occs w p) < 0 := fun e => ho (hdI_nonneg.1 e)
      rw [if_neg ho] at hK3
      have hQ3 := sameRes_ok (okR (hdI (occs w p))) (okR (hdI (occs w p)))
      rw [decide_eq_true rfl] at hQ3
      repeat' first
        | refine g_go T hC true 400 rfl rfl ?_
        | (exfalso; simp at h; done)
        | (exfalso; first | (simp only [decide_eq_true_eq, decide_eq_false_iff_not, List.length_map, Bool.not_eq_true', Bool.not_eq_false'] at *; omega) | (simp at h; done))
        | refine g_cond rfl (fun h => ?_) (fun h => ?_)
        | refine g_end T hC (by kernel_rfl) ?_
        | refine g_splitD (fun h => ?_) (fun h => ?_)
        | refine g_splitG rfl rfl rfl (fun h => ?_) (fun h => ?_)
        | refine g_splitP rfl rfl (fun h => ?_) (fun h => ?_)
        | refine g_outE ?_
        | refine g_call hC (hF4) rfl rfl (LeSs.refl _) rfl rfl rfl ?_
        | refine g_call hC (hK2) rfl rfl (LeSs.refl _) rfl rfl rfl ?_
        | refine g_call hC (hK3) rfl rfl (LeSs.refl _) rfl rfl rfl ?_
        | (refine g_call hC hK4 rfl rfl (LeSs.cons (.refl _) (LeSs.cons (.refl _) (LeSs.cons (LeS.one (.nil 1)) .nil))) rfl rfl rfl ?_)
        | refine g_call hC (hQ2) rfl rfl (LeSs.refl _) rfl rfl rfl ?_
        | refine g_call hC (hQ3) rfl rfl (LeSs.refl _) rfl rfl rfl ?_
        | refine g_call hC (hQ4') rfl rfl (LeSs.refl _) rfl rfl rfl ?_
      all_goals exact g_fin ⟨.inl rfl, id, _, rfl, by first | exact .refl _ | exact LeS.qb rfl, trivial, rfl, rfl⟩
theorem mText_out (w p : List Int) (c : Int) (h0 : ¬ ((1 ≤ w.length ∧ w.length ≤ 40) ∧ 1 ≤ p.length ∧ p.length ≤ 10)) : FnOK Try.prog 8 [pS (.sl 1 (w.map u8I)), .one (.p (.k (.int .u8 c))), pS (.sl 1 (p.map u8I))] [] (.bq true) [] := by
  have hwl : (w.map u8I).length = w.length := List.length_map _
  have hpl : (p.map u8I).length = p.length := List.length_map _
  rw [← hwl, ← hpl] at h0
  refine fn_ok T Try.func8 (by kernel_rfl) rfl rfl rfl rfl fun C hC => ?_
  repeat' first
    | refine g_go T hC true 400 rfl rfl ?_
    | (exfalso; simp at h; done)
    | (exfalso; simp only [decide_eq_true_eq, decide_eq_false_iff_not] at *; omega)
    | refine g_cond rfl (fun h => ?_) (fun h => ?_)
    | refine g_end T hC (by kernel_rfl) ?_
    | refine g_splitD (fun h => ?_) (fun h => ?_)
    | refine g_splitG rfl rfl rfl (fun h => ?_) (fun h => ?_)
    | refine g_splitP rfl rfl (fun h => ?_) (fun h => ?_)
    | refine g_call hC (awake_ok) rfl rfl (LeSs.refl _) rfl rfl rfl ?_
  all_goals exact g_fin ⟨.inl rfl, id, _, rfl, .refl _, trivial, rfl, rfl⟩
theorem modelText_ok (l : List U8) (c : Int) (hc : 0 ≤ c ∧ c ≤ 255) (p : List U8) : FnOK Try.prog 8 [pS (.sl 1 (l.map u8R)), .one (.p (.k (.int .u8 c))), pS (.sl 1 (p.map u8R))] [] (.bq true) [] := by
  have hr : ∀ l : List U8, ∀ x ∈ l.map (fun x => x.1), 0 ≤ x ∧ x ≤ 255 := fun l x hx => by
    obtain ⟨y, _, rfl⟩ := List.mem_map.1 hx; exact y.2
  have h1 := hr l
  have h2 := hr p
  rw [u8_map, u8_map]
  generalize l.map (fun x => x.1) = w at *
  generalize p.map (fun x => x.1) = q at *
  by_cases h0 : (1 ≤ w.length ∧ w.length ≤ 40) ∧ 1 ≤ q.length ∧ q.length ≤ 10
  · have hm0 : 0 ≤ c % (w.length : Int) := Int.emod_nonneg _ (by omega)
    have hm1 : c % (w.length : Int) < w.length := Int.emod_lt_of_pos _ (by omega)
    have hk : c % (w.length : Int) = ((c % (w.length : Int)).toNat : Int) := by omega
    rcases Nat.eq_zero_or_pos (c % (w.length : Int)).toNat with hz | hz
    · exact mText_z w q c _ hc hk (by omega) hz h0.1 h0.2 h1 h2
    · exact mText_p w q c _ hc hk (by omega) hz h0.1 h0.2 h1 h2
  · exact mText_out w q c h0
theorem modelText_row (l : List U8) (c : U8) (p : List U8) : FnOK Try.prog 8 [pS (.sl 1 (l.map u8R)), .one (.p (.k (.int .u8 c.1))), pS (.sl 1 (p.map u8R))] [] (.bq true) [] := modelText_ok l c.1 c.2 p
end Hw.Mo
