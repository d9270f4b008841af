/- The engine, part BC: a string's bytes as an array of the run's own. -/
import Derived.Test.YtmnhegkogibipaaGreatDoorC17
import Derived.Laws.IdiomStrings
import Derived.Test.YtmnhegkogibipaaGreatDoorC18
import Derived.Test.YtmnhegkogibipaaGreatDoorC15
set_option linter.unusedVariables false
set_option linter.unusedSimpArgs false
namespace Hw
open Go
section
variable {P : Program} {d : Option Nat} {ty : TypeId} {ps : String} {af : Array Edge} {g : Option (Nat × Bool)} {x y : Operand} {t : TypeId}
theorem bytes_rows {M : Mem} {g : Nat → Option Value} : ∀ (l : List UInt8) (o : Nat), (∀ (j : Nat) b, l[j]? = some b → g (o + j) = some (.int .u8 b.toNat)) → RowsIn M g 1 (l.map fun b => [PV.k (.int .u8 b.toNat)]) o
  | [], _, _ => by simp only [List.map_nil, RowsIn]
  | b :: l, o, h => by
    simp only [List.map_cons, RowsIn, RowIn, RepPV]
    refine ⟨rfl, ⟨⟨_, by simpa using h 0 b rfl, rfl, rfl⟩, trivial⟩, bytes_rows l (o + 1) fun j c hj => ?_⟩
    have := h (j + 1) c (by simpa using hj)
    rwa [show o + 1 + j = o + (j + 1) by omega]
theorem L_s2b {id : Nat} {s : ByteArray} {src dst e : TypeId} (hx : okc x (Sr s)) (hs : P.underlying src = some .string) (hd' : P.underlying dst = some (.slice e)) (he : P.underlying e = some (.int .u8)) (hl : s.size ≤ maxLen) :
    Snd P ⟨d, .convert src dst x, ty, ps, af, g⟩ (rq x (Sr s)) [] [id] (.one (.ar id)) [(id, some (.arr 1 (bytesR s)))] := by
  intro C st M ρ a w hH h1 hT hF hd k Q hk
  have e1 := hH.k (ev_of hx h1)
  have hge := grownCap_ge w s.size 0 e
  have hmx := grownCap_le_maxLen w s.size 0 e hl
  have hrun : (execOp a.eval ⟨d, .convert src dst x, ty, ps, af, g⟩).run P w = .ok (.value (.slice (some ⟨w.heap.size, 0, none⟩) s.size (grownCap w s.size 0 e)))
      (w.drew.alloc (.cells (bytesRow s (grownCap w s.size 0 e)) e ((bytesRow s (grownCap w s.size 0 e)).size, (bytesRow s (grownCap w s.size 0 e)).size + 1))) := by
    simp only [execOp, e1, Sem.run_bind, run_bytes_of_string w src dst e s hs hd' he, Result.andThen_ok, Sem.run_pure]
  unfold Oper.wp
  rw [hrun, Oper.upon_value]
  generalize grownCap w s.size 0 e = cap at *
  have hsz : (bytesRow s cap).size = cap := by
    simp only [bytesRow, Array.size_append, Array.size_map, Array.size_replicate]
    have : s.data.size = s.size := rfl
    omega
  have hlen : (bytesR s).length = s.size := by simp only [bytesR, List.length_map, Array.length_toList]; rfl
  have hml : maxLen ≤ 9223372036854775807 := by decide
  generalize hW : w.drew.alloc (.cells (bytesRow s cap) e ((bytesRow s cap).size, (bytesRow s cap).size + 1)) = w'
  have hheap : w'.heap = w.heap.push (.cells (bytesRow s cap) e ((bytesRow s cap).size, (bytesRow s cap).size + 1)) := by rw [← hW]; rfl
  have hR : HoldsR M (upd ρ id (.slice (some ⟨w.heap.size, 0, none⟩) s.size cap)) w' id (.arr 1 (bytesR s)) := by
    refine ⟨some ⟨w.heap.size, 0, none⟩, cap, by rw [upd_same, hlen], by rw [hlen]; exact hge, by omega, .inr ⟨w.heap.size, 0, bytesRow s cap, e, _, rfl, by rw [hheap, Array.getElem?_push_size], fun i hi => ?_, by rw [hsz]; omega, bytes_rows _ 0 fun j b hj => ?_⟩⟩
    · simp only [Bool.and_eq_false_iff, decide_eq_false_iff_not]; omega
    have hlt := (List.getElem?_eq_some_iff.1 hj).1
    rw [Array.length_toList] at hlt
    rw [Array.getElem?_toList] at hj
    rw [Nat.zero_add, bytesRow, Array.getElem?_append_left (by rw [Array.size_map]; exact hlt), Array.getElem?_map, hj]
    rfl
  refine hk _ _ M _ (hH.step none (val := .slice (some ⟨w.heap.size, 0, none⟩) s.size cap) (fun b hb _ => by rw [hheap, Array.getElem?_push, if_neg (by omega)]) (by rw [hheap]; simp) (by rw [← hW]; rfl) (by rw [← hW]; rfl) (by rw [← hW]; rfl)
    (fun b hb => by simp only [blk, Option.some.injEq] at hb; exact .inl (by omega)) hF.1 hR (by simp only [RepS, RepV]; exact ⟨(upd_same _ _ _).symm, rfl⟩) hd)
end
variable {P : Program} {C : Ctx} {k : List Frm} {n : Nat} {sl : Slots} {tab : Tab} {Q : Exit → St → Prop} {all : Array Oper} {rest : List Oper}
theorem g_s2b {d : Nat} {x : Operand} {src dst e ty : TypeId} {ps : String} {af : Array Edge} {g0 : Option (Nat × Bool)} {gs : Slots} {md : Mode} (hC : C.low) {s : ByteArray}
    (hx : ev sl x = some (Sr s)) (hs : P.underlying src = some .string) (hd' : P.underlying dst = some (.slice e)) (he : P.underlying e = some (.int .u8)) (hl : s.size ≤ 140737488355328) (hm : metL all sl g0 = some gs) (hd : Nat.blt d n = true)
    (hf : (Nat.ble 100 (1000 + d) && freshB (1000 + d) ⟨n, sl, tab⟩) = true)
    (g : Goal P C (.ops all rest (nx md ⟨some d, gs ++ rq x (Sr s), [], [1000 + d], .one (.ar (1000 + d)), [(1000 + d, some (.arr 1 (bytesR s)))]⟩)) k n ((d, .one (.ar (1000 + d))) :: sl) ((1000 + d, some (.arr 1 (bytesR s))) :: tab) Q) :
    Goal P C (.ops all (⟨some d, .convert src dst x, ty, ps, af, g0⟩ :: rest) md) k n sl tab Q := by
  have e1 := of_ev (st := ⟨n, sl, tab⟩) hx
  have hml : 140737488355328 ≤ maxLen := by decide
  have := metL_step hm (L_s2b (P := P) (ty := ty) (ps := ps) (af := af) (g := g0) (d := some d) (id := 1000 + d) e1.1 hs hd' he (by omega)) (n := n) (tab := tab)
  exact g_law (L := ⟨some d, gs ++ rq x (Sr s), [], [1000 + d], .one (.ar (1000 + d)), [(1000 + d, some (.arr 1 (bytesR s)))]⟩) hC this.1 rfl ⟨by rw [okS_append]; exact ⟨this.2, e1.2⟩, trivial, fr_one hf, hd⟩ g
end Hw
namespace Hw.Z
open Go Go.Proofs Go.Shelf Hw.M

/-! The program's text of a description -/
def fitT (s : Str) : Str := if s.size ≤ 65536 then s else (⟨#[]⟩ : ByteArray)
def fitE (s : Str) : Int := if s.size ≤ 65536 then 0 else 4
theorem afit_ok (s : Str) : FnOK Tryz.prog 95 [.one (.ar 0)] (bA 0 s) (.tup [Sr (fitT s), I (fitE s)]) [] := by
  by_cases h0 : s.size ≤ 65536
  · rw [show fitT s = s from if_pos h0, show fitE s = 0 from if_pos h0]
    refine fn_ok T Tryz.func95 (by kernel_rfl) rfl rfl rfl rfl fun C hC => ?_
    repeat' first
      | refine g_go T hC true 400 rfl rfl ?_
      | refine g_cond rfl (fun h => ?_) (fun h => ?_)
      | refine g_end T hC (by kernel_rfl) ?_
      | refine g_splitD (fun h => ?_) (fun h => ?_)
      | refine g_splitG rfl rfl rfl (fun h => ?_) (fun h => ?_)
      | refine g_splitP rfl rfl (fun h => ?_) (fun h => ?_)
      | (refine g_b2s (s := s) (e := 5) hC rfl rfl (by kernel_rfl) (by kernel_rfl) (by kernel_rfl) rfl rfl ?_)
    all_goals first
      | (exfalso; have := of_decide_eq_true h; rw [bytesR_len] at this; omega)
      | exact g_fin ⟨.inl rfl, id, _, rfl, .refl _, trivial, rfl, rfl⟩
  · rw [show fitT s = (⟨#[]⟩ : ByteArray) from if_neg h0, show fitE s = 4 from if_neg h0]
    refine fn_ok T Tryz.func95 (by kernel_rfl) rfl rfl rfl rfl fun C hC => ?_
    repeat' first
      | refine g_go T hC true 400 rfl rfl ?_
      | refine g_cond rfl (fun h => ?_) (fun h => ?_)
      | refine g_end T hC (by kernel_rfl) ?_
      | refine g_splitD (fun h => ?_) (fun h => ?_)
      | refine g_splitG rfl rfl rfl (fun h => ?_) (fun h => ?_)
      | refine g_splitP rfl rfl (fun h => ?_) (fun h => ?_)
      | (refine g_b2s (s := s) (e := 5) hC rfl rfl (by kernel_rfl) (by kernel_rfl) (by kernel_rfl) rfl rfl ?_)
    all_goals first
      | (exfalso; have := of_decide_eq_false h; rw [bytesR_len] at this; omega)
      | exact g_fin ⟨.inl rfl, id, _, rfl, .refl _, trivial, rfl, rfl⟩
theorem itoa_ok (n : Int) (h0 : -9223372036854775808 ≤ n) (h1 : n ≤ 9223372036854775807) : FnOK Tryz.prog 93 [I n] [] (Sr (itoaB n)) [] :=
  @fn_belowL _ _ [.int .i64 n] _ (callOK Tryz.func93 (by kernel_rfl) (by kernel_rfl)) (fun w hw => by
    obtain ⟨el, fz, hb⟩ := hw.2.2 _ (List.mem_cons_self ..)
    have htab : Lib.TabIs Tryz.prog w "internal/strconv.uint64pow10" .u64 Lib.pow10Tab := by
      unfold Lib.TabIs World.var?
      rw [show (Tryz.prog).globalNamed "internal/strconv.uint64pow10" = some 0 by kernel_rfl]
      simp only [Option.bind_some]
      rw [hb]
      rfl
    refine (Any.strconv_Itoa laysItoa n h0 h1 w htab).mono ?_
    rintro e w' ⟨he, k, os, rfl⟩
    exact ⟨he, ⟨rfl, rfl, rfl, by show w.heap.size ≤ (w.heap ++ os).size; simp, fun b hb => by show (w.heap ++ os)[b]? = _; rw [Array.getElem?_append_left hb]⟩⟩) rfl
def q0 (d : Desc) : Str := (⟨#[100, 101, 115, 99, 32]⟩ : ByteArray) ++ d.n ++ opS
def q1 (d : Desc) : Str := q0 d ++ catB (d.types.map typT)
def q2 (d : Desc) : Str := q1 d ++ catB (d.globals.map varT)
def q3 (d : Desc) : Str := q2 d ++ catB (d.procs.map procT)
def q4 (d : Desc) : Str := q3 d ++ catB (d.measures.map measT)
def q5 (d : Desc) : Str := q4 d ++ catB (d.invs.map invT)
def q6 (d : Desc) : Str := q5 d ++ catB (d.pots.map potT)
def q7 (d : Desc) : Str := q6 d ++ catB (d.bounds.map boundT)
theorem descT_eq (d : Desc) : descT d = q7 d ++ clS := rfl
theorem q_sizes {d : Desc} (h : (descT d).size ≤ 2000000) : (q0 d).size + (catB (d.types.map typT)).size ≤ 2000000 ∧ (q1 d).size + (catB (d.globals.map varT)).size ≤ 2000000 ∧ (q2 d).size + (catB (d.procs.map procT)).size ≤ 2000000 ∧
    (q3 d).size + (catB (d.measures.map measT)).size ≤ 2000000 ∧ (q4 d).size + (catB (d.invs.map invT)).size ≤ 2000000 ∧ (q5 d).size + (catB (d.pots.map potT)).size ≤ 2000000 ∧ (q6 d).size + (catB (d.bounds.map boundT)).size ≤ 2000000 := by
  rw [descT_eq] at h
  simp only [q7, q6, q5, q4, q3, q2, q1, size_app] at h ⊢
  omega
theorem cat_step {α : Type} {f : α → Str} {l : List α} {i : Nat} {x : α} (hx : l[i]? = some x) (Q : Str) : Q ++ catB ((l.map f).take (i + 1)) = Q ++ catB ((l.map f).take i) ++ f x := by
  rw [catB_take (l := l.map f) (x := f x) (by rw [List.getElem?_map, hx]; rfl), ByteArray.append_assoc]
theorem cat_size {α : Type} {f : α → Str} {l : List α} {i : Nat} {x : α} (hx : l[i]? = some x) : (catB ((l.map f).take i)).size + (f x).size ≤ (catB (l.map f)).size := by
  have h1 := catB_take_le (l.map f) (i + 1)
  rw [catB_take (l := l.map f) (x := f x) (by rw [List.getElem?_map, hx]; rfl), size_app] at h1
  exact h1
theorem trim_pot (t : Str) (h : isOpen t = true) : Lib.trimSuffix ((⟨#[112, 111, 116, 101, 110, 116, 105, 97, 108, 32]⟩ : ByteArray) ++ t).data.toList ((⟨#[32]⟩ : ByteArray) : Str).data.toList = ((⟨#[112, 111, 116, 101, 110, 116, 105, 97, 108]⟩ : ByteArray) ++ (if t = (⟨#[]⟩ : ByteArray) then (⟨#[]⟩ : ByteArray) else (⟨#[32]⟩ : ByteArray) ++ t)).data.toList := by
  by_cases h0 : t = (⟨#[]⟩ : ByteArray)
  · subst h0; rfl
  · rw [if_neg h0]
    have hn : isName t = true := by
      unfold isOpen at h
      simp only [Bool.or_eq_true, decide_eq_true_eq] at h
      exact h.resolve_left h0
    obtain ⟨u, c, hu, hc⟩ := end_name hn
    have hl : ((⟨#[112, 111, 116, 101, 110, 116, 105, 97, 108, 32]⟩ : ByteArray) ++ t).data.toList = ((⟨#[112, 111, 116, 101, 110, 116, 105, 97, 108, 32]⟩ : ByteArray) : Str).data.toList ++ (u ++ [c]) := by rw [ByteArray.data_append, Array.toList_append]; exact congrArg _ hu
    have hno : Lib.hasSuffix ((⟨#[112, 111, 116, 101, 110, 116, 105, 97, 108, 32]⟩ : ByteArray) ++ t).data.toList ((⟨#[32]⟩ : ByteArray) : Str).data.toList = false := by
      rw [Bool.eq_false_iff]
      intro hs
      rw [Lib.hasSuffix, List.isSuffixOf_iff_suffix] at hs
      obtain ⟨p, hp⟩ := hs
      rw [hl, ← List.append_assoc] at hp
      have h4 : ([32] : List UInt8) = [c] := (List.append_inj' hp rfl).2
      have h5 : c = 32 := (List.cons.inj h4).1.symm
      subst h5
      revert hc; decide
    rw [Lib.trimSuffix, hno]
    simp only [Bool.false_eq_true, if_false]
    rw [ByteArray.data_append, Array.toList_append, ByteArray.data_append, Array.toList_append, ByteArray.data_append, Array.toList_append]
    rfl
def descTx (d : Desc) : Str := if validD d = true then fitT (descT d) else (⟨#[]⟩ : ByteArray)
def descEr (d : Desc) : Int := if validD d = true then fitE (descT d) else 1
set_option maxHeartbeats 4000000 in
theorem aText_ok (d : Desc) (hF : validD d = true → DcF d) : FnOK Tryz.prog 45 [aggS (descR d)] [] (.tup [Sr (descTx d), I (descEr d)]) [] := by
  have hV := astValid_ok d
  cases hv : validD d with
  | false =>
    rw [hv] at hV
    rw [show descTx d = (⟨#[]⟩ : ByteArray) by unfold descTx; rw [hv]; rfl, show descEr d = 1 by unfold descEr; rw [hv]; rfl]
    refine fn_ok T Tryz.func45 (by kernel_rfl) rfl rfl rfl rfl fun C hC => ?_
    repeat' first
      | refine g_go T hC true 400 rfl rfl ?_
      | refine g_cond rfl (fun h => ?_) (fun h => ?_)
      | refine g_end T hC (by kernel_rfl) ?_
      | refine g_splitD (fun h => ?_) (fun h => ?_)
      | refine g_splitG rfl rfl rfl (fun h => ?_) (fun h => ?_)
      | refine g_splitP rfl rfl (fun h => ?_) (fun h => ?_)
      | refine g_call hC (hV) rfl rfl (LeSs.refl _) rfl rfl rfl ?_
    all_goals first
      | exact g_fin ⟨.inl rfl, id, _, rfl, .refl _, trivial, rfl, rfl⟩
      | (exfalso; cases h; done)
  | true =>
  have F := hF hv
  rw [hv] at hV
  rw [show descTx d = fitT (descT d) by unfold descTx; rw [hv]; rfl, show descEr d = fitE (descT d) by unfold descEr; rw [hv]; rfl]
  have hZ := afit_ok (descT d)
  obtain ⟨z1, z2, z3, z4, z5, z6, z7⟩ := q_sizes F.size
  have hdn := F.n
  have n1 : ByteArray.size (⟨#[32, 61, 32]⟩ : ByteArray) = 3 := rfl
  have n2 : ByteArray.size scS = 2 := rfl
  have n3 : ByteArray.size (⟨#[46]⟩ : ByteArray) = 1 := rfl
  have n4 : ByteArray.size (⟨#[114, 101, 116, 117, 114, 110]⟩ : ByteArray) = 6 := rfl
  have n5 : ByteArray.size opS = 3 := rfl
  have n6 : ByteArray.size clS = 2 := rfl
  have n7 : ByteArray.size (⟨#[119, 104, 105, 108, 101, 32]⟩ : ByteArray) = 6 := rfl
  have n8 : ByteArray.size (⟨#[105, 102, 32]⟩ : ByteArray) = 3 := rfl
  have n9 : ByteArray.size elS = 9 := rfl
  have n10 : ByteArray.size tbS = 1 := rfl
  have n11 : ByteArray.size (⟨#[32]⟩ : ByteArray) = 1 := rfl
  have n12 : ByteArray.size lpS = 1 := rfl
  have n13 : ByteArray.size rpS = 1 := rfl
  have n14 : ByteArray.size (⟨#[112, 114, 111, 99, 32]⟩ : ByteArray) = 5 := rfl
  have n15 : ByteArray.size (⟨#[40]⟩ : ByteArray) = 1 := rfl
  have n16 : ByteArray.size (⟨#[41, 32]⟩ : ByteArray) = 2 := rfl
  have n17 : ByteArray.size (⟨#[123, 10]⟩ : Str) = 2 := rfl
  have n18 : ByteArray.size (⟨#[9, 108, 111, 99, 97, 108, 32]⟩ : Str) = 7 := rfl
  have n19 : ByteArray.size (⟨#[]⟩ : ByteArray) = 0 := rfl
  have n20 : ByteArray.size (⟨#[41]⟩ : ByteArray) = 1 := rfl
  have n21 : ByteArray.size (⟨#[44, 32]⟩ : ByteArray) = 2 := rfl
  have m1 : ByteArray.size (⟨#[59, 10]⟩ : Str) = 2 := rfl
  have m3 : ByteArray.size (⟨#[125, 10]⟩ : Str) = 2 := rfl
  have m2 : ByteArray.size (⟨#[32, 123, 10]⟩ : Str) = 3 := rfl
  have m8 : ByteArray.size (⟨#[10]⟩ : Str) = 1 := rfl
  have k1 : ByteArray.size (⟨#[100, 101, 115, 99, 32]⟩ : ByteArray) = 5 := rfl
  have k2 : ByteArray.size (⟨#[116, 121, 112, 101, 32]⟩ : ByteArray) = 5 := rfl
  have k3 : ByteArray.size (⟨#[32, 123, 32]⟩ : ByteArray) = 3 := rfl
  have k4 : ByteArray.size (⟨#[59, 32]⟩ : ByteArray) = 2 := rfl
  have k5 : ByteArray.size (⟨#[118, 97, 114, 32]⟩ : ByteArray) = 4 := rfl
  have k6 : ByteArray.size (⟨#[109, 101, 97, 115, 117, 114, 101, 32]⟩ : ByteArray) = 8 := rfl
  have k7 : ByteArray.size (⟨#[41, 32, 110, 105, 108, 32]⟩ : ByteArray) = 6 := rfl
  have k8 : ByteArray.size (⟨#[105, 110, 118, 97, 114, 105, 97, 110, 116, 32]⟩ : ByteArray) = 10 := rfl
  have k9 : ByteArray.size (⟨#[112, 111, 116, 101, 110, 116, 105, 97, 108, 32]⟩ : ByteArray) = 10 := rfl
  have k10 : ByteArray.size (⟨#[98, 111, 117, 110, 100, 32]⟩ : ByteArray) = 6 := rfl
  have hq0 : (⟨#[100, 101, 115, 99, 32]⟩ : ByteArray) ++ d.n ++ (⟨#[32, 123, 10]⟩ : Str) = q0 d := rfl
  refine fn_ok T Tryz.func45 (by kernel_rfl) rfl rfl rfl rfl fun C hC => ?_
  repeat' first
    | refine g_go T hC true 400 rfl rfl ?_
    | refine g_cond rfl (fun h => ?_) (fun h => ?_)
    | refine g_end T hC (by kernel_rfl) ?_
    | refine g_splitD (fun h => ?_) (fun h => ?_)
    | refine g_splitG rfl rfl rfl (fun h => ?_) (fun h => ?_)
    | refine g_splitP rfl rfl (fun h => ?_) (fun h => ?_)
    | refine g_call hC (hV) rfl rfl (LeSs.refl _) rfl rfl rfl ?_
    | (refine g_cat hC rfl rfl (by (try simp only [size_app]); omega) rfl rfl ?_)
    | (refine g_s2b (e := 5) hC rfl (by kernel_rfl) (by kernel_rfl) (by kernel_rfl) (by simp only [size_app]; omega) rfl rfl rfl ?_)
  all_goals first
    | (exfalso; cases h; done)
    | skip
  rw [List.length_map, hq0]
  clear hV
  refine g_loop (fun i : Nat => i ≤ d.types.length) (fun i => ([(1, .one (.bx 1001 0)), (4, .one (.ar 101)), (29, pS (.sl 2 (d.types.map nodeTR))), (30, I d.types.length), (31, I i)],
      [(1001, some (Res.box ((descR d).map V.p))), (101, some (Res.arr 1 (bytesR (q0 d ++ catB ((d.types.map typT).take i)))))])) (fun i => d.types.length - i) hC
    0 (Nat.zero_le _) (mvo 101 1027) ⟨rfl, ⟨rfl, rfl, rfl, rfl, rfl, trivial⟩, ⟨rfl, by rw [show catB ((d.types.map typT).take 0) = (⟨#[]⟩ : ByteArray) from rfl, cat_nil]; rfl, trivial⟩, rfl, fun q hq => mvo_low (by omega) hq⟩ ?_
  intro i hi
  refine g_len 29 rfl fun hlen => ?_
  rw [List.length_map] at hlen
  refine g_run' T hC true 200 rfl ?_
  refine g_cond rfl (fun h => ?_) (fun h => ?_)
  · have hlt : i < d.types.length := by have := of_decide_eq_true h; omega
    clear h
    obtain ⟨x, hx⟩ := exists_at hlt
    have hm := List.mem_of_getElem? hx
    have hst := cat_step (f := typT) hx (q0 d)
    have hsz := cat_size (f := typT) hx
    have hwi : IntKind.i64.wrap ((i : Int) + 1) = ((i + 1 : Nat) : Int) := by rw [wrap64 (by omega)]; rfl
    generalize hg : catB ((d.types.map typT).take i) = g at hst hsz
    have hto := F.types x hm
    unfold typeOk at hto
    simp only [Bool.and_eq_true] at hto
    have FF := fld_facts hto.2
    have hxn := name_le hto.1
    have hds := decls_size (l := x.f) (sep := (⟨#[59, 32]⟩ : ByteArray)) (by omega) FF.2
    have hfl := FF.1
    have hL := list_ok x.f (⟨#[59, 32]⟩ : ByteArray) (by omega) FF.2 (by omega)
    have hty : typT x = (⟨#[116, 121, 112, 101, 32]⟩ : ByteArray) ++ x.n ++ (⟨#[32, 123, 32]⟩ : ByteArray) ++ (match x.f with | [] => (⟨#[]⟩ : ByteArray) | _ :: _ => declsT x.f (⟨#[59, 32]⟩ : ByteArray) ++ (⟨#[32]⟩ : ByteArray)) ++ clS := rfl
    cases hxf : x.f with
    | nil =>
      rw [hxf] at hty
      have hq : q0 d ++ g ++ ((⟨#[116, 121, 112, 101, 32]⟩ : ByteArray) ++ x.n ++ (⟨#[32, 123, 32]⟩ : ByteArray)) ++ (⟨#[125, 10]⟩ : Str) = q0 d ++ catB ((d.types.map typT).take (i + 1)) := by rw [hst, hty]; simp only [cat_nil, ByteArray.append_assoc]
      repeat' first
        | refine g_go T hC true 400 rfl rfl ?_
        | refine g_cond rfl (fun h => ?_) (fun h => ?_)
        | refine g_end T hC (by kernel_rfl) ?_
        | refine g_splitD (fun h => ?_) (fun h => ?_)
        | refine g_splitG rfl rfl rfl (fun h => ?_) (fun h => ?_)
        | refine g_splitP rfl rfl (fun h => ?_) (fun h => ?_)
        | (refine g_idx T hC rfl rfl rfl (Int.natCast_nonneg _) (map_at hx) rfl rfl ?_)
        | (refine g_cat hC rfl rfl (by (try simp only [size_app]); omega) rfl rfl ?_)
        | (refine g_append T 111 hC (rows := bytesR _) (rows2 := bytesR _) (rows3 := bytesR (_ ++ _)) (bytes := 1) rfl rfl rfl rfl (SrcS.str (by kernel_rfl)) (app_rows rfl) rfl rfl rfl (by kernel_rfl) (by (try simp only [bytesR_len, size_app]); omega) (by (try simp only [bytesR_len, size_app]); omega) rfl rfl rfl ?_)
        | (refine g_append T 113 hC (rows := bytesR _) (rows2 := bytesR _) (rows3 := bytesR (_ ++ _)) (bytes := 1) rfl rfl rfl rfl (SrcS.str (by kernel_rfl)) (app_rows rfl) rfl rfl rfl (by kernel_rfl) (by (try simp only [bytesR_len, size_app]); omega) (by (try simp only [bytesR_len, size_app]); omega) rfl rfl rfl ?_)
      all_goals first
        | (exfalso; have := of_decide_eq_true h; rw [hxf] at this; simp at this; done)
        | skip
      rw [hwi, hq]
      exact g_round (i + 1) (by omega) (mvo 101 113) (by omega) ⟨rfl, ⟨rfl, rfl, rfl, rfl, rfl, trivial⟩, ⟨rfl, rfl, trivial⟩, rfl, fun q hq => mvo_low (by omega) hq⟩
    | cons y r =>
      rw [hxf] at hty
      simp only at hty
      rw [← hxf] at hty
      have hq : q0 d ++ g ++ ((⟨#[116, 121, 112, 101, 32]⟩ : ByteArray) ++ x.n ++ (⟨#[32, 123, 32]⟩ : ByteArray)) ++ (declsT x.f (⟨#[59, 32]⟩ : ByteArray) ++ (⟨#[32]⟩ : ByteArray)) ++ (⟨#[125, 10]⟩ : Str) = q0 d ++ catB ((d.types.map typT).take (i + 1)) := by rw [hst, hty]; simp only [ByteArray.append_assoc]
      repeat' first
        | refine g_go T hC true 400 rfl rfl ?_
        | refine g_cond rfl (fun h => ?_) (fun h => ?_)
        | refine g_end T hC (by kernel_rfl) ?_
        | refine g_splitD (fun h => ?_) (fun h => ?_)
        | refine g_splitG rfl rfl rfl (fun h => ?_) (fun h => ?_)
        | refine g_splitP rfl rfl (fun h => ?_) (fun h => ?_)
        | (refine g_idx T hC rfl rfl rfl (Int.natCast_nonneg _) (map_at hx) rfl rfl ?_)
        | (refine g_cat hC rfl rfl (by (try simp only [size_app]); omega) rfl rfl ?_)
        | (refine g_append T 111 hC (rows := bytesR _) (rows2 := bytesR _) (rows3 := bytesR (_ ++ _)) (bytes := 1) rfl rfl rfl rfl (SrcS.str (by kernel_rfl)) (app_rows rfl) rfl rfl rfl (by kernel_rfl) (by (try simp only [bytesR_len, size_app]); omega) (by (try simp only [bytesR_len, size_app]); omega) rfl rfl rfl ?_)
        | refine g_call hC (hL) rfl rfl (LeSs.refl _) rfl rfl rfl ?_
        | (refine g_append T 112 hC (rows := bytesR _) (rows2 := bytesR _) (rows3 := bytesR (_ ++ _)) (bytes := 1) rfl rfl rfl rfl (SrcS.str (by kernel_rfl)) (app_rows rfl) rfl rfl rfl (by kernel_rfl) (by (try simp only [bytesR_len, size_app]); omega) (by (try simp only [bytesR_len, size_app]); omega) rfl rfl rfl ?_)
        | (refine g_append T 113 hC (rows := bytesR _) (rows2 := bytesR _) (rows3 := bytesR (_ ++ _)) (bytes := 1) rfl rfl rfl rfl (SrcS.str (by kernel_rfl)) (app_rows rfl) rfl rfl rfl (by kernel_rfl) (by (try simp only [bytesR_len, size_app]); omega) (by (try simp only [bytesR_len, size_app]); omega) rfl rfl rfl ?_)
      all_goals first
        | (exfalso; have := of_decide_eq_false h; rw [hxf] at this; simp only [List.map_cons, List.length_cons] at this; omega)
        | skip
      rw [hwi, hq]
      exact g_round (i + 1) (by omega) (mvo 101 113) (by omega) ⟨rfl, ⟨rfl, rfl, rfl, rfl, rfl, trivial⟩, ⟨rfl, rfl, trivial⟩, rfl, fun q hq => mvo_low (by omega) hq⟩
  have hge : ¬ i < d.types.length := by have := of_decide_eq_false h; omega
  rw [List.take_of_length_le (by rw [List.length_map]; omega), show q0 d ++ catB (d.types.map typT) = q1 d from rfl]
  clear h hge hi hlen
  repeat' first
    | refine g_go T hC true 400 rfl rfl ?_
    | refine g_cond rfl (fun h => ?_) (fun h => ?_)
    | refine g_end T hC (by kernel_rfl) ?_
    | refine g_splitD (fun h => ?_) (fun h => ?_)
    | refine g_splitG rfl rfl rfl (fun h => ?_) (fun h => ?_)
    | refine g_splitP rfl rfl (fun h => ?_) (fun h => ?_)
    | refine g_outE ?_
  rw [List.length_map]
  refine g_loop (fun i : Nat => i ≤ d.globals.length) (fun i => ([(1, .one (.bx 1001 0)), (4, .one (.ar 101)), (55, pS (.sl 2 (d.globals.map fieldR))), (56, I d.globals.length), (57, I i)],
      [(1001, some (Res.box ((descR d).map V.p))), (101, some (Res.arr 1 (bytesR (q1 d ++ catB ((d.globals.map varT).take i)))))])) (fun i => d.globals.length - i) hC
    0 (Nat.zero_le _) id ⟨rfl, ⟨rfl, rfl, rfl, rfl, rfl, trivial⟩, ⟨rfl, by rw [show catB ((d.globals.map varT).take 0) = (⟨#[]⟩ : ByteArray) from rfl, cat_nil]; rfl, trivial⟩, rfl, fun q hq => rfl⟩ ?_
  intro i hi
  refine g_len 55 rfl fun hlen => ?_
  rw [List.length_map] at hlen
  refine g_run' T hC true 200 rfl ?_
  refine g_cond rfl (fun h => ?_) (fun h => ?_)
  · have hlt : i < d.globals.length := by have := of_decide_eq_true h; omega
    clear h
    obtain ⟨x, hx⟩ := exists_at hlt
    have hm := List.mem_of_getElem? hx
    have hst := cat_step (f := varT) hx (q1 d)
    have hsz := cat_size (f := varT) hx
    have hwi : IntKind.i64.wrap ((i : Int) + 1) = ((i + 1 : Nat) : Int) := by rw [wrap64 (by omega)]; rfl
    generalize hg : catB ((d.globals.map varT).take i) = g at hst hsz
    have FF := F.globals.2 x hm
    have hq : q1 d ++ g ++ ((⟨#[118, 97, 114, 32]⟩ : ByteArray) ++ x.n ++ (⟨#[32]⟩ : ByteArray) ++ x.t ++ (⟨#[10]⟩ : Str)) = q1 d ++ catB ((d.globals.map varT).take (i + 1)) := by rw [hst]; rfl
    repeat' first
      | refine g_go T hC true 400 rfl rfl ?_
      | refine g_cond rfl (fun h => ?_) (fun h => ?_)
      | refine g_end T hC (by kernel_rfl) ?_
      | refine g_splitD (fun h => ?_) (fun h => ?_)
      | refine g_splitG rfl rfl rfl (fun h => ?_) (fun h => ?_)
      | refine g_splitP rfl rfl (fun h => ?_) (fun h => ?_)
      | (refine g_idx T hC rfl rfl rfl (Int.natCast_nonneg _) (map_at hx) rfl rfl ?_)
      | (refine g_cat hC rfl rfl (by (try simp only [size_app]); omega) rfl rfl ?_)
      | (refine g_append T 111 hC (rows := bytesR _) (rows2 := bytesR _) (rows3 := bytesR (_ ++ _)) (bytes := 1) rfl rfl rfl rfl (SrcS.str (by kernel_rfl)) (app_rows rfl) rfl rfl rfl (by kernel_rfl) (by (try simp only [bytesR_len, size_app]); omega) (by (try simp only [bytesR_len, size_app]); omega) rfl rfl rfl ?_)
    rw [hwi, hq]
    exact g_round (i + 1) (by omega) (mvo 101 111) (by omega) ⟨rfl, ⟨rfl, rfl, rfl, rfl, rfl, trivial⟩, ⟨rfl, rfl, trivial⟩, rfl, fun q hq => mvo_low (by omega) hq⟩
  have hge : ¬ i < d.globals.length := by have := of_decide_eq_false h; omega
  rw [List.take_of_length_le (by rw [List.length_map]; omega), show q1 d ++ catB (d.globals.map varT) = q2 d from rfl]
  clear h hge hi hlen
  repeat' first
    | refine g_go T hC true 400 rfl rfl ?_
    | refine g_cond rfl (fun h => ?_) (fun h => ?_)
    | refine g_end T hC (by kernel_rfl) ?_
    | refine g_splitD (fun h => ?_) (fun h => ?_)
    | refine g_splitG rfl rfl rfl (fun h => ?_) (fun h => ?_)
    | refine g_splitP rfl rfl (fun h => ?_) (fun h => ?_)
    | refine g_outE ?_
  rw [List.length_map]
  refine g_loop (fun i : Nat => i ≤ d.procs.length) (fun i => ([(1, .one (.bx 1001 0)), (4, .one (.ar 101)), (73, pS (.sl 5 (d.procs.map procR))), (74, I d.procs.length), (75, I i)],
      [(1001, some (Res.box ((descR d).map V.p))), (101, some (Res.arr 1 (bytesR (q2 d ++ catB ((d.procs.map procT).take i)))))])) (fun i => d.procs.length - i) hC
    0 (Nat.zero_le _) id ⟨rfl, ⟨rfl, rfl, rfl, rfl, rfl, trivial⟩, ⟨rfl, by rw [show catB ((d.procs.map procT).take 0) = (⟨#[]⟩ : ByteArray) from rfl, cat_nil]; rfl, trivial⟩, rfl, fun q hq => rfl⟩ ?_
  intro i hi
  refine g_len 73 rfl fun hlen => ?_
  rw [List.length_map] at hlen
  refine g_run' T hC true 200 rfl ?_
  refine g_cond rfl (fun h => ?_) (fun h => ?_)
  · have hlt : i < d.procs.length := by have := of_decide_eq_true h; omega
    clear h
    obtain ⟨x, hx⟩ := exists_at hlt
    have hm := List.mem_of_getElem? hx
    have hst := cat_step (f := procT) hx (q2 d)
    have hsz := cat_size (f := procT) hx
    have hwi : IntKind.i64.wrap ((i : Int) + 1) = ((i + 1 : Nat) : Int) := by rw [wrap64 (by omega)]; rfl
    generalize hg : catB ((d.procs.map procT).take i) = g at hst hsz
    have hP := aproc_ok x (F.procs x hm) (q2 d ++ g) (by simp only [size_app]; omega)
    have hq : q2 d ++ g ++ procT x = q2 d ++ catB ((d.procs.map procT).take (i + 1)) := hst.symm
    repeat' first
      | refine g_go T hC true 400 rfl rfl ?_
      | refine g_cond rfl (fun h => ?_) (fun h => ?_)
      | refine g_end T hC (by kernel_rfl) ?_
      | refine g_splitD (fun h => ?_) (fun h => ?_)
      | refine g_splitG rfl rfl rfl (fun h => ?_) (fun h => ?_)
      | refine g_splitP rfl rfl (fun h => ?_) (fun h => ?_)
      | (refine g_idx T hC rfl rfl rfl (Int.natCast_nonneg _) (map_at hx) rfl rfl ?_)
      | refine g_callR hC (hP) (nm [101, 111]) rfl rfl (LeSs.refl _) rfl rfl rfl rfl rfl rfl rfl rfl ?_
    rw [hwi, hq]
    exact g_round (i + 1) (by omega) (mvo 101 111) (by omega) ⟨rfl, ⟨rfl, rfl, rfl, rfl, rfl, trivial⟩, ⟨rfl, rfl, trivial⟩, rfl, fun q hq => mvo_low (by omega) hq⟩
  have hge : ¬ i < d.procs.length := by have := of_decide_eq_false h; omega
  rw [List.take_of_length_le (by rw [List.length_map]; omega), show q2 d ++ catB (d.procs.map procT) = q3 d from rfl]
  clear h hge hi hlen
  repeat' first
    | refine g_go T hC true 400 rfl rfl ?_
    | refine g_cond rfl (fun h => ?_) (fun h => ?_)
    | refine g_end T hC (by kernel_rfl) ?_
    | refine g_splitD (fun h => ?_) (fun h => ?_)
    | refine g_splitG rfl rfl rfl (fun h => ?_) (fun h => ?_)
    | refine g_splitP rfl rfl (fun h => ?_) (fun h => ?_)
    | refine g_outE ?_
  rw [List.length_map]
  refine g_loop (fun i : Nat => i ≤ d.measures.length) (fun i => ([(1, .one (.bx 1001 0)), (4, .one (.ar 101)), (84, pS (.sl 7 (d.measures.map measureR))), (85, I d.measures.length), (86, I i)],
      [(1001, some (Res.box ((descR d).map V.p))), (101, some (Res.arr 1 (bytesR (q3 d ++ catB ((d.measures.map measT).take i)))))])) (fun i => d.measures.length - i) hC
    0 (Nat.zero_le _) id ⟨rfl, ⟨rfl, rfl, rfl, rfl, rfl, trivial⟩, ⟨rfl, by rw [show catB ((d.measures.map measT).take 0) = (⟨#[]⟩ : ByteArray) from rfl, cat_nil]; rfl, trivial⟩, rfl, fun q hq => rfl⟩ ?_
  intro i hi
  refine g_len 84 rfl fun hlen => ?_
  rw [List.length_map] at hlen
  refine g_run' T hC true 200 rfl ?_
  refine g_cond rfl (fun h => ?_) (fun h => ?_)
  · have hlt : i < d.measures.length := by have := of_decide_eq_true h; omega
    clear h
    obtain ⟨x, hx⟩ := exists_at hlt
    have hm := List.mem_of_getElem? hx
    have hst := cat_step (f := measT) hx (q3 d)
    have hsz := cat_size (f := measT) hx
    have hwi : IntKind.i64.wrap ((i : Int) + 1) = ((i + 1 : Nat) : Int) := by rw [wrap64 (by omega)]; rfl
    generalize hg : catB ((d.measures.map measT).take i) = g at hst hsz
    have hmo := F.meas x hm
    unfold measOk at hmo
    simp only [Bool.and_eq_true, Bool.not_eq_true', decide_eq_false_iff_not] at hmo
    obtain ⟨⟨⟨⟨o1, o2⟩, o3⟩, o4⟩, o5⟩ := hmo
    have a1 := name_le o1
    have a2 := name_le o2
    have a3 := itoaB_size (n := x.z) (by omega) (by omega)
    have hI := itoa_ok x.z (by omega) (by omega)
    have hP := formula_ok (q3 d ++ g) ((⟨#[109, 101, 97, 115, 117, 114, 101, 32]⟩ : ByteArray) ++ x.n ++ (⟨#[40]⟩ : ByteArray) ++ x.t ++ (⟨#[41, 32, 110, 105, 108, 32]⟩ : ByteArray) ++ itoaB x.z) x.x o5 (by rw [show (measT x).size = (formT ((⟨#[109, 101, 97, 115, 117, 114, 101, 32]⟩ : ByteArray) ++ x.n ++ (⟨#[40]⟩ : ByteArray) ++ x.t ++ (⟨#[41, 32, 110, 105, 108, 32]⟩ : ByteArray) ++ itoaB x.z) x.x).size from rfl] at hsz; simp only [size_app]; omega)
    have hq : q3 d ++ g ++ formT ((⟨#[109, 101, 97, 115, 117, 114, 101, 32]⟩ : ByteArray) ++ x.n ++ (⟨#[40]⟩ : ByteArray) ++ x.t ++ (⟨#[41, 32, 110, 105, 108, 32]⟩ : ByteArray) ++ itoaB x.z) x.x = q3 d ++ catB ((d.measures.map measT).take (i + 1)) := hst.symm
    repeat' first
      | refine g_go T hC true 400 rfl rfl ?_
      | refine g_cond rfl (fun h => ?_) (fun h => ?_)
      | refine g_end T hC (by kernel_rfl) ?_
      | refine g_splitD (fun h => ?_) (fun h => ?_)
      | refine g_splitG rfl rfl rfl (fun h => ?_) (fun h => ?_)
      | refine g_splitP rfl rfl (fun h => ?_) (fun h => ?_)
      | (refine g_idx T hC rfl rfl rfl (Int.natCast_nonneg _) (map_at hx) rfl rfl ?_)
      | refine g_call hC (hI) rfl rfl (LeSs.refl _) rfl rfl rfl ?_
      | (refine g_cat hC rfl rfl (by (try simp only [size_app]); omega) rfl rfl ?_)
      | refine g_callR hC (hP) (nm [101, 111]) rfl rfl (LeSs.refl _) rfl rfl rfl rfl rfl rfl rfl rfl ?_
    rw [hwi, hq]
    exact g_round (i + 1) (by omega) (mvo 101 111) (by omega) ⟨rfl, ⟨rfl, rfl, rfl, rfl, rfl, trivial⟩, ⟨rfl, rfl, trivial⟩, rfl, fun q hq => mvo_low (by omega) hq⟩
  have hge : ¬ i < d.measures.length := by have := of_decide_eq_false h; omega
  rw [List.take_of_length_le (by rw [List.length_map]; omega), show q3 d ++ catB (d.measures.map measT) = q4 d from rfl]
  clear h hge hi hlen
  repeat' first
    | refine g_go T hC true 400 rfl rfl ?_
    | refine g_cond rfl (fun h => ?_) (fun h => ?_)
    | refine g_end T hC (by kernel_rfl) ?_
    | refine g_splitD (fun h => ?_) (fun h => ?_)
    | refine g_splitG rfl rfl rfl (fun h => ?_) (fun h => ?_)
    | refine g_splitP rfl rfl (fun h => ?_) (fun h => ?_)
    | refine g_outE ?_
  rw [List.length_map]
  refine g_loop (fun i : Nat => i ≤ d.invs.length) (fun i => ([(1, .one (.bx 1001 0)), (4, .one (.ar 101)), (108, pS (.sl 6 (d.invs.map invR))), (109, I d.invs.length), (110, I i)],
      [(1001, some (Res.box ((descR d).map V.p))), (101, some (Res.arr 1 (bytesR (q4 d ++ catB ((d.invs.map invT).take i)))))])) (fun i => d.invs.length - i) hC
    0 (Nat.zero_le _) id ⟨rfl, ⟨rfl, rfl, rfl, rfl, rfl, trivial⟩, ⟨rfl, by rw [show catB ((d.invs.map invT).take 0) = (⟨#[]⟩ : ByteArray) from rfl, cat_nil]; rfl, trivial⟩, rfl, fun q hq => rfl⟩ ?_
  intro i hi
  refine g_len 108 rfl fun hlen => ?_
  rw [List.length_map] at hlen
  refine g_run' T hC true 200 rfl ?_
  refine g_cond rfl (fun h => ?_) (fun h => ?_)
  · have hlt : i < d.invs.length := by have := of_decide_eq_true h; omega
    clear h
    obtain ⟨x, hx⟩ := exists_at hlt
    have hm := List.mem_of_getElem? hx
    have hst := cat_step (f := invT) hx (q4 d)
    have hsz := cat_size (f := invT) hx
    have hwi : IntKind.i64.wrap ((i : Int) + 1) = ((i + 1 : Nat) : Int) := by rw [wrap64 (by omega)]; rfl
    generalize hg : catB ((d.invs.map invT).take i) = g at hst hsz
    have hmo := F.invs x hm
    unfold invOk at hmo
    simp only [Bool.and_eq_true] at hmo
    obtain ⟨⟨o1, o2⟩, o5⟩ := hmo
    have a1 := name_le o1
    have a2 := isOpen_size o2
    have hiv : invT x = formT ((⟨#[105, 110, 118, 97, 114, 105, 97, 110, 116, 32]⟩ : ByteArray) ++ x.n ++ (if x.t = (⟨#[]⟩ : ByteArray) then (⟨#[]⟩ : ByteArray) else (⟨#[40]⟩ : ByteArray) ++ x.t ++ (⟨#[41]⟩ : ByteArray))) x.x := rfl
    by_cases ht0 : x.t = (⟨#[]⟩ : ByteArray)
    · rw [if_pos ht0, cat_nil] at hiv
      rw [hiv] at hst hsz
      have hP := formula_ok (q4 d ++ g) ((⟨#[105, 110, 118, 97, 114, 105, 97, 110, 116, 32]⟩ : ByteArray) ++ x.n) x.x o5 (by simp only [size_app]; omega)
      have hq : q4 d ++ g ++ formT ((⟨#[105, 110, 118, 97, 114, 105, 97, 110, 116, 32]⟩ : ByteArray) ++ x.n) x.x = q4 d ++ catB ((d.invs.map invT).take (i + 1)) := hst.symm
      repeat' first
        | refine g_go T hC true 400 rfl rfl ?_
        | refine g_cond rfl (fun h => ?_) (fun h => ?_)
        | refine g_end T hC (by kernel_rfl) ?_
        | refine g_splitD (fun h => ?_) (fun h => ?_)
        | refine g_splitG rfl rfl rfl (fun h => ?_) (fun h => ?_)
        | refine g_splitP rfl rfl (fun h => ?_) (fun h => ?_)
        | (refine g_idx T hC rfl rfl rfl (Int.natCast_nonneg _) (map_at hx) rfl rfl ?_)
        | (refine g_cat hC rfl rfl (by (try simp only [size_app]); omega) rfl rfl ?_)
        | refine g_callR hC (hP) (nm [101, 111]) rfl rfl (LeSs.refl _) rfl rfl rfl rfl rfl rfl rfl rfl ?_
      all_goals first
        | (exfalso; clear hP; simp_all; done)
        | skip
      rw [hwi, hq]
      exact g_round (i + 1) (by omega) (mvo 101 111) (by omega) ⟨rfl, ⟨rfl, rfl, rfl, rfl, rfl, trivial⟩, ⟨rfl, rfl, trivial⟩, rfl, fun q hq => mvo_low (by omega) hq⟩
    · rw [if_neg ht0] at hiv
      rw [hiv] at hst hsz
      have hP := formula_ok (q4 d ++ g) ((⟨#[105, 110, 118, 97, 114, 105, 97, 110, 116, 32]⟩ : ByteArray) ++ x.n ++ ((⟨#[40]⟩ : ByteArray) ++ x.t ++ (⟨#[41]⟩ : ByteArray))) x.x o5 (by simp only [size_app]; omega)
      have hq : q4 d ++ g ++ formT ((⟨#[105, 110, 118, 97, 114, 105, 97, 110, 116, 32]⟩ : ByteArray) ++ x.n ++ ((⟨#[40]⟩ : ByteArray) ++ x.t ++ (⟨#[41]⟩ : ByteArray))) x.x = q4 d ++ catB ((d.invs.map invT).take (i + 1)) := hst.symm
      repeat' first
        | refine g_go T hC true 400 rfl rfl ?_
        | refine g_cond rfl (fun h => ?_) (fun h => ?_)
        | refine g_end T hC (by kernel_rfl) ?_
        | refine g_splitD (fun h => ?_) (fun h => ?_)
        | refine g_splitG rfl rfl rfl (fun h => ?_) (fun h => ?_)
        | refine g_splitP rfl rfl (fun h => ?_) (fun h => ?_)
        | (refine g_idx T hC rfl rfl rfl (Int.natCast_nonneg _) (map_at hx) rfl rfl ?_)
        | (refine g_cat hC rfl rfl (by (try simp only [size_app]); omega) rfl rfl ?_)
        | refine g_callR hC (hP) (nm [101, 111]) rfl rfl (LeSs.refl _) rfl rfl rfl rfl rfl rfl rfl rfl ?_
      all_goals first
        | (exfalso; clear hP; simp_all; done)
        | skip
      rw [hwi, hq]
      exact g_round (i + 1) (by omega) (mvo 101 111) (by omega) ⟨rfl, ⟨rfl, rfl, rfl, rfl, rfl, trivial⟩, ⟨rfl, rfl, trivial⟩, rfl, fun q hq => mvo_low (by omega) hq⟩
  have hge : ¬ i < d.invs.length := by have := of_decide_eq_false h; omega
  rw [List.take_of_length_le (by rw [List.length_map]; omega), show q4 d ++ catB (d.invs.map invT) = q5 d from rfl]
  clear h hge hi hlen
  repeat' first
    | refine g_go T hC true 400 rfl rfl ?_
    | refine g_cond rfl (fun h => ?_) (fun h => ?_)
    | refine g_end T hC (by kernel_rfl) ?_
    | refine g_splitD (fun h => ?_) (fun h => ?_)
    | refine g_splitG rfl rfl rfl (fun h => ?_) (fun h => ?_)
    | refine g_splitP rfl rfl (fun h => ?_) (fun h => ?_)
    | refine g_outE ?_
  rw [List.length_map]
  refine g_loop (fun i : Nat => i ≤ d.pots.length) (fun i => ([(1, .one (.bx 1001 0)), (4, .one (.ar 101)), (133, pS (.sl 5 (d.pots.map potR))), (134, I d.pots.length), (135, I i)],
      [(1001, some (Res.box ((descR d).map V.p))), (101, some (Res.arr 1 (bytesR (q5 d ++ catB ((d.pots.map potT).take i)))))])) (fun i => d.pots.length - i) hC
    0 (Nat.zero_le _) id ⟨rfl, ⟨rfl, rfl, rfl, rfl, rfl, trivial⟩, ⟨rfl, by rw [show catB ((d.pots.map potT).take 0) = (⟨#[]⟩ : ByteArray) from rfl, cat_nil]; rfl, trivial⟩, rfl, fun q hq => rfl⟩ ?_
  intro i hi
  refine g_len 133 rfl fun hlen => ?_
  rw [List.length_map] at hlen
  refine g_run' T hC true 200 rfl ?_
  refine g_cond rfl (fun h => ?_) (fun h => ?_)
  · have hlt : i < d.pots.length := by have := of_decide_eq_true h; omega
    clear h
    obtain ⟨x, hx⟩ := exists_at hlt
    have hm := List.mem_of_getElem? hx
    have hst := cat_step (f := potT) hx (q5 d)
    have hsz := cat_size (f := potT) hx
    have hwi : IntKind.i64.wrap ((i : Int) + 1) = ((i + 1 : Nat) : Int) := by rw [wrap64 (by omega)]; rfl
    generalize hg : catB ((d.pots.map potT).take i) = g at hst hsz
    have hmo := F.pots x hm
    unfold potOk at hmo
    simp only [Bool.and_eq_true] at hmo
    obtain ⟨o2, o5⟩ := hmo
    have a2 := isOpen_size o2
    have hT := trimSuffix_ok ((⟨#[112, 111, 116, 101, 110, 116, 105, 97, 108, 32]⟩ : ByteArray) ++ x.t) (⟨#[32]⟩ : ByteArray) ((⟨#[112, 111, 116, 101, 110, 116, 105, 97, 108]⟩ : ByteArray) ++ (if x.t = (⟨#[]⟩ : ByteArray) then (⟨#[]⟩ : ByteArray) else (⟨#[32]⟩ : ByteArray) ++ x.t)) (by simp only [size_app]; omega) (trim_pot x.t o2)
    have hP := formula_ok (q5 d ++ g) ((⟨#[112, 111, 116, 101, 110, 116, 105, 97, 108]⟩ : ByteArray) ++ (if x.t = (⟨#[]⟩ : ByteArray) then (⟨#[]⟩ : ByteArray) else (⟨#[32]⟩ : ByteArray) ++ x.t)) x.x o5 (by rw [show (potT x).size = (formT ((⟨#[112, 111, 116, 101, 110, 116, 105, 97, 108]⟩ : ByteArray) ++ (if x.t = (⟨#[]⟩ : ByteArray) then (⟨#[]⟩ : ByteArray) else (⟨#[32]⟩ : ByteArray) ++ x.t)) x.x).size from rfl] at hsz; simp only [size_app]; omega)
    have hq : q5 d ++ g ++ formT ((⟨#[112, 111, 116, 101, 110, 116, 105, 97, 108]⟩ : ByteArray) ++ (if x.t = (⟨#[]⟩ : ByteArray) then (⟨#[]⟩ : ByteArray) else (⟨#[32]⟩ : ByteArray) ++ x.t)) x.x = q5 d ++ catB ((d.pots.map potT).take (i + 1)) := hst.symm
    repeat' first
      | refine g_go T hC true 400 rfl rfl ?_
      | refine g_cond rfl (fun h => ?_) (fun h => ?_)
      | refine g_end T hC (by kernel_rfl) ?_
      | refine g_splitD (fun h => ?_) (fun h => ?_)
      | refine g_splitG rfl rfl rfl (fun h => ?_) (fun h => ?_)
      | refine g_splitP rfl rfl (fun h => ?_) (fun h => ?_)
      | (refine g_idx T hC rfl rfl rfl (Int.natCast_nonneg _) (map_at hx) rfl rfl ?_)
      | (refine g_cat hC rfl rfl (by (try simp only [size_app]); omega) rfl rfl ?_)
      | refine g_call hC (hT) rfl rfl (LeSs.refl _) rfl rfl rfl ?_
      | refine g_callR hC (hP) (nm [101, 111]) rfl rfl (LeSs.refl _) rfl rfl rfl rfl rfl rfl rfl rfl ?_
    rw [hwi, hq]
    exact g_round (i + 1) (by omega) (mvo 101 111) (by omega) ⟨rfl, ⟨rfl, rfl, rfl, rfl, rfl, trivial⟩, ⟨rfl, rfl, trivial⟩, rfl, fun q hq => mvo_low (by omega) hq⟩
  have hge : ¬ i < d.pots.length := by have := of_decide_eq_false h; omega
  rw [List.take_of_length_le (by rw [List.length_map]; omega), show q5 d ++ catB (d.pots.map potT) = q6 d from rfl]
  clear h hge hi hlen
  repeat' first
    | refine g_go T hC true 400 rfl rfl ?_
    | refine g_cond rfl (fun h => ?_) (fun h => ?_)
    | refine g_end T hC (by kernel_rfl) ?_
    | refine g_splitD (fun h => ?_) (fun h => ?_)
    | refine g_splitG rfl rfl rfl (fun h => ?_) (fun h => ?_)
    | refine g_splitP rfl rfl (fun h => ?_) (fun h => ?_)
    | refine g_outE ?_
  rw [List.length_map]
  refine g_loop (fun i : Nat => i ≤ d.bounds.length) (fun i => ([(1, .one (.bx 1001 0)), (4, .one (.ar 101)), (149, pS (.sl 5 (d.bounds.map boundR))), (150, I d.bounds.length), (151, I i)],
      [(1001, some (Res.box ((descR d).map V.p))), (101, some (Res.arr 1 (bytesR (q6 d ++ catB ((d.bounds.map boundT).take i)))))])) (fun i => d.bounds.length - i) hC
    0 (Nat.zero_le _) id ⟨rfl, ⟨rfl, rfl, rfl, rfl, rfl, trivial⟩, ⟨rfl, by rw [show catB ((d.bounds.map boundT).take 0) = (⟨#[]⟩ : ByteArray) from rfl, cat_nil]; rfl, trivial⟩, rfl, fun q hq => rfl⟩ ?_
  intro i hi
  refine g_len 149 rfl fun hlen => ?_
  rw [List.length_map] at hlen
  refine g_run' T hC true 200 rfl ?_
  refine g_cond rfl (fun h => ?_) (fun h => ?_)
  · have hlt : i < d.bounds.length := by have := of_decide_eq_true h; omega
    clear h
    obtain ⟨x, hx⟩ := exists_at hlt
    have hm := List.mem_of_getElem? hx
    have hst := cat_step (f := boundT) hx (q6 d)
    have hsz := cat_size (f := boundT) hx
    have hwi : IntKind.i64.wrap ((i : Int) + 1) = ((i + 1 : Nat) : Int) := by rw [wrap64 (by omega)]; rfl
    generalize hg : catB ((d.bounds.map boundT).take i) = g at hst hsz
    have hmo := F.bounds x hm
    unfold boundOk at hmo
    simp only [Bool.and_eq_true] at hmo
    obtain ⟨o1, o5⟩ := hmo
    have a1 := name_le o1
    have hP := formula_ok (q6 d ++ g) ((⟨#[98, 111, 117, 110, 100, 32]⟩ : ByteArray) ++ x.p) x.x o5 (by rw [show (boundT x).size = (formT ((⟨#[98, 111, 117, 110, 100, 32]⟩ : ByteArray) ++ x.p) x.x).size from rfl] at hsz; simp only [size_app]; omega)
    have hq : q6 d ++ g ++ formT ((⟨#[98, 111, 117, 110, 100, 32]⟩ : ByteArray) ++ x.p) x.x = q6 d ++ catB ((d.bounds.map boundT).take (i + 1)) := hst.symm
    repeat' first
      | refine g_go T hC true 400 rfl rfl ?_
      | refine g_cond rfl (fun h => ?_) (fun h => ?_)
      | refine g_end T hC (by kernel_rfl) ?_
      | refine g_splitD (fun h => ?_) (fun h => ?_)
      | refine g_splitG rfl rfl rfl (fun h => ?_) (fun h => ?_)
      | refine g_splitP rfl rfl (fun h => ?_) (fun h => ?_)
      | (refine g_idx T hC rfl rfl rfl (Int.natCast_nonneg _) (map_at hx) rfl rfl ?_)
      | (refine g_cat hC rfl rfl (by (try simp only [size_app]); omega) rfl rfl ?_)
      | refine g_callR hC (hP) (nm [101, 111]) rfl rfl (LeSs.refl _) rfl rfl rfl rfl rfl rfl rfl rfl ?_
    rw [hwi, hq]
    exact g_round (i + 1) (by omega) (mvo 101 111) (by omega) ⟨rfl, ⟨rfl, rfl, rfl, rfl, rfl, trivial⟩, ⟨rfl, rfl, trivial⟩, rfl, fun q hq => mvo_low (by omega) hq⟩
  have hge : ¬ i < d.bounds.length := by have := of_decide_eq_false h; omega
  rw [List.take_of_length_le (by rw [List.length_map]; omega), show q6 d ++ catB (d.bounds.map boundT) = q7 d from rfl]
  clear h hge hi hlen
  have hz7 : (q7 d).size ≤ 2000000 := by have := F.size; rw [descT_eq, size_app] at this; omega
  repeat' first
    | refine g_go T hC true 400 rfl rfl ?_
    | refine g_cond rfl (fun h => ?_) (fun h => ?_)
    | refine g_end T hC (by kernel_rfl) ?_
    | refine g_splitD (fun h => ?_) (fun h => ?_)
    | refine g_splitG rfl rfl rfl (fun h => ?_) (fun h => ?_)
    | refine g_splitP rfl rfl (fun h => ?_) (fun h => ?_)
    | refine g_outE ?_
    | (refine g_append T 121 hC (rows := bytesR _) (rows2 := bytesR _) (rows3 := bytesR (_ ++ _)) (bytes := 1) rfl rfl rfl rfl (SrcS.str (by kernel_rfl)) (app_rows rfl) rfl rfl rfl (by kernel_rfl) (by (try simp only [bytesR_len, size_app]); omega) (by (try simp only [bytesR_len, size_app]); omega) rfl rfl rfl ?_)
    | refine g_callR hC (hZ) (nm [121]) rfl rfl (LeSs.refl _) rfl rfl rfl rfl rfl rfl rfl rfl ?_
  exact g_fin ⟨.inl rfl, id, _, rfl, .refl _, trivial, rfl, rfl⟩
end Hw.Z
