/- The engine, part BK: parts of owned arrays. -/
import Derived.Test.YtnijeifpjjeccaaGreatDoorC2
import Derived.Test.YtnijeifpjjeccaaGreatDoorC1
import Derived.Sort.Grow
import Derived.Shelf.Strings.BuilderK
set_option linter.unusedVariables false
set_option linter.unusedSimpArgs false
namespace Hw
open Go

section
variable {P : Program} {d : Option Nat} {ty : TypeId} {ps : String} {af : Array Edge} {g : Option (Nat × Bool)} {x y z : Operand} {t : TypeId}
theorem rep_sv {M : Mem} {ρ : Nat → Value} {w : World} {id e : Nat} {ids : List Nat} {rows : List (List PC)} {l h : Nat} {a : Option Addr} {cap : Nat} (hr : HoldsR M ρ w id (.vw ids e rows)) (hv : ρ id = .slice a rows.length cap) (h1 : l ≤ h) (h2 : h ≤ rows.length) :
    RepV M ρ (.sv id (l * e) (h - l)) (sliced a l h cap e) := by
  obtain ⟨a', cap', e1, e2, e3, _, e4⟩ := hr
  rw [hv] at e1
  simp only [Value.slice.injEq] at e1
  obtain ⟨rfl, _, rfl⟩ := e1
  simp only [RepV]
  by_cases hc : cap = l
  · left
    exact ⟨by omega, a, cap - l, by simp only [sliced, if_pos hc]; congr 1; omega⟩
  · rcases e4 with ⟨rfl, rfl⟩ | ⟨b, o, cs, el, fz, rfl, _⟩
    · omega
    · right
      exact ⟨b, o, _, cap, cap - l, hv, by simp [sliced, if_neg hc, Addr.add], by omega, by omega⟩
theorem L_svLH {id e : Nat} {ids : List Nat} {rows : List (List PC)} {i j : Int} {k k' : IntKind} {el : TypeId} (hx : okc x (.one (.ar id))) (hy : okc y (Kk k i)) (hz : okc z (Kk k' j)) (he : elemSz P t = some (el, e)) (h0 : 0 ≤ i) (h1 : i ≤ j) (h2 : j ≤ rows.length) :
    Snd P ⟨d, .slice t x (some y) (some z) none, ty, ps, af, g⟩ (rq x (.one (.ar id)) ++ rq y (Kk k i) ++ rq z (Kk k' j)) [(id, .vw ids e rows)] [] (.one (.sv id (i.toNat * e) (j.toNat - i.toNat))) [] :=
  snd_quiet fun C st M ρ b w hH hs hT => by
    rw [okS_append, okS_append] at hs
    have e1 := hH.evS (ev_of hx hs.1.1)
    have e2 := hH.k (ev_of hy hs.1.2)
    have e3 := hH.k (ev_of hz hs.2)
    simp only [RepS, RepV] at e1
    have hR := hH.tabs.res id _ hT.1
    obtain ⟨a, cap, f1, f2, f3, _⟩ := hH.tabs.res id _ hT.1
    obtain ⟨hu, hsz⟩ := elem_of he
    refine ⟨sliced a i.toNat j.toNat cap e, ?_, by simp only [RepS]; exact rep_sv hR f1 (by omega) (by omega)⟩
    simp only [execOp, e1.1, f1, e2, e3, Option.map_none, Option.map_some, Sem.run_bind, run_sliceAt_slice w t _ _ _ _ hu, run_slice_lh w t a rows.length cap hu k k' i j h0 h1 (by omega), hsz, Result.andThen_ok, Sem.run_pure]
theorem L_svH {id e : Nat} {ids : List Nat} {rows : List (List PC)} {j : Int} {k' : IntKind} {el : TypeId} (hx : okc x (.one (.ar id))) (hz : okc z (Kk k' j)) (he : elemSz P t = some (el, e)) (h0 : 0 ≤ j) (h2 : j ≤ rows.length) :
    Snd P ⟨d, .slice t x none (some z) none, ty, ps, af, g⟩ (rq x (.one (.ar id)) ++ rq z (Kk k' j)) [(id, .vw ids e rows)] [] (.one (.sv id 0 j.toNat)) [] :=
  snd_quiet fun C st M ρ b w hH hs hT => by
    rw [okS_append] at hs
    have e1 := hH.evS (ev_of hx hs.1)
    have e3 := hH.k (ev_of hz hs.2)
    simp only [RepS, RepV] at e1
    have hR := hH.tabs.res id _ hT.1
    obtain ⟨a, cap, f1, f2, f3, _⟩ := hH.tabs.res id _ hT.1
    obtain ⟨hu, hsz⟩ := elem_of he
    have := rep_sv hR f1 (Nat.zero_le j.toNat) (by omega)
    rw [Nat.zero_mul, Nat.sub_zero] at this
    refine ⟨sliced a 0 j.toNat cap e, ?_, by simp only [RepS]; exact this⟩
    simp only [execOp, e1.1, f1, e3, Option.map_none, Option.map_some, Sem.run_bind, run_sliceAt_slice w t _ _ _ _ hu, run_slice_h w t a rows.length cap hu k' j h0 (by omega), hsz, Result.andThen_ok, Sem.run_pure]
theorem L_svL {id e : Nat} {ids : List Nat} {rows : List (List PC)} {i : Int} {k : IntKind} {el : TypeId} (hx : okc x (.one (.ar id))) (hy : okc y (Kk k i)) (he : elemSz P t = some (el, e)) (h0 : 0 ≤ i) (h2 : i ≤ rows.length) :
    Snd P ⟨d, .slice t x (some y) none none, ty, ps, af, g⟩ (rq x (.one (.ar id)) ++ rq y (Kk k i)) [(id, .vw ids e rows)] [] (.one (.sv id (i.toNat * e) (rows.length - i.toNat))) [] :=
  snd_quiet fun C st M ρ b w hH hs hT => by
    rw [okS_append] at hs
    have e1 := hH.evS (ev_of hx hs.1)
    have e2 := hH.k (ev_of hy hs.2)
    simp only [RepS, RepV] at e1
    have hR := hH.tabs.res id _ hT.1
    obtain ⟨a, cap, f1, f2, f3, _⟩ := hH.tabs.res id _ hT.1
    obtain ⟨hu, hsz⟩ := elem_of he
    refine ⟨sliced a i.toNat rows.length cap e, ?_, by simp only [RepS]; exact rep_sv hR f1 (by omega) (Nat.le_refl _)⟩
    simp only [execOp, e1.1, f1, e2, Option.map_none, Option.map_some, Sem.run_bind, run_sliceAt_slice w t _ _ _ _ hu, run_slice_l w t a rows.length cap hu k i h0 (by omega), hsz, Result.andThen_ok, Sem.run_pure]
theorem sv_slice {M : Mem} {ρ : Nat → Value} {id kk m : Nat} {v : Value} (h : RepV M ρ (.sv id kk m) v) : ∃ a c, v = .slice a m c := by
  simp only [RepV] at h
  rcases h with ⟨rfl, a, c, h⟩ | ⟨b, o, N, cap, c, _, h, _⟩
  · exact ⟨a, c, h⟩
  · exact ⟨_, c, h⟩
theorem L_len_sv {id kk m : Nat} {as' : Array TypeId} {el : TypeId} {n : Nat} (hx : okc x (.one (.sv id kk m))) (ha : as'[0]? = some t) (h : elemSz P t = some (el, n)) :
    Snd P ⟨d, .call ⟨.builtin .len, #[x], as'⟩, ty, ps, af, g⟩ (rq x (.one (.sv id kk m))) [] [] (I m) [] :=
  snd_quiet fun C st M ρ a w hH h1 ht => by
    have e' := hH.evS (ev_of hx h1)
    simp only [RepS] at e'
    obtain ⟨a', c, h3⟩ := sv_slice e'
    obtain ⟨ii, hu, hinf, hsz⟩ := elemSz_spec h
    exact ⟨.int .i64 m, by simp [execOp, resolve, invoke, builtin, Builtin.len_, ha, h3, run_underlying hu, goInt], repK _ _⟩
theorem L_index_sv {id kk m e : Nat} {i : Int} {k : IntKind} {el : TypeId} (hx : okc x (.one (.sv id kk m))) (hy : okc y (Kk k i)) (h : elemSz P t = some (el, e)) (h0 : 0 ≤ i) (hi : i < m) :
    Snd P ⟨d, .indexAddr t x y, ty, ps, af, g⟩ (rq x (.one (.sv id kk m)) ++ rq y (Kk k i)) [] [] (.one (.el id (kk + i.toNat * e))) [] :=
  snd_quiet fun C st M ρ a w hH h1 ht => by
    rw [okS_append] at h1
    have e1 := hH.evS (ev_of hx h1.1)
    have e2 := hH.k (ev_of hy h1.2)
    simp only [RepS, RepV] at e1
    obtain ⟨ii, hu, hinf, hsz⟩ := elemSz_spec h
    rcases e1 with ⟨rfl, _⟩ | ⟨b, o, N, cap, c, f1, f2, _⟩
    · omega
    · refine ⟨.pointer (some ⟨b, o + kk + i.toNat * e, none⟩), ?_, by simp only [RepS, RepV]; exact ⟨b, o, N, cap, f1, by rw [Nat.add_assoc]⟩⟩
      simp only [execOp, f2, e2, Instr.indexAt, asIntOf, Sem.run_bind, Sem.run_pure, Result.andThen_ok, run_underlying hu]
      rw [if_pos ⟨h0, hi⟩]
      simp only [Sem.run_bind, Sem.run_pure, Result.andThen_ok, run_sizeOf hinf, add_addr, hsz]
/-- What is appended: a part of an owned array. -/
theorem SrcW.sv {e : Nat} {tx el : TypeId} {id l m : Nat} {ids : List Nat} {rows : List (List PC)} (h : elemSz P tx = some (el, e)) (hl : l + m ≤ rows.length) : SrcW P e tx (.one (.sv id (l * e) m)) [(id, .vw ids e rows)] ((rows.drop l).take m) ids := by
  intro C st M ρ a w v hH hr ht
  obtain ⟨_, hu, _, _⟩ := elemSz_spec h
  have hlen : ((rows.drop l).take m).length = m := by rw [List.length_take, List.length_drop]; omega
  obtain ⟨b, cap, h1, h2, h3, hle, h4⟩ := hH.tabs.res id _ ht.1
  have hle' : ∀ r ∈ (rows.drop l).take m, r.length = e := fun r hr => hle r (List.mem_of_mem_drop (List.mem_of_mem_take hr))
  simp only [RepS, RepV] at hr
  rw [hlen]
  rcases hr with ⟨rfl, a0, c0, rfl⟩ | ⟨b0, o0, N, cap0, c0, f1, rfl, f3, f4⟩
  · refine ⟨[], ?_, by simp, by simp⟩
    cases a0 with
    | none => exact Src.ofNil w hu c0
    | some ad => exact Src.ofSlice w hu ad 0 c0 [] (by simp) (by simp) (by simp)
  · rcases h4 with ⟨rfl, hc⟩ | ⟨b', o, cs, el', fz, rfl, h6, _, _, h8⟩
    · rw [h1] at f1; simp at f1
    · rw [h1] at f1
      simp only [Value.slice.injEq, Option.some.injEq, Addr.mk.injEq] at f1
      obtain ⟨⟨rfl, rfl, _⟩, _, rfl⟩ := f1
      have hfl := flat_len hle'
      rw [hlen] at hfl
      have hat : ∀ j x, ((rows.drop l).take m).flatten[j]? = some x → rows.flatten[l * e + j]? = some x := fun j x hj => by
        obtain ⟨i, c, row, g1, g2, g3, g4⟩ := flat_get hle' hj
        have him : i < m := by have := (List.getElem?_eq_some_iff.1 g3).1; omega
        rw [List.getElem?_take, if_pos him, List.getElem?_drop] at g3
        have := flat_at hle (i := l + i) (c := c) g2
        rw [g3, Nat.add_mul] at this
        rw [g1, ← Nat.add_assoc, this]; exact g4
      obtain ⟨us, h9, h10⟩ := repVs_of (M := M) (ρ := ρ) (vs := ((rows.drop l).take m).flatten.map (toV ids)) (g := fun j => cs[o + (l * e + j)]?) fun j u hj => by
        rw [List.getElem?_map, Option.map_eq_some_iff] at hj
        obtain ⟨p, hp, rfl⟩ := hj
        exact h8 _ p (hat j p hp)
      refine ⟨us, Src.ofSlice w hu _ _ c0 us (by rw [h9.length, List.length_map, hfl]) (fun j u hj => by rw [add_addr]; have := h10 j u hj; simp only [← Nat.add_assoc] at this; simp [World.cell?, h6, this]) h9.one, fun j p hj => ?_, hle'⟩
      exact repVs_at h9 (m := j) (by rw [List.getElem?_map, hj]; rfl)
end
section
variable {P : Program} {C : Ctx} {k : List Frm} {n : Nat} {sl : Slots} {tab : Tab} {Q : Exit → St → Prop} {all : Array Oper} {rest : List Oper}
theorem g_svLH (T : Ty P) {d : Nat} {x y z : Operand} {t ty : TypeId} {ps : String} {af : Array Edge} {g0 : Option (Nat × Bool)} {gs : Slots} {md : Mode} (hC : C.low) {id e : Nat} {ids : List Nat} {rows : List (List PC)} {i j : Int} {k0 k1 : IntKind} {el : TypeId}
    (hx : ev sl x = some (.one (.ar id))) (hy : ev sl y = some (Kk k0 i)) (hz : ev sl z = some (Kk k1 j)) (hT : tg tab id = some (.vw ids e rows)) (he : T.es t = some (el, e)) (h0 : 0 ≤ i) (h1 : i ≤ j) (h2 : j ≤ rows.length) (hm : metL all sl g0 = some gs) (hd : Nat.blt d n = true)
    (g : Goal P C (.ops all rest (nx md ⟨some d, gs ++ (rq x (.one (.ar id)) ++ rq y (Kk k0 i) ++ rq z (Kk k1 j)), [(id, .vw ids e rows)], [], .one (.sv id (i.toNat * e) (j.toNat - i.toNat)), []⟩)) k n ((d, .one (.sv id (i.toNat * e) (j.toNat - i.toNat))) :: sl) tab Q) :
    Goal P C (.ops all (⟨some d, .slice t x (some y) (some z) none, ty, ps, af, g0⟩ :: rest) md) k n sl tab Q := by
  have e1 := of_ev (st := ⟨n, sl, tab⟩) hx
  have e2 := of_ev (st := ⟨n, sl, tab⟩) hy
  have e3 := of_ev (st := ⟨n, sl, tab⟩) hz
  have := metL_step hm (L_svLH (P := P) (ids := ids) (rows := rows) (ty := ty) (ps := ps) (af := af) (g := g0) (d := some d) (t := t) e1.1 e2.1 e3.1 (T.es_ok _ _ he) h0 h1 h2) (n := n) (tab := tab)
  exact g_law (L := ⟨some d, gs ++ (rq x (.one (.ar id)) ++ rq y (Kk k0 i) ++ rq z (Kk k1 j)), [(id, .vw ids e rows)], [], .one (.sv id (i.toNat * e) (j.toNat - i.toNat)), []⟩) hC this.1 rfl ⟨by rw [okS_append, okS_append, okS_append]; exact ⟨this.2, ⟨e1.2, e2.2⟩, e3.2⟩, ⟨hT, trivial⟩, rfl, hd⟩ g
theorem g_svH (T : Ty P) {d : Nat} {x z : Operand} {t ty : TypeId} {ps : String} {af : Array Edge} {g0 : Option (Nat × Bool)} {gs : Slots} {md : Mode} (hC : C.low) {id e : Nat} {ids : List Nat} {rows : List (List PC)} {j : Int} {k1 : IntKind} {el : TypeId}
    (hx : ev sl x = some (.one (.ar id))) (hz : ev sl z = some (Kk k1 j)) (hT : tg tab id = some (.vw ids e rows)) (he : T.es t = some (el, e)) (h0 : 0 ≤ j) (h2 : j ≤ rows.length) (hm : metL all sl g0 = some gs) (hd : Nat.blt d n = true)
    (g : Goal P C (.ops all rest (nx md ⟨some d, gs ++ (rq x (.one (.ar id)) ++ rq z (Kk k1 j)), [(id, .vw ids e rows)], [], .one (.sv id 0 j.toNat), []⟩)) k n ((d, .one (.sv id 0 j.toNat)) :: sl) tab Q) :
    Goal P C (.ops all (⟨some d, .slice t x none (some z) none, ty, ps, af, g0⟩ :: rest) md) k n sl tab Q := by
  have e1 := of_ev (st := ⟨n, sl, tab⟩) hx
  have e3 := of_ev (st := ⟨n, sl, tab⟩) hz
  have := metL_step hm (L_svH (P := P) (ids := ids) (rows := rows) (ty := ty) (ps := ps) (af := af) (g := g0) (d := some d) (t := t) e1.1 e3.1 (T.es_ok _ _ he) h0 h2) (n := n) (tab := tab)
  exact g_law (L := ⟨some d, gs ++ (rq x (.one (.ar id)) ++ rq z (Kk k1 j)), [(id, .vw ids e rows)], [], .one (.sv id 0 j.toNat), []⟩) hC this.1 rfl ⟨by rw [okS_append, okS_append]; exact ⟨this.2, e1.2, e3.2⟩, ⟨hT, trivial⟩, rfl, hd⟩ g
theorem g_svL (T : Ty P) {d : Nat} {x y : Operand} {t ty : TypeId} {ps : String} {af : Array Edge} {g0 : Option (Nat × Bool)} {gs : Slots} {md : Mode} (hC : C.low) {id e : Nat} {ids : List Nat} {rows : List (List PC)} {i : Int} {k0 : IntKind} {el : TypeId}
    (hx : ev sl x = some (.one (.ar id))) (hy : ev sl y = some (Kk k0 i)) (hT : tg tab id = some (.vw ids e rows)) (he : T.es t = some (el, e)) (h0 : 0 ≤ i) (h2 : i ≤ rows.length) (hm : metL all sl g0 = some gs) (hd : Nat.blt d n = true)
    (g : Goal P C (.ops all rest (nx md ⟨some d, gs ++ (rq x (.one (.ar id)) ++ rq y (Kk k0 i)), [(id, .vw ids e rows)], [], .one (.sv id (i.toNat * e) (rows.length - i.toNat)), []⟩)) k n ((d, .one (.sv id (i.toNat * e) (rows.length - i.toNat))) :: sl) tab Q) :
    Goal P C (.ops all (⟨some d, .slice t x (some y) none none, ty, ps, af, g0⟩ :: rest) md) k n sl tab Q := by
  have e1 := of_ev (st := ⟨n, sl, tab⟩) hx
  have e2 := of_ev (st := ⟨n, sl, tab⟩) hy
  have := metL_step hm (L_svL (P := P) (ids := ids) (rows := rows) (ty := ty) (ps := ps) (af := af) (g := g0) (d := some d) (t := t) e1.1 e2.1 (T.es_ok _ _ he) h0 h2) (n := n) (tab := tab)
  exact g_law (L := ⟨some d, gs ++ (rq x (.one (.ar id)) ++ rq y (Kk k0 i)), [(id, .vw ids e rows)], [], .one (.sv id (i.toNat * e) (rows.length - i.toNat)), []⟩) hC this.1 rfl ⟨by rw [okS_append, okS_append]; exact ⟨this.2, e1.2, e2.2⟩, ⟨hT, trivial⟩, rfl, hd⟩ g
theorem g_lenS (T : Ty P) {d : Nat} {x : Operand} {t ty : TypeId} {ps : String} {af : Array Edge} {g0 : Option (Nat × Bool)} {gs : Slots} {md : Mode} (hC : C.low) {id kk m : Nat} {el : TypeId} {sz : Nat}
    (hx : ev sl x = some (.one (.sv id kk m))) (he : T.es t = some (el, sz)) (hm : metL all sl g0 = some gs) (hd : Nat.blt d n = true)
    (g : Goal P C (.ops all rest (nx md ⟨some d, gs ++ rq x (.one (.sv id kk m)), [], [], I m, []⟩)) k n ((d, I m) :: sl) tab Q) :
    Goal P C (.ops all (⟨some d, .call ⟨.builtin .len, #[x], #[t]⟩, ty, ps, af, g0⟩ :: rest) md) k n sl tab Q := by
  have e1 := of_ev (st := ⟨n, sl, tab⟩) hx
  have := metL_step hm (L_len_sv (as' := #[t]) (ty := ty) (ps := ps) (af := af) (g := g0) (d := some d) e1.1 rfl (T.es_ok _ _ he)) (n := n) (tab := tab)
  exact g_law (L := ⟨some d, gs ++ rq x (.one (.sv id kk m)), [], [], I m, []⟩) hC this.1 rfl ⟨by rw [okS_append]; exact ⟨this.2, e1.2⟩, trivial, rfl, hd⟩ g
theorem g_idxSv (T : Ty P) {d : Nat} {x y : Operand} {t ty : TypeId} {ps : String} {af : Array Edge} {g0 : Option (Nat × Bool)} {gs : Slots} {md : Mode} (hC : C.low) {id kk m e : Nat} {k0 : IntKind} {i : Int} {el : TypeId}
    (hx : ev sl x = some (.one (.sv id kk m))) (hy : ev sl y = some (Kk k0 i)) (he : T.es t = some (el, e)) (h0 : 0 ≤ i) (hi : i < m) (hm : metL all sl g0 = some gs) (hd : Nat.blt d n = true)
    (g : Goal P C (.ops all rest (nx md ⟨some d, gs ++ (rq x (.one (.sv id kk m)) ++ rq y (Kk k0 i)), [], [], .one (.el id (kk + i.toNat * e)), []⟩)) k n ((d, .one (.el id (kk + i.toNat * e))) :: sl) tab Q) :
    Goal P C (.ops all (⟨some d, .indexAddr t x y, ty, ps, af, g0⟩ :: rest) md) k n sl tab Q := by
  have e1 := of_ev (st := ⟨n, sl, tab⟩) hx
  have e2 := of_ev (st := ⟨n, sl, tab⟩) hy
  have := metL_step hm (L_index_sv (ty := ty) (ps := ps) (af := af) (g := g0) (d := some d) e1.1 e2.1 (T.es_ok _ _ he) h0 hi) (n := n) (tab := tab)
  exact g_law (L := ⟨some d, gs ++ (rq x (.one (.sv id kk m)) ++ rq y (Kk k0 i)), [], [], .one (.el id (kk + i.toNat * e)), []⟩) hC this.1 rfl ⟨by rw [okS_append, okS_append]; exact ⟨this.2, e1.2, e2.2⟩, trivial, rfl, hd⟩ g
end
end Hw
/- The engine, part BL: an array is taken out of a bag; arrays of a bag as what is appended. -/
namespace Hw
open Go

/-- What is known behind an array that was taken out of a bag. -/
def OpF (id id' id2 j : Nat) (ρ : Nat → Value) : Prop := ∃ (cs : List Value) (v : Value), ρ id = .tuple cs.toArray ∧ cs[j]? = some v ∧ ρ id2 = v ∧ ρ id' = .tuple (cs.set j (.slice none 0 0)).toArray
theorem OpF.nv {id id' id2 j i : Nat} (h : i ≠ j) : RwV (OpF id id' id2 j) (.nv id i) (.nv id' i) := fun M ρ x hF hr => by
  obtain ⟨cs, v, h1, h2, h3, h4⟩ := hF
  simp only [RepV] at hr ⊢
  obtain ⟨xs, f1, f2, f3⟩ := hr
  rw [h1] at f1
  have : xs = cs := by simp only [Value.tuple.injEq] at f1; have := congrArg Array.toList f1; simpa using this.symm
  subst this
  exact ⟨_, h4, by rw [List.getElem?_set_ne (fun e => h e.symm)]; exact f2, f3⟩
theorem OpF.ar {id id' id2 j : Nat} : RwV (OpF id id' id2 j) (.nv id j) (.ar id2) := fun M ρ x hF hr => by
  obtain ⟨cs, v, h1, h2, h3, h4⟩ := hF
  simp only [RepV] at hr ⊢
  obtain ⟨xs, f1, f2, f3⟩ := hr
  rw [h1] at f1
  have : xs = cs := by simp only [Value.tuple.injEq] at f1; have := congrArg Array.toList f1; simpa using this.symm
  subst this
  rw [h2] at f2
  exact ⟨by rw [h3]; exact (Option.some.inj f2).symm, f3⟩
section
variable {P : Program} {C : Ctx} {k : List Frm} {n : Nat} {sl : Slots} {tab : Tab} {Q : Exit → St → Prop} {cur : Cur}
theorem g_open (hC : C.low) (hc : lst cur = true) (id id' id2 j : Nat) {e : Nat} {L : List (List (List PV))} {rs : List (List PV)} (hid : tg tab id = some (.bag e L)) (hj : L[j]? = some rs) (hne : Nat.beq id' id2 = false)
    (hf : (Nat.ble 100 id' && freshB id' ⟨n, sl, tab⟩) = true) (hf2 : (Nat.ble 100 id2 && freshB id2 ⟨n, sl, tab⟩) = true)
    (ups : Slots) (hS : upS (RwS (OpF id id' id2 j)) sl ups) (bs : List (Nat × Res)) (hB : upW (OpF id id' id2 j) [id] [id', id2] tab bs)
    (g : Goal P C cur k n (ups ++ sl) (resT bs ++ ((id', some (.bag e (L.set j []))) :: (id2, some (.arr e rs)) :: (id, none) :: tab)) Q) : Goal P C cur k n sl tab Q := by
  have hne' : id' ≠ id2 := fun e => by subst e; rw [beq_self] at hne; cases hne
  refine g_reword hC hc [id] [(id', .bag e (L.set j [])), (id2, .arr e rs)] (OpF id id' id2 j) (by simp only [RL.ids, allB, hf, hf2, Bool.and_true]) (fun {M ρ w} hT => ?_) ups hS bs hB g
  simp only [Bool.and_eq_true] at hf hf2
  have nid : id ≠ id' ∧ id ≠ id2 := ⟨((fresh_of (C := C) hf.2 (hC.none (Nat.le_of_ble_eq_true hf.1))).2.1 id _ hid).1, ((fresh_of (C := C) hf2.2 (hC.none (Nat.le_of_ble_eq_true hf2.1))).2.1 id _ hid).1⟩
  obtain ⟨cs, h1, h2, h3, h4⟩ := hT.res id _ hid
  obtain ⟨v, v1, v2⟩ := h3 j rs hj
  have hjl := (List.getElem?_eq_some_iff.1 v1).1
  obtain ⟨av, capv, g1, _⟩ := v2
  obtain ⟨v, v1, v2⟩ := h3 j rs hj
  have bkv : ∀ q, Bk v q → blk v = some q := fun q hq => by
    obtain ⟨av, capv, g1, _⟩ := v2
    rw [g1] at hq ⊢; exact hq
  have two : ∀ i r, tg (tb [(id', Res.bag e (L.set j [])), (id2, .arr e rs)]) i = some r → (i = id' ∧ r = .bag e (L.set j [])) ∨ (i = id2 ∧ i ≠ id' ∧ r = .arr e rs) := fun i r hi => by
    simp only [tb, tg_cons] at hi
    split at hi
    · rename_i e; exact .inl ⟨e.symm, (Option.some.inj hi).symm⟩
    · rename_i e0
      split at hi
      · rename_i e; exact .inr ⟨e.symm, fun h => e0 h.symm, (Option.some.inj hi).symm⟩
      · cases hi
  let ρ' := upd (upd ρ id2 v) id' (.tuple (cs.set j (.slice none 0 0)).toArray)
  have r1 : ρ' id' = .tuple (cs.set j (.slice none 0 0)).toArray := upd_same _ _ _
  have r2 : ρ' id2 = v := by simp only [ρ']; rw [upd_other (fun e => hne' e.symm), upd_same]
  have r3 : ∀ i, i ≠ id' → i ≠ id2 → ρ' i = ρ i := fun i a b => by simp only [ρ']; rw [upd_other a, upd_other b]
  -- the cells of the new bag
  have cell : ∀ (i : Nat) z, (cs.set j (.slice none 0 0))[i]? = some z → (i = j ∧ z = .slice none 0 0) ∨ (i ≠ j ∧ cs[i]? = some z) := fun i z hz => by
    by_cases hij : j = i
    · subst hij
      rw [List.getElem?_set_self hjl] at hz
      exact .inl ⟨rfl, (Option.some.inj hz).symm⟩
    · rw [List.getElem?_set_ne hij] at hz
      exact .inr ⟨fun e => hij e.symm, hz⟩
  refine ⟨ρ', ⟨cs, v, by rw [r3 id nid.1 nid.2]; exact h1, v1, r2, r1⟩, fun i hi => r3 i (by simp [RL.ids] at hi; exact hi.1) (by simp [RL.ids] at hi; exact hi.2), fun i r hi => ?_, fun i r b hi hb => ?_, fun i i' ri rj b hi hj' hne2 hb1 hb2 => ?_⟩
  · rcases two i r hi with ⟨rfl, rfl⟩ | ⟨rfl, _, rfl⟩
    · refine ⟨_, r1, by rw [List.length_set, List.length_set]; exact h2, fun q rq hq => ?_, fun a b' q x y hx hy hab hbx hby => ?_⟩
      · by_cases hqj : j = q
        · subst hqj
          rw [List.getElem?_set_self (by omega)] at hq
          obtain rfl := Option.some.inj hq
          exact ⟨.slice none 0 0, by rw [List.getElem?_set_self hjl], none, 0, rfl, by simp, by simp, .inl ⟨rfl, rfl⟩⟩
        · rw [List.getElem?_set_ne hqj] at hq
          obtain ⟨c, c1, c2⟩ := h3 q rq hq
          exact ⟨c, by rw [List.getElem?_set_ne hqj]; exact c1, c2⟩
      · rcases cell a x hx with ⟨_, rfl⟩ | ⟨_, hx'⟩
        · simp [blk] at hbx
        · rcases cell b' y hy with ⟨_, rfl⟩ | ⟨_, hy'⟩
          · simp [blk] at hby
          · exact h4 a b' q x y hx' hy' hab hbx hby
    · have hA : ArrIn M w (ρ' i) e rs := by rw [r2]; exact v2
      exact hA
  · rcases two i r hi with ⟨rfl, rfl⟩ | ⟨rfl, _, rfl⟩
    · rw [r1] at hb
      obtain ⟨x, hx, hxb⟩ := hb
      obtain ⟨q, hq⟩ := List.mem_iff_getElem?.1 (by simpa using hx : x ∈ cs.set j (.slice none 0 0))
      rcases cell q x hq with ⟨_, rfl⟩ | ⟨_, hq'⟩
      · simp [blk] at hxb
      · exact ⟨id, _, by simp, hid, by rw [h1]; exact bk_of hq' hxb⟩
    · rw [r2] at hb
      exact ⟨id, _, by simp, hid, by rw [h1]; exact bk_of v1 (bkv b hb)⟩
  · have key : ∀ q b, Bk (ρ' id') b → Bk (ρ' id2) b → q = b → False := fun q b hb1 hb2 _ => by
      rw [r1] at hb1
      rw [r2] at hb2
      obtain ⟨x, hx, hxb⟩ := hb1
      obtain ⟨q, hq⟩ := List.mem_iff_getElem?.1 (by simpa using hx : x ∈ cs.set j (.slice none 0 0))
      rcases cell q x hq with ⟨_, rfl⟩ | ⟨hqj, hq'⟩
      · simp [blk] at hxb
      · exact h4 q j b x v hq' v1 hqj hxb (bkv b hb2)
    rcases two i ri hi with ⟨rfl, _⟩ | ⟨rfl, _, _⟩ <;> rcases two i' rj hj' with ⟨rfl, _⟩ | ⟨rfl, _, _⟩
    · exact hne2 rfl
    · exact key b b hb1 hb2 rfl
    · exact key b b hb2 hb1 rfl
    · exact hne2 rfl
end
section
variable {P : Program}
/-- What is appended: an array of a bag. -/
theorem SrcS.nv {e q : Nat} {tx el : TypeId} {id : Nat} {L : List (List (List PV))} {rs : List (List PV)} (h : elemSz P tx = some (el, e)) (hq : L[q]? = some rs) (hl : ∀ r ∈ rs, r.length = e) : SrcS P e tx (.one (.nv id q)) [(id, .bag e L)] rs := by
  intro C st M ρ a w v hH hr hT
  obtain ⟨_, hu, _, _⟩ := elemSz_spec h
  simp only [RepS, RepV] at hr
  obtain ⟨xs, f1, f2, _⟩ := hr
  obtain ⟨a', cap, rfl, h2, h3, h4⟩ := bag_inner (hH.tabs.res id _ hT.1) hq f1 f2
  rcases h4 with ⟨rfl, hc⟩ | ⟨b', o, cs, el', fz, rfl, h6, _, _, h8⟩
  · have : rs = [] := List.length_eq_zero_iff.1 (by omega)
    subst this
    exact ⟨[], Src.ofNil w hu cap, by simp [RepVs], by simp⟩
  · obtain ⟨us, g1, g2, g3⟩ := h8.cells (ρ := ρ)
    exact ⟨us, Src.ofSlice w hu _ _ cap us g2 (fun j u hj => by rw [add_addr]; have := g3 j u hj; simp [World.cell?, h6, this]) g1.one, g1, hl⟩
end
end Hw
/- The engine, part BN: a bag's arrays numbered anew; grids: an owned array of owned arrays, row by row; grids lent and frozen. -/
namespace Hw
open Go Go.Proofs

/-- What is known behind a bag of some of a bag's arrays. -/
def RbF (id id' : Nat) (js : List Nat) (ρ : Nat → Value) : Prop := ∃ cs ds : List Value, ρ id = .tuple cs.toArray ∧ ρ id' = .tuple ds.toArray ∧ ∀ (i q : Nat), js[i]? = some q → ds[i]? = cs[q]?
theorem RbF.nv {id id' i q : Nat} {js : List Nat} (h : js[i]? = some q) : RwV (RbF id id' js) (.nv id q) (.nv id' i) := fun M ρ x hF hr => by
  obtain ⟨cs, ds, h1, h2, h3⟩ := hF
  simp only [RepV] at hr ⊢
  obtain ⟨xs, f1, f2, f3⟩ := hr
  rw [h1] at f1
  have : xs = cs := by simp only [Value.tuple.injEq] at f1; have := congrArg Array.toList f1; simpa using this.symm
  subst this
  exact ⟨ds, h2, by rw [h3 i q h]; exact f2, f3⟩
section
variable {P : Program} {C : Ctx} {k : List Frm} {n : Nat} {sl : Slots} {tab : Tab} {Q : Exit → St → Prop} {cur : Cur}
/-- A bag of some of a bag's arrays. -/
theorem g_rebag (hC : C.low) (hc : lst cur = true) (id id' : Nat) (js : List Nat) {e : Nat} {L : List (List (List PV))} (L' : List (List (List PV))) (hid : tg tab id = some (.bag e L)) (hnd : js.Nodup) (hl : L'.length = js.length)
    (hat : ∀ (i q : Nat), js[i]? = some q → q < L.length ∧ L'[i]? = L[q]?)
    (hf : (Nat.ble 100 id' && freshB id' ⟨n, sl, tab⟩) = true)
    (ups : Slots) (hS : upS (RwS (RbF id id' js)) sl ups) (bs : List (Nat × Res)) (hB : upW (RbF id id' js) [id] [id'] tab bs)
    (g : Goal P C cur k n (ups ++ sl) (resT bs ++ ((id', some (.bag e L')) :: (id, none) :: tab)) Q) : Goal P C cur k n sl tab Q := by
  refine g_reword hC hc [id] [(id', .bag e L')] (RbF id id' js) (by simp only [RL.ids, allB, hf, Bool.and_true]) (fun {M ρ w} hT => ?_) ups hS bs hB g
  simp only [Bool.and_eq_true] at hf
  have nid : id ≠ id' := ((fresh_of (C := C) hf.2 (hC.none (Nat.le_of_ble_eq_true hf.1))).2.1 id _ hid).1
  obtain ⟨cs, h1, h2, h3, h4⟩ := hT.res id _ hid
  have only : ∀ i r, tg (tb [(id', Res.bag e L')]) i = some r → i = id' ∧ r = .bag e L' := fun i r hi => by
    simp only [tb, tg_cons] at hi
    split at hi
    · rename_i e; exact ⟨e.symm, (Option.some.inj hi).symm⟩
    · cases hi
  let ds : List Value := js.map fun q => (cs[q]?).getD undef
  have hds : ∀ i q, js[i]? = some q → ds[i]? = cs[q]? := fun i q hi => by
    have hq := (hat i q hi).1
    show (js.map fun q => (cs[q]?).getD undef)[i]? = _
    rw [List.getElem?_map, hi, Option.map_some, List.getElem?_eq_getElem (l := cs) (i := q) (by omega), Option.getD_some]
  have hds2 : ∀ (i : Nat) z, ds[i]? = some z → ∃ q, js[i]? = some q ∧ cs[q]? = some z := fun i z hz => by
    have hlt := (List.getElem?_eq_some_iff.1 hz).1
    have hlj : i < js.length := by simpa [ds] using hlt
    exact ⟨js[i], List.getElem?_eq_getElem hlj, by rw [← hds i _ (List.getElem?_eq_getElem hlj)]; exact hz⟩
  refine ⟨upd ρ id' (.tuple ds.toArray), ⟨cs, ds, by rw [upd_other nid]; exact h1, upd_same _ _ _, hds⟩, fun i hi => upd_other (by simpa [RL.ids] using hi), fun i r hi => ?_, fun i r b hi hb => ?_, fun i j ri rj b hi hj hne _ _ => ?_⟩
  · obtain ⟨rfl, rfl⟩ := only i r hi
    refine ⟨ds, upd_same _ _ _, by simp only [ds, List.length_map]; exact hl.symm, fun j rs hj => ?_, fun a b' q x y hx hy hab hbx hby => ?_⟩
    · have hjl := (List.getElem?_eq_some_iff.1 hj).1
      have hq : js[j]? = some js[j] := List.getElem?_eq_getElem (by omega)
      rw [(hat j _ hq).2] at hj
      obtain ⟨c, c1, c2⟩ := h3 _ rs hj
      exact ⟨c, by rw [hds j _ hq]; exact c1, c2⟩
    · obtain ⟨qa, ha1, ha2⟩ := hds2 a x hx
      obtain ⟨qb, hb1, hb2⟩ := hds2 b' y hy
      refine h4 qa qb q x y ha2 hb2 (fun e => hab ?_) hbx hby
      subst e
      exact (List.getElem?_inj (List.getElem?_eq_some_iff.1 ha1).1 hnd).1 (ha1.trans hb1.symm)
  · obtain ⟨rfl, _⟩ := only i r hi
    rw [upd_same] at hb
    obtain ⟨x, hx, hxb⟩ := hb
    obtain ⟨j, hj⟩ := List.mem_iff_getElem?.1 (by simpa using hx : x ∈ ds)
    obtain ⟨q, _, hq⟩ := hds2 j x hj
    exact ⟨id, _, by simp, hid, by rw [h1]; exact bk_of hq hxb⟩
  · obtain ⟨rfl, _⟩ := only i ri hi
    obtain ⟨rfl, _⟩ := only j rj hj
    exact hne rfl
/-- The rows of a grid: the arrays of a bag, in an order. -/
def grJ (js : List Nat) : List (List PC) := js.map fun q => [PC.n 0 q]
def gr (n : Nat) : List (List PC) := grJ (List.range n)
theorem grJ_len (js : List Nat) : (grJ js).length = js.length := List.length_map _
theorem gr_len (n : Nat) : (gr n).length = n := by rw [gr, grJ_len, List.length_range]
theorem grJ_one (js : List Nat) : ∀ r ∈ grJ js, r.length = 1 := fun r hr => by obtain ⟨_, _, rfl⟩ := List.mem_map.1 hr; rfl
theorem gr_one (n : Nat) : ∀ r ∈ gr n, r.length = 1 := grJ_one _
theorem grJ_flat (js : List Nat) : (grJ js).flatten = js.map (PC.n 0) := by
  induction js with
  | nil => rfl
  | cons a l ih => simp only [grJ, List.map_cons, List.flatten_cons] at ih ⊢; rw [ih]; rfl
theorem grJ_at {js : List Nat} {i q : Nat} (h : js[i]? = some q) : (grJ js).flatten[i]? = some (.n 0 q) := by rw [grJ_flat, List.getElem?_map, h]; rfl
theorem gr_at {n i : Nat} (h : i < n) : (gr n).flatten[i]? = some (.n 0 i) := grJ_at (by rw [List.getElem?_range h])
/-- A grid whose rows stand in another order: numbered anew. -/
theorem g_norm (hC : C.low) (hc : lst cur = true) (o id id' : Nat) (js : List Nat) {e : Nat} {L : List (List (List PV))} (L' : List (List (List PV))) (ho : tg tab o = some (.vw [id] 1 (grJ js))) (hid : tg tab id = some (.bag e L)) (hnd : js.Nodup) (hl : L'.length = js.length)
    (hat : ∀ (i q : Nat), js[i]? = some q → q < L.length ∧ L'[i]? = L[q]?)
    (hf : (Nat.ble 100 id' && freshB id' ⟨n, sl, tab⟩) = true) (hne : (hasB o [id] || hasB o [id']) = false)
    (g : Goal P C cur k n sl ((o, some (.vw [id'] 1 (gr js.length))) :: (id', some (.bag e L')) :: (id, none) :: tab) Q) : Goal P C cur k n sl tab Q := by
  refine g_rebag hC hc id id' js L' hid hnd hl hat hf [] trivial [(o, .vw [id'] 1 (gr js.length))] ⟨⟨_, ho, hne, RwR.vw (by rw [grJ_len, gr_len]) (gr_one _) fun j x' hj => ?_⟩, trivial⟩ g
  rw [gr, grJ_flat, List.getElem?_map, Option.map_eq_some_iff] at hj
  obtain ⟨q, hq, rfl⟩ := hj
  have hjl := (List.getElem?_eq_some_iff.1 hq).1
  rw [List.length_range] at hjl
  rw [List.getElem?_range hjl] at hq
  obtain rfl := Option.some.inj hq
  have h : js[j]? = some js[j] := List.getElem?_eq_getElem hjl
  exact ⟨_, grJ_at h, RbF.nv h⟩
end
section
variable {P : Program} {d : Option Nat} {ty et : TypeId} {ps : String} {af : Array Edge} {g : Option (Nat × Bool)} {t t' : TypeId} {x : Operand}
theorem L_nilE (hx : okc x (.one (.p (.k (.slice none 0 0))))) (hu : P.underlying t = some (.slice et)) :
    Snd P ⟨d, .binOp .eql t x (.const (.slice none 0 0)) t', ty, ps, af, g⟩ (rq x (.one (.p (.k (.slice none 0 0))))) [] [] (Bo true) [] :=
  snd_quiet fun C st M ρ a w hH h1 ht => by
    have hex := hH.k (ev_of hx h1)
    have hc : a.eval (.const (.slice none 0 0)) = .slice none 0 0 := rfl
    have hr : (binOp .eql t (.slice none 0 0) (.slice none 0 0)).run P w = .ok (.bool true) w := by
      have : binOp .eql t (.slice none 0 0) (.slice none 0 0) = (do pure (.bool (← Op.equal t (.slice none 0 0) (.slice none 0 0)))) := rfl
      rw [this]; simp [run_equal_slice_nil w t et none 0 0 hu]
    have hg : (eqGuard .eql t x (.const (.slice none 0 0)) (.slice none 0 0) (.slice none 0 0)).run P w = .ok () w := rfl
    exact ⟨.bool true, by simp only [execOp, hex, hc, Sem.run_bind, hg, hr, Result.andThen_ok, Sem.run_pure], repB _⟩
end
section
variable {P : Program} {C : Ctx} {k : List Frm} {n : Nat} {sl : Slots} {tab : Tab} {Q : Exit → St → Prop} {all : Array Oper} {rest : List Oper}
/-- A slice that is nil is compared with nil. -/
theorem g_nilE {d : Nat} {x : Operand} {t t' ty et : TypeId} {ps : String} {af : Array Edge} {g0 : Option (Nat × Bool)} {gs : Slots} {md : Mode} (hC : C.low)
    (hx : ev sl x = some (.one (.p (.k (.slice none 0 0))))) (hu : P.underlying t = some (.slice et)) (hm : metL all sl g0 = some gs) (hd : Nat.blt d n = true)
    (g : Goal P C (.ops all rest (nx md ⟨some d, gs ++ rq x (.one (.p (.k (.slice none 0 0)))), [], [], Bo true, []⟩)) k n ((d, Bo true) :: sl) tab Q) :
    Goal P C (.ops all (⟨some d, .binOp .eql t x (.const (.slice none 0 0)) t', ty, ps, af, g0⟩ :: rest) md) k n sl tab Q := by
  have e1 := of_ev (st := ⟨n, sl, tab⟩) hx
  have := metL_step hm (L_nilE (P := P) (ty := ty) (ps := ps) (af := af) (g := g0) (d := some d) (t' := t') e1.1 hu) (n := n) (tab := tab)
  exact g_law (L := ⟨some d, gs ++ rq x (.one (.p (.k (.slice none 0 0)))), [], [], Bo true, []⟩) hC this.1 rfl ⟨by rw [okS_append]; exact ⟨this.2, e1.2⟩, trivial, rfl, hd⟩ g
end
section
variable {B : RL}
/-- A grid that is lent. -/
theorem LnV.grid {o id e : Nat} {L : List (List (List PV))} (ho : (o, .vw [id] 1 (gr L.length)) ∈ B) (hid : (id, .bag e L) ∈ B) : LnV B (.ar o) (.p (.sl 1 (L.map fun rs => [.sl e rs]))) :=
  LnV.vw ho (by rw [List.length_map, gr_len]) (fun r hr => by obtain ⟨_, _, rfl⟩ := List.mem_map.1 hr; rfl) fun j x' hj => by
    have hfl : (L.map fun rs => [PV.sl e rs]).flatten = L.map (PV.sl e) := by
      clear ho hid hj
      induction L with
      | nil => rfl
      | cons a l ih => simp only [List.map_cons, List.flatten_cons, List.singleton_append] at ih ⊢; rw [ih]
    rw [hfl, List.getElem?_map, Option.map_eq_some_iff] at hj
    obtain ⟨rs, hrs, rfl⟩ := hj
    have hlt := (List.getElem?_eq_some_iff.1 hrs).1
    exact ⟨_, gr_at hlt, LnV.nv hid hrs⟩
/-- A part of a row of pure cells, lent. -/
theorem LnV.sv {id e a m : Nat} {rows : List (List PV)} (hm : (id, .arr e rows) ∈ B) (hle : ∀ r ∈ rows, r.length = e) (ha : a + m ≤ rows.length) : LnV B (.sv id (a * e) m) (.p (.sl e ((rows.drop a).take m))) := fun M ρ w u hH hr => by
  simp only [RepV, RepPV] at hr ⊢
  have hlen : ((rows.drop a).take m).length = m := by rw [List.length_take, List.length_drop]; omega
  rcases hr with ⟨rfl, a', c, rfl⟩ | ⟨b, o, N, cap, c, h1, rfl, h3, h4⟩
  · exact ⟨a', c, by rw [List.take_zero]; rfl, by rw [List.take_zero]; exact Nat.zero_le _, by rw [List.take_zero]; exact Nat.zero_le _, .inl (List.take_zero)⟩
  · refine ⟨_, c, by rw [hlen], by rw [hlen]; exact h3, by rw [hlen]; omega, .inr ⟨b, _, rfl, ?_⟩⟩
    have hA : ArrIn M w (ρ id) e rows := hH.2 id _ hm
    obtain ⟨av, cap', g1, g2, g3, g4⟩ := hA
    rw [h1] at g1
    simp only [Value.slice.injEq] at g1
    rcases g4 with ⟨g4, _⟩ | ⟨b', o', cs, el, fz, g5, g6, _, _, g8⟩
    · rw [g4] at g1; cases g1.1
    · rw [g5] at g1
      simp only [Option.some.injEq, Addr.mk.injEq] at g1
      obtain ⟨⟨rfl, rfl, _⟩, _⟩ := g1
      have hb : ∃ i r, (i, r) ∈ B ∧ Bk (ρ i) b := ⟨id, _, hm, by rw [h1]; rfl⟩
      have := RowsIn.mono (M' := lentN M ρ w B) lentN_le (fun i c hc => lentN_cell hH.1 hb g6 i c hc) _ _ g8
      exact (this.drop a).take m
end
end Hw
/- The engine, part BO: what a call of the library's leaves, in general; rows that are laid over; arrays sorted. -/
namespace Hw
open Go Go.Proofs Go.Sort

/-- What a call leaves: the resources hold under the words ρ', their blocks are old ones' or new. -/
theorem ret_gen {M : Mem} {ρ ρ' : Nat → Value} {w w' : World} {R R' : RL} {res : S} {v : Value} (hT : THolds M ρ w (tb R)) (hI : Imm M w) (hrep : RepS M ρ' res v) (hres : ∀ i r, tg (tb R') i = some r → HoldsR M ρ' w' i r)
    (hdis : ∀ i j ri rj b, tg (tb R') i = some ri → tg (tb R') j = some rj → i ≠ j → Bk (ρ' i) b → Bk (ρ' j) b → False)
    (hown : ∀ i r b, tg (tb R') i = some r → Bk (ρ' i) b → w.heap.size ≤ b ∨ Owns (tb R) ρ b) (hf : ∀ b, b < w.heap.size → ¬ Owns (tb R) ρ b → w'.heap[b]? = w.heap[b]?)
    (hs : w.heap.size ≤ w'.heap.size) (h1 : w'.os = w.os) (h2 : w'.tape = w.tape) (h3 : w'.output = w.output) (hk : ∀ id, id ∈ R.ids → ρ' id = ρ id) : Ret M ρ w R res R' v M ρ' w' := by
  refine ⟨hrep, ⟨hres, hdis, fun i r b hi hb q => ?_⟩, fun b q u hu => ?_, MLe.refl M, fun b q u hu => .inl hu, fun b ⟨i, r, hi, hb⟩ => hown i r b hi hb, hf, hs, h1, h2, h3, hk⟩
  · rcases hown i r b hi hb with h | ⟨j, s, hj, hjb⟩
    · cases hm : M b q with
      | none => rfl
      | some u => have := cell_lt (hI b q u hm); omega
    · exact hT.own j s b hj hjb q
  · have hbl := cell_lt (hI b q u hu)
    rw [cell_of_heap (hf b hbl fun ⟨j, s, hj, hjb⟩ => by rw [hT.own j s b hj hjb q] at hu; cases hu)]
    exact hI b q u hu
/-- .. all of them under their old words. -/
theorem ret_keep {M : Mem} {ρ : Nat → Value} {w w' : World} {R R' : RL} {res : S} {v : Value} (hT : THolds M ρ w (tb R)) (hI : Imm M w) (hrep : RepS M ρ res v) (hsub : ∀ i r, tg (tb R') i = some r → ∃ r0, tg (tb R) i = some r0) (hres : ∀ i r, tg (tb R') i = some r → HoldsR M ρ w' i r)
    (hf : ∀ b, b < w.heap.size → ¬ Owns (tb R) ρ b → w'.heap[b]? = w.heap[b]?) (hs : w.heap.size ≤ w'.heap.size) (h1 : w'.os = w.os) (h2 : w'.tape = w.tape) (h3 : w'.output = w.output) : Ret M ρ w R res R' v M ρ w' :=
  ret_gen hT hI hrep hres (fun i j ri rj b hi hj hne hb hb' => let ⟨r0, e0⟩ := hsub i ri hi; let ⟨r1, e1⟩ := hsub j rj hj; hT.dis i j r0 r1 b e0 e1 hne hb hb')
    (fun i r b hi hb => let ⟨r0, e0⟩ := hsub i r hi; .inr ⟨i, r0, e0, hb⟩) hf hs h1 h2 h3 fun _ _ => rfl

section
variable {α : Type} [Inhabited α]
theorem putRow_at (enc : α → Value) (w : World) (b off : Nat) (d : Array α) {cs : Array Value} {el : TypeId} {fz : Nat × Nat} (h : w.heap[b]? = some (.cells cs el fz)) : (putRow enc w b off d).heap[b]? = some (.cells (putCells enc off d cs) el fz) := by
  unfold putRow mapBlock
  simp only [Array.getElem?_modify, if_true, h, Option.map_some, onCells]
theorem putRow_off (enc : α → Value) (w : World) (b off : Nat) (d : Array α) {k : Nat} (h : k ≠ b) : (putRow enc w b off d).heap[k]? = w.heap[k]? := by
  unfold putRow mapBlock
  simp only [Array.getElem?_modify]
  rw [if_neg fun e => h e.symm]
theorem putRow_size (enc : α → Value) (w : World) (b off : Nat) (d : Array α) : (putRow enc w b off d).heap.size = w.heap.size := by
  unfold putRow mapBlock; simp
theorem putCells_size (enc : α → Value) (off : Nat) (d : Array α) (c : Array Value) : (putCells enc off d c).size = c.size := by simp [putCells]
theorem putCells_in (enc : α → Value) (off : Nat) (d : Array α) (c : Array Value) {j : Nat} {x : α} (hx : d[j]? = some x) (hc : off + j < c.size) : (putCells enc off d c)[off + j]? = some (enc x) := by
  obtain ⟨hj, rfl⟩ := Array.getElem?_eq_some_iff.1 hx
  simp only [putCells, Array.getElem?_mapIdx]
  rw [Array.getElem?_eq_getElem hc, Option.map_some, if_pos ⟨by omega, by omega⟩, show off + j - off = j by omega, getElem!_pos d j hj]
end
/-- Of an array of the run's own: what the sorting contracts ask. -/
theorem holds_of {α : Type} [Inhabited α] {enc : α → Value} {w : World} {b o : Nat} {cs : Array Value} {el : TypeId} {fz : Nat × Nat} {d : Array α} (h : w.heap[b]? = some (.cells cs el fz)) (hU : Unfrozen fz cs.size) (hc : ∀ j x, d[j]? = some x → cs[o + j]? = some (enc x)) : Sort.Holds enc w b o d := by
  intro j hj
  have h1 := hc j d[j] (Array.getElem?_eq_getElem hj)
  have hlt := (Array.getElem?_eq_some_iff.1 h1).1
  refine ⟨?_, ?_⟩
  · rw [getElem!_pos d j hj]
    simp [World.cell?, h, h1]
  · simp only [World.frozen?, h]
    exact hU _ hlt
end Hw
/- The engine, part BP: grids that a call leaves: an owned array of owned arrays under new names. -/
namespace Hw
open Go Go.Proofs

theorem apart_pw {cs : List Value} : Apart cs ↔ cs.Pairwise fun x y => ∀ b, blk x = some b → blk y ≠ some b := by
  rw [List.pairwise_iff_getElem]
  constructor
  · intro h i j hi hj hij b hb hb'
    exact h i j b _ _ (List.getElem?_eq_getElem hi) (List.getElem?_eq_getElem hj) (by omega) hb hb'
  · intro h i j b x y hx hy hne hb hb'
    obtain ⟨hi, rfl⟩ := List.getElem?_eq_some_iff.1 hx
    obtain ⟨hj, rfl⟩ := List.getElem?_eq_some_iff.1 hy
    rcases Nat.lt_or_ge i j with h1 | h1
    · exact h i j hi hj h1 b hb hb'
    · exact h j i hj hi (by omega) b hb' hb
theorem Apart.sub {cs ds : List Value} (h : Apart cs) (hs : ds.Sublist cs) : Apart ds := apart_pw.2 ((apart_pw.1 h).sublist hs)
theorem Apart.perm {cs ds : List Value} (h : Apart cs) (hs : cs.Perm ds) : Apart ds := apart_pw.2 ((hs.pairwise_iff fun {x y} h b hb hb' => h b hb' hb).1 (apart_pw.1 h))
theorem Apart.cons {cs : List Value} {v : Value} (h : Apart cs) (hv : ∀ c ∈ cs, ∀ b, blk c = some b → blk v ≠ some b) : Apart (v :: cs) :=
  apart_pw.2 (List.pairwise_cons.2 ⟨fun c hc b hb hb' => hv c hc b hb' hb, apart_pw.1 h⟩)

/-- The cells of a row, in the block of old or in a new one; all else as it was. -/
def RowDone (w w' : World) (b0 : Option Nat) (ys : List Value) (v : Value) : Prop := ∃ (B o cap : Nat) (cs : Array Value) (el : TypeId) (fz : Nat × Nat), v = .slice (some ⟨B, o, none⟩) ys.length cap ∧ w'.heap[B]? = some (.cells cs el fz) ∧ Unfrozen fz cs.size ∧
  o + cap ≤ cs.size ∧ ys.length ≤ cap ∧ cap ≤ 9223372036854775807 ∧ (∀ (j : Nat) u, ys[j]? = some u → cs[o + j]? = some u) ∧ (w.heap.size ≤ B ∨ b0 = some B) ∧ (∀ k, k < w.heap.size → b0 ≠ some k → w'.heap[k]? = w.heap[k]?) ∧
  w.heap.size ≤ w'.heap.size ∧ w'.os = w.os ∧ w'.tape = w.tape ∧ w'.output = w.output
/-- The grid that is left, under new names. -/
theorem ret_grid {M : Mem} {ρ : Nat → Value} {w w' : World} {R : RL} {r0 : Res} {io ib e : Nat} {ys : List Value} {L : List (List (List PV))} {v : Value} (hR : tg (tb R) 0 = some r0) (hT : THolds M ρ w (tb R)) (hI : Imm M w) (hio : io ∉ R.ids) (hib : ib ∉ R.ids) (hne : io ≠ ib)
    (hD : RowDone w w' (blk (ρ 0)) ys v) (h0 : ∀ b, blk (ρ 0) = some b → Bk (ρ 0) b) (hlen : ys.length = L.length) (hone : ∀ c ∈ ys, c.oneCell' = true) (hin : ∀ (j : Nat) rs, L[j]? = some rs → ∃ c, ys[j]? = some c ∧ ArrIn M w c e rs) (hap : Apart ys)
    (hys : ∀ c ∈ ys, ∀ b, blk c = some b → b < w.heap.size ∧ blk (ρ 0) ≠ some b ∧ Owns (tb R) ρ b) :
    Ret M ρ w R (.one (.ar io)) [(io, .vw [ib] 1 (gr L.length)), (ib, .bag e L)] v M (upd (upd ρ ib (.tuple ys.toArray)) io v) w' := by
  obtain ⟨B, o, cap, cs, el, fz, rfl, g1, g2, g3, g4, g5, g6, g7, g8, g9, g10, g11, g12⟩ := hD
  have r1 : upd (upd ρ ib (.tuple ys.toArray)) io (.slice (some ⟨B, o, none⟩) ys.length cap) io = .slice (some ⟨B, o, none⟩) ys.length cap := upd_same _ _ _
  have r2 : upd (upd ρ ib (.tuple ys.toArray)) io (.slice (some ⟨B, o, none⟩) ys.length cap) ib = .tuple ys.toArray := by rw [upd_other (fun e => hne e.symm), upd_same]
  have two : ∀ i r, tg (tb [(io, Res.vw [ib] 1 (gr L.length)), (ib, .bag e L)]) i = some r → (i = io ∧ r = .vw [ib] 1 (gr L.length)) ∨ (i = ib ∧ r = .bag e L) := fun i r hi => by
    simp only [tb, tg_cons] at hi
    split at hi
    · rename_i e; exact .inl ⟨e.symm, (Option.some.inj hi).symm⟩
    · split at hi
      · rename_i e; exact .inr ⟨e.symm, (Option.some.inj hi).symm⟩
      · cases hi
  have bkB : ∀ b, Bk (.slice (some ⟨B, o, none⟩) ys.length cap) b → b = B := fun b hb => by simp only [Bk, blk, Option.some.injEq] at hb; exact hb.symm
  have bkY : ∀ b, Bk (.tuple ys.toArray) b → ∃ c ∈ ys, blk c = some b := fun b hb => by obtain ⟨x, hx, h⟩ := hb; exact ⟨x, by simpa using hx, h⟩
  have nB : ∀ c ∈ ys, ∀ b, blk c = some b → b ≠ B := fun c hc b hb e => by
    obtain ⟨h1, h2, _⟩ := hys c hc b hb
    rcases g7 with h | h
    · omega
    · exact h2 (by rw [h, e])
  refine ret_gen hT hI (by simp only [RepS, RepV]; exact ⟨r1.symm, rfl⟩) (fun i r hi => ?_) (fun i j ri rj b hi hj hne2 hb hb' => ?_) (fun i r b hi hb => ?_) (fun b hb hn => g8 b hb fun e => hn ⟨0, r0, hR, h0 b e⟩) g9 g10 g11 g12 fun id hid => ?_
  · rcases two i r hi with ⟨rfl, rfl⟩ | ⟨rfl, rfl⟩
    · refine ⟨some ⟨B, o, none⟩, cap, by rw [gr_len, ← hlen]; exact r1, by rw [gr_len, ← hlen]; exact g4, g5, gr_one _, .inr ⟨B, o, cs, el, fz, rfl, g1, g2, by rw [Nat.mul_one]; exact g3, fun j x hj => ?_⟩⟩
      rw [gr, grJ_flat, List.getElem?_map, Option.map_eq_some_iff] at hj
      obtain ⟨q, hq, rfl⟩ := hj
      have hlt := (List.getElem?_eq_some_iff.1 hq).1
      rw [List.length_range] at hlt
      rw [List.getElem?_range hlt] at hq
      obtain rfl := Option.some.inj hq
      have hy : ys[j]? = some ys[j] := List.getElem?_eq_getElem (by omega)
      exact ⟨_, g6 j _ hy, by simp only [toV, List.getElem?_cons_zero, RepV]; exact ⟨ys, r2, hy, hone _ (List.mem_of_getElem? hy)⟩⟩
    · refine ⟨ys, r2, hlen, fun j rs hj => ?_, hap⟩
      obtain ⟨c, c1, c2⟩ := hin j rs hj
      refine ⟨c, c1, c2.world fun b hb => ?_⟩
      obtain ⟨h1, h2, _⟩ := hys c (List.mem_of_getElem? c1) b hb
      exact g8 b h1 h2
  · rcases two i ri hi with ⟨rfl, _⟩ | ⟨rfl, _⟩ <;> rcases two j rj hj with ⟨rfl, _⟩ | ⟨rfl, _⟩
    · exact hne2 rfl
    · rw [r1] at hb; rw [r2] at hb'
      obtain ⟨c, hc, h⟩ := bkY b hb'
      exact nB c hc b h (bkB b hb)
    · rw [r2] at hb; rw [r1] at hb'
      obtain ⟨c, hc, h⟩ := bkY b hb
      exact nB c hc b h (bkB b hb')
    · exact hne2 rfl
  · rcases two i r hi with ⟨rfl, _⟩ | ⟨rfl, _⟩
    · rw [r1] at hb
      obtain rfl := bkB b hb
      exact g7.imp id fun h => ⟨0, r0, hR, h0 b h⟩
    · rw [r2] at hb
      obtain ⟨c, hc, h⟩ := bkY b hb
      exact .inr (hys c hc b h).2.2
  · rw [upd_other (fun e => hio (by rw [← e]; exact hid)), upd_other (fun e => hib (by rw [← e]; exact hid))]
/-- What a grid is, cell by cell. -/
theorem grid_cells {M : Mem} {ρ : Nat → Value} {w : World} {o id e : Nat} {L : List (List (List PV))} (ho : HoldsR M ρ w o (.vw [id] 1 (gr L.length))) (hb : HoldsR M ρ w id (.bag e L)) :
    ∃ (xs : List Value) (a : Option Addr) (cap : Nat), ρ id = .tuple xs.toArray ∧ xs.length = L.length ∧ (∀ (j : Nat) rs, L[j]? = some rs → ∃ c, xs[j]? = some c ∧ ArrIn M w c e rs) ∧ Apart xs ∧ ρ o = .slice a xs.length cap ∧ xs.length ≤ cap ∧ cap ≤ 9223372036854775807 ∧ (∀ c ∈ xs, c.oneCell' = true) ∧
      ((a = none ∧ cap = 0) ∨ ∃ (b oo : Nat) (cs : Array Value) (el : TypeId) (fz : Nat × Nat), a = some ⟨b, oo, none⟩ ∧ w.heap[b]? = some (.cells cs el fz) ∧ Unfrozen fz cs.size ∧ oo + cap ≤ cs.size ∧ ∀ (j : Nat) u, xs[j]? = some u → cs[oo + j]? = some u) := by
  obtain ⟨xs, h1, h2, h3, h4⟩ := hb
  obtain ⟨a, cap, g1, g2, g3, _, g5⟩ := ho
  rw [gr_len] at g1 g2
  refine ⟨xs, a, cap, h1, h2, h3, h4, by rw [h2]; exact g1, by omega, g3, fun c hc => ?_, ?_⟩
  · obtain ⟨j, hj⟩ := List.mem_iff_getElem?.1 hc
    have hjl := (List.getElem?_eq_some_iff.1 hj).1
    obtain ⟨c', c1, ⟨_, _, c2, _⟩⟩ := h3 j _ (List.getElem?_eq_getElem (by omega))
    rw [hj] at c1
    obtain rfl := Option.some.inj c1
    rw [c2]; rfl
  · rcases g5 with h | ⟨b, oo, cs, el, fz, k1, k2, k3, k4, k5⟩
    · exact .inl h
    · refine .inr ⟨b, oo, cs, el, fz, k1, k2, k3, by rw [Nat.mul_one] at k4; exact k4, fun j u hj => ?_⟩
      have hjl := (List.getElem?_eq_some_iff.1 hj).1
      obtain ⟨c, c1, c2⟩ := k5 j _ (gr_at (by omega))
      simp only [toV, List.getElem?_cons_zero, RepV] at c2
      obtain ⟨xs', f1, f2, _⟩ := c2
      rw [h1] at f1
      have : xs' = xs := by simp only [Value.tuple.injEq] at f1; have := congrArg Array.toList f1; simpa using this.symm
      subst this
      rw [hj] at f2
      rw [c1, Option.some.inj f2]
end Hw
/- The engine, part BQ: laws of grids: lent, taken in, put together, read, written. -/
namespace Hw
open Go

theorem RwR.grid {F : (Nat → Value) → Prop} {a b n : Nat} (h : ∀ j, j < n → RwV F (.nv a j) (.nv b j)) : RwR F (.vw [a] 1 (gr n)) (.vw [b] 1 (gr n)) := RwR.vw rfl (gr_one n) fun j x' hj => by
  rw [gr, grJ_flat, List.getElem?_map, Option.map_eq_some_iff] at hj
  obtain ⟨q, hq, rfl⟩ := hj
  have hlt := (List.getElem?_eq_some_iff.1 hq).1
  rw [List.length_range] at hlt
  rw [List.getElem?_range hlt] at hq
  obtain rfl := Option.some.inj hq
  exact ⟨_, gr_at hlt, by simpa [toV] using h j hlt⟩
theorem TkF.arr {id id2 id' m n : Nat} (h : n = m) : RwV (TkF id id2 id' m) (.ar id2) (.nv id' n) := by subst h; exact TkF.ar
theorem gr_succ (n : Nat) : gr (n + 1) = gr n ++ [[PC.n 0 n]] := by simp only [gr, grJ, List.range_succ, List.map_append, List.map_cons, List.map_nil]
/-- A grid and one row more, told cell by cell (what g_appendW asks). -/
theorem app_one {e : Nat} {rows : List (List PC)} {row : List PC} (j : Nat) (x' : PC) (h : rows.length * e = rows.flatten.length) : (j < rows.length * e → (rows ++ [row]).flatten[j]? = some x' → rows.flatten[j]? = some x') ∧ ((rows ++ [row]).flatten[rows.length * e + j]? = some x' → [row].flatten[j]? = some x') := by
  rw [List.flatten_append, h]
  refine ⟨fun hj he => by rwa [List.getElem?_append_left hj] at he, fun he => ?_⟩
  rwa [List.getElem?_append_right (by omega), Nat.add_sub_cancel_left] at he
theorem flat_one {rows : List (List PC)} (h : ∀ r ∈ rows, r.length = 1) : rows.length * 1 = rows.flatten.length := by
  induction rows with
  | nil => rfl
  | cons r l ih =>
    have := h r (List.mem_cons_self ..)
    have := ih fun x hx => h x (List.mem_cons_of_mem _ hx)
    simp only [List.length_cons, List.flatten_cons, List.length_append]; omega
section
variable {P : Program} {C : Ctx} {k : List Frm} {n : Nat} {sl : Slots} {tab : Tab} {Q : Exit → St → Prop} {all : Array Oper} {rest : List Oper}
/-- One row of the bag behind the grid's own. -/
theorem g_appendG (T : Ty P) (id' : Nat) {d : Nat} {x y : Operand} {t tx ty : TypeId} {ps : String} {af : Array Edge} {g0 : Option (Nat × Bool)} {gs : Slots} {md : Mode} (hC : C.low) {id ib i2 m bytes : Nat} {el : TypeId} {z : List V}
    (hx : ev sl x = some (.one (.ar id))) (hy : ev sl y = some (.one (.ar i2))) (hT : tg tab id = some (.vw [ib] 1 (gr m))) (hT2 : tg tab i2 = some (.vw [ib] 1 [[PC.n 0 m]])) (hes : T.es tx = some (el, 1)) (hm1 : mentI id' [ib] = false)
    (he : T.es t = some (el, 1)) (hz : T.zs el = some z) (hzl : Nat.beq z.length 1 = true) (hby : (P.info? el).map (·.bytes) = some bytes) (hb : (m + 1) * bytes ≤ 140737488355328) (hlen : m + 1 ≤ 9223372036854775807)
    (hm : metL all sl g0 = some gs) (hd : Nat.blt d n = true) (hf : (Nat.ble 100 id' && freshB id' ⟨n, sl, tab⟩) = true)
    (g : Goal P C (.ops all rest (nx md ⟨some d, gs ++ (rq x (.one (.ar id)) ++ rq y (.one (.ar i2))), [(id, .vw [ib] 1 (gr m)), (i2, .vw [ib] 1 [[PC.n 0 m]])], [id'], .one (.ar id'), [(id', some (.vw [ib] 1 (gr (m + 1)))), (id, none)]⟩)) k n ((d, .one (.ar id')) :: sl) ([(id', some (.vw [ib] 1 (gr (m + 1)))), (id, none)] ++ tab) Q) :
    Goal P C (.ops all (⟨some d, .call ⟨.builtin .append, #[x, y], #[t, tx]⟩, ty, ps, af, g0⟩ :: rest) md) k n sl tab Q := by
  refine g_appendW T id' hC (rows := gr m) (rows2 := [[PC.n 0 m]]) (ids := [ib]) (ids2 := [ib]) [ib] (gr (m + 1)) hx hy hT (rt2 := [(i2, .vw [ib] 1 [[PC.n 0 m]])]) (by simp [rdT, hT2]) (SrcW.vw (T.es_ok _ _ hes)) hm1 (by rw [gr_len, gr_len]; rfl) (gr_one _) (fun j x' hj hx' => ?_) (fun j x' hx' => ?_) he hz hzl hby (by rw [gr_len]; exact hb) (by rw [gr_len]; exact hlen) hm hd hf g
  · rw [gr_succ] at hx'
    exact ⟨x', (app_one (e := 1) j x' (flat_one (gr_one m))).1 hj hx', rfl⟩
  · rw [gr_succ] at hx'
    exact ⟨x', (app_one (e := 1) j x' (flat_one (gr_one m))).2 hx', rfl⟩
end
end Hw
/- The engine, part BR: an owned array whose cells are all pure, told so. -/
namespace Hw
open Go

theorem HoldsR.to_arr {M : Mem} {ρ : Nat → Value} {w : World} {id e : Nat} {ids : List Nat} {rows : List (List PV)} (h : HoldsR M ρ w id (.vw ids e (rows.map (·.map PC.p)))) : HoldsR M ρ w id (.arr e rows) := by
  obtain ⟨a, cap, h1, h2, h3, hl, h4⟩ := h
  have hfl : (rows.map (·.map PC.p)).flatten = rows.flatten.map PC.p := by rw [List.map_flatten]
  rw [List.length_map] at h1 h2
  refine ⟨a, cap, h1, h2, h3, ?_⟩
  rcases h4 with h4 | ⟨b, o, cs, el, fz, h5, h6, h6', h7, h8⟩
  · exact .inl h4
  · refine .inr ⟨b, o, cs, el, fz, h5, h6, h6', h7, ?_⟩
    obtain ⟨ds, k9, k10⟩ := repVs_of (M := M) (ρ := ρ) (vs := rows.flatten.map V.p) (g := fun j => cs[o + j]?) fun j v hj => by
      rw [List.getElem?_map, Option.map_eq_some_iff] at hj
      obtain ⟨x, hx, rfl⟩ := hj
      obtain ⟨c, c1, c2⟩ := h8 j (PC.p x) (by rw [hfl, List.getElem?_map, hx]; rfl)
      exact ⟨c, c1, c2⟩
    exact RowsIn.of_cells (ρ := ρ) (fun r hr => by
      have := hl (r.map PC.p) (List.mem_map.2 ⟨r, hr, rfl⟩)
      rwa [List.length_map] at this) k9 fun j c hj => k10 j c hj
section
variable {P : Program} {C : Ctx} {k : List Frm} {n : Nat} {sl : Slots} {tab : Tab} {Q : Exit → St → Prop} {cur : Cur}
theorem g_toA (hc : lst cur = true) (id : Nat) {ids : List Nat} {e : Nat} {rows' : List (List PC)} (rows : List (List PV)) (hid : tg tab id = some (.vw ids e rows')) (hr : rows.map (·.map PC.p) = rows') (g : Goal P C cur k n sl ((id, some (.arr e rows)) :: tab) Q) : Goal P C cur k n sl tab Q := by
  subst hr
  exact g_res hc hid (fun _ _ _ h => h.to_arr) g
end
section
variable {P : Program} {d : Option Nat} {ty : TypeId} {ps : String} {af : Array Edge} {g : Option (Nat × Bool)} {x y z : Operand} {t : TypeId}
theorem L_saLH {id e : Nat} {rows : List (List PV)} {i j : Int} {k k' : IntKind} {el : TypeId} (hx : okc x (.one (.ar id))) (hy : okc y (Kk k i)) (hz : okc z (Kk k' j)) (he : elemSz P t = some (el, e)) (h0 : 0 ≤ i) (h1 : i ≤ j) (h2 : j ≤ rows.length) :
    Snd P ⟨d, .slice t x (some y) (some z) none, ty, ps, af, g⟩ (rq x (.one (.ar id)) ++ rq y (Kk k i) ++ rq z (Kk k' j)) [(id, .arr e rows)] [] (.one (.sv id (i.toNat * e) (j.toNat - i.toNat))) [] :=
  snd_quiet fun C st M ρ b w hH hs hT => by
    rw [okS_append, okS_append] at hs
    have e1 := hH.evS (ev_of hx hs.1.1)
    have e2 := hH.k (ev_of hy hs.1.2)
    have e3 := hH.k (ev_of hz hs.2)
    simp only [RepS, RepV] at e1
    have hR : HoldsR M ρ w id (.vw [] e (rows.map (·.map PC.p))) := (show HoldsR M ρ w id (.arr e rows) from hH.tabs.res id _ hT.1).to_vw []
    obtain ⟨a, cap, f1, f2, f3, _⟩ := hH.tabs.res id _ hT.1
    obtain ⟨hu, hsz⟩ := elem_of he
    refine ⟨sliced a i.toNat j.toNat cap e, ?_, by simp only [RepS]; exact rep_sv hR (by rw [List.length_map]; exact f1) (by omega) (by rw [List.length_map]; omega)⟩
    simp only [execOp, e1.1, f1, e2, e3, Option.map_none, Option.map_some, Sem.run_bind, run_sliceAt_slice w t _ _ _ _ hu, run_slice_lh w t a rows.length cap hu k k' i j h0 h1 (by omega), hsz, Result.andThen_ok, Sem.run_pure]
end
section
variable {P : Program} {C : Ctx} {k : List Frm} {n : Nat} {sl : Slots} {tab : Tab} {Q : Exit → St → Prop} {all : Array Oper} {rest : List Oper}
/-- A part of an owned array of pure cells. -/
theorem g_saLH (T : Ty P) {d : Nat} {x y z : Operand} {t ty : TypeId} {ps : String} {af : Array Edge} {g0 : Option (Nat × Bool)} {gs : Slots} {md : Mode} (hC : C.low) {id e : Nat} {rows : List (List PV)} {i j : Int} {k0 k1 : IntKind} {el : TypeId}
    (hx : ev sl x = some (.one (.ar id))) (hy : ev sl y = some (Kk k0 i)) (hz : ev sl z = some (Kk k1 j)) (hT : tg tab id = some (.arr e rows)) (he : T.es t = some (el, e)) (h0 : 0 ≤ i) (h1 : i ≤ j) (h2 : j ≤ rows.length) (hm : metL all sl g0 = some gs) (hd : Nat.blt d n = true)
    (g : Goal P C (.ops all rest (nx md ⟨some d, gs ++ (rq x (.one (.ar id)) ++ rq y (Kk k0 i) ++ rq z (Kk k1 j)), [(id, .arr e rows)], [], .one (.sv id (i.toNat * e) (j.toNat - i.toNat)), []⟩)) k n ((d, .one (.sv id (i.toNat * e) (j.toNat - i.toNat))) :: sl) tab Q) :
    Goal P C (.ops all (⟨some d, .slice t x (some y) (some z) none, ty, ps, af, g0⟩ :: rest) md) k n sl tab Q := by
  have e1 := of_ev (st := ⟨n, sl, tab⟩) hx
  have e2 := of_ev (st := ⟨n, sl, tab⟩) hy
  have e3 := of_ev (st := ⟨n, sl, tab⟩) hz
  have := metL_step hm (L_saLH (P := P) (rows := rows) (ty := ty) (ps := ps) (af := af) (g := g0) (d := some d) (t := t) e1.1 e2.1 e3.1 (T.es_ok _ _ he) h0 h1 h2) (n := n) (tab := tab)
  exact g_law (L := ⟨some d, gs ++ (rq x (.one (.ar id)) ++ rq y (Kk k0 i) ++ rq z (Kk k1 j)), [(id, .arr e rows)], [], .one (.sv id (i.toNat * e) (j.toNat - i.toNat)), []⟩) hC this.1 rfl ⟨by rw [okS_append, okS_append, okS_append]; exact ⟨this.2, ⟨e1.2, e2.2⟩, e3.2⟩, ⟨hT, trivial⟩, rfl, hd⟩ g
end
end Hw
/- The engine, part BS: a literal slice of the run's own. -/
namespace Hw
open Go
section
variable {P : Program} {d : Option Nat} {ty : TypeId} {ps : String} {af : Array Edge} {g : Option (Nat × Bool)} {t : TypeId}
theorem L_litA {id e len : Nat} {l : List (Nat × Operand)} {ss : List S} {rows : List (List PV)} {el : TypeId} {z : List V} (hx : okcs (l.map (·.2)) ss) (he : elemSz P t = some (el, e)) (hz : zeroV P el = some z)
    (hr : partsR e 0 (l.map (·.1)) ss = some rows) (hl : Nat.beq l.length len = true) (hb : Nat.ble (len * e) 16777216 = true) (hb2 : Nat.ble len 16777216 = true) :
    Snd P ⟨d, .buildSlice t len l.toArray, ty, ps, af, g⟩ (rqs (l.map (·.2)) ss) [] [id] (.one (.ar id)) [(id, some (.arr e rows))] := by
  intro C st M ρ a w hH h1 hT hF hd k Q hk
  have e' := hH.evsS (evs_of hx h1)
  obtain ⟨h2, h3, out, h4, h5, h6⟩ := partsR_spec hr e'
  obtain ⟨ii, hu, hinf, hsz⟩ := elemSz_spec he
  obtain ⟨i', zv, hi', hzv, hzs⟩ := zeroV_len hz
  rw [hinf] at hi'; simp only [Option.some.injEq] at hi'; subst hi'
  have hl' : l.length = len := Nat.eq_of_beq_eq_true hl
  have hb' : len * e ≤ 16777216 := Nat.le_of_ble_eq_true hb
  have hrl : rows.length = len := by rw [h3]; simpa using hl'
  have hzip : (l.toArray.map fun p => (p.1, a.eval p.2)).toList = (l.map (·.1)).zip ((l.map (·.2)).map a.eval) := by
    rw [List.map_map]; simp [List.zip_map']
  have hfull : ∀ cur : Array Value, cur.size = len * e → (setAt cur.toList (0 * e) out).toArray = out.toArray := fun cur hc => by
    unfold setAt
    have : cur.toList.drop (0 * e + out.length) = [] := by apply List.drop_eq_nil_of_le; simp [h5, hrl, hc]
    rw [this]; simp
  have hrun : (execOp a.eval ⟨d, .buildSlice t len l.toArray, ty, ps, af, g⟩).run P w = .ok (.value (.slice (some ⟨w.heap.size, 0, none⟩) len len)) (w.alloc (.cells out.toArray el)) := by
    have hn : ¬ 16777216 < len * e := by omega
    by_cases h0 : len * e = 0
    · have hf := h6 ((Array.range (len * e)).map fun x => (#[] : Array Value)[x % 0]!) (by simp [hrl])
      rw [hfull _ (by simp)] at hf
      rw [← hzip] at hf
      simp only [h0] at hf
      simp [execOp, Instr.buildSlice, run_underlying hu, run_sizeOf hinf, hsz, h0, newRow] at hf ⊢
      simp [hf]
    · have hf := h6 ((Array.range (len * e)).map fun x => zv.cells[x % zv.cells.size]!) (by simp [hrl])
      rw [hfull _ (by simp)] at hf
      rw [← hzip] at hf
      have hzrun : (zeroValue el).run P w = .ok zv w := by simp [zeroValue, typeInfo, hinf, hzv]
      simp [execOp, Instr.buildSlice, run_underlying hu, run_sizeOf hinf, hsz, hn, h0, newRow, hzrun] at hf ⊢
      simp [hf]
  unfold Oper.wp
  rw [hrun, Oper.upon_value]
  refine hk _ _ M _ (hH.alloc (val := .slice (some ⟨w.heap.size, 0, none⟩) len len) (fun b hb => by simp only [Bk, blk, Option.some.injEq] at hb; exact hb.symm) hF.1
    ⟨some ⟨w.heap.size, 0, none⟩, len, by rw [hrl]; exact upd_same _ _ _, by omega, by have := Nat.le_of_ble_eq_true hb2; omega, .inr ⟨w.heap.size, 0, out.toArray, el, (0, 0), rfl, heap_push_new w _, fun i hi => by simp, by simp [h5, hrl], RowsIn.of_cells h2 h4 fun j c hj => ?_⟩⟩ (by simp only [RepS, RepV]; exact ⟨(upd_same _ _ _).symm, rfl⟩) hd)
  rw [Nat.zero_add]; simpa using hj
end
section
variable {P : Program} {C : Ctx} {k : List Frm} {n : Nat} {sl : Slots} {tab : Tab} {Q : Exit → St → Prop} {all : Array Oper} {rest : List Oper}
theorem g_litA (T : Ty P) (hC : C.low) {d : Nat} {t : TypeId} {len : Nat} {l : List (Nat × Operand)} {ty : TypeId} {ps : String} {af : Array Edge} {g0 : Option (Nat × Bool)} {gs : Slots} {md : Mode} {ss : List S} {rows : List (List PV)} {el : TypeId} {e : Nat} {z : List V}
    (hl : evs sl (l.map (·.2)) = some ss) (he : T.es t = some (el, e)) (hz : T.zs el = some z) (hr : partsR e 0 (l.map (·.1)) ss = some rows) (hl1 : Nat.beq l.length len = true) (hl2 : Nat.ble (len * e) 16777216 = true) (hl3 : Nat.ble len 16777216 = true)
    (hm : metL all sl g0 = some gs) (hd : Nat.blt d n = true) (hf : (Nat.ble 100 (1000 + d) && freshB (1000 + d) ⟨n, sl, tab⟩) = true)
    (g : Goal P C (.ops all rest (nx md ⟨some d, gs ++ rqs (l.map (·.2)) ss, [], [1000 + d], .one (.ar (1000 + d)), [(1000 + d, some (.arr e rows))]⟩)) k n ((d, .one (.ar (1000 + d))) :: sl) ((1000 + d, some (.arr e rows)) :: tab) Q) :
    Goal P C (.ops all (⟨some d, .buildSlice t len l.toArray, ty, ps, af, g0⟩ :: rest) md) k n sl tab Q := by
  have e2 := of_evs (st := ⟨n, sl, tab⟩) hl
  have := metL_step hm (L_litA (id := 1000 + d) (ty := ty) (ps := ps) (af := af) (g := g0) (d := some d) e2.1 (T.es_ok _ _ he) (T.zs_ok _ _ hz) hr hl1 hl2 hl3) (n := n) (tab := tab)
  exact g_law (L := ⟨some d, gs ++ rqs (l.map (·.2)) ss, [], [1000 + d], .one (.ar (1000 + d)), [(1000 + d, some (.arr e rows))]⟩) hC this.1 rfl ⟨by rw [okS_append]; exact ⟨this.2, e2.2⟩, trivial, fr_one hf, hd⟩ g
end
end Hw
/- The engine, part BT: a cell's address of an array in a box; the least and the greatest of two. -/
namespace Hw
open Go
section
variable {P : Program} {d : Option Nat} {ty : TypeId} {ps : String} {af : Array Edge} {g : Option (Nat × Bool)} {x y : Operand} {t : TypeId}
theorem L_idxArr {id len : Nat} {el : TypeId} {i : Int} {k : IntKind} (hx : okc x (.one (.bx id 0))) (hy : okc y (Kk k i)) (ht : P.underlying t = some (.array len el)) (hz : (P.info? el).map (·.size) = some 1) (h0 : 0 ≤ i) (hi : i < len) :
    Snd P ⟨d, .indexAddr t x y, ty, ps, af, g⟩ (rq x (.one (.bx id 0)) ++ rq y (Kk k i)) [] [] (.one (.bx id i.toNat)) [] :=
  snd_quiet fun C st M ρ a w hH h1 _ => by
    rw [okS_append] at h1
    have e1 := hH.evS (ev_of hx h1.1)
    have e2 := hH.k (ev_of hy h1.2)
    simp only [RepS, RepV] at e1
    obtain ⟨b, f1, f2⟩ := e1
    have hl : P.arrayLen t = len := by simp [Program.arrayLen, ht]
    have he : P.elem t = el := by simp [Program.elem, ht]
    obtain ⟨ii, hinf, hsz⟩ := Option.map_eq_some_iff.1 hz
    refine ⟨.pointer (some ⟨b, i.toNat, none⟩), ?_, by simp only [RepS, RepV]; exact ⟨b, f1, rfl⟩⟩
    have hrun := run_indexAt_array (P := P) (w := w) t ⟨b, 0, none⟩ k i (by rw [hl, he]; exact ht)
    rw [hl, he, if_pos ⟨h0, hi⟩] at hrun
    simp only [execOp, f2, e2, Sem.run_bind, hrun, run_sizeOf hinf, Result.andThen_ok, Sem.run_pure, hsz, add_addr, Nat.mul_one, Nat.zero_add]
end
section
variable {P : Program} {C : Ctx} {k : List Frm} {n : Nat} {sl : Slots} {tab : Tab} {Q : Exit → St → Prop} {all : Array Oper} {rest : List Oper}
theorem g_idxArr {d : Nat} {x y : Operand} {t ty : TypeId} {ps : String} {af : Array Edge} {g0 : Option (Nat × Bool)} {gs : Slots} {md : Mode} (hC : C.low) {id len : Nat} {el : TypeId} {i : Int} {k0 : IntKind}
    (hx : ev sl x = some (.one (.bx id 0))) (hy : ev sl y = some (Kk k0 i)) (ht : P.underlying t = some (.array len el)) (hz : (P.info? el).map (·.size) = some 1) (h0 : 0 ≤ i) (hi : i < len) (hm : metL all sl g0 = some gs) (hd : Nat.blt d n = true)
    (g : Goal P C (.ops all rest (nx md ⟨some d, gs ++ (rq x (.one (.bx id 0)) ++ rq y (Kk k0 i)), [], [], .one (.bx id i.toNat), []⟩)) k n ((d, .one (.bx id i.toNat)) :: sl) tab Q) :
    Goal P C (.ops all (⟨some d, .indexAddr t x y, ty, ps, af, g0⟩ :: rest) md) k n sl tab Q := by
  have e1 := of_ev (st := ⟨n, sl, tab⟩) hx
  have e2 := of_ev (st := ⟨n, sl, tab⟩) hy
  have := metL_step hm (L_idxArr (P := P) (ty := ty) (ps := ps) (af := af) (g := g0) (d := some d) (t := t) e1.1 e2.1 ht hz h0 hi) (n := n) (tab := tab)
  exact g_law (L := ⟨some d, gs ++ (rq x (.one (.bx id 0)) ++ rq y (Kk k0 i)), [], [], .one (.bx id i.toNat), []⟩) hC this.1 rfl ⟨by rw [okS_append, okS_append]; exact ⟨this.2, e1.2, e2.2⟩, trivial, rfl, hd⟩ g
end
section
variable {P : Program} {d : Option Nat} {ty : TypeId} {ps : String} {af : Array Edge} {g : Option (Nat × Bool)} {x1 x2 : Operand}
theorem L_min2 {tys : Array TypeId} {a b c : Int} (hc : (if b < a then b else a) = c) (h1 : okc x1 (I a)) (h2 : okc x2 (I b)) :
    Snd P ⟨d, .call ⟨.builtin .min, #[x1, x2], tys⟩, ty, ps, af, g⟩ (rq x1 (I a) ++ rq x2 (I b)) [] [] (I c) [] :=
  snd_quiet fun C st M ρ act w hH h _ => by
    rw [okS_append] at h
    have e1 := hH.k (ev_of h1 h.1)
    have e2 := hH.k (ev_of h2 h.2)
    exact ⟨.int .i64 c, by rw [← hc]; simp [execOp, resolve, invoke, builtin, Builtin.min_, Builtin.min2, e1, e2], repK _ _⟩
theorem L_max2 {tys : Array TypeId} {a b c : Int} (hc : (if a < b then b else a) = c) (h1 : okc x1 (I a)) (h2 : okc x2 (I b)) :
    Snd P ⟨d, .call ⟨.builtin .max, #[x1, x2], tys⟩, ty, ps, af, g⟩ (rq x1 (I a) ++ rq x2 (I b)) [] [] (I c) [] :=
  snd_quiet fun C st M ρ act w hH h _ => by
    rw [okS_append] at h
    have e1 := hH.k (ev_of h1 h.1)
    have e2 := hH.k (ev_of h2 h.2)
    exact ⟨.int .i64 c, by rw [← hc]; simp [execOp, resolve, invoke, builtin, Builtin.max_, Builtin.max2, e1, e2], repK _ _⟩
end
section
variable {P : Program} {C : Ctx} {k : List Frm} {n : Nat} {sl : Slots} {tab : Tab} {Q : Exit → St → Prop} {all : Array Oper} {rest : List Oper}
theorem g_min2 {d : Nat} {x1 x2 : Operand} {ts : Array TypeId} {ty : TypeId} {ps : String} {af : Array Edge} {g0 : Option (Nat × Bool)} {gs : Slots} {md : Mode} (hC : C.low) {a b : Int} (c : Int)
    (h1 : ev sl x1 = some (I a)) (h2 : ev sl x2 = some (I b)) (hc : (if b < a then b else a) = c) (hm : metL all sl g0 = some gs) (hd : Nat.blt d n = true)
    (g : Goal P C (.ops all rest (nx md ⟨some d, gs ++ (rq x1 (I a) ++ rq x2 (I b)), [], [], I c, []⟩)) k n ((d, I c) :: sl) tab Q) :
    Goal P C (.ops all (⟨some d, .call ⟨.builtin .min, #[x1, x2], ts⟩, ty, ps, af, g0⟩ :: rest) md) k n sl tab Q := by
  have e1 := of_ev (st := ⟨n, sl, tab⟩) h1
  have e2 := of_ev (st := ⟨n, sl, tab⟩) h2
  have := metL_step hm (L_min2 (P := P) (ty := ty) (ps := ps) (af := af) (g := g0) (d := some d) (tys := ts) hc e1.1 e2.1) (n := n) (tab := tab)
  exact g_law (L := ⟨some d, gs ++ (rq x1 (I a) ++ rq x2 (I b)), [], [], I c, []⟩) hC this.1 rfl ⟨by rw [okS_append, okS_append]; exact ⟨this.2, e1.2, e2.2⟩, trivial, rfl, hd⟩ g
theorem g_max2 {d : Nat} {x1 x2 : Operand} {ts : Array TypeId} {ty : TypeId} {ps : String} {af : Array Edge} {g0 : Option (Nat × Bool)} {gs : Slots} {md : Mode} (hC : C.low) {a b : Int} (c : Int)
    (h1 : ev sl x1 = some (I a)) (h2 : ev sl x2 = some (I b)) (hc : (if a < b then b else a) = c) (hm : metL all sl g0 = some gs) (hd : Nat.blt d n = true)
    (g : Goal P C (.ops all rest (nx md ⟨some d, gs ++ (rq x1 (I a) ++ rq x2 (I b)), [], [], I c, []⟩)) k n ((d, I c) :: sl) tab Q) :
    Goal P C (.ops all (⟨some d, .call ⟨.builtin .max, #[x1, x2], ts⟩, ty, ps, af, g0⟩ :: rest) md) k n sl tab Q := by
  have e1 := of_ev (st := ⟨n, sl, tab⟩) h1
  have e2 := of_ev (st := ⟨n, sl, tab⟩) h2
  have := metL_step hm (L_max2 (P := P) (ty := ty) (ps := ps) (af := af) (g := g0) (d := some d) (tys := ts) hc e1.1 e2.1) (n := n) (tab := tab)
  exact g_law (L := ⟨some d, gs ++ (rq x1 (I a) ++ rq x2 (I b)), [], [], I c, []⟩) hC this.1 rfl ⟨by rw [okS_append, okS_append]; exact ⟨this.2, e1.2, e2.2⟩, trivial, rfl, hd⟩ g
end
end Hw
/- The engine, part BM: strings.Builder: what its functions do to its block and its buffer's, and nothing else. -/
namespace Hw
open Go Go.Proofs Go.Shelf Go.RowKit

/-- The builder's block and its buffer. -/
def BldAt (T e : TypeId) (b : Nat) (p v : Value) (s : ByteArray) (w : World) : Prop :=
  w.heap[b]? = some (.cells #[p, v] T (0, 0)) ∧ w.ownsRowF 0 e 1 v (Lib.strCells s).length (Lib.strCells s) ∧ v.ownBlock ≠ some b ∧ (s.size = 0 → v = .slice none 0 0)
/-- All blocks but b and v's stand; v' lies in a new block, or in v's. -/
structure Kp (b : Nat) (v v' : Value) (w w' : World) : Prop where
  block : ∀ c, c < w.heap.size → c ≠ b → v.ownBlock ≠ some c → w'.heap[c]? = w.heap[c]?
  size : w.heap.size ≤ w'.heap.size
  os : w'.os = w.os
  tape : w'.tape = w.tape
  output : w'.output = w.output
  own : ∀ g, v'.ownBlock = some g → w.heap.size ≤ g ∨ v.ownBlock = some g
theorem Kp.refl (b : Nat) (v : Value) (w : World) : Kp b v v w w := ⟨fun _ _ _ _ => rfl, Nat.le_refl _, rfl, rfl, rfl, fun _ h => .inr h⟩
theorem Kp.trans {b : Nat} {v v' v2 : Value} {w w' w2 : World} (h : Kp b v v' w w') (h2 : Kp b v' v2 w' w2) : Kp b v v2 w w2 :=
  ⟨fun c hc hb hv => (h2.block c (Nat.lt_of_lt_of_le hc h.size) hb fun e => (h.own c e).elim (fun h3 => by omega) hv).trans (h.block c hc hb hv), Nat.le_trans h.size h2.size, h2.os.trans h.os, h2.tape.trans h.tape, h2.output.trans h.output,
    fun g hg => (h2.own g hg).elim (fun h3 => .inl (Nat.le_trans h.size h3)) (h.own g)⟩
theorem Kp.set {b : Nat} (v : Value) (w : World) (j : Nat) (u : Value) : Kp b v v w (w.setCell ⟨b, j, none⟩ u) :=
  ⟨fun c _ hb _ => Below.heap_setCell _ _ _ _ hb, by simp [World.setCell], rfl, rfl, rfl, fun _ h => .inr h⟩
theorem Kp.grown {b : Nat} {v v' : Value} {w w' : World} (h : w.grownBy w' v.ownBlock) (hv : ∀ g, v'.ownBlock = some g → w.heap.size ≤ g ∨ v.ownBlock = some g) : Kp b v v' w w' :=
  ⟨fun c hc _ hne => h.block c hc fun e => hne e.symm, h.size, h.os, h.tape, h.output, hv⟩
theorem Kp.alloc (b : Nat) (v : Value) (w : World) (o : Obj) : Kp b v v w (w.alloc o) :=
  ⟨fun c hc _ _ => Lib.alloc_old w o c hc, by simp, rfl, rfl, rfl, fun _ h => .inr h⟩
theorem BldAt.atF {T e : TypeId} {b : Nat} {p v : Value} {s : ByteArray} {w : World} (h : BldAt T e b p v s w) : Lib.BuilderAtF T e 0 b p (Lib.strCells s) w := ⟨Nat.zero_le _, v, h.1, h.2.1, h.2.2.1⟩
theorem BldAt.lt {T e : TypeId} {b : Nat} {p v : Value} {s : ByteArray} {w : World} (h : BldAt T e b p v s w) : b < w.heap.size := h.atF.lt

theorem BldAt.used {T e : TypeId} {b : Nat} {p v : Value} {s : ByteArray} {w : World} (h : BldAt T e b p v s w) (q : Value) : BldAt T e b q v s (w.setCell ⟨b, 0, none⟩ q) := by
  obtain ⟨hb, hown, hne, hn0⟩ := h
  refine ⟨?_, ?_, hne, hn0⟩
  · simp [World.setCell, Array.getElem?_modify, hb]
  · exact hown.kept (row := some b) ⟨rfl, rfl, rfl, by simp [World.setCell], fun k _ hk => Below.heap_setCell _ _ _ _ (fun e => hk (by simp [e]))⟩ (Or.inr hne)
theorem BldAt.put {T e : TypeId} {b : Nat} {p v v' : Value} {s : ByteArray} {w : World} (hb : w.heap[b]? = some (.cells #[p, v] T (0, 0))) (hown : w.ownsRowF 0 e 1 v' (Lib.strCells s).length (Lib.strCells s)) (hTe : T ≠ e) (hn0 : s.size = 0 → v' = .slice none 0 0) :
    BldAt T e b p v' s (w.setCell ⟨b, 1, none⟩ v') := by
  have hne := Lib.ownBlock_neF hown hb hTe
  refine ⟨?_, ?_, hne, hn0⟩
  · simp [World.setCell, Array.getElem?_modify, hb]
  · exact hown.kept (row := some b) ⟨rfl, rfl, rfl, by simp [World.setCell], fun k _ hk => Below.heap_setCell _ _ _ _ (fun e => hk (by simp [e]))⟩ (Or.inr hne)

/-- A string behind an owned row: where it lies then. -/
theorem app_strX {P : Program} (w : World) (t u ty e : TypeId) (i : TypeInfo) (ht : P.underlying t = some (.slice e)) (hu : P.underlying u = some .string) (hi : P.info? e = some i) (hz : i.zero = some (.int .u8 0))
    (hsize : i.size = 1) (hby : i.bytes = 1) (v : Value) (n : Nat) (xs : List Value) (hown : w.ownsRowF 0 e 1 v n xs) (s : ByteArray) (h63 : n + s.size ≤ maxLen) (hbytes : n + s.size ≤ 140737488355328) :
    ∃ v' w', (Builtin.append_ #[t, u] ty #[v, .string s]).run P w = .ok v' w' ∧ w'.ownsRowF 0 e 1 v' (n + s.size) (xs ++ Lib.strCells s) ∧ w.grownBy w' v.ownBlock ∧ (∀ g, v'.ownBlock = some g → w.heap.size ≤ g ∨ v.ownBlock = some g) ∧ (v = .slice none 0 0 → s.size = 0 → v' = .slice none 0 0) := by
  obtain ⟨v', w', r1, r2, r3, r4⟩ := Lib.run_append_own_stringF (P := P) w 0 t u ty e i ht hu hi hz hsize hby v n xs hown s h63 hbytes (Nat.zero_le _)
  refine ⟨v', w', r1, r2, r3, ?_, fun x y => r4.2 ⟨x, y⟩⟩
  rcases hown.2 with ⟨rfl, rfl⟩ | ⟨g, cap, cur, fz, rfl, hbg, hg, hfz, hnc, hcm, hcs, htake⟩
  · obtain ⟨v2, w2, q1, q2, _⟩ := Lib.run_append_own_stringF (P := P) w w.heap.size t u ty e i ht hu hi hz hsize hby _ 0 xs ⟨hown.1, .inl ⟨rfl, rfl⟩⟩ s h63 hbytes (Nat.le_refl _)
    rw [r1] at q1
    simp only [Result.ok.injEq] at q1
    obtain ⟨rfl, rfl⟩ := q1
    exact fun g hg => .inl (q2.lt g hg).1
  · by_cases hroom : n + s.size ≤ cap
    · have hr := Lib.run_append_room_stringF (P := P) w t u ty e i ht hu hi hsize g n cap cur fz hg (by simpa using hfz) s hroom (by omega)
      rw [r1] at hr
      simp only [Result.ok.injEq] at hr
      obtain ⟨rfl, _⟩ := hr
      exact fun g' hg' => .inr hg'
    · have hr := Lib.run_append_grow_string (P := P) w t u ty e i (.int .u8 0) ht hu hi hz ⟨g, 0, none⟩ n cap xs (by rw [hsize]; simpa using hown.1) (hown.cells (g := g) rfl) s (by omega) (by simp only [maxLen] at h63; omega) (by rw [hby]; exact growslice_fits (by omega) (by omega))
      rw [r1] at hr
      simp only [Result.ok.injEq] at hr
      obtain ⟨rfl, _⟩ := hr
      intro g' hg'
      simp only [Value.ownBlock, Option.some.injEq] at hg'
      exact .inl (by omega)
/-- A slice's cells behind an owned row. -/
theorem app_slX {P : Program} (w : World) (t ty e : TypeId) (i : TypeInfo) (ht : P.underlying t = some (.slice e)) (hi : P.info? e = some i) (hz : i.zero = some (.int .u8 0))
    (hsize : i.size = 1) (hby : i.bytes = 1) (v : Value) (n : Nat) (xs : List Value) (hown : w.ownsRowF 0 e 1 v n xs) (a : Addr) (m c : Nat) (news : List Value) (hl : news.length = m * 1) (hnews : ∀ j u, news[j]? = some u → w.cell? (a.add j) = some u) (h1 : ∀ u ∈ news, u.oneCell' = true)
    (h63 : n + m ≤ maxLen) (hbytes : n + m ≤ 140737488355328) :
    ∃ v' w', (Builtin.append_ #[t, t] ty #[v, .slice (some a) m c]).run P w = .ok v' w' ∧ w'.ownsRowF 0 e 1 v' (n + m) (xs ++ news) ∧ w.grownBy w' v.ownBlock ∧ (∀ g, v'.ownBlock = some g → w.heap.size ≤ g ∨ v.ownBlock = some g) ∧ True := by
  obtain ⟨v', w', r1, r2, r3, r4⟩ := run_append_ownF (P := P) w 0 t ty e i (.int .u8 0) 1 1 ht hi hz hsize hby rfl (by decide) v n xs hown a m c news hl hnews h1 h63 (by omega) (Nat.zero_le _)
  refine ⟨v', w', r1, r2, r3, ?_, trivial⟩
  rcases hown.2 with ⟨rfl, rfl⟩ | ⟨g, cap, cur, fz, rfl, hbg, hg, hfz, hnc, hcm, hcs, htake⟩
  · obtain ⟨v2, w2, q1, q2, _⟩ := run_append_ownF (P := P) w w.heap.size t ty e i (.int .u8 0) 1 1 ht hi hz hsize hby rfl (by decide) _ 0 xs ⟨hown.1, .inl ⟨rfl, rfl⟩⟩ a m c news hl hnews h1 h63 (by omega) (Nat.le_refl _)
    rw [r1] at q1
    simp only [Result.ok.injEq] at q1
    obtain ⟨rfl, rfl⟩ := q1
    exact fun g hg => .inl (q2.lt g hg).1
  · by_cases hroom : n + m ≤ cap
    · have hr := run_append_roomF (P := P) w t ty e i ht hi g n cap cur fz hg (by rw [hsize]; exact hfz) a m c news (by rw [hsize]; exact hl) hnews h1 hroom (by rw [hsize, hl, hcs]; omega)
      rw [r1] at hr
      simp only [Result.ok.injEq] at hr
      obtain ⟨rfl, _⟩ := hr
      exact fun g' hg' => .inr hg'
    · have hr := run_append_grow (P := P) w t ty e i (.int .u8 0) ht hi hz ⟨g, 0, none⟩ n cap xs (by rw [hsize]; exact hown.1) (hown.cells (g := g) rfl) a m c news (by rw [hsize]; exact hl) hnews (by omega) (by simp only [maxLen] at h63; omega) (by rw [hby]; exact growslice_fits (by omega) (by omega))
      rw [r1] at hr
      simp only [Result.ok.injEq] at hr
      obtain ⟨rfl, _⟩ := hr
      intro g' hg'
      simp only [Value.ownBlock, Option.some.injEq] at hg'
      exact .inl (by omega)

section
variable {P : Program} {ρ : Ren}
/-- What the program says of a builder's functions (the body of copyCheck may be another one from seat to seat). -/
structure BldL (P : Program) (ρ : Ren) : Prop extends Lays.n169 P ρ where
  f166 : P.funcs[ρ.f 166]? = some (Body.n166 ρ)
  e240 : ∀ args w, (callFunc (ρ.f 240) args).run P w = .ok (.enter (ρ.f 240) args) w
  chk : ∀ {b : Nat} {p v : Value} {s : ByteArray} {w : World}, (p = .pointer none ∨ p = .pointer (some ⟨b, 0, none⟩)) → BldAt (ρ.t 72) (ρ.t 5) b p v s w →
    Calls P (ρ.f 240) #[.pointer (some ⟨b, 0, none⟩)] w fun e w' => e = .returned (.tuple #[]) ∧ BldAt (ρ.t 72) (ρ.t 5) b (.pointer (some ⟨b, 0, none⟩)) v s w' ∧ Kp b v v w w'
  t4 : P.underlying (ρ.t 4) = some (TypeDesc.bool)
  a4 : ∀ w, (isAgg (ρ.t 4)).run P w = .ok false w
  z4 : ∀ w, (Go.sizeOf (ρ.t 4)).run P w = .ok 1 w
  v4 : ∀ w, (zeroValue (ρ.t 4)).run P w = .ok (Value.bool false) w
  t164 : P.underlying (ρ.t 164) = some (TypeDesc.unsafePointer)
  a164 : ∀ w, (isAgg (ρ.t 164)).run P w = .ok false w
  z164 : ∀ w, (Go.sizeOf (ρ.t 164)).run P w = .ok 1 w
  v164 : ∀ w, (zeroValue (ρ.t 164)).run P w = .ok (Value.pointer none) w

/-- The operation, for a walk. -/
theorem wp_app_str (w : World) {ops : Array Oper} {rest : List Oper} {o : Oper} {a : Act} {Q : Exit → Act → World → Prop} (hgd : o.guard = none) (sl x : Operand) (t u : TypeId)
    (ho : o.op = .call { callee := .builtin .append, args := #[sl, x], argTypes := #[t, u] }) (e : TypeId) (i : TypeInfo) (ht : P.underlying t = some (.slice e)) (hu : P.underlying u = some .string) (hi : P.info? e = some i) (hz : i.zero = some (.int .u8 0))
    (hsize : i.size = 1) (hby : i.bytes = 1) (v : Value) (n : Nat) (xs : List Value) (hs : a.eval sl = v) (hown : w.ownsRowF 0 e 1 v n xs) (s : ByteArray) (hx : a.eval x = .string s) (h63 : n + s.size ≤ maxLen) (hbytes : n + s.size ≤ 140737488355328)
    (h : ∀ v' w', w'.ownsRowF 0 e 1 v' (n + s.size) (xs ++ Lib.strCells s) → w.grownBy w' v.ownBlock → (∀ g, v'.ownBlock = some g → w.heap.size ≤ g ∨ v.ownBlock = some g) → (v = .slice none 0 0 → s.size = 0 → v' = .slice none 0 0) → wpList P ops Q rest (a.put o.dst v') w') : wpList P ops Q (o :: rest) a w := by
  refine wpList_plain hgd fun K hK => ?_
  obtain ⟨v', w', hr, h2, h3, h4, h5⟩ := app_strX (P := P) w t u o.type e i ht hu hi hz hsize hby v n xs hown s h63 hbytes
  unfold Oper.wp execOp
  simp only [ho, resolve, invoke, builtin, Sem.run_bind, Sem.run_pure, Result.andThen_ok, List.map_toArray, List.map_cons, List.map_nil, hs, hx, hr]
  exact hK _ _ (h v' w' h2 h3 h4 h5)
theorem wp_app_sl (w : World) {ops : Array Oper} {rest : List Oper} {o : Oper} {a : Act} {Q : Exit → Act → World → Prop} (hgd : o.guard = none) (sl x : Operand) (t : TypeId)
    (ho : o.op = .call { callee := .builtin .append, args := #[sl, x], argTypes := #[t, t] }) (e : TypeId) (i : TypeInfo) (ht : P.underlying t = some (.slice e)) (hi : P.info? e = some i) (hz : i.zero = some (.int .u8 0))
    (hsize : i.size = 1) (hby : i.bytes = 1) (v : Value) (n : Nat) (xs : List Value) (hs : a.eval sl = v) (hown : w.ownsRowF 0 e 1 v n xs) (ad : Addr) (m c : Nat) (news : List Value) (hx : a.eval x = .slice (some ad) m c) (hl : news.length = m * 1)
    (hnews : ∀ j u, news[j]? = some u → w.cell? (ad.add j) = some u) (h1 : ∀ u ∈ news, u.oneCell' = true) (h63 : n + m ≤ maxLen) (hbytes : n + m ≤ 140737488355328)
    (h : ∀ v' w', w'.ownsRowF 0 e 1 v' (n + m) (xs ++ news) → w.grownBy w' v.ownBlock → (∀ g, v'.ownBlock = some g → w.heap.size ≤ g ∨ v.ownBlock = some g) → wpList P ops Q rest (a.put o.dst v') w') : wpList P ops Q (o :: rest) a w := by
  refine wpList_plain hgd fun K hK => ?_
  obtain ⟨v', w', hr, h2, h3, h4, _⟩ := app_slX (P := P) w t o.type e i ht hi hz hsize hby v n xs hown ad m c news hl hnews h1 h63 hbytes
  unfold Oper.wp execOp
  simp only [ho, resolve, invoke, builtin, Sem.run_bind, Sem.run_pure, Result.andThen_ok, List.map_toArray, List.map_cons, List.map_nil, hs, hx, hr]
  exact hK _ _ (h v' w' h2 h3 h4)

theorem app0 {s t : ByteArray} (h : (s ++ t).size = 0) : s.size = 0 ∧ t.size = 0 := by rw [size_app] at h; omega
theorem strCells_app (s t : ByteArray) : Lib.strCells (s ++ t) = Lib.strCells s ++ Lib.strCells t := by
  simp [Lib.strCells, ByteArray.data_append]

set_option maxHeartbeats 2000000 in
set_option maxRecDepth 100000 in
theorem bld_ws (L : BldL P ρ) (X : Builder.Extra P ρ) {b : Nat} {p v : Value} {s : ByteArray} {w : World} (hp : p = .pointer none ∨ p = .pointer (some ⟨b, 0, none⟩)) (h : BldAt (ρ.t 72) (ρ.t 5) b p v s w) (t : ByteArray) (hlen : s.size + t.size ≤ 140737488355328) :
    Calls P (ρ.f 166) #[.pointer (some ⟨b, 0, none⟩), .string t] w fun e w' => e = .returned (.tuple #[.int .i64 t.size, .nilIface]) ∧ ∃ v', BldAt (ρ.t 72) (ρ.t 5) b (.pointer (some ⟨b, 0, none⟩)) v' (s ++ t) w' ∧ Kp b v v' w w' := by
  obtain ⟨i0, hi, hz0, hz1, hz2⟩ := info_parts X.infoByte
  have mixed := L.mixed
  have t72 := L.t72; have a72 := L.a72; have z72 := L.z72; have v72 := L.v72; have u72 := run_underlying L.t72
  have t70 := L.t70; have a70 := L.a70; have z70 := L.z70; have v70 := L.v70; have u70 := run_underlying L.t70
  have t37 := L.t37; have a37 := L.a37; have z37 := L.z37; have v37 := L.v37; have u37 := run_underlying L.t37
  have t3 := L.t3; have a3 := L.a3; have z3 := L.z3; have v3 := L.v3; have u3 := run_underlying L.t3
  have t9 := L.t9; have a9 := L.a9; have z9 := L.z9; have v9 := L.v9; have u9 := run_underlying L.t9
  have t4 := L.t4; have a4 := L.a4; have z4 := L.z4; have v4 := L.v4; have u4 := run_underlying L.t4
  have t164 := L.t164; have a164 := L.a164; have z164 := L.z164; have v164 := L.v164; have u164 := run_underlying L.t164
  have t5 := X.t5; have a5 := X.a5; have z5 := X.z5; have v5 := X.v5; have u5 := run_underlying X.t5
  have e240 := L.e240
  go_enter L.f166, Body.n166_ntmps ρ
  go_wp2_with (go_at_fn (ρ.f 240); refine (L.chk hp h).mono ?_)
  rintro e w1 ⟨rfl, h1, k1⟩
  have hlt := h1.lt
  obtain ⟨hbk, hown, hne, hn0⟩ := h1
  have c0 : w1.cell? ⟨b, 0, none⟩ = some (.pointer (some ⟨b, 0, none⟩)) := by rw [Lib.cell_of_heap hbk]; rfl
  have c1 : w1.cell? ⟨b, 1, none⟩ = some v := by rw [Lib.cell_of_heap hbk]; rfl
  go_wp2_with (at_builtin; refine wp_app_str _ rfl _ _ (ρ.t 37) (ρ.t 9) rfl (ρ.t 5) i0 L.t37 L.t9 hi hz0 hz1 hz2 _ _ _ rfl hown t rfl ?c3 ?c4 ?_)
  case c3 => unfold maxLen; rw [Lib.strCells_length]; omega
  case c4 => rw [Lib.strCells_length]; omega
  intro v' w2 hown' hgrow hv' hv0
  have hb2 : w2.heap[b]? = some (.cells #[.pointer (some ⟨b, 0, none⟩), v] (ρ.t 72) (0, 0)) := by
    rw [hgrow.block b hlt (fun e => hne e.symm)]
    exact hbk
  have d0 : w2.cell? ⟨b, 0, none⟩ = some (.pointer (some ⟨b, 0, none⟩)) := by rw [Lib.cell_of_heap hb2]; rfl
  have d1 : w2.cell? ⟨b, 1, none⟩ = some v := by rw [Lib.cell_of_heap hb2]; rfl
  have f1 : w2.frozen? ⟨b, 1, none⟩ = false := Lib.frozen_of_heap hb2 1
  have k2 : Kp b v v' w1 w2 := Kp.grown hgrow hv'
  obtain ⟨ao, n', cap, rfl⟩ : ∃ ao n' cap, v' = .slice ao n' cap := by
    rcases hown'.2 with ⟨hv, _⟩ | ⟨g, cap, cur, fz, hv, _⟩
    · exact ⟨_, _, _, hv⟩
    · exact ⟨_, _, _, hv⟩
  go_wp2
  go_ret2
  refine ⟨rfl, _, BldAt.put hb2 (s := s ++ t) ?_ X.neB5 (fun h0 => hv0 (hn0 (app0 h0).1) (ByteArray.size_eq_zero_iff.1 (app0 h0).2)), (k1.trans k2).trans (Kp.set _ _ _ _)⟩
  rw [strCells_app, List.length_append, Lib.strCells_length t]
  exact hown'

set_option maxHeartbeats 2000000 in
set_option maxRecDepth 100000 in
theorem bld_wb (L : BldL P ρ) (f167 : P.funcs[ρ.f 167]? = some (Body.n167 ρ)) (X : Builder.Extra P ρ) {b : Nat} {p v : Value} {s : ByteArray} {w : World} (hp : p = .pointer none ∨ p = .pointer (some ⟨b, 0, none⟩)) (h : BldAt (ρ.t 72) (ρ.t 5) b p v s w) (c : UInt8) (hlen : s.size + 1 ≤ 140737488355328) :
    Calls P (ρ.f 167) #[.pointer (some ⟨b, 0, none⟩), .int .u8 c.toNat] w fun e w' => e = .returned .nilIface ∧ ∃ v', BldAt (ρ.t 72) (ρ.t 5) b (.pointer (some ⟨b, 0, none⟩)) v' (s ++ ⟨#[c]⟩) w' ∧ Kp b v v' w w' := by
  obtain ⟨i0, hi, hz0, hz1, hz2⟩ := info_parts X.infoByte
  have mixed := L.mixed
  have t72 := L.t72; have a72 := L.a72; have z72 := L.z72; have v72 := L.v72; have u72 := run_underlying L.t72
  have t70 := L.t70; have a70 := L.a70; have z70 := L.z70; have v70 := L.v70; have u70 := run_underlying L.t70
  have t5 := X.t5; have a5 := X.a5; have z5 := X.z5; have v5 := X.v5; have u5 := run_underlying X.t5
  have t37 := L.t37; have a37 := L.a37; have z37 := L.z37; have v37 := L.v37; have u37 := run_underlying L.t37
  have t9 := L.t9; have a9 := L.a9; have z9 := L.z9; have v9 := L.v9; have u9 := run_underlying L.t9
  have t4 := L.t4; have a4 := L.a4; have z4 := L.z4; have v4 := L.v4; have u4 := run_underlying L.t4
  have t164 := L.t164; have a164 := L.a164; have z164 := L.z164; have v164 := L.v164; have u164 := run_underlying L.t164
  have e240 := L.e240
  go_enter f167, Body.n167_ntmps ρ
  go_wp2_with (go_at_fn (ρ.f 240); refine (L.chk hp h).mono ?_)
  rintro e w1 ⟨rfl, h1, k1⟩
  have hlt := h1.lt
  obtain ⟨hbk, hown, hne, hn0⟩ := h1
  have c0 : w1.cell? ⟨b, 0, none⟩ = some (.pointer (some ⟨b, 0, none⟩)) := by rw [Lib.cell_of_heap hbk]; rfl
  have c1 : w1.cell? ⟨b, 1, none⟩ = some v := by rw [Lib.cell_of_heap hbk]; rfl
  go_wp2_with (at_builtin; refine wp_app_sl _ rfl _ _ (ρ.t 37) rfl (ρ.t 5) i0 L.t37 hi hz0 hz1 hz2 _ _ _ rfl (hown.alloc _) ⟨w1.heap.size, 0, none⟩ 1 1 [.int .u8 c.toNat] rfl rfl ?c1 ?c2 ?c3 ?c4 ?_)
  case c1 =>
    intro j u hj
    match j, hj with
    | 0, hj => simp at hj; subst hj; simp [Addr.add]
  case c2 => intro u hu; simp at hu; subst hu; rfl
  case c3 => unfold maxLen; rw [Lib.strCells_length]; omega
  case c4 => rw [Lib.strCells_length]; omega
  intro v' w2 hown' hgrow hv'
  have hb2 : w2.heap[b]? = some (.cells #[.pointer (some ⟨b, 0, none⟩), v] (ρ.t 72) (0, 0)) := by
    rw [hgrow.block b (by simp; omega) (fun e => hne e.symm), Lib.alloc_old w1 _ b hlt]
    exact hbk
  have d0 : w2.cell? ⟨b, 0, none⟩ = some (.pointer (some ⟨b, 0, none⟩)) := by rw [Lib.cell_of_heap hb2]; rfl
  have d1 : w2.cell? ⟨b, 1, none⟩ = some v := by rw [Lib.cell_of_heap hb2]; rfl
  have f1 : w2.frozen? ⟨b, 1, none⟩ = false := Lib.frozen_of_heap hb2 1
  have k2 := (Kp.alloc b v w1 _).trans (Kp.grown (b := b) hgrow (fun g hg => (hv' g hg).imp (fun h => by simpa using h) id))
  obtain ⟨ao, n', cap, rfl⟩ : ∃ ao n' cap, v' = .slice ao n' cap := by
    rcases hown'.2 with ⟨hv, _⟩ | ⟨g, cap, cur, fz, hv, _⟩
    · exact ⟨_, _, _, hv⟩
    · exact ⟨_, _, _, hv⟩
  go_wp2
  go_ret
  refine ⟨rfl, _, BldAt.put hb2 (s := s ++ ⟨#[c]⟩) ?_ X.neB5 (fun h0 => absurd h0 (by rw [size_app]; exact Nat.succ_ne_zero _)), (k1.trans k2).trans (Kp.set _ _ _ _)⟩
  rw [strCells_app, List.length_append]
  exact hown'
theorem bld_len (l170 : Lays.n170 P ρ) {b : Nat} {p v : Value} {s : ByteArray} {w : World} (hp : p = .pointer none ∨ p = .pointer (some ⟨b, 0, none⟩)) (h : BldAt (ρ.t 72) (ρ.t 5) b p v s w) :
    Calls P (ρ.f 170) #[.pointer (some ⟨b, 0, none⟩)] w fun e w' => e = .returned (.int .i64 s.size) ∧ w' = w := by
  have := Any.Builder_Len_f l170 0 b (Lib.strCells s) w (by
    rcases hp with rfl | rfl
    · exact .inl h.atF
    · exact .inr h.atF)
  rw [Lib.strCells_length] at this
  exact this
theorem Kp.freeze {b g : Nat} {v : Value} (hv : v.ownBlock = some g) (w : World) (n : Nat) : Kp b v v w (w.drew.freeze ⟨g, 0, none⟩ n) := by
  unfold World.freeze
  split
  · exact ⟨fun _ _ _ _ => rfl, Nat.le_refl _, rfl, rfl, rfl, fun _ h => .inr h⟩
  · refine ⟨fun c _ _ hne => ?_, by rw [Array.size_modify]; exact Nat.le_refl _, rfl, rfl, rfl, fun _ h => .inr h⟩
    rw [hv] at hne
    simp only [Array.getElem?_modify]
    rw [if_neg (fun e => hne (by rw [e]))]
    rfl
set_option maxHeartbeats 1000000 in
set_option maxRecDepth 100000 in
theorem bld_str (L : BldL P ρ) (X : Builder.Extra P ρ) {b : Nat} {p v : Value} {s : ByteArray} {w : World} (h : BldAt (ρ.t 72) (ρ.t 5) b p v s w) :
    Calls P (ρ.f 169) #[.pointer (some ⟨b, 0, none⟩)] w fun e w' => e = .returned (.string s) ∧ Kp b v v w w' := by
  obtain ⟨hbk, hown, hne, hn0⟩ := h
  by_cases h0 : s.size = 0
  · have hv := hn0 h0
    subst hv
    have hs : s = ⟨#[]⟩ := ByteArray.size_eq_zero_iff.1 h0
    refine (Any.Builder_String_nil L.ton169 X w.heap.size b p w hbk).mono ?_
    rintro e w' ⟨rfl, hb⟩
    exact ⟨by rw [hs], fun c hc _ _ => hb.block c hc, hb.size, hb.os, hb.tape, hb.output, fun _ h => .inr h⟩
  have hl : s.data.toList ≠ [] := fun e => h0 (by rw [← Lib.strCells_length, Lib.strCells, e]; rfl)
  have hsz : s.data.toList.length = s.size := by rw [Array.length_toList]; rfl
  rw [Lib.strCells_length] at hown
  obtain ⟨g, cap, cur, fz, rfl, hg, hfz, hnc, hcm, hcs, htake⟩ : ∃ g cap cur fz, v = .slice (some ⟨g, 0, none⟩) s.size cap ∧ w.heap[g]? = some (.cells cur (ρ.t 5) fz) ∧ fz.2 ≤ s.size * 1 ∧ s.size ≤ cap ∧ cap ≤ maxLen ∧ cur.size = cap * 1 ∧ cur.toList.take (s.size * 1) = Lib.strCells s := by
    rcases hown.2 with ⟨_, hz⟩ | ⟨g, cap, cur, fz, hv, _, r⟩
    · exact absurd hz h0
    · exact ⟨g, cap, cur, fz, hv, r⟩
  have c1 : w.drew.cell? ⟨b, 1, none⟩ = some (.slice (some ⟨g, 0, none⟩) s.size cap) := by
    have : w.drew.heap[b]? = some (.cells #[p, .slice (some ⟨g, 0, none⟩) s.size cap] (ρ.t 72) (0, 0)) := hbk
    rw [Lib.cell_of_heap this]; rfl
  have hSD : (Builtin.unsafeSliceData_ #[(ρ.t 37)] (ρ.t 127) #[.slice (some ⟨g, 0, none⟩) s.size cap]).run P w.drew = .ok (.pointer (some ⟨g, 0, none⟩)) w.drew :=
    Lib.run_unsafeSliceData_row _ _ _ _ _ _ (by omega)
  have hUS : (Builtin.unsafeString_ #[(ρ.t 127), (ρ.t 3)] (ρ.t 9) #[.pointer (some ⟨g, 0, none⟩), .int .i64 s.size]).run P w.drew = .ok (.string s) (w.drew.freeze ⟨g, 0, none⟩ s.size) := by
    have := Lib.run_unsafeString_row (P := P) w.drew (ρ.t 127) (ρ.t 3) (ρ.t 9) (ρ.t 5) L.t127 X.cellsByte g cur.size (by have hg' : w.drew.heap[g]? = some (.cells cur (ρ.t 5) fz) := hg; simp [World.shape?, hg']) s.data.toList hl (by omega) (by unfold maxLen at hcm; omega) (fun j x hx => by
      have := hown.cells (g := g) rfl j (.int .u8 x.toNat) (by simp [Lib.strCells, hx])
      exact this)
    rw [hsz] at this
    exact this
  have mixed := L.mixed
  have t72 := L.t72; have a72 := L.a72; have z72 := L.z72; have v72 := L.v72; have u72 := run_underlying L.t72
  have t70 := L.t70; have a70 := L.a70; have z70 := L.z70; have v70 := L.v70; have u70 := run_underlying L.t70
  have t37 := L.t37; have a37 := L.a37; have z37 := L.z37; have v37 := L.v37; have u37 := run_underlying L.t37
  have t127 := L.t127; have a127 := L.a127; have z127 := L.z127; have v127 := L.v127; have u127 := run_underlying L.t127
  have t3 := L.t3; have a3 := L.a3; have z3 := L.z3; have v3 := L.v3; have u3 := run_underlying L.t3
  have t9 := L.t9; have a9 := L.a9; have z9 := L.z9; have v9 := L.v9; have u9 := run_underlying L.t9
  have t5 := X.t5; have a5 := X.a5; have z5 := X.z5; have v5 := X.v5; have u5 := run_underlying X.t5
  go_enter L.f169, Body.n169_ntmps ρ
  go_wp2
  go_region_o
  all_goals (go_wp2; go_ret; exact ⟨rfl, Kp.freeze rfl w _⟩)
end

/-! ### As contracts -/
theorem own_blk (v : Value) (h : ∃ (a : Option Addr) (n c : Nat), v = .slice a n c) : blk v = v.ownBlock := by
  obtain ⟨a, n, c, rfl⟩ := h
  cases a <;> rfl
theorem owned_sl {w : World} {e : TypeId} {v : Value} {n : Nat} {xs : List Value} (h : w.ownsRowF 0 e 1 v n xs) : ∃ (a : Option Addr) (n c : Nat), v = .slice a n c := by
  rcases h.2 with ⟨hv, _⟩ | ⟨g, cap, cur, fz, hv, _⟩
  · exact ⟨_, _, _, hv⟩
  · exact ⟨_, _, _, hv⟩
/-- What a builder's word says of the blocks. -/
theorem bk_bld {b : Nat} {v : Value} {c : Nat} (hv : ∃ (a : Option Addr) (n c : Nat), v = .slice a n c) : Bk (.tuple [Value.pointer (some ⟨b, 0, none⟩), v].toArray) c ↔ c = b ∨ v.ownBlock = some c := by
  rw [← own_blk v hv]
  constructor
  · rintro ⟨x, hx, hb⟩
    have hx' : x = Value.pointer (some ⟨b, 0, none⟩) ∨ x = v := by simpa using hx
    rcases hx' with rfl | rfl
    · simp only [blk, Option.some.injEq] at hb; exact .inl hb.symm
    · exact .inr hb
  · rintro (rfl | h)
    · exact ⟨Value.pointer (some ⟨c, 0, none⟩), by simp, rfl⟩
    · exact ⟨v, by simp, h⟩

/-- A builder's function: what it is called with, besides; how it leaves the builder. -/
theorem fn_bld {P : Program} {f : FuncId} {T e : TypeId} {b : Nat} {s s' : ByteArray} {av : List Value} {r : Value} (hc : CallOK P f)
    (h : ∀ (p v : Value) (w : World), GOw w → (p = .pointer none ∨ p = .pointer (some ⟨b, 0, none⟩)) → BldAt T e b p v s w → Calls P f (.pointer (some ⟨b, 0, none⟩) :: av).toArray w fun x w' => x = .returned r ∧
      ∃ p' v', (p' = .pointer none ∨ p' = .pointer (some ⟨b, 0, none⟩)) ∧ BldAt T e b p' v' s' w' ∧ Kp b v v' w w')
    {res : S} (hr : ∀ M ρ, RepS M ρ res r) : FnOK P f (.one (.p (.k (.pointer (some ⟨b, 0, none⟩)))) :: av.map fun a => .one (.p (.k a))) [(0, .bld T e b s)] res [(1, .bld T e b s')] := by
  refine ⟨hc, fun M ρ w xs hx ht hI hG => ?_⟩
  match xs, hx with
  | [], hx => simp [RepSs] at hx
  | x :: xs, hx =>
    simp only [RepSs, RepS, RepV, RepPV] at hx
    obtain ⟨⟨rfl, _⟩, hxs⟩ := hx
    obtain rfl := reps_k hxs
    obtain ⟨p, v, h1, hp, hb⟩ := ht.res 0 (.bld T e b s) (by simp [tb, tg])
    have hv := owned_sl hb.2.1
    have hown : ∀ c, Owns (tb [(0, .bld T e b s)]) ρ c ↔ c = b ∨ v.ownBlock = some c := fun c => by
      rw [← bk_bld hv, ← h1]
      constructor
      · rintro ⟨i, r, hi, hbk⟩
        simp only [tb, tg_cons] at hi
        split at hi
        · rename_i e; rw [e]; exact hbk
        · cases hi
      · exact fun hbk => ⟨0, .bld T e b s, by simp [tb, tg], hbk⟩
    refine (h p v w (gow_of hI hG) hp hb).mono fun ex w' ⟨he, p', v', hp', hb', hk⟩ => ?_
    have hv' := owned_sl hb'.2.1
    have w1 : upd ρ 1 (.tuple [Value.pointer (some ⟨b, 0, none⟩), v'].toArray) 1 = .tuple [Value.pointer (some ⟨b, 0, none⟩), v'].toArray := upd_same _ _ _
    have one : ∀ i q, tg (tb [(1, .bld T e b s')]) i = some q → i = 1 ∧ q = .bld T e b s' := fun i q hi => by
      simp only [tb, tg_cons] at hi
      split at hi
      · rename_i e; exact ⟨e.symm, (Option.some.inj hi).symm⟩
      · cases hi
    have mI : ∀ c o u, M c o = some u → c ≠ b ∧ v.ownBlock ≠ some c := fun c o u hu => by
      have hn : ¬ Owns (tb [(0, .bld T e b s)]) ρ c := fun ⟨i, q, hi, hbk⟩ => by rw [ht.own i q c hi hbk o] at hu; cases hu
      rw [hown] at hn
      exact ⟨fun e => hn (.inl e), fun e => hn (.inr e)⟩
    have nowM : ∀ c, c = b ∨ v'.ownBlock = some c → ∀ o, M c o = none := fun c hc o => by
      cases hm : M c o with
      | none => rfl
      | some u =>
        have := mI c o u hm
        have hlt := cell_lt (hI c o u hm)
        rcases hc with rfl | hc
        · exact absurd rfl this.1
        · rcases hk.own c hc with h3 | h3
          · omega
          · exact absurd h3 this.2
    refine ⟨r, M, upd ρ 1 (.tuple [Value.pointer (some ⟨b, 0, none⟩), v'].toArray), he, hr _ _, ⟨fun i q hi => ?_, fun i j ri rj c hi hj hne => ?_, fun i q c hi hc o => ?_⟩, fun c o u hu => ?_, MLe.refl M, fun c o u hu => .inl hu, fun c hc => ?_, fun c hc hn => ?_, hk.size, hk.os, hk.tape, hk.output, fun id hid => ?_⟩
    · obtain ⟨rfl, rfl⟩ := one i q hi
      exact ⟨p', v', w1, hp', hb'⟩
    · exact absurd ((one i ri hi).1.trans (one j rj hj).1.symm) hne
    · obtain ⟨rfl, rfl⟩ := one i q hi
      rw [w1, bk_bld hv'] at hc
      exact nowM c hc o
    · rw [cell_of_heap (hk.block c (cell_lt (hI c o u hu)) (mI c o u hu).1 (mI c o u hu).2)]; exact hI c o u hu
    · obtain ⟨i, q, hi, hbk⟩ := hc
      obtain ⟨rfl, rfl⟩ := one i q hi
      rw [w1, bk_bld hv'] at hbk
      rw [hown]
      rcases hbk with h3 | h3
      · exact .inr (.inl h3)
      · exact (hk.own c h3).imp id .inr
    · rw [hown] at hn
      exact hk.block c hc (fun e => hn (.inl e)) fun e => hn (.inr e)
    · simp only [RL.ids, List.mem_cons, List.mem_nil_iff, or_false] at hid
      subst hid; exact upd_other (by decide)
/-- A builder's function that ends it. -/
theorem fn_bldX {P : Program} {f : FuncId} {T e : TypeId} {b : Nat} {s : ByteArray} {r : Value} (hc : CallOK P f)
    (h : ∀ (p v : Value) (w : World), GOw w → (p = .pointer none ∨ p = .pointer (some ⟨b, 0, none⟩)) → BldAt T e b p v s w → Calls P f #[.pointer (some ⟨b, 0, none⟩)] w fun x w' => x = .returned r ∧ Kp b v v w w')
    {res : S} (hr : ∀ M ρ, RepS M ρ res r) : FnOK P f [.one (.p (.k (.pointer (some ⟨b, 0, none⟩))))] [(0, .bld T e b s)] res [] := by
  refine ⟨hc, fun M ρ w xs hx ht hI hG => ?_⟩
  match xs, hx with
  | [], hx => simp [RepSs] at hx
  | _ :: _ :: _, hx => simp [RepSs] at hx
  | [x], hx =>
    simp only [RepSs, RepS, RepV, RepPV] at hx
    obtain ⟨⟨rfl, _⟩, _⟩ := hx
    obtain ⟨p, v, h1, hp, hb⟩ := ht.res 0 (.bld T e b s) (by simp [tb, tg])
    have hv := owned_sl hb.2.1
    have hown : ∀ c, Owns (tb [(0, .bld T e b s)]) ρ c ↔ c = b ∨ v.ownBlock = some c := fun c => by
      rw [← bk_bld hv, ← h1]
      constructor
      · rintro ⟨i, r, hi, hbk⟩
        simp only [tb, tg_cons] at hi
        split at hi
        · rename_i e; rw [e]; exact hbk
        · cases hi
      · exact fun hbk => ⟨0, .bld T e b s, by simp [tb, tg], hbk⟩
    have mI : ∀ c o u, M c o = some u → c ≠ b ∧ v.ownBlock ≠ some c := fun c o u hu => by
      have hn : ¬ Owns (tb [(0, .bld T e b s)]) ρ c := fun ⟨i, q, hi, hbk⟩ => by rw [ht.own i q c hi hbk o] at hu; cases hu
      rw [hown] at hn
      exact ⟨fun e => hn (.inl e), fun e => hn (.inr e)⟩
    refine (h p v w (gow_of hI hG) hp hb).mono fun ex w' ⟨he, hk⟩ => ?_
    refine ⟨r, M, ρ, he, hr _ _, ⟨fun i q hi => (by cases hi), fun i j ri rj c hi => (by cases hi), fun i q c hi => (by cases hi)⟩, fun c o u hu => ?_, MLe.refl M, fun c o u hu => .inl hu, fun c hc => ?_, fun c hc hn => ?_, hk.size, hk.os, hk.tape, hk.output, fun id hid => rfl⟩
    · rw [cell_of_heap (hk.block c (cell_lt (hI c o u hu)) (mI c o u hu).1 (mI c o u hu).2)]; exact hI c o u hu
    · obtain ⟨i, q, hi, _⟩ := hc; cases hi
    · rw [hown] at hn
      exact hk.block c hc (fun e => hn (.inl e)) fun e => hn (.inr e)
/-- A builder's pointer. -/
abbrev Bp (b : Nat) : S := .one (.p (.k (.pointer (some ⟨b, 0, none⟩))))
section
variable {P : Program} {C : Ctx} {k : List Frm} {n : Nat} {sl : Slots} {tab : Tab} {Q : Exit → St → Prop} {all : Array Oper} {rest : List Oper}
/-- A builder's variable. -/
theorem g_newBld {d : Nat} {t ty : TypeId} {ps : String} {af : Array Edge} (hC : C.low) (e : TypeId) (hz : zeroV P t = some [.p (.k (.pointer none)), .p (.k (.slice none 0 0))]) (hd : Nat.blt d n = true) (hf : freshB (1000 + d) ⟨n, sl, tab⟩ = true)
    (g : ∀ b : Nat, Goal P C (.ops all rest none) k n ((d, Bp b) :: sl) ((1000 + d, some (.bld t e b ByteArray.empty)) :: tab) Q) : Goal P C (.ops all (⟨some d, .alloc t, ty, ps, af, none⟩ :: rest) none) k n sl tab Q := by
  refine fun M ρ a w hH => wpList_step fun K hK => ?_
  simp only [Region.wanted, if_true]
  have hfr : Fresh C (1000 + d) ⟨n, sl, tab⟩ := fresh_of hf (hC.none (by omega))
  obtain ⟨zv, hz1, hz2, _⟩ := zeroV_spec hz M ρ w
  have hz4 : zv.cells = #[Value.pointer none, .slice none 0 0] := by
    generalize hL : zv.cells.toList = L at hz2
    match L, hz2 with
    | [], hz2 => simp [RepVs] at hz2
    | [_], hz2 => simp [RepVs] at hz2
    | _ :: _ :: _ :: _, hz2 => simp [RepVs] at hz2
    | [x, y], hz2 =>
      simp only [RepVs, RepV, RepPV] at hz2
      rw [hz2.1.1, hz2.2.1.1] at hL
      rw [← Array.toArray_toList (xs := zv.cells), hL]
  have hrun : (execOp a.eval ⟨some d, .alloc t, ty, ps, af, none⟩).run P w = .ok (.value (.pointer (some ⟨w.heap.size, 0, none⟩))) (w.alloc (.cells zv.cells t)) := by
    simp [execOp, Instr.alloc, newVar, newRow, hz1]
  unfold Oper.wp
  rw [hrun, Oper.upon_value]
  refine hK _ _ (g w.heap.size M _ _ _ (hH.alloc (st := ⟨n, sl, tab⟩) (d := some d) (v := Bp w.heap.size) (id := 1000 + d) (r' := .bld t e w.heap.size ByteArray.empty) (val := .tuple [Value.pointer (some ⟨w.heap.size, 0, none⟩), .slice none 0 0].toArray) (fun b hb => ?_) hfr
    ⟨.pointer none, .slice none 0 0, upd_same _ _ _, .inl rfl, by rw [hz4]; exact heap_push_new w _, ⟨rfl, .inl ⟨rfl, rfl⟩⟩, by simp [Value.ownBlock], fun _ => rfl⟩ ?_ hd))
  · rw [bk_bld ⟨_, _, _, rfl⟩] at hb
    rcases hb with rfl | hb
    · rfl
    · cases hb
  · simp only [RepS, RepV, RepPV]; exact ⟨trivial, rfl⟩
end
end Hw
