/- The engine, part BK: parts of owned arrays. -/
import Derived.Test.YtnijeifpjjeccaaGreatC2
import Derived.Test.YtnijeifpjjeccaaGreatC1
import Derived.Sort.Grow
set_option linter.unusedVariables false
set_option linter.unusedSimpArgs false
namespace Hw
open Go

section
variable {P : Program} {d : Option Nat} {ty : TypeId} {ps : String} {af : Array Edge} {g : Option (Nat × Bool)} {x y z : Operand} {t : TypeId}
theorem rep_sv {M : Mem} {ρ : Nat → Value} {w : World} {id e : Nat} {ids : List Nat} {rows : List (List PC)} {l h : Nat} {a : Option Addr} {cap : Nat} (hr : HoldsR M ρ w id (.vw ids e rows)) (hv : ρ id = .slice a rows.length cap) (h1 : l ≤ h) (h2 : h ≤ rows.length) :
    RepV M ρ (.sv id (l * e) (h - l)) (sliced a l h cap e) := by
  obtain ⟨a', cap', e1, e2, e3, _, e4⟩ := hr
  rw [hv] at e1
  simp only [Value.slice.injEq] at e1
  obtain ⟨rfl, _, rfl⟩ := e1
  simp only [RepV]
  by_cases hc : cap = l
  · left
    exact ⟨by omega, a, cap - l, by simp only [sliced, if_pos hc]; congr 1; omega⟩
  · rcases e4 with ⟨rfl, rfl⟩ | ⟨b, o, cs, el, fz, rfl, _⟩
    · omega
    · right
      exact ⟨b, o, _, cap, cap - l, hv, by simp [sliced, if_neg hc, Addr.add], by omega, by omega⟩
theorem L_svLH {id e : Nat} {ids : List Nat} {rows : List (List PC)} {i j : Int} {k k' : IntKind} {el : TypeId} (hx : okc x (.one (.ar id))) (hy : okc y (Kk k i)) (hz : okc z (Kk k' j)) (he : elemSz P t = some (el, e)) (h0 : 0 ≤ i) (h1 : i ≤ j) (h2 : j ≤ rows.length) :
    Snd P ⟨d, .slice t x (some y) (some z) none, ty, ps, af, g⟩ (rq x (.one (.ar id)) ++ rq y (Kk k i) ++ rq z (Kk k' j)) [(id, .vw ids e rows)] [] (.one (.sv id (i.toNat * e) (j.toNat - i.toNat))) [] :=
  snd_quiet fun C st M ρ b w hH hs hT => by
    rw [okS_append, okS_append] at hs
    have e1 := hH.evS (ev_of hx hs.1.1)
    have e2 := hH.k (ev_of hy hs.1.2)
    have e3 := hH.k (ev_of hz hs.2)
    simp only [RepS, RepV] at e1
    have hR := hH.tabs.res id _ hT.1
    obtain ⟨a, cap, f1, f2, f3, _⟩ := hH.tabs.res id _ hT.1
    obtain ⟨hu, hsz⟩ := elem_of he
    refine ⟨sliced a i.toNat j.toNat cap e, ?_, by simp only [RepS]; exact rep_sv hR f1 (by omega) (by omega)⟩
    simp only [execOp, e1.1, f1, e2, e3, Option.map_none, Option.map_some, Sem.run_bind, run_sliceAt_slice w t _ _ _ _ hu, run_slice_lh w t a rows.length cap hu k k' i j h0 h1 (by omega), hsz, Result.andThen_ok, Sem.run_pure]
theorem sv_slice {M : Mem} {ρ : Nat → Value} {id kk m : Nat} {v : Value} (h : RepV M ρ (.sv id kk m) v) : ∃ a c, v = .slice a m c := by
  simp only [RepV] at h
  rcases h with ⟨rfl, a, c, h⟩ | ⟨b, o, N, cap, c, _, h, _⟩
  · exact ⟨a, c, h⟩
  · exact ⟨_, c, h⟩
theorem L_len_sv {id kk m : Nat} {as' : Array TypeId} {el : TypeId} {n : Nat} (hx : okc x (.one (.sv id kk m))) (ha : as'[0]? = some t) (h : elemSz P t = some (el, n)) :
    Snd P ⟨d, .call ⟨.builtin .len, #[x], as'⟩, ty, ps, af, g⟩ (rq x (.one (.sv id kk m))) [] [] (I m) [] :=
  snd_quiet fun C st M ρ a w hH h1 ht => by
    have e' := hH.evS (ev_of hx h1)
    simp only [RepS] at e'
    obtain ⟨a', c, h3⟩ := sv_slice e'
    obtain ⟨ii, hu, hinf, hsz⟩ := elemSz_spec h
    exact ⟨.int .i64 m, by simp [execOp, resolve, invoke, builtin, Builtin.len_, ha, h3, run_underlying hu, goInt], repK _ _⟩
theorem L_index_sv {id kk m e : Nat} {i : Int} {k : IntKind} {el : TypeId} (hx : okc x (.one (.sv id kk m))) (hy : okc y (Kk k i)) (h : elemSz P t = some (el, e)) (h0 : 0 ≤ i) (hi : i < m) :
    Snd P ⟨d, .indexAddr t x y, ty, ps, af, g⟩ (rq x (.one (.sv id kk m)) ++ rq y (Kk k i)) [] [] (.one (.el id (kk + i.toNat * e))) [] :=
  snd_quiet fun C st M ρ a w hH h1 ht => by
    rw [okS_append] at h1
    have e1 := hH.evS (ev_of hx h1.1)
    have e2 := hH.k (ev_of hy h1.2)
    simp only [RepS, RepV] at e1
    obtain ⟨ii, hu, hinf, hsz⟩ := elemSz_spec h
    rcases e1 with ⟨rfl, _⟩ | ⟨b, o, N, cap, c, f1, f2, _⟩
    · omega
    · refine ⟨.pointer (some ⟨b, o + kk + i.toNat * e, none⟩), ?_, by simp only [RepS, RepV]; exact ⟨b, o, N, cap, f1, by rw [Nat.add_assoc]⟩⟩
      simp only [execOp, f2, e2, Instr.indexAt, asIntOf, Sem.run_bind, Sem.run_pure, Result.andThen_ok, run_underlying hu]
      rw [if_pos ⟨h0, hi⟩]
      simp only [Sem.run_bind, Sem.run_pure, Result.andThen_ok, run_sizeOf hinf, add_addr, hsz]
/-- What is appended: a part of an owned array. -/
theorem SrcW.sv {e : Nat} {tx el : TypeId} {id l m : Nat} {ids : List Nat} {rows : List (List PC)} (h : elemSz P tx = some (el, e)) (hl : l + m ≤ rows.length) : SrcW P e tx (.one (.sv id (l * e) m)) [(id, .vw ids e rows)] ((rows.drop l).take m) ids := by
  intro C st M ρ a w v hH hr ht
  obtain ⟨_, hu, _, _⟩ := elemSz_spec h
  have hlen : ((rows.drop l).take m).length = m := by rw [List.length_take, List.length_drop]; omega
  obtain ⟨b, cap, h1, h2, h3, hle, h4⟩ := hH.tabs.res id _ ht.1
  have hle' : ∀ r ∈ (rows.drop l).take m, r.length = e := fun r hr => hle r (List.mem_of_mem_drop (List.mem_of_mem_take hr))
  simp only [RepS, RepV] at hr
  rw [hlen]
  rcases hr with ⟨rfl, a0, c0, rfl⟩ | ⟨b0, o0, N, cap0, c0, f1, rfl, f3, f4⟩
  · refine ⟨[], ?_, by simp, by simp⟩
    cases a0 with
    | none => exact Src.ofNil w hu c0
    | some ad => exact Src.ofSlice w hu ad 0 c0 [] (by simp) (by simp) (by simp)
  · rcases h4 with ⟨rfl, hc⟩ | ⟨b', o, cs, el', fz, rfl, h6, _, _, h8⟩
    · rw [h1] at f1; simp at f1
    · rw [h1] at f1
      simp only [Value.slice.injEq, Option.some.injEq, Addr.mk.injEq] at f1
      obtain ⟨⟨rfl, rfl, _⟩, _, rfl⟩ := f1
      have hfl := flat_len hle'
      rw [hlen] at hfl
      have hat : ∀ j x, ((rows.drop l).take m).flatten[j]? = some x → rows.flatten[l * e + j]? = some x := fun j x hj => by
        obtain ⟨i, c, row, g1, g2, g3, g4⟩ := flat_get hle' hj
        have him : i < m := by have := (List.getElem?_eq_some_iff.1 g3).1; omega
        rw [List.getElem?_take, if_pos him, List.getElem?_drop] at g3
        have := flat_at hle (i := l + i) (c := c) g2
        rw [g3, Nat.add_mul] at this
        rw [g1, ← Nat.add_assoc, this]; exact g4
      obtain ⟨us, h9, h10⟩ := repVs_of (M := M) (ρ := ρ) (vs := ((rows.drop l).take m).flatten.map (toV ids)) (g := fun j => cs[o + (l * e + j)]?) fun j u hj => by
        rw [List.getElem?_map, Option.map_eq_some_iff] at hj
        obtain ⟨p, hp, rfl⟩ := hj
        exact h8 _ p (hat j p hp)
      refine ⟨us, Src.ofSlice w hu _ _ c0 us (by rw [h9.length, List.length_map, hfl]) (fun j u hj => by rw [add_addr]; have := h10 j u hj; simp only [← Nat.add_assoc] at this; simp [World.cell?, h6, this]) h9.one, fun j p hj => ?_, hle'⟩
      exact repVs_at h9 (m := j) (by rw [List.getElem?_map, hj]; rfl)
end
section
variable {P : Program} {C : Ctx} {k : List Frm} {n : Nat} {sl : Slots} {tab : Tab} {Q : Exit → St → Prop} {all : Array Oper} {rest : List Oper}
theorem g_svLH (T : Ty P) {d : Nat} {x y z : Operand} {t ty : TypeId} {ps : String} {af : Array Edge} {g0 : Option (Nat × Bool)} {gs : Slots} {md : Mode} (hC : C.low) {id e : Nat} {ids : List Nat} {rows : List (List PC)} {i j : Int} {k0 k1 : IntKind} {el : TypeId}
    (hx : ev sl x = some (.one (.ar id))) (hy : ev sl y = some (Kk k0 i)) (hz : ev sl z = some (Kk k1 j)) (hT : tg tab id = some (.vw ids e rows)) (he : T.es t = some (el, e)) (h0 : 0 ≤ i) (h1 : i ≤ j) (h2 : j ≤ rows.length) (hm : metL all sl g0 = some gs) (hd : Nat.blt d n = true)
    (g : Goal P C (.ops all rest (nx md ⟨some d, gs ++ (rq x (.one (.ar id)) ++ rq y (Kk k0 i) ++ rq z (Kk k1 j)), [(id, .vw ids e rows)], [], .one (.sv id (i.toNat * e) (j.toNat - i.toNat)), []⟩)) k n ((d, .one (.sv id (i.toNat * e) (j.toNat - i.toNat))) :: sl) tab Q) :
    Goal P C (.ops all (⟨some d, .slice t x (some y) (some z) none, ty, ps, af, g0⟩ :: rest) md) k n sl tab Q := by
  have e1 := of_ev (st := ⟨n, sl, tab⟩) hx
  have e2 := of_ev (st := ⟨n, sl, tab⟩) hy
  have e3 := of_ev (st := ⟨n, sl, tab⟩) hz
  have := metL_step hm (L_svLH (P := P) (ids := ids) (rows := rows) (ty := ty) (ps := ps) (af := af) (g := g0) (d := some d) (t := t) e1.1 e2.1 e3.1 (T.es_ok _ _ he) h0 h1 h2) (n := n) (tab := tab)
  exact g_law (L := ⟨some d, gs ++ (rq x (.one (.ar id)) ++ rq y (Kk k0 i) ++ rq z (Kk k1 j)), [(id, .vw ids e rows)], [], .one (.sv id (i.toNat * e) (j.toNat - i.toNat)), []⟩) hC this.1 rfl ⟨by rw [okS_append, okS_append, okS_append]; exact ⟨this.2, ⟨e1.2, e2.2⟩, e3.2⟩, ⟨hT, trivial⟩, rfl, hd⟩ g
theorem g_lenS (T : Ty P) {d : Nat} {x : Operand} {t ty : TypeId} {ps : String} {af : Array Edge} {g0 : Option (Nat × Bool)} {gs : Slots} {md : Mode} (hC : C.low) {id kk m : Nat} {el : TypeId} {sz : Nat}
    (hx : ev sl x = some (.one (.sv id kk m))) (he : T.es t = some (el, sz)) (hm : metL all sl g0 = some gs) (hd : Nat.blt d n = true)
    (g : Goal P C (.ops all rest (nx md ⟨some d, gs ++ rq x (.one (.sv id kk m)), [], [], I m, []⟩)) k n ((d, I m) :: sl) tab Q) :
    Goal P C (.ops all (⟨some d, .call ⟨.builtin .len, #[x], #[t]⟩, ty, ps, af, g0⟩ :: rest) md) k n sl tab Q := by
  have e1 := of_ev (st := ⟨n, sl, tab⟩) hx
  have := metL_step hm (L_len_sv (as' := #[t]) (ty := ty) (ps := ps) (af := af) (g := g0) (d := some d) e1.1 rfl (T.es_ok _ _ he)) (n := n) (tab := tab)
  exact g_law (L := ⟨some d, gs ++ rq x (.one (.sv id kk m)), [], [], I m, []⟩) hC this.1 rfl ⟨by rw [okS_append]; exact ⟨this.2, e1.2⟩, trivial, rfl, hd⟩ g
theorem g_idxSv (T : Ty P) {d : Nat} {x y : Operand} {t ty : TypeId} {ps : String} {af : Array Edge} {g0 : Option (Nat × Bool)} {gs : Slots} {md : Mode} (hC : C.low) {id kk m e : Nat} {k0 : IntKind} {i : Int} {el : TypeId}
    (hx : ev sl x = some (.one (.sv id kk m))) (hy : ev sl y = some (Kk k0 i)) (he : T.es t = some (el, e)) (h0 : 0 ≤ i) (hi : i < m) (hm : metL all sl g0 = some gs) (hd : Nat.blt d n = true)
    (g : Goal P C (.ops all rest (nx md ⟨some d, gs ++ (rq x (.one (.sv id kk m)) ++ rq y (Kk k0 i)), [], [], .one (.el id (kk + i.toNat * e)), []⟩)) k n ((d, .one (.el id (kk + i.toNat * e))) :: sl) tab Q) :
    Goal P C (.ops all (⟨some d, .indexAddr t x y, ty, ps, af, g0⟩ :: rest) md) k n sl tab Q := by
  have e1 := of_ev (st := ⟨n, sl, tab⟩) hx
  have e2 := of_ev (st := ⟨n, sl, tab⟩) hy
  have := metL_step hm (L_index_sv (ty := ty) (ps := ps) (af := af) (g := g0) (d := some d) e1.1 e2.1 (T.es_ok _ _ he) h0 hi) (n := n) (tab := tab)
  exact g_law (L := ⟨some d, gs ++ (rq x (.one (.sv id kk m)) ++ rq y (Kk k0 i)), [], [], .one (.el id (kk + i.toNat * e)), []⟩) hC this.1 rfl ⟨by rw [okS_append, okS_append]; exact ⟨this.2, e1.2, e2.2⟩, trivial, rfl, hd⟩ g
end
end Hw
/- The engine, part BL: an array is taken out of a bag; arrays of a bag as what is appended. -/
namespace Hw
open Go

/-- What is known behind an array that was taken out of a bag. -/
def OpF (id id' id2 j : Nat) (ρ : Nat → Value) : Prop := ∃ (cs : List Value) (v : Value), ρ id = .tuple cs.toArray ∧ cs[j]? = some v ∧ ρ id2 = v ∧ ρ id' = .tuple (cs.set j (.slice none 0 0)).toArray
theorem OpF.nv {id id' id2 j i : Nat} (h : i ≠ j) : RwV (OpF id id' id2 j) (.nv id i) (.nv id' i) := fun M ρ x hF hr => by
  obtain ⟨cs, v, h1, h2, h3, h4⟩ := hF
  simp only [RepV] at hr ⊢
  obtain ⟨xs, f1, f2, f3⟩ := hr
  rw [h1] at f1
  have : xs = cs := by simp only [Value.tuple.injEq] at f1; have := congrArg Array.toList f1; simpa using this.symm
  subst this
  exact ⟨_, h4, by rw [List.getElem?_set_ne (fun e => h e.symm)]; exact f2, f3⟩
theorem OpF.ar {id id' id2 j : Nat} : RwV (OpF id id' id2 j) (.nv id j) (.ar id2) := fun M ρ x hF hr => by
  obtain ⟨cs, v, h1, h2, h3, h4⟩ := hF
  simp only [RepV] at hr ⊢
  obtain ⟨xs, f1, f2, f3⟩ := hr
  rw [h1] at f1
  have : xs = cs := by simp only [Value.tuple.injEq] at f1; have := congrArg Array.toList f1; simpa using this.symm
  subst this
  rw [h2] at f2
  exact ⟨by rw [h3]; exact (Option.some.inj f2).symm, f3⟩
section
variable {P : Program} {C : Ctx} {k : List Frm} {n : Nat} {sl : Slots} {tab : Tab} {Q : Exit → St → Prop} {cur : Cur}
theorem g_open (hC : C.low) (hc : lst cur = true) (id id' id2 j : Nat) {e : Nat} {L : List (List (List PV))} {rs : List (List PV)} (hid : tg tab id = some (.bag e L)) (hj : L[j]? = some rs) (hne : Nat.beq id' id2 = false)
    (hf : (Nat.ble 100 id' && freshB id' ⟨n, sl, tab⟩) = true) (hf2 : (Nat.ble 100 id2 && freshB id2 ⟨n, sl, tab⟩) = true)
    (ups : Slots) (hS : upS (RwS (OpF id id' id2 j)) sl ups) (bs : List (Nat × Res)) (hB : upW (OpF id id' id2 j) [id] [id', id2] tab bs)
    (g : Goal P C cur k n (ups ++ sl) (resT bs ++ ((id', some (.bag e (L.set j []))) :: (id2, some (.arr e rs)) :: (id, none) :: tab)) Q) : Goal P C cur k n sl tab Q := by
  have hne' : id' ≠ id2 := fun e => by subst e; rw [beq_self] at hne; cases hne
  refine g_reword hC hc [id] [(id', .bag e (L.set j [])), (id2, .arr e rs)] (OpF id id' id2 j) (by simp only [RL.ids, allB, hf, hf2, Bool.and_true]) (fun {M ρ w} hT => ?_) ups hS bs hB g
  simp only [Bool.and_eq_true] at hf hf2
  have nid : id ≠ id' ∧ id ≠ id2 := ⟨((fresh_of (C := C) hf.2 (hC.none (Nat.le_of_ble_eq_true hf.1))).2.1 id _ hid).1, ((fresh_of (C := C) hf2.2 (hC.none (Nat.le_of_ble_eq_true hf2.1))).2.1 id _ hid).1⟩
  obtain ⟨cs, h1, h2, h3, h4⟩ := hT.res id _ hid
  obtain ⟨v, v1, v2⟩ := h3 j rs hj
  have hjl := (List.getElem?_eq_some_iff.1 v1).1
  obtain ⟨av, capv, g1, _⟩ := v2
  obtain ⟨v, v1, v2⟩ := h3 j rs hj
  have bkv : ∀ q, Bk v q → blk v = some q := fun q hq => by
    obtain ⟨av, capv, g1, _⟩ := v2
    rw [g1] at hq ⊢; exact hq
  have two : ∀ i r, tg (tb [(id', Res.bag e (L.set j [])), (id2, .arr e rs)]) i = some r → (i = id' ∧ r = .bag e (L.set j [])) ∨ (i = id2 ∧ i ≠ id' ∧ r = .arr e rs) := fun i r hi => by
    simp only [tb, tg_cons] at hi
    split at hi
    · rename_i e; exact .inl ⟨e.symm, (Option.some.inj hi).symm⟩
    · rename_i e0
      split at hi
      · rename_i e; exact .inr ⟨e.symm, fun h => e0 h.symm, (Option.some.inj hi).symm⟩
      · cases hi
  let ρ' := upd (upd ρ id2 v) id' (.tuple (cs.set j (.slice none 0 0)).toArray)
  have r1 : ρ' id' = .tuple (cs.set j (.slice none 0 0)).toArray := upd_same _ _ _
  have r2 : ρ' id2 = v := by simp only [ρ']; rw [upd_other (fun e => hne' e.symm), upd_same]
  have r3 : ∀ i, i ≠ id' → i ≠ id2 → ρ' i = ρ i := fun i a b => by simp only [ρ']; rw [upd_other a, upd_other b]
  -- the cells of the new bag
  have cell : ∀ (i : Nat) z, (cs.set j (.slice none 0 0))[i]? = some z → (i = j ∧ z = .slice none 0 0) ∨ (i ≠ j ∧ cs[i]? = some z) := fun i z hz => by
    by_cases hij : j = i
    · subst hij
      rw [List.getElem?_set_self hjl] at hz
      exact .inl ⟨rfl, (Option.some.inj hz).symm⟩
    · rw [List.getElem?_set_ne hij] at hz
      exact .inr ⟨fun e => hij e.symm, hz⟩
  refine ⟨ρ', ⟨cs, v, by rw [r3 id nid.1 nid.2]; exact h1, v1, r2, r1⟩, fun i hi => r3 i (by simp [RL.ids] at hi; exact hi.1) (by simp [RL.ids] at hi; exact hi.2), fun i r hi => ?_, fun i r b hi hb => ?_, fun i i' ri rj b hi hj' hne2 hb1 hb2 => ?_⟩
  · rcases two i r hi with ⟨rfl, rfl⟩ | ⟨rfl, _, rfl⟩
    · refine ⟨_, r1, by rw [List.length_set, List.length_set]; exact h2, fun q rq hq => ?_, fun a b' q x y hx hy hab hbx hby => ?_⟩
      · by_cases hqj : j = q
        · subst hqj
          rw [List.getElem?_set_self (by omega)] at hq
          obtain rfl := Option.some.inj hq
          exact ⟨.slice none 0 0, by rw [List.getElem?_set_self hjl], none, 0, rfl, by simp, by simp, .inl ⟨rfl, rfl⟩⟩
        · rw [List.getElem?_set_ne hqj] at hq
          obtain ⟨c, c1, c2⟩ := h3 q rq hq
          exact ⟨c, by rw [List.getElem?_set_ne hqj]; exact c1, c2⟩
      · rcases cell a x hx with ⟨_, rfl⟩ | ⟨_, hx'⟩
        · simp [blk] at hbx
        · rcases cell b' y hy with ⟨_, rfl⟩ | ⟨_, hy'⟩
          · simp [blk] at hby
          · exact h4 a b' q x y hx' hy' hab hbx hby
    · have hA : ArrIn M w (ρ' i) e rs := by rw [r2]; exact v2
      exact hA
  · rcases two i r hi with ⟨rfl, rfl⟩ | ⟨rfl, _, rfl⟩
    · rw [r1] at hb
      obtain ⟨x, hx, hxb⟩ := hb
      obtain ⟨q, hq⟩ := List.mem_iff_getElem?.1 (by simpa using hx : x ∈ cs.set j (.slice none 0 0))
      rcases cell q x hq with ⟨_, rfl⟩ | ⟨_, hq'⟩
      · simp [blk] at hxb
      · exact ⟨id, _, by simp, hid, by rw [h1]; exact bk_of hq' hxb⟩
    · rw [r2] at hb
      exact ⟨id, _, by simp, hid, by rw [h1]; exact bk_of v1 (bkv b hb)⟩
  · have key : ∀ q b, Bk (ρ' id') b → Bk (ρ' id2) b → q = b → False := fun q b hb1 hb2 _ => by
      rw [r1] at hb1
      rw [r2] at hb2
      obtain ⟨x, hx, hxb⟩ := hb1
      obtain ⟨q, hq⟩ := List.mem_iff_getElem?.1 (by simpa using hx : x ∈ cs.set j (.slice none 0 0))
      rcases cell q x hq with ⟨_, rfl⟩ | ⟨hqj, hq'⟩
      · simp [blk] at hxb
      · exact h4 q j b x v hq' v1 hqj hxb (bkv b hb2)
    rcases two i ri hi with ⟨rfl, _⟩ | ⟨rfl, _, _⟩ <;> rcases two i' rj hj' with ⟨rfl, _⟩ | ⟨rfl, _, _⟩
    · exact hne2 rfl
    · exact key b b hb1 hb2 rfl
    · exact key b b hb2 hb1 rfl
    · exact hne2 rfl
end
section
variable {P : Program}
/-- What is appended: an array of a bag. -/
theorem SrcS.nv {e q : Nat} {tx el : TypeId} {id : Nat} {L : List (List (List PV))} {rs : List (List PV)} (h : elemSz P tx = some (el, e)) (hq : L[q]? = some rs) (hl : ∀ r ∈ rs, r.length = e) : SrcS P e tx (.one (.nv id q)) [(id, .bag e L)] rs := by
  intro C st M ρ a w v hH hr hT
  obtain ⟨_, hu, _, _⟩ := elemSz_spec h
  simp only [RepS, RepV] at hr
  obtain ⟨xs, f1, f2, _⟩ := hr
  obtain ⟨a', cap, rfl, h2, h3, h4⟩ := bag_inner (hH.tabs.res id _ hT.1) hq f1 f2
  rcases h4 with ⟨rfl, hc⟩ | ⟨b', o, cs, el', fz, rfl, h6, _, _, h8⟩
  · have : rs = [] := List.length_eq_zero_iff.1 (by omega)
    subst this
    exact ⟨[], Src.ofNil w hu cap, by simp [RepVs], by simp⟩
  · obtain ⟨us, g1, g2, g3⟩ := h8.cells (ρ := ρ)
    exact ⟨us, Src.ofSlice w hu _ _ cap us g2 (fun j u hj => by rw [add_addr]; have := g3 j u hj; simp [World.cell?, h6, this]) g1.one, g1, hl⟩
end
end Hw
/- The engine, part BN: a bag's arrays numbered anew; grids: an owned array of owned arrays, row by row; grids lent and frozen. -/
namespace Hw
open Go Go.Proofs

/-- What is known behind a bag of some of a bag's arrays. -/
def RbF (id id' : Nat) (js : List Nat) (ρ : Nat → Value) : Prop := ∃ cs ds : List Value, ρ id = .tuple cs.toArray ∧ ρ id' = .tuple ds.toArray ∧ ∀ (i q : Nat), js[i]? = some q → ds[i]? = cs[q]?
theorem RbF.nv {id id' i q : Nat} {js : List Nat} (h : js[i]? = some q) : RwV (RbF id id' js) (.nv id q) (.nv id' i) := fun M ρ x hF hr => by
  obtain ⟨cs, ds, h1, h2, h3⟩ := hF
  simp only [RepV] at hr ⊢
  obtain ⟨xs, f1, f2, f3⟩ := hr
  rw [h1] at f1
  have : xs = cs := by simp only [Value.tuple.injEq] at f1; have := congrArg Array.toList f1; simpa using this.symm
  subst this
  exact ⟨ds, h2, by rw [h3 i q h]; exact f2, f3⟩
section
variable {P : Program} {C : Ctx} {k : List Frm} {n : Nat} {sl : Slots} {tab : Tab} {Q : Exit → St → Prop} {cur : Cur}
/-- A bag of some of a bag's arrays. -/
theorem g_rebag (hC : C.low) (hc : lst cur = true) (id id' : Nat) (js : List Nat) {e : Nat} {L : List (List (List PV))} (L' : List (List (List PV))) (hid : tg tab id = some (.bag e L)) (hnd : js.Nodup) (hl : L'.length = js.length)
    (hat : ∀ (i q : Nat), js[i]? = some q → q < L.length ∧ L'[i]? = L[q]?)
    (hf : (Nat.ble 100 id' && freshB id' ⟨n, sl, tab⟩) = true)
    (ups : Slots) (hS : upS (RwS (RbF id id' js)) sl ups) (bs : List (Nat × Res)) (hB : upW (RbF id id' js) [id] [id'] tab bs)
    (g : Goal P C cur k n (ups ++ sl) (resT bs ++ ((id', some (.bag e L')) :: (id, none) :: tab)) Q) : Goal P C cur k n sl tab Q := by
  refine g_reword hC hc [id] [(id', .bag e L')] (RbF id id' js) (by simp only [RL.ids, allB, hf, Bool.and_true]) (fun {M ρ w} hT => ?_) ups hS bs hB g
  simp only [Bool.and_eq_true] at hf
  have nid : id ≠ id' := ((fresh_of (C := C) hf.2 (hC.none (Nat.le_of_ble_eq_true hf.1))).2.1 id _ hid).1
  obtain ⟨cs, h1, h2, h3, h4⟩ := hT.res id _ hid
  have only : ∀ i r, tg (tb [(id', Res.bag e L')]) i = some r → i = id' ∧ r = .bag e L' := fun i r hi => by
    simp only [tb, tg_cons] at hi
    split at hi
    · rename_i e; exact ⟨e.symm, (Option.some.inj hi).symm⟩
    · cases hi
  let ds : List Value := js.map fun q => (cs[q]?).getD undef
  have hds : ∀ i q, js[i]? = some q → ds[i]? = cs[q]? := fun i q hi => by
    have hq := (hat i q hi).1
    show (js.map fun q => (cs[q]?).getD undef)[i]? = _
    rw [List.getElem?_map, hi, Option.map_some, List.getElem?_eq_getElem (l := cs) (i := q) (by omega), Option.getD_some]
  have hds2 : ∀ (i : Nat) z, ds[i]? = some z → ∃ q, js[i]? = some q ∧ cs[q]? = some z := fun i z hz => by
    have hlt := (List.getElem?_eq_some_iff.1 hz).1
    have hlj : i < js.length := by simpa [ds] using hlt
    exact ⟨js[i], List.getElem?_eq_getElem hlj, by rw [← hds i _ (List.getElem?_eq_getElem hlj)]; exact hz⟩
  refine ⟨upd ρ id' (.tuple ds.toArray), ⟨cs, ds, by rw [upd_other nid]; exact h1, upd_same _ _ _, hds⟩, fun i hi => upd_other (by simpa [RL.ids] using hi), fun i r hi => ?_, fun i r b hi hb => ?_, fun i j ri rj b hi hj hne _ _ => ?_⟩
  · obtain ⟨rfl, rfl⟩ := only i r hi
    refine ⟨ds, upd_same _ _ _, by simp only [ds, List.length_map]; exact hl.symm, fun j rs hj => ?_, fun a b' q x y hx hy hab hbx hby => ?_⟩
    · have hjl := (List.getElem?_eq_some_iff.1 hj).1
      have hq : js[j]? = some js[j] := List.getElem?_eq_getElem (by omega)
      rw [(hat j _ hq).2] at hj
      obtain ⟨c, c1, c2⟩ := h3 _ rs hj
      exact ⟨c, by rw [hds j _ hq]; exact c1, c2⟩
    · obtain ⟨qa, ha1, ha2⟩ := hds2 a x hx
      obtain ⟨qb, hb1, hb2⟩ := hds2 b' y hy
      refine h4 qa qb q x y ha2 hb2 (fun e => hab ?_) hbx hby
      subst e
      exact (List.getElem?_inj (List.getElem?_eq_some_iff.1 ha1).1 hnd).1 (ha1.trans hb1.symm)
  · obtain ⟨rfl, _⟩ := only i r hi
    rw [upd_same] at hb
    obtain ⟨x, hx, hxb⟩ := hb
    obtain ⟨j, hj⟩ := List.mem_iff_getElem?.1 (by simpa using hx : x ∈ ds)
    obtain ⟨q, _, hq⟩ := hds2 j x hj
    exact ⟨id, _, by simp, hid, by rw [h1]; exact bk_of hq hxb⟩
  · obtain ⟨rfl, _⟩ := only i ri hi
    obtain ⟨rfl, _⟩ := only j rj hj
    exact hne rfl
/-- The rows of a grid: the arrays of a bag, in an order. -/
def grJ (js : List Nat) : List (List PC) := js.map fun q => [PC.n 0 q]
def gr (n : Nat) : List (List PC) := grJ (List.range n)
theorem grJ_len (js : List Nat) : (grJ js).length = js.length := List.length_map _
theorem gr_len (n : Nat) : (gr n).length = n := by rw [gr, grJ_len, List.length_range]
theorem grJ_one (js : List Nat) : ∀ r ∈ grJ js, r.length = 1 := fun r hr => by obtain ⟨_, _, rfl⟩ := List.mem_map.1 hr; rfl
theorem gr_one (n : Nat) : ∀ r ∈ gr n, r.length = 1 := grJ_one _
theorem grJ_flat (js : List Nat) : (grJ js).flatten = js.map (PC.n 0) := by
  induction js with
  | nil => rfl
  | cons a l ih => simp only [grJ, List.map_cons, List.flatten_cons] at ih ⊢; rw [ih]; rfl
theorem grJ_at {js : List Nat} {i q : Nat} (h : js[i]? = some q) : (grJ js).flatten[i]? = some (.n 0 q) := by rw [grJ_flat, List.getElem?_map, h]; rfl
theorem gr_at {n i : Nat} (h : i < n) : (gr n).flatten[i]? = some (.n 0 i) := grJ_at (by rw [List.getElem?_range h])
/-- A grid whose rows stand in another order: numbered anew. -/
theorem g_norm (hC : C.low) (hc : lst cur = true) (o id id' : Nat) (js : List Nat) {e : Nat} {L : List (List (List PV))} (L' : List (List (List PV))) (ho : tg tab o = some (.vw [id] 1 (grJ js))) (hid : tg tab id = some (.bag e L)) (hnd : js.Nodup) (hl : L'.length = js.length)
    (hat : ∀ (i q : Nat), js[i]? = some q → q < L.length ∧ L'[i]? = L[q]?)
    (hf : (Nat.ble 100 id' && freshB id' ⟨n, sl, tab⟩) = true) (hne : (hasB o [id] || hasB o [id']) = false)
    (g : Goal P C cur k n sl ((o, some (.vw [id'] 1 (gr js.length))) :: (id', some (.bag e L')) :: (id, none) :: tab) Q) : Goal P C cur k n sl tab Q := by
  refine g_rebag hC hc id id' js L' hid hnd hl hat hf [] trivial [(o, .vw [id'] 1 (gr js.length))] ⟨⟨_, ho, hne, RwR.vw (by rw [grJ_len, gr_len]) (gr_one _) fun j x' hj => ?_⟩, trivial⟩ g
  rw [gr, grJ_flat, List.getElem?_map, Option.map_eq_some_iff] at hj
  obtain ⟨q, hq, rfl⟩ := hj
  have hjl := (List.getElem?_eq_some_iff.1 hq).1
  rw [List.length_range] at hjl
  rw [List.getElem?_range hjl] at hq
  obtain rfl := Option.some.inj hq
  have h : js[j]? = some js[j] := List.getElem?_eq_getElem hjl
  exact ⟨_, grJ_at h, RbF.nv h⟩
end
section
variable {P : Program} {d : Option Nat} {ty et : TypeId} {ps : String} {af : Array Edge} {g : Option (Nat × Bool)} {t t' : TypeId} {x : Operand}
end
section
variable {P : Program} {C : Ctx} {k : List Frm} {n : Nat} {sl : Slots} {tab : Tab} {Q : Exit → St → Prop} {all : Array Oper} {rest : List Oper}
end
section
variable {B : RL}
/-- A grid that is lent. -/
theorem LnV.grid {o id e : Nat} {L : List (List (List PV))} (ho : (o, .vw [id] 1 (gr L.length)) ∈ B) (hid : (id, .bag e L) ∈ B) : LnV B (.ar o) (.p (.sl 1 (L.map fun rs => [.sl e rs]))) :=
  LnV.vw ho (by rw [List.length_map, gr_len]) (fun r hr => by obtain ⟨_, _, rfl⟩ := List.mem_map.1 hr; rfl) fun j x' hj => by
    have hfl : (L.map fun rs => [PV.sl e rs]).flatten = L.map (PV.sl e) := by
      clear ho hid hj
      induction L with
      | nil => rfl
      | cons a l ih => simp only [List.map_cons, List.flatten_cons, List.singleton_append] at ih ⊢; rw [ih]
    rw [hfl, List.getElem?_map, Option.map_eq_some_iff] at hj
    obtain ⟨rs, hrs, rfl⟩ := hj
    have hlt := (List.getElem?_eq_some_iff.1 hrs).1
    exact ⟨_, gr_at hlt, LnV.nv hid hrs⟩
/-- A part of a row of pure cells, lent. -/
theorem LnV.sv {id e a m : Nat} {rows : List (List PV)} (hm : (id, .arr e rows) ∈ B) (hle : ∀ r ∈ rows, r.length = e) (ha : a + m ≤ rows.length) : LnV B (.sv id (a * e) m) (.p (.sl e ((rows.drop a).take m))) := fun M ρ w u hH hr => by
  simp only [RepV, RepPV] at hr ⊢
  have hlen : ((rows.drop a).take m).length = m := by rw [List.length_take, List.length_drop]; omega
  rcases hr with ⟨rfl, a', c, rfl⟩ | ⟨b, o, N, cap, c, h1, rfl, h3, h4⟩
  · exact ⟨a', c, by rw [List.take_zero]; rfl, by rw [List.take_zero]; exact Nat.zero_le _, by rw [List.take_zero]; exact Nat.zero_le _, .inl (List.take_zero)⟩
  · refine ⟨_, c, by rw [hlen], by rw [hlen]; exact h3, by rw [hlen]; omega, .inr ⟨b, _, rfl, ?_⟩⟩
    have hA : ArrIn M w (ρ id) e rows := hH.2 id _ hm
    obtain ⟨av, cap', g1, g2, g3, g4⟩ := hA
    rw [h1] at g1
    simp only [Value.slice.injEq] at g1
    rcases g4 with ⟨g4, _⟩ | ⟨b', o', cs, el, fz, g5, g6, _, _, g8⟩
    · rw [g4] at g1; cases g1.1
    · rw [g5] at g1
      simp only [Option.some.injEq, Addr.mk.injEq] at g1
      obtain ⟨⟨rfl, rfl, _⟩, _⟩ := g1
      have hb : ∃ i r, (i, r) ∈ B ∧ Bk (ρ i) b := ⟨id, _, hm, by rw [h1]; rfl⟩
      have := RowsIn.mono (M' := lentN M ρ w B) lentN_le (fun i c hc => lentN_cell hH.1 hb g6 i c hc) _ _ g8
      exact (this.drop a).take m
end
end Hw
/- The engine, part BO: what a call of the library's leaves, in general; rows that are laid over; arrays sorted. -/
namespace Hw
open Go Go.Proofs Go.Sort

/-- What a call leaves: the resources hold under the words ρ', their blocks are old ones' or new. -/
theorem ret_gen {M : Mem} {ρ ρ' : Nat → Value} {w w' : World} {R R' : RL} {res : S} {v : Value} (hT : THolds M ρ w (tb R)) (hI : Imm M w) (hrep : RepS M ρ' res v) (hres : ∀ i r, tg (tb R') i = some r → HoldsR M ρ' w' i r)
    (hdis : ∀ i j ri rj b, tg (tb R') i = some ri → tg (tb R') j = some rj → i ≠ j → Bk (ρ' i) b → Bk (ρ' j) b → False)
    (hown : ∀ i r b, tg (tb R') i = some r → Bk (ρ' i) b → w.heap.size ≤ b ∨ Owns (tb R) ρ b) (hf : ∀ b, b < w.heap.size → ¬ Owns (tb R) ρ b → w'.heap[b]? = w.heap[b]?)
    (hs : w.heap.size ≤ w'.heap.size) (h1 : w'.os = w.os) (h2 : w'.tape = w.tape) (h3 : w'.output = w.output) (hk : ∀ id, id ∈ R.ids → ρ' id = ρ id) : Ret M ρ w R res R' v M ρ' w' := by
  refine ⟨hrep, ⟨hres, hdis, fun i r b hi hb q => ?_⟩, fun b q u hu => ?_, MLe.refl M, fun b q u hu => .inl hu, fun b ⟨i, r, hi, hb⟩ => hown i r b hi hb, hf, hs, h1, h2, h3, hk⟩
  · rcases hown i r b hi hb with h | ⟨j, s, hj, hjb⟩
    · cases hm : M b q with
      | none => rfl
      | some u => have := cell_lt (hI b q u hm); omega
    · exact hT.own j s b hj hjb q
  · have hbl := cell_lt (hI b q u hu)
    rw [cell_of_heap (hf b hbl fun ⟨j, s, hj, hjb⟩ => by rw [hT.own j s b hj hjb q] at hu; cases hu)]
    exact hI b q u hu
/-- .. all of them under their old words. -/
theorem ret_keep {M : Mem} {ρ : Nat → Value} {w w' : World} {R R' : RL} {res : S} {v : Value} (hT : THolds M ρ w (tb R)) (hI : Imm M w) (hrep : RepS M ρ res v) (hsub : ∀ i r, tg (tb R') i = some r → ∃ r0, tg (tb R) i = some r0) (hres : ∀ i r, tg (tb R') i = some r → HoldsR M ρ w' i r)
    (hf : ∀ b, b < w.heap.size → ¬ Owns (tb R) ρ b → w'.heap[b]? = w.heap[b]?) (hs : w.heap.size ≤ w'.heap.size) (h1 : w'.os = w.os) (h2 : w'.tape = w.tape) (h3 : w'.output = w.output) : Ret M ρ w R res R' v M ρ w' :=
  ret_gen hT hI hrep hres (fun i j ri rj b hi hj hne hb hb' => let ⟨r0, e0⟩ := hsub i ri hi; let ⟨r1, e1⟩ := hsub j rj hj; hT.dis i j r0 r1 b e0 e1 hne hb hb')
    (fun i r b hi hb => let ⟨r0, e0⟩ := hsub i r hi; .inr ⟨i, r0, e0, hb⟩) hf hs h1 h2 h3 fun _ _ => rfl

section
variable {α : Type} [Inhabited α]
theorem putRow_at (enc : α → Value) (w : World) (b off : Nat) (d : Array α) {cs : Array Value} {el : TypeId} {fz : Nat × Nat} (h : w.heap[b]? = some (.cells cs el fz)) : (putRow enc w b off d).heap[b]? = some (.cells (putCells enc off d cs) el fz) := by
  unfold putRow mapBlock
  simp only [Array.getElem?_modify, if_true, h, Option.map_some, onCells]
theorem putRow_off (enc : α → Value) (w : World) (b off : Nat) (d : Array α) {k : Nat} (h : k ≠ b) : (putRow enc w b off d).heap[k]? = w.heap[k]? := by
  unfold putRow mapBlock
  simp only [Array.getElem?_modify]
  rw [if_neg fun e => h e.symm]
theorem putRow_size (enc : α → Value) (w : World) (b off : Nat) (d : Array α) : (putRow enc w b off d).heap.size = w.heap.size := by
  unfold putRow mapBlock; simp
theorem putCells_size (enc : α → Value) (off : Nat) (d : Array α) (c : Array Value) : (putCells enc off d c).size = c.size := by simp [putCells]
theorem putCells_in (enc : α → Value) (off : Nat) (d : Array α) (c : Array Value) {j : Nat} {x : α} (hx : d[j]? = some x) (hc : off + j < c.size) : (putCells enc off d c)[off + j]? = some (enc x) := by
  obtain ⟨hj, rfl⟩ := Array.getElem?_eq_some_iff.1 hx
  simp only [putCells, Array.getElem?_mapIdx]
  rw [Array.getElem?_eq_getElem hc, Option.map_some, if_pos ⟨by omega, by omega⟩, show off + j - off = j by omega, getElem!_pos d j hj]
end
/-- Of an array of the run's own: what the sorting contracts ask. -/
theorem holds_of {α : Type} [Inhabited α] {enc : α → Value} {w : World} {b o : Nat} {cs : Array Value} {el : TypeId} {fz : Nat × Nat} {d : Array α} (h : w.heap[b]? = some (.cells cs el fz)) (hU : Unfrozen fz cs.size) (hc : ∀ j x, d[j]? = some x → cs[o + j]? = some (enc x)) : Sort.Holds enc w b o d := by
  intro j hj
  have h1 := hc j d[j] (Array.getElem?_eq_getElem hj)
  have hlt := (Array.getElem?_eq_some_iff.1 h1).1
  refine ⟨?_, ?_⟩
  · rw [getElem!_pos d j hj]
    simp [World.cell?, h, h1]
  · simp only [World.frozen?, h]
    exact hU _ hlt
end Hw
/- The engine, part BP: grids that a call leaves: an owned array of owned arrays under new names. -/
namespace Hw
open Go Go.Proofs

theorem apart_pw {cs : List Value} : Apart cs ↔ cs.Pairwise fun x y => ∀ b, blk x = some b → blk y ≠ some b := by
  rw [List.pairwise_iff_getElem]
  constructor
  · intro h i j hi hj hij b hb hb'
    exact h i j b _ _ (List.getElem?_eq_getElem hi) (List.getElem?_eq_getElem hj) (by omega) hb hb'
  · intro h i j b x y hx hy hne hb hb'
    obtain ⟨hi, rfl⟩ := List.getElem?_eq_some_iff.1 hx
    obtain ⟨hj, rfl⟩ := List.getElem?_eq_some_iff.1 hy
    rcases Nat.lt_or_ge i j with h1 | h1
    · exact h i j hi hj h1 b hb hb'
    · exact h j i hj hi (by omega) b hb' hb
theorem Apart.sub {cs ds : List Value} (h : Apart cs) (hs : ds.Sublist cs) : Apart ds := apart_pw.2 ((apart_pw.1 h).sublist hs)
theorem Apart.perm {cs ds : List Value} (h : Apart cs) (hs : cs.Perm ds) : Apart ds := apart_pw.2 ((hs.pairwise_iff fun {x y} h b hb hb' => h b hb' hb).1 (apart_pw.1 h))
theorem Apart.cons {cs : List Value} {v : Value} (h : Apart cs) (hv : ∀ c ∈ cs, ∀ b, blk c = some b → blk v ≠ some b) : Apart (v :: cs) :=
  apart_pw.2 (List.pairwise_cons.2 ⟨fun c hc b hb hb' => hv c hc b hb' hb, apart_pw.1 h⟩)

/-- The cells of a row, in the block of old or in a new one; all else as it was. -/
def RowDone (w w' : World) (b0 : Option Nat) (ys : List Value) (v : Value) : Prop := ∃ (B o cap : Nat) (cs : Array Value) (el : TypeId) (fz : Nat × Nat), v = .slice (some ⟨B, o, none⟩) ys.length cap ∧ w'.heap[B]? = some (.cells cs el fz) ∧ Unfrozen fz cs.size ∧
  o + cap ≤ cs.size ∧ ys.length ≤ cap ∧ cap ≤ 9223372036854775807 ∧ (∀ (j : Nat) u, ys[j]? = some u → cs[o + j]? = some u) ∧ (w.heap.size ≤ B ∨ b0 = some B) ∧ (∀ k, k < w.heap.size → b0 ≠ some k → w'.heap[k]? = w.heap[k]?) ∧
  w.heap.size ≤ w'.heap.size ∧ w'.os = w.os ∧ w'.tape = w.tape ∧ w'.output = w.output
/-- The grid that is left, under new names. -/
theorem ret_grid {M : Mem} {ρ : Nat → Value} {w w' : World} {R : RL} {r0 : Res} {io ib e : Nat} {ys : List Value} {L : List (List (List PV))} {v : Value} (hR : tg (tb R) 0 = some r0) (hT : THolds M ρ w (tb R)) (hI : Imm M w) (hio : io ∉ R.ids) (hib : ib ∉ R.ids) (hne : io ≠ ib)
    (hD : RowDone w w' (blk (ρ 0)) ys v) (h0 : ∀ b, blk (ρ 0) = some b → Bk (ρ 0) b) (hlen : ys.length = L.length) (hone : ∀ c ∈ ys, c.oneCell' = true) (hin : ∀ (j : Nat) rs, L[j]? = some rs → ∃ c, ys[j]? = some c ∧ ArrIn M w c e rs) (hap : Apart ys)
    (hys : ∀ c ∈ ys, ∀ b, blk c = some b → b < w.heap.size ∧ blk (ρ 0) ≠ some b ∧ Owns (tb R) ρ b) :
    Ret M ρ w R (.one (.ar io)) [(io, .vw [ib] 1 (gr L.length)), (ib, .bag e L)] v M (upd (upd ρ ib (.tuple ys.toArray)) io v) w' := by
  obtain ⟨B, o, cap, cs, el, fz, rfl, g1, g2, g3, g4, g5, g6, g7, g8, g9, g10, g11, g12⟩ := hD
  have r1 : upd (upd ρ ib (.tuple ys.toArray)) io (.slice (some ⟨B, o, none⟩) ys.length cap) io = .slice (some ⟨B, o, none⟩) ys.length cap := upd_same _ _ _
  have r2 : upd (upd ρ ib (.tuple ys.toArray)) io (.slice (some ⟨B, o, none⟩) ys.length cap) ib = .tuple ys.toArray := by rw [upd_other (fun e => hne e.symm), upd_same]
  have two : ∀ i r, tg (tb [(io, Res.vw [ib] 1 (gr L.length)), (ib, .bag e L)]) i = some r → (i = io ∧ r = .vw [ib] 1 (gr L.length)) ∨ (i = ib ∧ r = .bag e L) := fun i r hi => by
    simp only [tb, tg_cons] at hi
    split at hi
    · rename_i e; exact .inl ⟨e.symm, (Option.some.inj hi).symm⟩
    · split at hi
      · rename_i e; exact .inr ⟨e.symm, (Option.some.inj hi).symm⟩
      · cases hi
  have bkB : ∀ b, Bk (.slice (some ⟨B, o, none⟩) ys.length cap) b → b = B := fun b hb => by simp only [Bk, blk, Option.some.injEq] at hb; exact hb.symm
  have bkY : ∀ b, Bk (.tuple ys.toArray) b → ∃ c ∈ ys, blk c = some b := fun b hb => by obtain ⟨x, hx, h⟩ := hb; exact ⟨x, by simpa using hx, h⟩
  have nB : ∀ c ∈ ys, ∀ b, blk c = some b → b ≠ B := fun c hc b hb e => by
    obtain ⟨h1, h2, _⟩ := hys c hc b hb
    rcases g7 with h | h
    · omega
    · exact h2 (by rw [h, e])
  refine ret_gen hT hI (by simp only [RepS, RepV]; exact ⟨r1.symm, rfl⟩) (fun i r hi => ?_) (fun i j ri rj b hi hj hne2 hb hb' => ?_) (fun i r b hi hb => ?_) (fun b hb hn => g8 b hb fun e => hn ⟨0, r0, hR, h0 b e⟩) g9 g10 g11 g12 fun id hid => ?_
  · rcases two i r hi with ⟨rfl, rfl⟩ | ⟨rfl, rfl⟩
    · refine ⟨some ⟨B, o, none⟩, cap, by rw [gr_len, ← hlen]; exact r1, by rw [gr_len, ← hlen]; exact g4, g5, gr_one _, .inr ⟨B, o, cs, el, fz, rfl, g1, g2, by rw [Nat.mul_one]; exact g3, fun j x hj => ?_⟩⟩
      rw [gr, grJ_flat, List.getElem?_map, Option.map_eq_some_iff] at hj
      obtain ⟨q, hq, rfl⟩ := hj
      have hlt := (List.getElem?_eq_some_iff.1 hq).1
      rw [List.length_range] at hlt
      rw [List.getElem?_range hlt] at hq
      obtain rfl := Option.some.inj hq
      have hy : ys[j]? = some ys[j] := List.getElem?_eq_getElem (by omega)
      exact ⟨_, g6 j _ hy, by simp only [toV, List.getElem?_cons_zero, RepV]; exact ⟨ys, r2, hy, hone _ (List.mem_of_getElem? hy)⟩⟩
    · refine ⟨ys, r2, hlen, fun j rs hj => ?_, hap⟩
      obtain ⟨c, c1, c2⟩ := hin j rs hj
      refine ⟨c, c1, c2.world fun b hb => ?_⟩
      obtain ⟨h1, h2, _⟩ := hys c (List.mem_of_getElem? c1) b hb
      exact g8 b h1 h2
  · rcases two i ri hi with ⟨rfl, _⟩ | ⟨rfl, _⟩ <;> rcases two j rj hj with ⟨rfl, _⟩ | ⟨rfl, _⟩
    · exact hne2 rfl
    · rw [r1] at hb; rw [r2] at hb'
      obtain ⟨c, hc, h⟩ := bkY b hb'
      exact nB c hc b h (bkB b hb)
    · rw [r2] at hb; rw [r1] at hb'
      obtain ⟨c, hc, h⟩ := bkY b hb
      exact nB c hc b h (bkB b hb')
    · exact hne2 rfl
  · rcases two i r hi with ⟨rfl, _⟩ | ⟨rfl, _⟩
    · rw [r1] at hb
      obtain rfl := bkB b hb
      exact g7.imp id fun h => ⟨0, r0, hR, h0 b h⟩
    · rw [r2] at hb
      obtain ⟨c, hc, h⟩ := bkY b hb
      exact .inr (hys c hc b h).2.2
  · rw [upd_other (fun e => hio (by rw [← e]; exact hid)), upd_other (fun e => hib (by rw [← e]; exact hid))]
/-- What a grid is, cell by cell. -/
theorem grid_cells {M : Mem} {ρ : Nat → Value} {w : World} {o id e : Nat} {L : List (List (List PV))} (ho : HoldsR M ρ w o (.vw [id] 1 (gr L.length))) (hb : HoldsR M ρ w id (.bag e L)) :
    ∃ (xs : List Value) (a : Option Addr) (cap : Nat), ρ id = .tuple xs.toArray ∧ xs.length = L.length ∧ (∀ (j : Nat) rs, L[j]? = some rs → ∃ c, xs[j]? = some c ∧ ArrIn M w c e rs) ∧ Apart xs ∧ ρ o = .slice a xs.length cap ∧ xs.length ≤ cap ∧ cap ≤ 9223372036854775807 ∧ (∀ c ∈ xs, c.oneCell' = true) ∧
      ((a = none ∧ cap = 0) ∨ ∃ (b oo : Nat) (cs : Array Value) (el : TypeId) (fz : Nat × Nat), a = some ⟨b, oo, none⟩ ∧ w.heap[b]? = some (.cells cs el fz) ∧ Unfrozen fz cs.size ∧ oo + cap ≤ cs.size ∧ ∀ (j : Nat) u, xs[j]? = some u → cs[oo + j]? = some u) := by
  obtain ⟨xs, h1, h2, h3, h4⟩ := hb
  obtain ⟨a, cap, g1, g2, g3, _, g5⟩ := ho
  rw [gr_len] at g1 g2
  refine ⟨xs, a, cap, h1, h2, h3, h4, by rw [h2]; exact g1, by omega, g3, fun c hc => ?_, ?_⟩
  · obtain ⟨j, hj⟩ := List.mem_iff_getElem?.1 hc
    have hjl := (List.getElem?_eq_some_iff.1 hj).1
    obtain ⟨c', c1, ⟨_, _, c2, _⟩⟩ := h3 j _ (List.getElem?_eq_getElem (by omega))
    rw [hj] at c1
    obtain rfl := Option.some.inj c1
    rw [c2]; rfl
  · rcases g5 with h | ⟨b, oo, cs, el, fz, k1, k2, k3, k4, k5⟩
    · exact .inl h
    · refine .inr ⟨b, oo, cs, el, fz, k1, k2, k3, by rw [Nat.mul_one] at k4; exact k4, fun j u hj => ?_⟩
      have hjl := (List.getElem?_eq_some_iff.1 hj).1
      obtain ⟨c, c1, c2⟩ := k5 j _ (gr_at (by omega))
      simp only [toV, List.getElem?_cons_zero, RepV] at c2
      obtain ⟨xs', f1, f2, _⟩ := c2
      rw [h1] at f1
      have : xs' = xs := by simp only [Value.tuple.injEq] at f1; have := congrArg Array.toList f1; simpa using this.symm
      subst this
      rw [hj] at f2
      rw [c1, Option.some.inj f2]
end Hw
/- The engine, part BQ: laws of grids: lent, taken in, put together, read, written. -/
namespace Hw
open Go

theorem RwR.grid {F : (Nat → Value) → Prop} {a b n : Nat} (h : ∀ j, j < n → RwV F (.nv a j) (.nv b j)) : RwR F (.vw [a] 1 (gr n)) (.vw [b] 1 (gr n)) := RwR.vw rfl (gr_one n) fun j x' hj => by
  rw [gr, grJ_flat, List.getElem?_map, Option.map_eq_some_iff] at hj
  obtain ⟨q, hq, rfl⟩ := hj
  have hlt := (List.getElem?_eq_some_iff.1 hq).1
  rw [List.length_range] at hlt
  rw [List.getElem?_range hlt] at hq
  obtain rfl := Option.some.inj hq
  exact ⟨_, gr_at hlt, by simpa [toV] using h j hlt⟩
theorem TkF.arr {id id2 id' m n : Nat} (h : n = m) : RwV (TkF id id2 id' m) (.ar id2) (.nv id' n) := by subst h; exact TkF.ar
theorem gr_succ (n : Nat) : gr (n + 1) = gr n ++ [[PC.n 0 n]] := by simp only [gr, grJ, List.range_succ, List.map_append, List.map_cons, List.map_nil]
/-- A grid and one row more, told cell by cell (what g_appendW asks). -/
theorem app_one {e : Nat} {rows : List (List PC)} {row : List PC} (j : Nat) (x' : PC) (h : rows.length * e = rows.flatten.length) : (j < rows.length * e → (rows ++ [row]).flatten[j]? = some x' → rows.flatten[j]? = some x') ∧ ((rows ++ [row]).flatten[rows.length * e + j]? = some x' → [row].flatten[j]? = some x') := by
  rw [List.flatten_append, h]
  refine ⟨fun hj he => by rwa [List.getElem?_append_left hj] at he, fun he => ?_⟩
  rwa [List.getElem?_append_right (by omega), Nat.add_sub_cancel_left] at he
theorem flat_one {rows : List (List PC)} (h : ∀ r ∈ rows, r.length = 1) : rows.length * 1 = rows.flatten.length := by
  induction rows with
  | nil => rfl
  | cons r l ih =>
    have := h r (List.mem_cons_self ..)
    have := ih fun x hx => h x (List.mem_cons_of_mem _ hx)
    simp only [List.length_cons, List.flatten_cons, List.length_append]; omega
section
variable {P : Program} {C : Ctx} {k : List Frm} {n : Nat} {sl : Slots} {tab : Tab} {Q : Exit → St → Prop} {all : Array Oper} {rest : List Oper}
/-- One row of the bag behind the grid's own. -/
theorem g_appendG (T : Ty P) (id' : Nat) {d : Nat} {x y : Operand} {t tx ty : TypeId} {ps : String} {af : Array Edge} {g0 : Option (Nat × Bool)} {gs : Slots} {md : Mode} (hC : C.low) {id ib i2 m bytes : Nat} {el : TypeId} {z : List V}
    (hx : ev sl x = some (.one (.ar id))) (hy : ev sl y = some (.one (.ar i2))) (hT : tg tab id = some (.vw [ib] 1 (gr m))) (hT2 : tg tab i2 = some (.vw [ib] 1 [[PC.n 0 m]])) (hes : T.es tx = some (el, 1)) (hm1 : mentI id' [ib] = false)
    (he : T.es t = some (el, 1)) (hz : T.zs el = some z) (hzl : Nat.beq z.length 1 = true) (hby : (P.info? el).map (·.bytes) = some bytes) (hb : (m + 1) * bytes ≤ 140737488355328) (hlen : m + 1 ≤ 9223372036854775807)
    (hm : metL all sl g0 = some gs) (hd : Nat.blt d n = true) (hf : (Nat.ble 100 id' && freshB id' ⟨n, sl, tab⟩) = true)
    (g : Goal P C (.ops all rest (nx md ⟨some d, gs ++ (rq x (.one (.ar id)) ++ rq y (.one (.ar i2))), [(id, .vw [ib] 1 (gr m)), (i2, .vw [ib] 1 [[PC.n 0 m]])], [id'], .one (.ar id'), [(id', some (.vw [ib] 1 (gr (m + 1)))), (id, none)]⟩)) k n ((d, .one (.ar id')) :: sl) ([(id', some (.vw [ib] 1 (gr (m + 1)))), (id, none)] ++ tab) Q) :
    Goal P C (.ops all (⟨some d, .call ⟨.builtin .append, #[x, y], #[t, tx]⟩, ty, ps, af, g0⟩ :: rest) md) k n sl tab Q := by
  refine g_appendW T id' hC (rows := gr m) (rows2 := [[PC.n 0 m]]) (ids := [ib]) (ids2 := [ib]) [ib] (gr (m + 1)) hx hy hT (rt2 := [(i2, .vw [ib] 1 [[PC.n 0 m]])]) (by simp [rdT, hT2]) (SrcW.vw (T.es_ok _ _ hes)) hm1 (by rw [gr_len, gr_len]; rfl) (gr_one _) (fun j x' hj hx' => ?_) (fun j x' hx' => ?_) he hz hzl hby (by rw [gr_len]; exact hb) (by rw [gr_len]; exact hlen) hm hd hf g
  · rw [gr_succ] at hx'
    exact ⟨x', (app_one (e := 1) j x' (flat_one (gr_one m))).1 hj hx', rfl⟩
  · rw [gr_succ] at hx'
    exact ⟨x', (app_one (e := 1) j x' (flat_one (gr_one m))).2 hx', rfl⟩
end
end Hw
/- The engine, part BR: an owned array whose cells are all pure, told so. -/
namespace Hw
open Go

theorem HoldsR.to_arr {M : Mem} {ρ : Nat → Value} {w : World} {id e : Nat} {ids : List Nat} {rows : List (List PV)} (h : HoldsR M ρ w id (.vw ids e (rows.map (·.map PC.p)))) : HoldsR M ρ w id (.arr e rows) := by
  obtain ⟨a, cap, h1, h2, h3, hl, h4⟩ := h
  have hfl : (rows.map (·.map PC.p)).flatten = rows.flatten.map PC.p := by rw [List.map_flatten]
  rw [List.length_map] at h1 h2
  refine ⟨a, cap, h1, h2, h3, ?_⟩
  rcases h4 with h4 | ⟨b, o, cs, el, fz, h5, h6, h6', h7, h8⟩
  · exact .inl h4
  · refine .inr ⟨b, o, cs, el, fz, h5, h6, h6', h7, ?_⟩
    obtain ⟨ds, k9, k10⟩ := repVs_of (M := M) (ρ := ρ) (vs := rows.flatten.map V.p) (g := fun j => cs[o + j]?) fun j v hj => by
      rw [List.getElem?_map, Option.map_eq_some_iff] at hj
      obtain ⟨x, hx, rfl⟩ := hj
      obtain ⟨c, c1, c2⟩ := h8 j (PC.p x) (by rw [hfl, List.getElem?_map, hx]; rfl)
      exact ⟨c, c1, c2⟩
    exact RowsIn.of_cells (ρ := ρ) (fun r hr => by
      have := hl (r.map PC.p) (List.mem_map.2 ⟨r, hr, rfl⟩)
      rwa [List.length_map] at this) k9 fun j c hj => k10 j c hj
section
variable {P : Program} {C : Ctx} {k : List Frm} {n : Nat} {sl : Slots} {tab : Tab} {Q : Exit → St → Prop} {cur : Cur}
theorem g_toA (hc : lst cur = true) (id : Nat) {ids : List Nat} {e : Nat} {rows' : List (List PC)} (rows : List (List PV)) (hid : tg tab id = some (.vw ids e rows')) (hr : rows.map (·.map PC.p) = rows') (g : Goal P C cur k n sl ((id, some (.arr e rows)) :: tab) Q) : Goal P C cur k n sl tab Q := by
  subst hr
  exact g_res hc hid (fun _ _ _ h => h.to_arr) g
end
section
variable {P : Program} {d : Option Nat} {ty : TypeId} {ps : String} {af : Array Edge} {g : Option (Nat × Bool)} {x y z : Operand} {t : TypeId}
theorem L_saLH {id e : Nat} {rows : List (List PV)} {i j : Int} {k k' : IntKind} {el : TypeId} (hx : okc x (.one (.ar id))) (hy : okc y (Kk k i)) (hz : okc z (Kk k' j)) (he : elemSz P t = some (el, e)) (h0 : 0 ≤ i) (h1 : i ≤ j) (h2 : j ≤ rows.length) :
    Snd P ⟨d, .slice t x (some y) (some z) none, ty, ps, af, g⟩ (rq x (.one (.ar id)) ++ rq y (Kk k i) ++ rq z (Kk k' j)) [(id, .arr e rows)] [] (.one (.sv id (i.toNat * e) (j.toNat - i.toNat))) [] :=
  snd_quiet fun C st M ρ b w hH hs hT => by
    rw [okS_append, okS_append] at hs
    have e1 := hH.evS (ev_of hx hs.1.1)
    have e2 := hH.k (ev_of hy hs.1.2)
    have e3 := hH.k (ev_of hz hs.2)
    simp only [RepS, RepV] at e1
    have hR : HoldsR M ρ w id (.vw [] e (rows.map (·.map PC.p))) := (show HoldsR M ρ w id (.arr e rows) from hH.tabs.res id _ hT.1).to_vw []
    obtain ⟨a, cap, f1, f2, f3, _⟩ := hH.tabs.res id _ hT.1
    obtain ⟨hu, hsz⟩ := elem_of he
    refine ⟨sliced a i.toNat j.toNat cap e, ?_, by simp only [RepS]; exact rep_sv hR (by rw [List.length_map]; exact f1) (by omega) (by rw [List.length_map]; omega)⟩
    simp only [execOp, e1.1, f1, e2, e3, Option.map_none, Option.map_some, Sem.run_bind, run_sliceAt_slice w t _ _ _ _ hu, run_slice_lh w t a rows.length cap hu k k' i j h0 h1 (by omega), hsz, Result.andThen_ok, Sem.run_pure]
end
section
variable {P : Program} {C : Ctx} {k : List Frm} {n : Nat} {sl : Slots} {tab : Tab} {Q : Exit → St → Prop} {all : Array Oper} {rest : List Oper}
/-- A part of an owned array of pure cells. -/
theorem g_saLH (T : Ty P) {d : Nat} {x y z : Operand} {t ty : TypeId} {ps : String} {af : Array Edge} {g0 : Option (Nat × Bool)} {gs : Slots} {md : Mode} (hC : C.low) {id e : Nat} {rows : List (List PV)} {i j : Int} {k0 k1 : IntKind} {el : TypeId}
    (hx : ev sl x = some (.one (.ar id))) (hy : ev sl y = some (Kk k0 i)) (hz : ev sl z = some (Kk k1 j)) (hT : tg tab id = some (.arr e rows)) (he : T.es t = some (el, e)) (h0 : 0 ≤ i) (h1 : i ≤ j) (h2 : j ≤ rows.length) (hm : metL all sl g0 = some gs) (hd : Nat.blt d n = true)
    (g : Goal P C (.ops all rest (nx md ⟨some d, gs ++ (rq x (.one (.ar id)) ++ rq y (Kk k0 i) ++ rq z (Kk k1 j)), [(id, .arr e rows)], [], .one (.sv id (i.toNat * e) (j.toNat - i.toNat)), []⟩)) k n ((d, .one (.sv id (i.toNat * e) (j.toNat - i.toNat))) :: sl) tab Q) :
    Goal P C (.ops all (⟨some d, .slice t x (some y) (some z) none, ty, ps, af, g0⟩ :: rest) md) k n sl tab Q := by
  have e1 := of_ev (st := ⟨n, sl, tab⟩) hx
  have e2 := of_ev (st := ⟨n, sl, tab⟩) hy
  have e3 := of_ev (st := ⟨n, sl, tab⟩) hz
  have := metL_step hm (L_saLH (P := P) (rows := rows) (ty := ty) (ps := ps) (af := af) (g := g0) (d := some d) (t := t) e1.1 e2.1 e3.1 (T.es_ok _ _ he) h0 h1 h2) (n := n) (tab := tab)
  exact g_law (L := ⟨some d, gs ++ (rq x (.one (.ar id)) ++ rq y (Kk k0 i) ++ rq z (Kk k1 j)), [(id, .arr e rows)], [], .one (.sv id (i.toNat * e) (j.toNat - i.toNat)), []⟩) hC this.1 rfl ⟨by rw [okS_append, okS_append, okS_append]; exact ⟨this.2, ⟨e1.2, e2.2⟩, e3.2⟩, ⟨hT, trivial⟩, rfl, hd⟩ g
end
end Hw
/- The engine, part BS: a literal slice of the run's own. -/
namespace Hw
open Go
section
variable {P : Program} {d : Option Nat} {ty : TypeId} {ps : String} {af : Array Edge} {g : Option (Nat × Bool)} {t : TypeId}
end
section
variable {P : Program} {C : Ctx} {k : List Frm} {n : Nat} {sl : Slots} {tab : Tab} {Q : Exit → St → Prop} {all : Array Oper} {rest : List Oper}
end
end Hw
/- The engine, part BT: a cell's address of an array in a box; the least and the greatest of two. -/
namespace Hw
open Go
section
variable {P : Program} {d : Option Nat} {ty : TypeId} {ps : String} {af : Array Edge} {g : Option (Nat × Bool)} {x y : Operand} {t : TypeId}
end
section
variable {P : Program} {C : Ctx} {k : List Frm} {n : Nat} {sl : Slots} {tab : Tab} {Q : Exit → St → Prop} {all : Array Oper} {rest : List Oper}
end
section
variable {P : Program} {d : Option Nat} {ty : TypeId} {ps : String} {af : Array Edge} {g : Option (Nat × Bool)} {x1 x2 : Operand}
theorem L_min2 {as : Array TypeId} {a b c : Int} (hc : (if b < a then b else a) = c) (h1 : okc x1 (I a)) (h2 : okc x2 (I b)) :
    Snd P ⟨d, .call ⟨.builtin .min, #[x1, x2], as⟩, ty, ps, af, g⟩ (rq x1 (I a) ++ rq x2 (I b)) [] [] (I c) [] :=
  snd_quiet fun C st M ρ act w hH h _ => by
    rw [okS_append] at h
    have e1 := hH.k (ev_of h1 h.1)
    have e2 := hH.k (ev_of h2 h.2)
    exact ⟨.int .i64 c, by rw [← hc]; simp [execOp, resolve, invoke, builtin, Builtin.min_, Builtin.min2, e1, e2], repK _ _⟩
theorem L_max2 {as : Array TypeId} {a b c : Int} (hc : (if a < b then b else a) = c) (h1 : okc x1 (I a)) (h2 : okc x2 (I b)) :
    Snd P ⟨d, .call ⟨.builtin .max, #[x1, x2], as⟩, ty, ps, af, g⟩ (rq x1 (I a) ++ rq x2 (I b)) [] [] (I c) [] :=
  snd_quiet fun C st M ρ act w hH h _ => by
    rw [okS_append] at h
    have e1 := hH.k (ev_of h1 h.1)
    have e2 := hH.k (ev_of h2 h.2)
    exact ⟨.int .i64 c, by rw [← hc]; simp [execOp, resolve, invoke, builtin, Builtin.max_, Builtin.max2, e1, e2], repK _ _⟩
end
section
variable {P : Program} {C : Ctx} {k : List Frm} {n : Nat} {sl : Slots} {tab : Tab} {Q : Exit → St → Prop} {all : Array Oper} {rest : List Oper}
theorem g_min2 {d : Nat} {x1 x2 : Operand} {ts : Array TypeId} {ty : TypeId} {ps : String} {af : Array Edge} {g0 : Option (Nat × Bool)} {gs : Slots} {md : Mode} (hC : C.low) {a b : Int} (c : Int)
    (h1 : ev sl x1 = some (I a)) (h2 : ev sl x2 = some (I b)) (hc : (if b < a then b else a) = c) (hm : metL all sl g0 = some gs) (hd : Nat.blt d n = true)
    (g : Goal P C (.ops all rest (nx md ⟨some d, gs ++ (rq x1 (I a) ++ rq x2 (I b)), [], [], I c, []⟩)) k n ((d, I c) :: sl) tab Q) :
    Goal P C (.ops all (⟨some d, .call ⟨.builtin .min, #[x1, x2], ts⟩, ty, ps, af, g0⟩ :: rest) md) k n sl tab Q := by
  have e1 := of_ev (st := ⟨n, sl, tab⟩) h1
  have e2 := of_ev (st := ⟨n, sl, tab⟩) h2
  have := metL_step hm (L_min2 (P := P) (ty := ty) (ps := ps) (af := af) (g := g0) (d := some d) (as := ts) hc e1.1 e2.1) (n := n) (tab := tab)
  exact g_law (L := ⟨some d, gs ++ (rq x1 (I a) ++ rq x2 (I b)), [], [], I c, []⟩) hC this.1 rfl ⟨by rw [okS_append, okS_append]; exact ⟨this.2, e1.2, e2.2⟩, trivial, rfl, hd⟩ g
theorem g_max2 {d : Nat} {x1 x2 : Operand} {ts : Array TypeId} {ty : TypeId} {ps : String} {af : Array Edge} {g0 : Option (Nat × Bool)} {gs : Slots} {md : Mode} (hC : C.low) {a b : Int} (c : Int)
    (h1 : ev sl x1 = some (I a)) (h2 : ev sl x2 = some (I b)) (hc : (if a < b then b else a) = c) (hm : metL all sl g0 = some gs) (hd : Nat.blt d n = true)
    (g : Goal P C (.ops all rest (nx md ⟨some d, gs ++ (rq x1 (I a) ++ rq x2 (I b)), [], [], I c, []⟩)) k n ((d, I c) :: sl) tab Q) :
    Goal P C (.ops all (⟨some d, .call ⟨.builtin .max, #[x1, x2], ts⟩, ty, ps, af, g0⟩ :: rest) md) k n sl tab Q := by
  have e1 := of_ev (st := ⟨n, sl, tab⟩) h1
  have e2 := of_ev (st := ⟨n, sl, tab⟩) h2
  have := metL_step hm (L_max2 (P := P) (ty := ty) (ps := ps) (af := af) (g := g0) (d := some d) (as := ts) hc e1.1 e2.1) (n := n) (tab := tab)
  exact g_law (L := ⟨some d, gs ++ (rq x1 (I a) ++ rq x2 (I b)), [], [], I c, []⟩) hC this.1 rfl ⟨by rw [okS_append, okS_append]; exact ⟨this.2, e1.2, e2.2⟩, trivial, rfl, hd⟩ g
end
end Hw
/- The engine, part BU: copy from one slice to another. -/
namespace Hw
open Go
section
variable {P : Program} {d : Option Nat} {ty : TypeId} {ps : String} {af : Array Edge} {g : Option (Nat × Bool)} {x y : Operand} {t tx : TypeId}
/-- The value is a part of the slice under id: m elements from the k-th on. -/
def DstV (ρ : Nat → Value) (id k e m : Nat) (v : Value) : Prop := (m = 0 ∧ ∃ (a : Option Addr) (c : Nat), v = .slice a 0 c) ∨ ∃ (b o N cap c : Nat), ρ id = .slice (some ⟨b, o, none⟩) N cap ∧ v = .slice (some ⟨b, o + k * e, none⟩) m c
/-- The value is a slice of n elements, which lie there. -/
def SrcC (e : Nat) (s : S) (rt : RL) (n : Nat) (rows2 : List (List PV)) : Prop :=
  ∀ (C : Ctx) (st : St) (M : Mem) (ρ : Nat → Value) (a : Act) (w : World) (v : Value), Holds C st M ρ a w → RepS M ρ s v → okT rt st →
    rows2.length = n ∧ ∃ (ad : Option Addr) (cap : Nat), v = .slice ad n cap ∧ (n = 0 ∨ ∃ (b o : Nat) (gg : Nat → Option Value), ad = some ⟨b, o, none⟩ ∧ (∀ i c, gg i = some c → w.cell? ⟨b, i, none⟩ = some c) ∧ RowsIn M gg e rows2 o)
theorem SrcC.sl {e : Nat} {rows : List (List PV)} : SrcC e (.one (.p (.sl e rows))) [] rows.length rows := fun C st M ρ a w v hH hr _ => by
  simp only [RepS, RepV, RepPV] at hr
  obtain ⟨ad, cap, h1, _, _, h4⟩ := hr
  refine ⟨rfl, ad, cap, h1, ?_⟩
  rcases h4 with h4 | ⟨b, o, h5, h6⟩
  · exact .inl (by rw [h4]; rfl)
  · exact .inr ⟨b, o, M b, h5, fun i c hi => hH.run.imm b i c hi, h6⟩
theorem SrcC.sv {id e n : Nat} {rows : List (List PV)} (hn : n ≤ rows.length) : SrcC e (.one (.sv id 0 n)) [(id, .arr e rows)] n (rows.take n) := fun C st M ρ a w v hH hr ht => by
  simp only [RepS, RepV] at hr
  refine ⟨by rw [List.length_take]; omega, ?_⟩
  rcases hr with ⟨h0, ad, c, h1⟩ | ⟨b, o, N, cap, c, h1, h2, _, _⟩
  · subst h0; exact ⟨ad, c, h1, .inl rfl⟩
  · refine ⟨_, c, h2, ?_⟩
    obtain ⟨ad, cap', h3, h4, h5, h6⟩ := hH.tabs.res id _ ht.1
    rw [h1] at h3
    simp only [Value.slice.injEq] at h3
    rcases h6 with ⟨h6, _⟩ | ⟨b', o', cs, el, fz, h6, h7, _, _, h8⟩
    · rw [h6] at h3; cases h3.1
    · rw [h6] at h3
      have hbo : b = b' ∧ o = o' := by have := h3.1; simp at this; exact this
      obtain ⟨rfl, rfl⟩ := hbo
      exact .inr ⟨b, o + 0, fun i => cs[i]?, rfl, fun i c hi => by simp only [World.cell?, h7]; simpa using hi, by rw [Nat.add_zero]; exact h8.take n⟩
theorem DstV.ar {C : Ctx} {st : St} {M : Mem} {ρ : Nat → Value} {a : Act} {w : World} (hH : Holds C st M ρ a w) {id e : Nat} {rows : List (List PV)} {v : Value} (hT : tg st.tab id = some (.arr e rows)) (h : RepS M ρ (.one (.ar id)) v) : DstV ρ id 0 e rows.length v := by
  simp only [RepS, RepV] at h
  obtain ⟨ad, cap, h3, h4, h5, h6⟩ := hH.tabs.res id _ hT
  rcases h6 with ⟨h6, h7⟩ | ⟨b, o, cs, el, fz, h6, _⟩
  · exact .inl ⟨by omega, ad, cap, by rw [h.1, h3, show rows.length = 0 by omega]⟩
  · exact .inr ⟨b, o, rows.length, cap, cap, by rw [h3, h6], by rw [h.1, h3, h6, Nat.zero_mul, Nat.add_zero]⟩
theorem DstV.sv {M : Mem} {ρ : Nat → Value} {id k e m : Nat} {v : Value} (h : RepS M ρ (.one (.sv id (k * e) m)) v) : DstV ρ id k e m v := by
  simp only [RepS, RepV] at h
  rcases h with ⟨h0, ad, c, h1⟩ | ⟨b, o, N, cap, c, h1, h2, _, _⟩
  · exact .inl ⟨h0, ad, c, h1⟩
  · exact .inr ⟨b, o, N, cap, c, h1, h2⟩
theorem L_copy {id k e m n c : Nat} {rows rows2 : List (List PV)} {sx sy : S} {rt : RL} {el : TypeId} (hx : okc x sx) (hy : okc y sy) (he : elemSz P t = some (el, e))
    (hD : ∀ (C : Ctx) (st : St) (M : Mem) (ρ : Nat → Value) (a : Act) (w : World) (v : Value), Holds C st M ρ a w → tg st.tab id = some (.arr e rows) → RepS M ρ sx v → DstV ρ id k e m v) (hs : SrcC e sy rt n rows2)
    (hc : c = min n m) (hkm : k + m ≤ rows.length) :
    Snd P ⟨d, .call ⟨.builtin .copy, #[x, y], #[t, tx]⟩, ty, ps, af, g⟩ (rq x sx ++ rq y sy) ((id, .arr e rows) :: rt) [] (I c) [(id, some (.arr e (rows.take k ++ rows2.take c ++ rows.drop (k + c))))] := by
  intro C st M ρ a w hH h1 ht _ hd q Q hk
  rw [okS_append] at h1
  have e1 := hH.evS (ev_of hx h1.1)
  have e2 := hH.evS (ev_of hy h1.2)
  obtain ⟨hn2, ad2, cap2, hv2, hsrc⟩ := hs C st M ρ a w _ hH e2 ht.2
  have hdst := hD C st M ρ a w _ hH ht.1 e1
  obtain ⟨ii, hu, hinf, hsz⟩ := elemSz_spec he
  obtain ⟨ad, cap, h3, h4, h5, h6⟩ := hH.tabs.res id _ ht.1
  have hcn : c ≤ n := by omega
  have hcm : c ≤ m := by omega
  by_cases h0 : c = 0
  · -- nothing goes over
    have hrow : rows.take k ++ rows2.take c ++ rows.drop (k + c) = rows := by rw [h0, List.take_zero, List.append_nil, Nat.add_zero, List.take_append_drop]
    rw [hrow] at hk
    have hmin : Nat.min n m = 0 := by show min n m = 0; omega
    have hfc : (Builtin.firstCells ii.size 0 (.slice ad2 n cap2)).run P w = .ok #[] w := by
      cases ad2 with
      | none => exact run_firstCells_none w _ _ _ _
      | some b => exact run_firstCells_some w _ 0 b n cap2 [] (by simp) (by simp)
    have hrun : (execOp a.eval ⟨d, .call ⟨.builtin .copy, #[x, y], #[t, tx]⟩, ty, ps, af, g⟩).run P w = .ok (.value (goInt 0)) w := by
      obtain ⟨ad3, c3, hv⟩ : ∃ (ad3 : Option Addr) (c3 : Nat), a.eval x = .slice ad3 m c3 := by
        rcases hdst with ⟨h7, ad3, c3, h8⟩ | ⟨b, o, N, cp, c3, _, h8⟩
        · exact ⟨ad3, c3, by rw [h8, h7]⟩
        · exact ⟨_, c3, h8⟩
      cases ad3 with
      | none => simp [execOp, resolve, invoke, builtin, Builtin.copy_, run_underlying hu, hv, hv2, Builtin.lenOf, hmin, Go.sizeOf, typeInfo, hinf, hfc]
      | some b => simp [execOp, resolve, invoke, builtin, Builtin.copy_, run_underlying hu, hv, hv2, Builtin.lenOf, hmin, Go.sizeOf, typeInfo, hinf, hfc, storeCells]
    unfold Oper.wp
    rw [hrun, Oper.upon_value]
    subst h0
    exact hk _ _ M ρ (hH.turn ht.1 (fun k _ => rfl) (Nat.le_refl _) rfl rfl rfl ⟨ad, cap, h3, h4, h5, h6⟩ (repK _ _) hd)
  · obtain ⟨b2, o2, gg, hb2, hgg, hrows2⟩ := hsrc.resolve_left (by omega)
    obtain ⟨b, o, N, cp, c3, hid, hv⟩ := hdst.resolve_left fun h => by omega
    have h3' := h3
    rw [hid] at h3
    simp only [Value.slice.injEq] at h3
    rcases h6 with ⟨h6, _⟩ | ⟨b', o', cs, el', fz, h6, h7, h7', h8, h9⟩
    · rw [h6] at h3; cases h3.1
    · rw [h6] at h3
      have hbo : b = b' ∧ o = o' := by have := h3.1; simp at this; exact this
      obtain ⟨rfl, rfl⟩ := hbo
      have hr2 := hrows2.take c
      obtain ⟨us, hus1, hus2, hus3⟩ := hr2.cells (ρ := ρ)
      have hul : us.length = c * e := by rw [hus2, List.length_take, Nat.min_eq_left (by omega)]
      have hfc : (Builtin.firstCells ii.size c (.slice (some ⟨b2, o2, none⟩) n cap2)).run P w = .ok us.toArray w :=
        run_firstCells_some w _ c ⟨b2, o2, none⟩ n cap2 us (by rw [hul, hsz]) fun j u hj => by rw [add_addr]; exact hgg _ _ (hus3 j u hj)
      have hkc : (k + c) * e ≤ cap * e := Nat.mul_le_mul_right e (by omega)
      rw [Nat.add_mul] at hkc
      have hst := run_storeCells_blk (P := P) b (o + k * e) el' fz us 0 cs w h7 h7' (by rw [hul]; omega) hus1.one
      have hmin : Nat.min n m = c := hc.symm
      have hrun : (execOp a.eval ⟨d, .call ⟨.builtin .copy, #[x, y], #[t, tx]⟩, ty, ps, af, g⟩).run P w = .ok (.value (goInt c)) (w.setRow b (setAt cs.toList (o + k * e) us).toArray) := by
        rw [Nat.add_zero] at hst
        simp [execOp, resolve, invoke, builtin, Builtin.copy_, run_underlying hu, hv, hv2, hb2, Builtin.lenOf, hmin, Go.sizeOf, typeInfo, hinf, hfc, hst]
      unfold Oper.wp
      rw [hrun, Oper.upon_value]
      have hcsl : o + k * e + us.length ≤ cs.toList.length := by rw [hul]; simp; omega
      have hnew : RowsIn M (fun q => (setAt cs.toList (o + k * e) us)[q]?) e (rows.take k ++ rows2.take c ++ rows.drop (k + c)) o := by
        have hget : ∀ q : Nat, (fun q : Nat => (setAt cs.toList (o + k * e) us)[q]?) q = if q < o + k * e then cs[q]? else if q < o + k * e + us.length then us[q - (o + k * e)]? else cs[q]? := fun q => by
          simp only []
          rw [setAt_get _ _ _ _ (by omega)]; simp
        generalize (fun q : Nat => (setAt cs.toList (o + k * e) us)[q]?) = g' at hget ⊢
        have htl : (rows.take k).length = k := by rw [List.length_take]; omega
        have ht2 : (rows2.take c).length = c := by rw [List.length_take]; omega
        refine RowsIn.append (RowsIn.append (RowsIn.congr (fun q hq => ?_) (h9.take k)) ?_) ?_
        · rw [htl] at hq; rw [hget, if_pos (by omega)]
        · rw [htl]
          refine RowsIn.of_cells (ρ := ρ) hr2.len hus1 fun j u hj => ?_
          have hjl : j < us.length := (List.getElem?_eq_some_iff.1 hj).1
          rw [hget, if_neg (by omega), if_pos (by omega), ← hj]; congr 1; omega
        · rw [List.length_append, htl, ht2]
          refine RowsIn.congr (fun q hq => ?_) (h9.drop (k + c))
          rw [hget, Nat.add_mul, if_neg (by omega), if_neg (by omega)]
      have hlen : (rows.take k ++ rows2.take c ++ rows.drop (k + c)).length = rows.length := by
        simp only [List.length_append, List.length_take, List.length_drop]; omega
      have hsize : (setAt cs.toList (o + k * e) us).toArray.size = cs.size := by simp [setAt_length _ _ _ hcsl]
      refine hk _ _ M ρ (hH.turn ht.1 (fun k' hk' => setRow_other w b k' _ (fun e' => hk' (by simp [h3', h6, Bk, blk, e']))) (by simp) rfl rfl rfl
        ⟨ad, cap, by rw [hlen]; exact h3', by rw [hlen]; exact h4, h5, .inr ⟨b, o, _, el', fz, h6, setRow_heap w b _ _ el' _ h7, ?_, ?_, ?_⟩⟩ (repK _ _) hd)
      · rw [hsize]; exact h7'
      · rw [hsize]; exact h8
      · simpa using hnew
/-- Parts of an array of the run's own, of pure cells. -/
theorem rep_svA {M : Mem} {ρ : Nat → Value} {w : World} {id e : Nat} {rows : List (List PV)} {l h : Nat} {a : Option Addr} {cap : Nat} (hr : HoldsR M ρ w id (.arr e rows)) (hv : ρ id = .slice a rows.length cap) (h1 : l ≤ h) (h2 : h ≤ rows.length) :
    RepV M ρ (.sv id (l * e) (h - l)) (sliced a l h cap e) :=
  rep_sv (hr.to_vw []) (by rw [List.length_map]; exact hv) h1 (by rw [List.length_map]; exact h2)
theorem L_svHA {z : Operand} {id e : Nat} {rows : List (List PV)} {j : Int} {k' : IntKind} {el : TypeId} (hx : okc x (.one (.ar id))) (hz : okc z (Kk k' j)) (he : elemSz P t = some (el, e)) (h0 : 0 ≤ j) (h2 : j ≤ rows.length) :
    Snd P ⟨d, .slice t x none (some z) none, ty, ps, af, g⟩ (rq x (.one (.ar id)) ++ rq z (Kk k' j)) [(id, .arr e rows)] [] (.one (.sv id 0 j.toNat)) [] :=
  snd_quiet fun C st M ρ b w hH hs hT => by
    rw [okS_append] at hs
    have e1 := hH.evS (ev_of hx hs.1)
    have e3 := hH.k (ev_of hz hs.2)
    simp only [RepS, RepV] at e1
    have hR := hH.tabs.res id _ hT.1
    obtain ⟨a, cap, f1, f2, f3, _⟩ := hH.tabs.res id _ hT.1
    obtain ⟨hu, hsz⟩ := elem_of he
    have := rep_svA hR f1 (Nat.zero_le j.toNat) (by omega)
    rw [Nat.zero_mul, Nat.sub_zero] at this
    refine ⟨sliced a 0 j.toNat cap e, ?_, by simp only [RepS]; exact this⟩
    simp only [execOp, e1.1, f1, e3, Option.map_none, Option.map_some, Sem.run_bind, run_sliceAt_slice w t _ _ _ _ hu, run_slice_h w t a rows.length cap hu k' j h0 (by omega), hsz, Result.andThen_ok, Sem.run_pure]
theorem L_svLA {id e : Nat} {rows : List (List PV)} {i : Int} {k : IntKind} {el : TypeId} (hx : okc x (.one (.ar id))) (hy : okc y (Kk k i)) (he : elemSz P t = some (el, e)) (h0 : 0 ≤ i) (h2 : i ≤ rows.length) :
    Snd P ⟨d, .slice t x (some y) none none, ty, ps, af, g⟩ (rq x (.one (.ar id)) ++ rq y (Kk k i)) [(id, .arr e rows)] [] (.one (.sv id (i.toNat * e) (rows.length - i.toNat))) [] :=
  snd_quiet fun C st M ρ b w hH hs hT => by
    rw [okS_append] at hs
    have e1 := hH.evS (ev_of hx hs.1)
    have e2 := hH.k (ev_of hy hs.2)
    simp only [RepS, RepV] at e1
    have hR := hH.tabs.res id _ hT.1
    obtain ⟨a, cap, f1, f2, f3, _⟩ := hH.tabs.res id _ hT.1
    obtain ⟨hu, hsz⟩ := elem_of he
    refine ⟨sliced a i.toNat rows.length cap e, ?_, by simp only [RepS]; exact rep_svA hR f1 (by omega) (Nat.le_refl _)⟩
    simp only [execOp, e1.1, f1, e2, Option.map_none, Option.map_some, Sem.run_bind, run_sliceAt_slice w t _ _ _ _ hu, run_slice_l w t a rows.length cap hu k i h0 (by omega), hsz, Result.andThen_ok, Sem.run_pure]
end
section
variable {P : Program} {C : Ctx} {k : List Frm} {n : Nat} {sl : Slots} {tab : Tab} {Q : Exit → St → Prop} {all : Array Oper} {rest : List Oper}
theorem g_svHA (T : Ty P) {d : Nat} {x z : Operand} {t ty : TypeId} {ps : String} {af : Array Edge} {g0 : Option (Nat × Bool)} {gs : Slots} {md : Mode} (hC : C.low) {id e : Nat} {rows : List (List PV)} {j : Int} {k1 : IntKind} {el : TypeId}
    (hx : ev sl x = some (.one (.ar id))) (hz : ev sl z = some (Kk k1 j)) (hT : tg tab id = some (.arr e rows)) (he : T.es t = some (el, e)) (h0 : 0 ≤ j) (h2 : j ≤ rows.length) (hm : metL all sl g0 = some gs) (hd : Nat.blt d n = true)
    (g : Goal P C (.ops all rest (nx md ⟨some d, gs ++ (rq x (.one (.ar id)) ++ rq z (Kk k1 j)), [(id, .arr e rows)], [], .one (.sv id 0 j.toNat), []⟩)) k n ((d, .one (.sv id 0 j.toNat)) :: sl) tab Q) :
    Goal P C (.ops all (⟨some d, .slice t x none (some z) none, ty, ps, af, g0⟩ :: rest) md) k n sl tab Q := by
  have e1 := of_ev (st := ⟨n, sl, tab⟩) hx
  have e3 := of_ev (st := ⟨n, sl, tab⟩) hz
  have := metL_step hm (L_svHA (P := P) (ty := ty) (ps := ps) (af := af) (g := g0) (d := some d) (rows := rows) e1.1 e3.1 (T.es_ok _ _ he) h0 h2) (n := n) (tab := tab)
  exact g_law (L := ⟨some d, gs ++ (rq x (.one (.ar id)) ++ rq z (Kk k1 j)), [(id, .arr e rows)], [], .one (.sv id 0 j.toNat), []⟩) hC this.1 rfl ⟨by rw [okS_append, okS_append]; exact ⟨this.2, e1.2, e3.2⟩, ⟨hT, trivial⟩, rfl, hd⟩ g
theorem g_svLA (T : Ty P) {d : Nat} {x y : Operand} {t ty : TypeId} {ps : String} {af : Array Edge} {g0 : Option (Nat × Bool)} {gs : Slots} {md : Mode} (hC : C.low) {id e : Nat} {rows : List (List PV)} {i : Int} {k0 : IntKind} {el : TypeId}
    (hx : ev sl x = some (.one (.ar id))) (hy : ev sl y = some (Kk k0 i)) (hT : tg tab id = some (.arr e rows)) (he : T.es t = some (el, e)) (h0 : 0 ≤ i) (h2 : i ≤ rows.length) (hm : metL all sl g0 = some gs) (hd : Nat.blt d n = true)
    (g : Goal P C (.ops all rest (nx md ⟨some d, gs ++ (rq x (.one (.ar id)) ++ rq y (Kk k0 i)), [(id, .arr e rows)], [], .one (.sv id (i.toNat * e) (rows.length - i.toNat)), []⟩)) k n ((d, .one (.sv id (i.toNat * e) (rows.length - i.toNat))) :: sl) tab Q) :
    Goal P C (.ops all (⟨some d, .slice t x (some y) none none, ty, ps, af, g0⟩ :: rest) md) k n sl tab Q := by
  have e1 := of_ev (st := ⟨n, sl, tab⟩) hx
  have e2 := of_ev (st := ⟨n, sl, tab⟩) hy
  have := metL_step hm (L_svLA (P := P) (ty := ty) (ps := ps) (af := af) (g := g0) (d := some d) (rows := rows) e1.1 e2.1 (T.es_ok _ _ he) h0 h2) (n := n) (tab := tab)
  exact g_law (L := ⟨some d, gs ++ (rq x (.one (.ar id)) ++ rq y (Kk k0 i)), [(id, .arr e rows)], [], .one (.sv id (i.toNat * e) (rows.length - i.toNat)), []⟩) hC this.1 rfl ⟨by rw [okS_append, okS_append]; exact ⟨this.2, e1.2, e2.2⟩, ⟨hT, trivial⟩, rfl, hd⟩ g
/-- An operation of two plain values, its outcome handed in. -/
theorem g_bin {d : Nat} {x y : Operand} {op : BinOp} {t t' ty : TypeId} {ps : String} {af : Array Edge} {g0 : Option (Nat × Bool)} {gs : Slots} {md : Mode} (hC : C.low) {u v : Value} (r : Value)
    (hx : ev sl x = some (.one (.p (.k u)))) (hy : ev sl y = some (.one (.p (.k v)))) (h1 : r.oneCell' = true) (hr : ∀ w : World, (eqGuard op t x y u v).run P w = .ok () w ∧ (binOp op t u v).run P w = .ok r w) (hm : metL all sl g0 = some gs) (hd : Nat.blt d n = true)
    (g : Goal P C (.ops all rest (nx md ⟨some d, gs ++ (rq x (.one (.p (.k u))) ++ rq y (.one (.p (.k v)))), [], [], .one (.p (.k r)), []⟩)) k n ((d, .one (.p (.k r))) :: sl) tab Q) :
    Goal P C (.ops all (⟨some d, .binOp op t x y t', ty, ps, af, g0⟩ :: rest) md) k n sl tab Q := by
  have e1 := of_ev (st := ⟨n, sl, tab⟩) hx
  have e2 := of_ev (st := ⟨n, sl, tab⟩) hy
  have := metL_step hm (L_bin (P := P) (ty := ty) (ps := ps) (af := af) (g := g0) (d := some d) (t' := t') e1.1 e2.1 h1 hr) (n := n) (tab := tab)
  exact g_law (L := ⟨some d, gs ++ (rq x (.one (.p (.k u))) ++ rq y (.one (.p (.k v)))), [], [], .one (.p (.k r)), []⟩) hC this.1 rfl ⟨by rw [okS_append, okS_append]; exact ⟨this.2, e1.2, e2.2⟩, trivial, rfl, hd⟩ g
/-- Into a whole slice of the run's own, from one that nobody writes. -/
theorem g_copyP (T : Ty P) {d : Nat} {x y : Operand} {t tx ty : TypeId} {ps : String} {af : Array Edge} {g0 : Option (Nat × Bool)} {gs : Slots} {md : Mode} (hC : C.low) {id e : Nat} {rows rows2 rows3 : List (List PV)} {el : TypeId}
    (hx : ev sl x = some (.one (.ar id))) (hy : ev sl y = some (.one (.p (.sl e rows2)))) (hT : tg tab id = some (.arr e rows)) (he : T.es t = some (el, e)) (hle : rows2.length ≤ rows.length) (hr : rows2 ++ rows.drop rows2.length = rows3) (hm : metL all sl g0 = some gs) (hd : Nat.blt d n = true)
    (g : Goal P C (.ops all rest (nx md ⟨some d, gs ++ (rq x (.one (.ar id)) ++ rq y (.one (.p (.sl e rows2)))), [(id, .arr e rows)], [], I rows2.length, [(id, some (.arr e rows3))]⟩)) k n ((d, I rows2.length) :: sl) ((id, some (.arr e rows3)) :: tab) Q) :
    Goal P C (.ops all (⟨some d, .call ⟨.builtin .copy, #[x, y], #[t, tx]⟩, ty, ps, af, g0⟩ :: rest) md) k n sl tab Q := by
  have e1 := of_ev (st := ⟨n, sl, tab⟩) hx
  have e2 := of_ev (st := ⟨n, sl, tab⟩) hy
  have hL := L_copy (P := P) (ty := ty) (ps := ps) (af := af) (g := g0) (d := some d) (tx := tx) (rows := rows) (id := id) (k := 0) (m := rows.length) (c := rows2.length) e1.1 e2.1 (T.es_ok _ _ he) (fun C st M ρ a w v hH hT h => DstV.ar hH hT h) SrcC.sl (by omega) (by omega)
  rw [List.take_zero, List.nil_append, List.take_length, Nat.zero_add, hr] at hL
  have := metL_step hm hL (n := n) (tab := tab)
  exact g_law (L := ⟨some d, gs ++ (rq x (.one (.ar id)) ++ rq y (.one (.p (.sl e rows2)))), [(id, .arr e rows)], [], I rows2.length, [(id, some (.arr e rows3))]⟩) hC this.1 rfl ⟨by rw [okS_append, okS_append]; exact ⟨this.2, e1.2, e2.2⟩, ⟨hT, trivial⟩, rfl, hd⟩ g
/-- Within one slice: from its head to what lies behind it. -/
theorem g_copyI (T : Ty P) {d : Nat} {x y : Operand} {t tx ty : TypeId} {ps : String} {af : Array Edge} {g0 : Option (Nat × Bool)} {gs : Slots} {md : Mode} (hC : C.low) {id e : Nat} (j m c : Nat) {kk : Nat} {rows rows3 : List (List PV)} {el : TypeId}
    (hx : ev sl x = some (.one (.sv id kk m))) (hy : ev sl y = some (.one (.sv id 0 j))) (hT : tg tab id = some (.arr e rows)) (he : T.es t = some (el, e)) (hkk : kk = j * e) (hjm : j + m = rows.length) (hc : c = min j m) (hr : rows.take j ++ rows.take c ++ rows.drop (j + c) = rows3) (hm : metL all sl g0 = some gs) (hd : Nat.blt d n = true)
    (g : Goal P C (.ops all rest (nx md ⟨some d, gs ++ (rq x (.one (.sv id kk m)) ++ rq y (.one (.sv id 0 j))), [(id, .arr e rows), (id, .arr e rows)], [], I c, [(id, some (.arr e rows3))]⟩)) k n ((d, I c) :: sl) ((id, some (.arr e rows3)) :: tab) Q) :
    Goal P C (.ops all (⟨some d, .call ⟨.builtin .copy, #[x, y], #[t, tx]⟩, ty, ps, af, g0⟩ :: rest) md) k n sl tab Q := by
  subst hkk
  have e1 := of_ev (st := ⟨n, sl, tab⟩) hx
  have e2 := of_ev (st := ⟨n, sl, tab⟩) hy
  have hL := L_copy (P := P) (ty := ty) (ps := ps) (af := af) (g := g0) (d := some d) (tx := tx) (rows := rows) (id := id) (k := j) (m := m) (rows2 := rows.take j) e1.1 e2.1 (T.es_ok _ _ he) (fun C st M ρ a w v _ _ h => DstV.sv h) (SrcC.sv (rows := rows) (n := j) (by omega)) hc (by omega)
  rw [List.take_take, Nat.min_eq_left (by omega), hr] at hL
  have := metL_step hm hL (n := n) (tab := tab)
  exact g_law (L := ⟨some d, gs ++ (rq x (.one (.sv id (j * e) m)) ++ rq y (.one (.sv id 0 j))), [(id, .arr e rows), (id, .arr e rows)], [], I c, [(id, some (.arr e rows3))]⟩) hC this.1 rfl ⟨by rw [okS_append, okS_append]; exact ⟨this.2, e1.2, e2.2⟩, ⟨hT, hT, trivial⟩, rfl, hd⟩ g
end
end Hw
