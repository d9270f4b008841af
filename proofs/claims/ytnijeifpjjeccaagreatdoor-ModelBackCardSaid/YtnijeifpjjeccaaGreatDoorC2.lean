/- The engine, part BD: a bag of arrays that the run owns: length, index, load, store. -/
import Derived.Test.YtnijeifpjjeccaaGreatDoorC1
import Derived.Test.YtnijeifpjjeccaaGreatDoorE3
import Derived.Laws.StructEq
import Derived.Laws.DeepStrings4
set_option linter.unusedVariables false
set_option linter.unusedSimpArgs false
namespace Hw
open Go

/-- An array of a bag: what its word says. -/
theorem bag_inner {M : Mem} {ρ : Nat → Value} {w : World} {id e q : Nat} {L : List (List (List PV))} {rs : List (List PV)} (h : HoldsR M ρ w id (.bag e L)) (hq : L[q]? = some rs) {v : Value} {xs : List Value} (hx : ρ id = .tuple xs.toArray) (hv : xs[q]? = some v) : ArrIn M w v e rs := by
  obtain ⟨cs, h2, _, hc, _⟩ := h
  rw [h2] at hx
  simp only [Value.tuple.injEq] at hx
  have f3 : xs = cs := by have := congrArg Array.toList hx; simpa using this.symm
  subst f3
  obtain ⟨c, c1, c2⟩ := hc q _ hq
  rw [hv] at c1
  obtain rfl := Option.some.inj c1
  exact c2
section
variable {P : Program} {d : Option Nat} {ty : TypeId} {ps : String} {af : Array Edge} {g : Option (Nat × Bool)} {x y : Operand} {t : TypeId}
theorem L_len_bag {id e q : Nat} {L : List (List (List PV))} {rs : List (List PV)} {as' : Array TypeId} {el : TypeId} {n : Nat} (hx : okc x (.one (.nv id q))) (hq : L[q]? = some rs) (ha : as'[0]? = some t) (h : elemSz P t = some (el, n)) :
    Snd P ⟨d, .call ⟨.builtin .len, #[x], as'⟩, ty, ps, af, g⟩ (rq x (.one (.nv id q))) [(id, .bag e L)] [] (I rs.length) [] :=
  snd_quiet fun C st M ρ a w hH h1 ht => by
    have e' := hH.evS (ev_of hx h1)
    simp only [RepS, RepV] at e'
    obtain ⟨xs, f1, f2, _⟩ := e'
    obtain ⟨a', cap, h3, _⟩ := bag_inner (hH.tabs.res id _ ht.1) hq f1 f2
    obtain ⟨ii, hu, hinf, hsz⟩ := elemSz_spec h
    exact ⟨.int .i64 rs.length, by simp [execOp, resolve, invoke, builtin, Builtin.len_, ha, h3, run_underlying hu, goInt], repK _ _⟩
theorem L_index_bag {id e q : Nat} {L : List (List (List PV))} {rs : List (List PV)} {i : Int} {k : IntKind} {el : TypeId} (hx : okc x (.one (.nv id q))) (hy : okc y (Kk k i)) (hq : L[q]? = some rs) (h : elemSz P t = some (el, e)) (h0 : 0 ≤ i) (hi : i < rs.length) :
    Snd P ⟨d, .indexAddr t x y, ty, ps, af, g⟩ (rq x (.one (.nv id q)) ++ rq y (Kk k i)) [(id, .bag e L)] [] (.one (.np id q (i.toNat * e))) [] :=
  snd_quiet fun C st M ρ a w hH h1 ht => by
    rw [okS_append] at h1
    have e1 := hH.evS (ev_of hx h1.1)
    have e2 := hH.k (ev_of hy h1.2)
    simp only [RepS, RepV] at e1
    obtain ⟨xs, f1, f2, _⟩ := e1
    obtain ⟨a', cap, h3, h4, h5, h6⟩ := bag_inner (hH.tabs.res id _ ht.1) hq f1 f2
    obtain ⟨ii, hu, hinf, hsz⟩ := elemSz_spec h
    rcases h6 with ⟨h6, h7⟩ | ⟨b, o, arr, el', fz, h6, _⟩
    · subst h7; omega
    · subst h6
      refine ⟨.pointer (some ⟨b, o + i.toNat * e, none⟩), ?_, by simp only [RepS, RepV]; exact ⟨_, b, o, _, _, f1, by rw [f2, h3], rfl⟩⟩
      simp only [execOp, h3, e2, Instr.indexAt, asIntOf, Sem.run_bind, Sem.run_pure, Result.andThen_ok, run_underlying hu]
      rw [if_pos ⟨h0, hi⟩]
      simp only [Sem.run_bind, Sem.run_pure, Result.andThen_ok, run_sizeOf hinf, add_addr, hsz]
theorem L_load_bag {id e q kk : Nat} {L : List (List (List PV))} {rs : List (List PV)} {vs : List PV} {s : Option Nat} {v : S} (hx : okc x (.one (.np id q kk))) (hq : L[q]? = some rs) (h : shp P t = some s)
    (hvs : ∀ j p, vs[j]? = some p → rs.flatten[kk + j]? = some p) (hv : ofCells s (vs.map V.p) = some v) :
    Snd P ⟨d, .load t x, ty, ps, af, g⟩ (rq x (.one (.np id q kk))) [(id, .bag e L)] [] v [] :=
  snd_quiet fun C st M ρ a w hH h1 ht => by
    have e1 := hH.evS (ev_of hx h1)
    simp only [RepS, RepV] at e1
    obtain ⟨xs, b, o, m, cap, f1, f2, e2⟩ := e1
    obtain ⟨a', cap', h3, h4, h5, h6⟩ := bag_inner (hH.tabs.res id _ ht.1) hq f1 f2
    simp only [Value.slice.injEq] at h3
    rcases h6 with ⟨h6, _⟩ | ⟨b', o', arr, el, fz, h6, h7, h7', h8, h9⟩
    · rw [h6] at h3; cases h3.1
    · rw [h6] at h3
      have hb : b = b' ∧ o = o' := by have := h3.1; simp at this; exact this
      obtain ⟨rfl, rfl⟩ := hb
      obtain ⟨us, g1, _, g3⟩ := h9.cells (ρ := ρ)
      obtain ⟨ds, k9, k10⟩ := repVs_of (M := M) (ρ := ρ) (vs := vs.map V.p) (g := fun j => arr[o + (kk + j)]?) fun j u hj => by
        rw [List.getElem?_map, Option.map_eq_some_iff] at hj
        obtain ⟨p, hp, rfl⟩ := hj
        obtain ⟨c, hc, hr⟩ := repVs_at g1 (m := kk + j) (v := .p p) (by rw [List.getElem?_map, hvs j p hp]; rfl)
        exact ⟨c, g3 _ c hc, hr⟩
      obtain ⟨u, hu, hr⟩ := run_loadVar_cells (w := w) (b := b) (o := o + kk) h k9 (fun q c hc => by
        have := k10 q c hc
        simp only [← Nat.add_assoc] at this
        simp [World.cell?, h7, this]) hv
      exact ⟨u, by simp only [execOp, e2, Sem.run_bind, Instr.loadAt, Instr.sureAddr, Sem.run_pure, Result.andThen_ok, hu], hr⟩
/-- A store into an array of a bag. -/
theorem L_store_bag {id e q kk : Nat} {L : List (List (List PV))} {rs rs' : List (List PV)} {us : List PV} {s : S} {sh : Option Nat} (hx : okc x (.one (.np id q kk))) (hy : okc y s) (h : shp P t = some sh) (hc : cellsOf s = some (us.map V.p)) (hl : us.length = sh.getD 1)
    (hq : L[q]? = some rs) (hrl : rs'.length = rs.length) (hre : ∀ r ∈ rs', r.length = e) (hb : kk + us.length ≤ rs.length * e)
    (hn : ∀ m p, rs'.flatten[m]? = some p → (kk ≤ m ∧ us[m - kk]? = some p) ∨ ((m < kk ∨ kk + us.length ≤ m) ∧ rs.flatten[m]? = some p)) :
    Snd P ⟨d, .store t x y, ty, ps, af, g⟩ (rq x (.one (.np id q kk)) ++ rq y s) [(id, .bag e L)] [] .un [(id, some (.bag e (L.set q rs')))] := by
  intro C st M ρ a w hH h1 ht _ hd k Q hk
  rw [okS_append] at h1
  have e0 := hH.evS (ev_of hx h1.1)
  have ey := cellsOf_spec hc (hH.evS (ev_of hy h1.2))
  simp only [RepS, RepV] at e0
  obtain ⟨xs, b, o, m, cap, f1, f2, e2⟩ := e0
  obtain ⟨cs, g1, gn, gc, gap⟩ := hH.tabs.res id _ ht.1
  have f1' := f1
  rw [g1] at f1
  simp only [Value.tuple.injEq] at f1
  have f3 : xs = cs := by have := congrArg Array.toList f1; simpa using this.symm
  subst f3
  obtain ⟨c0, c1, c2⟩ := gc q _ hq
  rw [f2] at c1
  obtain rfl := Option.some.inj c1
  obtain ⟨ai, capi, i1, i2, i3, i6⟩ := c2
  simp only [Value.slice.injEq] at i1
  rcases i6 with ⟨i6, _⟩ | ⟨b', o', arr, el, fz, i6, i7, i7', i8, i9⟩
  · rw [i6] at i1; cases i1.1
  rw [i6] at i1
  have hbo : b = b' ∧ o = o' := by have := i1.1; simp at this; exact this
  obtain ⟨rfl, rfl⟩ := hbo
  have hm : m = rs.length := i1.2.1
  have hcp : cap = capi := i1.2.2
  subst hm; subst hcp
  obtain ⟨ii, hinf, hs⟩ := shp_size h
  have hlen : (a.eval y).cells.toList.length = us.length := by rw [ey.length, List.length_map]
  have hie : rs.length * e ≤ cap * e := Nat.mul_le_mul_right e i2
  have hst := run_storeCells_blk (P := P) b (o + kk) el fz (a.eval y).cells.toList 0 arr w i7 i7' (by rw [hlen]; omega) ey.one
  have hrun : (execOp a.eval ⟨d, .store t x y, ty, ps, af, g⟩).run P w = .ok .skip (w.setRow b (setAt arr.toList (o + kk) (a.eval y).cells.toList).toArray) := by
    have hsz : ¬ ((a.eval y).cells.size ≠ ii.size) := by rw [hs, ← hl, ← hlen]; simp
    simp only [execOp, e2, Instr.storeAt, Instr.sureAddr, Sem.run_bind, Sem.run_pure, Result.andThen_ok, storeVar, run_sizeOf hinf, if_neg hsz]
    simp only [hst, Result.andThen_ok, Nat.add_zero]
  unfold Oper.wp
  rw [hrun, Oper.upon_skip]
  have hcsl : o + kk + (a.eval y).cells.toList.length ≤ arr.toList.length := by rw [hlen]; simp; omega
  have hsz : (setAt arr.toList (o + kk) (a.eval y).cells.toList).toArray.size = arr.size := by simp [setAt_length _ _ _ hcsl]
  have hget : ∀ m : Nat, (setAt arr.toList (o + kk) (a.eval y).cells.toList).toArray[o + m]? = if o + m < o + kk then arr[o + m]? else if o + m < o + kk + us.length then (a.eval y).cells.toList[o + m - (o + kk)]? else arr[o + m]? := fun m => by
    rw [List.getElem?_toArray, setAt_get _ _ _ _ (by omega), hlen]; simp
  generalize hW : setAt arr.toList (o + kk) (a.eval y).cells.toList = narr at *
  have hoB : ∀ k : Nat, k ≠ b → (w.setRow b narr.toArray).heap[k]? = w.heap[k]? := fun k hk => setRow_other w b k _ hk
  have hnB : (w.setRow b narr.toArray).heap[b]? = some (.cells narr.toArray el fz) := setRow_heap w b _ _ el _ i7
  -- the array anew
  have hinner : ArrIn M (w.setRow b narr.toArray) (.slice (some ⟨b, o, none⟩) rs.length cap) e rs' := by
    refine ⟨some ⟨b, o, none⟩, cap, by rw [hrl], by omega, i3, .inr ⟨b, o, narr.toArray, el, fz, rfl, hnB, by rw [hsz]; exact i7', by rw [hsz]; exact i8, ?_⟩⟩
    obtain ⟨u1, u2, _, u4⟩ := i9.cells (ρ := ρ)
    obtain ⟨ds, k9, k10⟩ := repVs_of (M := M) (ρ := ρ) (vs := rs'.flatten.map V.p) (g := fun j => narr.toArray[o + j]?) fun j v hj => by
      rw [List.getElem?_map, Option.map_eq_some_iff] at hj
      obtain ⟨p, hp, rfl⟩ := hj
      rcases hn j p hp with ⟨n1, n2⟩ | ⟨n1, n2⟩
      · have hlt : j - kk < us.length := (List.getElem?_eq_some_iff.1 n2).1
        obtain ⟨c, v1, v2⟩ := repVs_at ey (m := j - kk) (v := .p p) (by rw [List.getElem?_map, n2]; rfl)
        refine ⟨c, ?_, v2⟩
        rw [hget, if_neg (by omega), if_pos (by omega), ← v1]; congr 1; omega
      · obtain ⟨c, v1, v2⟩ := repVs_at u2 (m := j) (v := .p p) (by rw [List.getElem?_map, n2]; rfl)
        refine ⟨c, ?_, v2⟩
        rw [hget]
        rcases n1 with n1 | n1
        · rw [if_pos (by omega)]; exact u4 _ c v1
        · rw [if_neg (by omega), if_neg (by omega)]; exact u4 _ c v1
    exact RowsIn.of_cells (ρ := ρ) hre k9 fun j c hc => k10 j c hc
  have hblk : blk (.slice (some ⟨b, o, none⟩) rs.length cap) = some b := rfl
  have hap2 : ∀ j c, j ≠ q → xs[j]? = some c → ∀ b2, blk c = some b2 → b2 ≠ b := fun j c hne hj b2 hb2 e => by
    subst e
    exact gap j q b2 c _ hj f2 hne hb2 hblk
  refine hk _ _ M ρ (hH.turn ht.1 (fun k hk => hoB k fun e => hk (by rw [e, g1]; exact bk_of f2 hblk)) (by simp) rfl rfl rfl
    ⟨xs, g1, by rw [List.length_set]; exact gn, fun j p hj => ?_, gap⟩ (by simp only [RepS]) hd)
  rw [List.getElem?_set] at hj
  split at hj
  · rename_i hjq
    subst hjq
    split at hj
    · obtain rfl := Option.some.inj hj
      exact ⟨_, f2, hinner⟩
    · cases hj
  · rename_i hjq
    obtain ⟨c, v1, v2⟩ := gc j p hj
    exact ⟨c, v1, v2.world fun b2 hb2 => hoB b2 (hap2 j c (fun e => hjq e.symm) v1 b2 hb2)⟩
end
section
variable {P : Program} {C : Ctx} {k : List Frm} {n : Nat} {sl : Slots} {tab : Tab} {Q : Exit → St → Prop} {all : Array Oper} {rest : List Oper}
theorem g_lenB (T : Ty P) {d : Nat} {x : Operand} {t ty : TypeId} {ps : String} {af : Array Edge} {g0 : Option (Nat × Bool)} {gs : Slots} {md : Mode} (hC : C.low) {id e q : Nat} {L : List (List (List PV))} {rs : List (List PV)} {el : TypeId} {m : Nat}
    (hx : ev sl x = some (.one (.nv id q))) (hT : tg tab id = some (.bag e L)) (hq : L[q]? = some rs) (he : T.es t = some (el, m)) (hm : metL all sl g0 = some gs) (hd : Nat.blt d n = true)
    (g : Goal P C (.ops all rest (nx md ⟨some d, gs ++ rq x (.one (.nv id q)), [(id, .bag e L)], [], I rs.length, []⟩)) k n ((d, I rs.length) :: sl) tab Q) :
    Goal P C (.ops all (⟨some d, .call ⟨.builtin .len, #[x], #[t]⟩, ty, ps, af, g0⟩ :: rest) md) k n sl tab Q := by
  have e1 := of_ev (st := ⟨n, sl, tab⟩) hx
  have := metL_step hm (L_len_bag (e := e) (L := L) (as' := #[t]) (ty := ty) (ps := ps) (af := af) (g := g0) (d := some d) e1.1 hq rfl (T.es_ok _ _ he)) (n := n) (tab := tab)
  exact g_law (L := ⟨some d, gs ++ rq x (.one (.nv id q)), [(id, .bag e L)], [], I rs.length, []⟩) hC this.1 rfl ⟨by rw [okS_append]; exact ⟨this.2, e1.2⟩, ⟨hT, trivial⟩, rfl, hd⟩ g
theorem g_idxB (T : Ty P) {d : Nat} {x y : Operand} {t ty : TypeId} {ps : String} {af : Array Edge} {g0 : Option (Nat × Bool)} {gs : Slots} {md : Mode} (hC : C.low) {id e q : Nat} {L : List (List (List PV))} {rs : List (List PV)} {k0 : IntKind} {i : Int} {el : TypeId}
    (hx : ev sl x = some (.one (.nv id q))) (hy : ev sl y = some (Kk k0 i)) (hT : tg tab id = some (.bag e L)) (hq : L[q]? = some rs) (he : T.es t = some (el, e)) (h0 : 0 ≤ i) (hi : i < rs.length) (hm : metL all sl g0 = some gs) (hd : Nat.blt d n = true)
    (g : Goal P C (.ops all rest (nx md ⟨some d, gs ++ (rq x (.one (.nv id q)) ++ rq y (Kk k0 i)), [(id, .bag e L)], [], .one (.np id q (i.toNat * e)), []⟩)) k n ((d, .one (.np id q (i.toNat * e))) :: sl) tab Q) :
    Goal P C (.ops all (⟨some d, .indexAddr t x y, ty, ps, af, g0⟩ :: rest) md) k n sl tab Q := by
  have e1 := of_ev (st := ⟨n, sl, tab⟩) hx
  have e2 := of_ev (st := ⟨n, sl, tab⟩) hy
  have := metL_step hm (L_index_bag (e := e) (L := L) (ty := ty) (ps := ps) (af := af) (g := g0) (d := some d) e1.1 e2.1 hq (T.es_ok _ _ he) h0 hi) (n := n) (tab := tab)
  exact g_law (L := ⟨some d, gs ++ (rq x (.one (.nv id q)) ++ rq y (Kk k0 i)), [(id, .bag e L)], [], .one (.np id q (i.toNat * e)), []⟩) hC this.1 rfl ⟨by rw [okS_append, okS_append]; exact ⟨this.2, e1.2, e2.2⟩, ⟨hT, trivial⟩, rfl, hd⟩ g
theorem g_loadB (T : Ty P) {d : Nat} {x : Operand} {t ty : TypeId} {ps : String} {af : Array Edge} {g0 : Option (Nat × Bool)} {gs : Slots} {md : Mode} (hC : C.low) {id e q kk : Nat} {L : List (List (List PV))} {rs : List (List PV)} (vs : List PV) {s : Option Nat} {v : S}
    (hx : ev sl x = some (.one (.np id q kk))) (hT : tg tab id = some (.bag e L)) (hq : L[q]? = some rs) (hsh : T.sh t = some s) (hvs : ∀ j p, vs[j]? = some p → rs.flatten[kk + j]? = some p) (hv : ofCells s (vs.map V.p) = some v) (hm : metL all sl g0 = some gs) (hd : Nat.blt d n = true)
    (g : Goal P C (.ops all rest (nx md ⟨some d, gs ++ rq x (.one (.np id q kk)), [(id, .bag e L)], [], v, []⟩)) k n ((d, v) :: sl) tab Q) :
    Goal P C (.ops all (⟨some d, .load t x, ty, ps, af, g0⟩ :: rest) md) k n sl tab Q := by
  have e1 := of_ev (st := ⟨n, sl, tab⟩) hx
  have := metL_step hm (L_load_bag (e := e) (L := L) (ty := ty) (ps := ps) (af := af) (g := g0) (d := some d) e1.1 hq (T.sh_ok _ _ hsh) hvs hv) (n := n) (tab := tab)
  exact g_law (L := ⟨some d, gs ++ rq x (.one (.np id q kk)), [(id, .bag e L)], [], v, []⟩) hC this.1 rfl ⟨by rw [okS_append]; exact ⟨this.2, e1.2⟩, ⟨hT, trivial⟩, rfl, hd⟩ g
theorem g_storeB (T : Ty P) {x y : Operand} {t ty : TypeId} {ps : String} {af : Array Edge} {g0 : Option (Nat × Bool)} {gs : Slots} {md : Mode} (hC : C.low) {id e q kk : Nat} {L : List (List (List PV))} {rs : List (List PV)} (rs' : List (List PV)) {us : List PV} {s : S} {sh : Option Nat}
    (hx : ev sl x = some (.one (.np id q kk))) (hy : ev sl y = some s) (hT : tg tab id = some (.bag e L)) (hsh : T.sh t = some sh) (hc : cellsOf s = some (us.map V.p)) (hl : us.length = sh.getD 1)
    (hq : L[q]? = some rs) (hrl : rs'.length = rs.length) (hre : ∀ r ∈ rs', r.length = e) (hb : kk + us.length ≤ rs.length * e)
    (hn : ∀ m p, rs'.flatten[m]? = some p → (kk ≤ m ∧ us[m - kk]? = some p) ∨ ((m < kk ∨ kk + us.length ≤ m) ∧ rs.flatten[m]? = some p)) (hm : metL all sl g0 = some gs)
    (g : Goal P C (.ops all rest (nx md ⟨none, gs ++ (rq x (.one (.np id q kk)) ++ rq y s), [(id, .bag e L)], [], .un, [(id, some (.bag e (L.set q rs')))]⟩)) k n sl ((id, some (.bag e (L.set q rs'))) :: tab) Q) :
    Goal P C (.ops all (⟨none, .store t x y, ty, ps, af, g0⟩ :: rest) md) k n sl tab Q := by
  have e1 := of_ev (st := ⟨n, sl, tab⟩) hx
  have e2 := of_ev (st := ⟨n, sl, tab⟩) hy
  have := metL_step hm (L_store_bag (ty := ty) (ps := ps) (af := af) (g := g0) (d := none) e1.1 e2.1 (T.sh_ok _ _ hsh) hc hl hq hrl hre hb hn) (n := n) (tab := tab)
  exact g_law (L := ⟨none, gs ++ (rq x (.one (.np id q kk)) ++ rq y s), [(id, .bag e L)], [], .un, [(id, some (.bag e (L.set q rs')))]⟩) hC this.1 rfl ⟨by rw [okS_append, okS_append]; exact ⟨this.2, e1.2, e2.2⟩, ⟨hT, trivial⟩, rfl, rfl⟩ g
end
end Hw
/- The engine, part BE: resources that become one. -/
namespace Hw
open Go

/-- A resource under a new id, in new blocks or in the blocks of those that go away. -/
theorem Holds.merge {C : Ctx} {st : St} {M : Mem} {ρ : Nat → Value} {a : Act} {w : World} (h : Holds C st M ρ a w) {w' : World} (olds : List Nat) {id : Nat} {val : Value} {r' : Res}
    {d : Option Nat} {v : S} {x : Value}
    (hheap : ∀ b, b < w.heap.size → (∀ i r, i ∈ olds → tg st.tab i = some r → ¬ Bk (ρ i) b) → w'.heap[b]? = w.heap[b]?)
    (hsize : w.heap.size ≤ w'.heap.size) (hos : w'.os = w.os) (htape : w'.tape = w.tape) (hout : w'.output = w.output)
    (hval : ∀ b, Bk val b → w.heap.size ≤ b ∨ ∃ i r, i ∈ olds ∧ tg st.tab i = some r ∧ Bk (ρ i) b)
    (hf : Fresh C id st) (hR : HoldsR M (upd ρ id val) w' id r') (hx : RepS M (upd ρ id val) v x) (hd : dok d st.n = true) :
    Holds C (app d v ((id, some r') :: offs olds) st) M (upd ρ id val) (a.put d x) w' := by
  have hsl : ∀ k s, sg st.sl k = some s → RepS M (upd ρ id val) s (a.tmps.getD k undef) := fun k s hk =>
    RepS.agree (upd_agree ρ id val) _ _ (fun i hi => by subst hi; exact hf.1 k s hk) (h.slots k s hk)
  -- what an entry of the new table is
  have htab : ∀ j r, tg (((id, some r') :: offs olds) ++ st.tab) j = some r → (j = id ∧ r = r') ∨ (j ≠ id ∧ tg st.tab j = some r ∧ j ∉ olds) := fun j r hj => by
    simp only [List.cons_append, tg_cons] at hj
    split at hj
    · rename_i e; exact .inl ⟨e.symm, (Option.some.inj hj).symm⟩
    · rename_i e; exact .inr ⟨fun h => e h.symm, (tg_offs hj).2, (tg_offs hj).1⟩
  have hlt : ∀ j r b, tg st.tab j = some r → Bk (ρ j) b → b < w.heap.size := fun j r b hj hb => (h.tabs.res j r hj).lt hb
  have same : ∀ j r b, tg st.tab j = some r → j ∉ olds → Bk (ρ j) b → w'.heap[b]? = w.heap[b]? := fun j r b hj hne hb =>
    hheap b (hlt j r b hj hb) fun i ri hi hri hbi => h.tabs.dis i j ri r b hri hj (fun e => hne (e ▸ hi)) hbi hb
  have ne_new : ∀ j r b, tg st.tab j = some r → j ∉ olds → Bk (ρ j) b → ¬ Bk val b := fun j r b hj hne hb hv => by
    rcases hval b hv with h1 | ⟨i, ri, hi, hri, hbi⟩
    · have := hlt j r b hj hb; omega
    · exact h.tabs.dis i j ri r b hri hj (fun e => hne (e ▸ hi)) hbi hb
  have mlt : ∀ b o u, M b o = some u → b < w.heap.size := fun b o u hu => cell_lt (h.run.imm b o u hu)
  have frb : ∀ i r b, tg st.tab i = some r → Bk (ρ i) b → ¬ C.fr b := h.ownf
  have mb : ∀ b o u, M b o = some u → w'.heap[b]? = w.heap[b]? := fun b o u hu => hheap b (mlt b o u hu) fun i ri _ hri hbi => by
    have := h.tabs.own i ri b hri hbi o; rw [hu] at this; cases this
  refine ⟨by cases d <;> exact h.dfr, ?_, ?_, ⟨?_, ?_, ?_⟩, ?_, ⟨?_, ?_, ?_, h.run.base, h.run.newM, hos.trans h.run.os, htape.trans h.run.tape, hout.trans h.run.output⟩, ?_⟩
  · cases d <;> simp [Act.put, app, h.sz]
  · intro k s hk
    cases d with
    | none => exact hsl k s hk
    | some d =>
      simp only [app] at hk
      rw [sg_cons] at hk
      split at hk
      · rename_i e; subst e; simp at hk; subst hk
        rw [getD_put_same (by rw [h.sz]; exact dok_lt hd)]; exact hx
      · rename_i e; rw [getD_put_other (fun h => e h.symm)]; exact hsl k s hk
  · intro j r hj
    rcases htab j r hj with ⟨rfl, rfl⟩ | ⟨hne, hj', ho⟩
    · exact hR
    · exact ((h.tabs.res j r hj').world (fun b hb => same j r b hj' ho hb)).agree (upd_agree ρ id val) hne (fun i hi => by subst hi; exact (hf.2.1 j r hj').2)
  · intro i j ri rj b hi hj hne hbi hbj
    rcases htab i ri hi with ⟨rfl, rfl⟩ | ⟨hni, hi', hoi⟩ <;> rcases htab j rj hj with ⟨rfl, rfl⟩ | ⟨hnj, hj', hoj⟩
    · exact hne rfl
    · rw [upd_same] at hbi; rw [upd_other hnj] at hbj; exact ne_new j rj b hj' hoj hbj hbi
    · rw [upd_same] at hbj; rw [upd_other hni] at hbi; exact ne_new i ri b hi' hoi hbi hbj
    · rw [upd_other hni] at hbi; rw [upd_other hnj] at hbj; exact h.tabs.dis i j ri rj b hi' hj' hne hbi hbj
  · intro j r b hj hb o
    rcases htab j r hj with ⟨rfl, rfl⟩ | ⟨hne, hj', _⟩
    · rw [upd_same] at hb
      rcases hval b hb with h1 | ⟨i, ri, _, hri, hbi⟩
      · cases hm : M b o with
        | none => rfl
        | some u => have := mlt b o u hm; omega
      · exact h.tabs.own i ri b hri hbi o
    · rw [upd_other hne] at hb; exact h.tabs.own j r b hj' hb o
  · intro j r b hj hb
    rcases htab j r hj with ⟨rfl, rfl⟩ | ⟨hne, hj', _⟩
    · rw [upd_same] at hb
      rcases hval b hb with h1 | ⟨i, ri, _, hri, hbi⟩
      · intro hfr; have := hfr.1; have := h.run.size; omega
      · exact frb i ri b hri hbi
    · rw [upd_other hne] at hb; exact frb j r b hj' hb
  · intro b o u hu; rw [cell_of_heap (mb b o u hu)]; exact h.run.imm b o u hu
  · intro b hb
    rw [hheap b (Nat.lt_of_lt_of_le hb.1 h.run.size) fun i ri _ hri hbi => frb i ri b hri hbi hb]
    exact h.run.fram b hb
  · exact Nat.le_trans h.run.size hsize
  · intro j r hj
    rw [upd_other (fun e => by subst e; rw [hf.2.2] at hj; cases hj)]; exact h.keep j r hj


/-! ### Resources told anew: words are made out of words, nothing turns in the world -/
def RwV (F : (Nat → Value) → Prop) (v v' : V) : Prop := ∀ M ρ x, F ρ → RepV M ρ v x → RepV M ρ v' x
def RwVs (F : (Nat → Value) → Prop) (v v' : List V) : Prop := ∀ M ρ x, F ρ → RepVs M ρ v x → RepVs M ρ v' x
def RwS (F : (Nat → Value) → Prop) (v v' : S) : Prop := ∀ M ρ x, F ρ → RepS M ρ v x → RepS M ρ v' x
def RwR (F : (Nat → Value) → Prop) (r r' : Res) : Prop := ∀ M ρ w i, F ρ → HoldsR M ρ w i r → HoldsR M ρ w i r'
section
variable {F : (Nat → Value) → Prop}
theorem RwV.refl (v : V) : RwV F v v := fun _ _ _ _ h => h
theorem RwVs.nil : RwVs F [] [] := fun _ _ _ _ h => h
theorem RwVs.refl (v : List V) : RwVs F v v := fun _ _ _ _ h => h
theorem RwVs.cons {v v' : V} {vs vs' : List V} (h : RwV F v v') (hs : RwVs F vs vs') : RwVs F (v :: vs) (v' :: vs') := fun M ρ x hf hr => by
  cases x with
  | nil => simp only [RepVs] at hr
  | cons c cs => simp only [RepVs] at hr ⊢; exact ⟨h _ _ _ hf hr.1, hs _ _ _ hf hr.2⟩
theorem RwS.refl (v : S) : RwS F v v := fun _ _ _ _ h => h
theorem RwS.one {v v' : V} (h : RwV F v v') : RwS F (.one v) (.one v') := fun M ρ x hf hr => by simp only [RepS] at hr ⊢; exact h _ _ _ hf hr
theorem RwS.agg {v v' : List V} (h : RwVs F v v') : RwS F (.agg v) (.agg v') := fun M ρ x hf hr => by
  simp only [RepS] at hr ⊢; obtain ⟨cs, h1, h2⟩ := hr; exact ⟨cs, h1, h _ _ _ hf h2⟩
theorem RwR.refl (r : Res) : RwR F r r := fun _ _ _ _ _ h => h
theorem RwR.box {vs vs' : List V} (h : RwVs F vs vs') : RwR F (.box vs) (.box vs') := fun _ _ _ _ hr ⟨b, cs, el, e1, e2, e3⟩ => ⟨b, cs, el, e1, e2, h _ _ _ hr e3⟩
theorem RwR.vw {ids ids' : List Nat} {e : Nat} {rows rows' : List (List PC)} (hl : rows'.length = rows.length) (hle : ∀ r ∈ rows', r.length = e)
    (h : ∀ (j : Nat) (x' : PC), rows'.flatten[j]? = some x' → ∃ x, rows.flatten[j]? = some x ∧ RwV F (toV ids x) (toV ids' x')) : RwR F (.vw ids e rows) (.vw ids' e rows') := fun M ρ w i hF hr => by
  obtain ⟨a, cap, h1, h2, h3, _, h4⟩ := hr
  refine ⟨a, cap, by rw [hl]; exact h1, by omega, h3, hle, ?_⟩
  rcases h4 with h4 | ⟨b, o, cs, el, fz, h5, h6, h6', h7, h8⟩
  · exact .inl h4
  · refine .inr ⟨b, o, cs, el, fz, h5, h6, h6', h7, fun j x' hj => ?_⟩
    obtain ⟨x, hx, hv⟩ := h j x' hj
    obtain ⟨c, c1, c2⟩ := h8 j x hx
    exact ⟨c, c1, hv _ _ _ hF c2⟩
end
def upW (F : (Nat → Value) → Prop) (olds news : List Nat) (tab : Tab) : List (Nat × Res) → Prop
  | [] => True
  | (i, r') :: l => (∃ r, tg tab i = some r ∧ ((hasB i olds || hasB i news) = false ∧ RwR F r r')) ∧ upW F olds news tab l
theorem upW_tg {F : (Nat → Value) → Prop} {olds news : List Nat} {tab b : Tab} : ∀ {ups : List (Nat × Res)}, upW F olds news tab ups → ∀ {k : Nat} {r : Res}, tg (resT ups ++ b) k = some r →
    tg b k = some r ∨ ∃ r0, tg tab k = some r0 ∧ k ∉ olds ∧ k ∉ news ∧ RwR F r0 r
  | [], _, k, r, h => .inl h
  | (t, s') :: l, hu, k, r, h => by
    simp only [resT, List.cons_append, tg_cons] at h
    split at h
    · rename_i e; subst e; simp only [Option.some.injEq] at h; subst h
      obtain ⟨r0, h1, h2, h3⟩ := hu.1
      simp only [Bool.or_eq_false_iff] at h2
      have n1 : t ∉ olds := fun hm => by have := mem_hasB hm; rw [h2.1] at this; cases this
      have n2 : t ∉ news := fun hm => by have := mem_hasB hm; rw [h2.2] at this; cases this
      exact .inr ⟨r0, h1, n1, n2, h3⟩
    · exact upW_tg hu.2 h
/-- How the new words come about. -/
structure Remade (M : Mem) (ρ ρ' : Nat → Value) (w : World) (tab : Tab) (olds : List Nat) (news : RL) : Prop where
  agr : ∀ i, i ∉ news.ids → ρ' i = ρ i
  res : ∀ i r, tg (tb news) i = some r → HoldsR M ρ' w i r
  blk : ∀ i r b, tg (tb news) i = some r → Bk (ρ' i) b → ∃ j s, j ∈ olds ∧ tg tab j = some s ∧ Bk (ρ j) b
  dis : ∀ i j ri rj b, tg (tb news) i = some ri → tg (tb news) j = some rj → i ≠ j → Bk (ρ' i) b → Bk (ρ' j) b → False
theorem tg_tb_append {l : RL} {b : Tab} {i : Nat} {r : Res} (h : tg (tb l ++ b) i = some r) : tg (tb l) i = some r ∨ (i ∉ l.ids ∧ tg b i = some r) := by
  induction l with
  | nil => exact .inr ⟨by simp [RL.ids], h⟩
  | cons x l ih =>
    obtain ⟨j, s⟩ := x
    simp only [tb, List.cons_append, tg_cons] at h ⊢
    split at h
    · rename_i e; rw [if_pos e]; exact .inl h
    · rename_i e
      rw [if_neg e]
      rcases ih h with h1 | ⟨h1, h2⟩
      · exact .inl h1
      · exact .inr ⟨by simp only [RL.ids, List.mem_cons, not_or]; exact ⟨fun h => e h.symm, h1⟩, h2⟩
section
variable {P : Program} {C : Ctx} {k : List Frm} {n : Nat} {sl : Slots} {tab : Tab} {Q : Exit → St → Prop} {cur : Cur}
theorem g_reword (hC : C.low) (hc : lst cur = true) (olds : List Nat) (news : RL) (F : (Nat → Value) → Prop) (hf : allB (fun id => Nat.ble 100 id && freshB id ⟨n, sl, tab⟩) news.ids = true)
    (hmk : ∀ {M ρ w}, THolds M ρ w tab → ∃ ρ', F ρ' ∧ Remade M ρ ρ' w tab olds news)
    (ups : Slots) (hS : upS (RwS F) sl ups) (bs : List (Nat × Res)) (hB : upW F olds news.ids tab bs) (g : Goal P C cur k n (ups ++ sl) (resT bs ++ (tb news ++ (offs olds ++ tab))) Q) : Goal P C cur k n sl tab Q := by
  refine g_turn hc (fun {M ρ a w} h => ?_) g
  obtain ⟨ρ', hF, hR⟩ := hmk h.tabs
  have fresh : ∀ i ∈ news.ids, Fresh C i ⟨n, sl, tab⟩ := fun i hi => by
    have := allB_spec hf i hi
    simp only [Bool.and_eq_true] at this
    exact fresh_of this.2 (hC.none (Nat.le_of_ble_eq_true this.1))
  have hX : Agree (fun i => i ∈ news.ids) ρ ρ' := fun i hi => hR.agr i hi
  have hsl : ∀ k s, sg sl k = some s → RepS M ρ' s (a.tmps.getD k undef) := fun k s hk => RepS.agree hX _ _ (fun i hi => (fresh i hi).1 k s hk) (h.slots k s hk)
  have hold : ∀ i r, tg tab i = some r → HoldsR M ρ' w i r := fun i r hi =>
    (h.tabs.res i r hi).agree hX (fun hm => ((fresh i hm).2.1 i r hi).1 rfl) (fun j hj => ((fresh j hj).2.1 i r hi).2)
  have nn : ∀ i r, tg tab i = some r → i ∉ news.ids := fun i r hi hm => ((fresh i hm).2.1 i r hi).1 rfl
  -- what an entry of the new table is
  have htab : ∀ i r, tg (resT bs ++ (tb news ++ (offs olds ++ tab))) i = some r → (i ∈ news.ids ∧ tg (tb news) i = some r) ∨ (i ∉ olds ∧ i ∉ news.ids ∧ ∃ r0, tg tab i = some r0 ∧ (r = r0 ∨ RwR F r0 r)) := fun i r hi => by
    rcases upW_tg hB hi with h1 | ⟨r0, h1, h2, h3, h4⟩
    · rcases tg_tb_append h1 with h2 | ⟨h2, h3⟩
      · exact .inl ⟨ids_mem (tb_mem h2), h2⟩
      · have := tg_offs h3
        exact .inr ⟨this.1, h2, r, this.2, .inl rfl⟩
    · exact .inr ⟨h2, h3, r0, h1, .inr h4⟩
  have bkold : ∀ i, i ∉ news.ids → ∀ b, Bk (ρ' i) b → Bk (ρ i) b := fun i hi b hb => by rw [hR.agr i hi] at hb; exact hb
  have cross : ∀ i j ri b, tg (tb news) i = some ri → j ∉ olds → j ∉ news.ids → (∃ rj, tg tab j = some rj) → Bk (ρ' i) b → Bk (ρ' j) b → False := fun i j ri b hi hjo hjn ⟨rj, hj⟩ hbi hbj => by
    obtain ⟨q, s, hq, hs, hbq⟩ := hR.blk i ri b hi hbi
    exact h.tabs.dis q j s rj b hs hj (fun e => hjo (e ▸ hq)) hbq (bkold j hjn b hbj)
  refine ⟨M, ρ', h.dfr, h.sz, fun k s hk => ?_, ⟨fun i r hi => ?_, fun i j ri rj b hi hj hne hbi hbj => ?_, fun i r b hi hb o => ?_⟩, fun i r b hi hb => ?_, h.run, fun i r hi => ?_⟩
  · rcases upS_sg hS hk with h1 | ⟨s0, h1, h2⟩
    · exact hsl k s h1
    · exact h2 _ _ _ hF (hsl k s0 h1)
  · rcases htab i r hi with ⟨_, h1⟩ | ⟨_, _, r0, h1, h2⟩
    · exact hR.res i r h1
    · rcases h2 with rfl | h2
      · exact hold i r h1
      · exact h2 _ _ _ _ hF (hold i r0 h1)
  · rcases htab i ri hi with ⟨_, h1⟩ | ⟨i1, i2, r0, h1, _⟩ <;> rcases htab j rj hj with ⟨_, h2⟩ | ⟨j1, j2, s0, h2, _⟩
    · exact hR.dis i j ri rj b h1 h2 hne hbi hbj
    · exact cross i j ri b h1 j1 j2 ⟨s0, h2⟩ hbi hbj
    · exact cross j i rj b h2 i1 i2 ⟨r0, h1⟩ hbj hbi
    · exact h.tabs.dis i j r0 s0 b h1 h2 hne (bkold i i2 b hbi) (bkold j j2 b hbj)
  · rcases htab i r hi with ⟨_, h1⟩ | ⟨i1, i2, r0, h1, _⟩
    · obtain ⟨q, s, _, hs, hbq⟩ := hR.blk i r b h1 hb
      exact h.tabs.own q s b hs hbq o
    · exact h.tabs.own i r0 b h1 (bkold i i2 b hb) o
  · rcases htab i r hi with ⟨_, h1⟩ | ⟨i1, i2, r0, h1, _⟩
    · obtain ⟨q, s, _, hs, hbq⟩ := hR.blk i r b h1 hb
      exact h.ownf q s b hs hbq
    · exact h.ownf i r0 b h1 (bkold i i2 b hb)
  · rw [hR.agr i fun hm => by have := (fresh i hm).2.2; rw [hi] at this; cases this]
    exact h.keep i r hi
/-- What is known behind a bag that has taken an array in. -/
def TkF (id id2 id' m : Nat) (ρ : Nat → Value) : Prop := ∃ cs : List Value, ρ id = .tuple cs.toArray ∧ cs.length = m ∧ (ρ id2).oneCell' = true ∧ ρ id' = .tuple (cs ++ [ρ id2]).toArray
theorem TkF.nv {id id2 id' m j : Nat} : RwV (TkF id id2 id' m) (.nv id j) (.nv id' j) := fun M ρ x hF hr => by
  obtain ⟨cs, h1, h2, h3, h4⟩ := hF
  simp only [RepV] at hr ⊢
  obtain ⟨xs, f1, f2, f3⟩ := hr
  rw [h1] at f1
  have : xs = cs := by simp only [Value.tuple.injEq] at f1; have := congrArg Array.toList f1; simpa using this.symm
  subst this
  exact ⟨_, h4, by rw [List.getElem?_append_left (List.getElem?_eq_some_iff.1 f2).1]; exact f2, f3⟩
theorem TkF.ar {id id2 id' m : Nat} : RwV (TkF id id2 id' m) (.ar id2) (.nv id' m) := fun M ρ x hF hr => by
  obtain ⟨cs, h1, h2, h3, h4⟩ := hF
  simp only [RepV] at hr ⊢
  exact ⟨_, h4, by rw [List.getElem?_append_right (by omega), h2, Nat.sub_self, hr.1]; rfl, hr.2⟩
theorem apart_snoc {cs : List Value} {v : Value} (h : Apart cs) (hv : ∀ (j b : Nat) z, cs[j]? = some z → blk z = some b → blk v ≠ some b) : Apart (cs ++ [v]) := by
  have get : ∀ (i : Nat) z, (cs ++ [v])[i]? = some z → cs[i]? = some z ∨ (i = cs.length ∧ z = v) := fun i z hz => by
    rcases Nat.lt_or_ge i cs.length with hlt | hge
    · rw [List.getElem?_append_left hlt] at hz; exact .inl hz
    · rw [List.getElem?_append_right hge] at hz
      have h0 : i - cs.length = 0 := by have := (List.getElem?_eq_some_iff.1 hz).1; simp at this; omega
      rw [h0] at hz
      simp only [List.getElem?_cons_zero, Option.some.injEq] at hz
      exact .inr ⟨by omega, hz.symm⟩
  intro i j b p q hp hq hne hbp hbq
  rcases get i p hp with hi | ⟨rfl, rfl⟩ <;> rcases get j q hq with hj | ⟨rfl, rfl⟩
  · exact h i j b p q hi hj hne hbp hbq
  · exact hv i b p hi hbp hbq
  · exact hv j b q hj hbq hbp
  · exact hne rfl
/-- A bag takes an owned array in. -/
theorem g_take (hC : C.low) (hc : lst cur = true) (id id2 id' : Nat) {e : Nat} {L : List (List (List PV))} {rs : List (List PV)} (hid : tg tab id = some (.bag e L)) (hid2 : tg tab id2 = some (.arr e rs)) (hne : Nat.beq id id2 = false)
    (hf : (Nat.ble 100 id' && freshB id' ⟨n, sl, tab⟩) = true)
    (ups : Slots) (hS : upS (RwS (TkF id id2 id' L.length)) sl ups) (bs : List (Nat × Res)) (hB : upW (TkF id id2 id' L.length) [id, id2] [id'] tab bs)
    (g : Goal P C cur k n (ups ++ sl) (resT bs ++ ((id', some (.bag e (L ++ [rs]))) :: (id, none) :: (id2, none) :: tab)) Q) : Goal P C cur k n sl tab Q := by
  have hne' : id ≠ id2 := fun e => by subst e; rw [beq_self] at hne; cases hne
  refine g_reword hC hc [id, id2] [(id', .bag e (L ++ [rs]))] (TkF id id2 id' L.length) (by simp only [RL.ids, allB, hf, Bool.and_true]) (fun {M ρ w} hT => ?_) ups hS bs hB g
  simp only [Bool.and_eq_true] at hf
  have nid : ∀ i r, tg tab i = some r → i ≠ id' := fun i r hi e => by
    have := (fresh_of (C := C) hf.2 (hC.none (Nat.le_of_ble_eq_true hf.1))).2.1 i r hi
    exact this.1 e
  obtain ⟨cs, h1, h2, h3, h4⟩ := hT.res id _ hid
  have hA : ArrIn M w (ρ id2) e rs := hT.res id2 _ hid2
  obtain ⟨a2, cap2, g1, _⟩ := hA
  have hA : ArrIn M w (ρ id2) e rs := hT.res id2 _ hid2
  have n1 := nid id _ hid
  have n2 := nid id2 _ hid2
  have bk2 : ∀ q, blk (ρ id2) = some q → Bk (ρ id2) q := fun q hq => by rw [g1] at hq ⊢; exact hq
  have only : ∀ i r, tg (tb [(id', Res.bag e (L ++ [rs]))]) i = some r → i = id' ∧ r = .bag e (L ++ [rs]) := fun i r hi => by
    simp only [tb, tg_cons] at hi
    split at hi
    · rename_i e; exact ⟨e.symm, (Option.some.inj hi).symm⟩
    · cases hi
  refine ⟨upd ρ id' (.tuple (cs ++ [ρ id2]).toArray), ⟨cs, by rw [upd_other n1]; exact h1, h2, by rw [upd_other n2, g1]; rfl, by rw [upd_same, upd_other n2]⟩, fun i hi => upd_other (by simpa [RL.ids] using hi), fun i r hi => ?_, fun i r b hi hb => ?_, fun i j ri rj b hi hj hne _ _ => ?_⟩
  · obtain ⟨rfl, rfl⟩ := only i r hi
    refine ⟨_, upd_same _ _ _, by simp [h2], fun j rs' hj => ?_, apart_snoc h4 fun j b z hj hz hv => hT.dis id id2 _ _ b hid hid2 hne' (by rw [h1]; exact bk_of hj hz) (bk2 b hv)⟩
    rcases Nat.lt_or_ge j L.length with hlt | hge
    · rw [List.getElem?_append_left hlt] at hj
      obtain ⟨c, c1, c2⟩ := h3 j rs' hj
      exact ⟨c, by rw [List.getElem?_append_left (by omega)]; exact c1, c2⟩
    · rw [List.getElem?_append_right hge] at hj
      have h0 : j - L.length = 0 := by have := (List.getElem?_eq_some_iff.1 hj).1; simp at this; omega
      rw [h0] at hj
      simp only [List.getElem?_cons_zero, Option.some.injEq] at hj
      subst hj
      exact ⟨ρ id2, by rw [List.getElem?_append_right (by omega), show j - cs.length = 0 by omega]; rfl, hA⟩
  · obtain ⟨rfl, _⟩ := only i r hi
    rw [upd_same] at hb
    obtain ⟨x, hx, hxb⟩ := hb
    have hx' : x ∈ cs ∨ x = ρ id2 := by simpa using hx
    rcases hx' with hx' | rfl
    · obtain ⟨j, hj⟩ := List.mem_iff_getElem?.1 hx'
      exact ⟨id, _, by simp, hid, by rw [h1]; exact bk_of hj hxb⟩
    · exact ⟨id2, _, by simp, hid2, bk2 b hxb⟩
  · obtain ⟨rfl, _⟩ := only i ri hi
    obtain ⟨rfl, _⟩ := only j rj hj
    exact hne rfl
/-- A bag of nothing. -/
theorem g_bag (hC : C.low) (hc : lst cur = true) (id' e : Nat) (hf : (Nat.ble 100 id' && freshB id' ⟨n, sl, tab⟩) = true) (g : Goal P C cur k n sl ((id', some (.bag e [])) :: tab) Q) : Goal P C cur k n sl tab Q := by
  refine g_reword hC hc [] [(id', .bag e [])] (fun _ => True) (by simp only [RL.ids, allB, hf, Bool.and_true]) (fun {M ρ w} hT => ?_) [] trivial [] trivial g
  have only : ∀ i r, tg (tb [(id', Res.bag e [])]) i = some r → i = id' ∧ r = .bag e [] := fun i r hi => by
    simp only [tb, tg_cons] at hi
    split at hi
    · rename_i e; exact ⟨e.symm, (Option.some.inj hi).symm⟩
    · cases hi
  refine ⟨upd ρ id' (.tuple ([] : List Value).toArray), trivial, fun i hi => upd_other (by simpa [RL.ids] using hi), fun i r hi => ?_, fun i r b hi hb => ?_, fun i j ri rj b hi hj hne _ _ => ?_⟩
  · obtain ⟨rfl, rfl⟩ := only i r hi
    exact ⟨[], upd_same _ _ _, rfl, fun j rs hj => by simp at hj, fun i j b x y hx => by simp at hx⟩
  · obtain ⟨rfl, _⟩ := only i r hi
    rw [upd_same] at hb
    obtain ⟨x, hx, _⟩ := hb
    simp at hx
  · obtain ⟨rfl, _⟩ := only i ri hi
    obtain ⟨rfl, _⟩ := only j rj hj
    exact hne rfl
end
end Hw
/- The engine, part BF: owned arrays whose cells may lead to other resources (Res.vw): index, length, load, store, append, literal. -/
namespace Hw
open Go

section
variable {P : Program} {d : Option Nat} {ty : TypeId} {ps : String} {af : Array Edge} {g : Option (Nat × Bool)} {x y : Operand} {t : TypeId}
theorem L_index_vw {id e : Nat} {rows : List (List PC)} {ids : List Nat} {i : Int} {k : IntKind} {el : TypeId} (hx : okc x (.one (.ar id))) (hy : okc y (Kk k i))
    (h : elemSz P t = some (el, e)) (h0 : 0 ≤ i) (hi : i < rows.length) :
    Snd P ⟨d, .indexAddr t x y, ty, ps, af, g⟩ (rq x (.one (.ar id)) ++ rq y (Kk k i)) [(id, .vw ids e rows)] [] (.one (.el id (i.toNat * e))) [] :=
  snd_quiet fun C st M ρ a w hH h1 ht => by
    rw [okS_append] at h1
    have e' := hH.evS (ev_of hx h1.1)
    have e2 := hH.k (ev_of hy h1.2)
    simp only [RepS, RepV] at e'
    obtain ⟨a', cap, h3, h4, h5, _, h6⟩ := hH.tabs.res id _ ht.1
    obtain ⟨ii, hu, hinf, hsz⟩ := elemSz_spec h
    rcases h6 with ⟨h6, h7⟩ | ⟨b, o, cs, el', fz, h6, _⟩
    · subst h7; omega
    · subst h6
      refine ⟨.pointer (some ⟨b, o + i.toNat * e, none⟩), ?_, by simp only [RepS, RepV]; exact ⟨b, o, _, _, h3, rfl⟩⟩
      rw [h3] at e'
      simp only [execOp, e'.1, e2, Instr.indexAt, asIntOf, Sem.run_bind, Sem.run_pure, Result.andThen_ok, run_underlying hu]
      rw [if_pos ⟨h0, hi⟩]
      simp only [Sem.run_bind, Sem.run_pure, Result.andThen_ok, run_sizeOf hinf, add_addr, hsz]
theorem L_len_vw {id e : Nat} {rows : List (List PC)} {ids : List Nat} {as' : Array TypeId} {el : TypeId} {n : Nat} (hx : okc x (.one (.ar id))) (ha : as'[0]? = some t) (h : elemSz P t = some (el, n)) :
    Snd P ⟨d, .call ⟨.builtin .len, #[x], as'⟩, ty, ps, af, g⟩ (rq x (.one (.ar id))) [(id, .vw ids e rows)] [] (I rows.length) [] :=
  snd_quiet fun C st M ρ a w hH h1 ht => by
    have e' := hH.evS (ev_of hx h1)
    simp only [RepS, RepV] at e'
    obtain ⟨a', cap, h3, h4, h5, _, h6⟩ := hH.tabs.res id _ ht.1
    obtain ⟨ii, hu, hinf, hsz⟩ := elemSz_spec h
    rw [h3] at e'
    exact ⟨.int .i64 rows.length, by simp [execOp, resolve, invoke, builtin, Builtin.len_, ha, e'.1, run_underlying hu, goInt], repK _ _⟩
theorem L_load_vw {id kk e : Nat} {rows : List (List PC)} {ids : List Nat} {vs : List V} {s : Option Nat} {v : S} (hx : okc x (.one (.el id kk))) (h : shp P t = some s)
    (hvs : ∀ j v, vs[j]? = some v → ∃ p, rows.flatten[kk + j]? = some p ∧ toV ids p = v) (hv : ofCells s vs = some v) :
    Snd P ⟨d, .load t x, ty, ps, af, g⟩ (rq x (.one (.el id kk))) [(id, .vw ids e rows)] [] v [] :=
  snd_quiet fun C st M ρ a w hH h1 ht => by
    have e' := hH.evS (ev_of hx h1)
    simp only [RepS, RepV] at e'
    obtain ⟨b, o, m, cap, e1, e2⟩ := e'
    obtain ⟨a', cap', h2, h3, h4, _, h5⟩ := hH.tabs.res id _ ht.1
    rw [e1] at h2
    simp only [Value.slice.injEq] at h2
    rcases h5 with ⟨h5, _⟩ | ⟨b', o', cs, el, fz, h5, h6, h6', h7, h8⟩
    · rw [h5] at h2; cases h2.1
    · rw [h5] at h2
      have hb : b = b' ∧ o = o' := by have := h2.1; simp at this; exact this
      obtain ⟨rfl, rfl⟩ := hb
      obtain ⟨ds, h9, h10⟩ := repVs_of (M := M) (ρ := ρ) (vs := vs) (g := fun j => cs[o + (kk + j)]?) fun j u hj => by
        obtain ⟨p, hp, e⟩ := hvs j u hj
        obtain ⟨c, hc, hr⟩ := h8 _ p hp
        exact ⟨c, hc, e ▸ hr⟩
      obtain ⟨u, hu, hr⟩ := run_loadVar_cells (w := w) (b := b) (o := o + kk) h h9 (fun q c hc => by
        have := h10 q c hc
        simp only [← Nat.add_assoc] at this
        simp [World.cell?, h6, this]) hv
      exact ⟨u, by simp only [execOp, e2, Sem.run_bind, Instr.loadAt, Instr.sureAddr, Sem.run_pure, Result.andThen_ok, hu], hr⟩
/-- A store that says what stands in the array then. -/
theorem L_store_vw {id kk e : Nat} {rows rows' : List (List PC)} {ids ids' : List Nat} {us : List V} {s : S} {sh : Option Nat} (hx : okc x (.one (.el id kk))) (hy : okc y s) (h : shp P t = some sh)
    (hc : cellsOf s = some us) (hl : us.length = sh.getD 1) (hln : rows'.length = rows.length) (hle : ∀ r ∈ rows', r.length = e) (hb : kk + us.length ≤ rows.length * e)
    (hn : ∀ q p, rows'.flatten[q]? = some p → (kk ≤ q ∧ us[q - kk]? = some (toV ids' p)) ∨ ((q < kk ∨ kk + us.length ≤ q) ∧ ∃ p0, rows.flatten[q]? = some p0 ∧ toV ids p0 = toV ids' p)) :
    Snd P ⟨d, .store t x y, ty, ps, af, g⟩ (rq x (.one (.el id kk)) ++ rq y s) [(id, .vw ids e rows)] [] .un [(id, some (.vw ids' e rows'))] := by
  intro C st M ρ a w hH h1 ht _ hd k Q hk
  rw [okS_append] at h1
  have e0 := hH.evS (ev_of hx h1.1)
  have e' := cellsOf_spec hc (hH.evS (ev_of hy h1.2))
  simp only [RepS, RepV] at e0
  obtain ⟨b, o, m, cap, e1, e2⟩ := e0
  obtain ⟨a', cap', h2, h3, h4, hl0, h5⟩ := hH.tabs.res id _ ht.1
  have h2' := h2
  rw [e1] at h2
  simp only [Value.slice.injEq] at h2
  rcases h5 with ⟨h5, _⟩ | ⟨b', o', cs, el, fz, h5, h6, h6', h7, h8⟩
  · rw [h5] at h2; cases h2.1
  · rw [h5] at h2
    have hbo : b = b' ∧ o = o' := by have := h2.1; simp at this; exact this
    obtain ⟨rfl, rfl⟩ := hbo
    obtain ⟨ii, hinf, hs⟩ := shp_size h
    have hlen : (a.eval y).cells.toList.length = us.length := by rw [e'.length]
    have hie : rows.length * e ≤ cap' * e := Nat.mul_le_mul_right e h3
    have hst := run_storeCells_blk (P := P) b (o + kk) el fz (a.eval y).cells.toList 0 cs w h6 h6' (by rw [hlen]; omega) e'.one
    have hrun : (execOp a.eval ⟨d, .store t x y, ty, ps, af, g⟩).run P w = .ok .skip (w.setRow b (setAt cs.toList (o + kk) (a.eval y).cells.toList).toArray) := by
      have hsz : ¬ ((a.eval y).cells.size ≠ ii.size) := by rw [hs, ← hl, ← hlen]; simp
      simp only [execOp, e2, Instr.storeAt, Instr.sureAddr, Sem.run_bind, Sem.run_pure, Result.andThen_ok, storeVar, run_sizeOf hinf, if_neg hsz]
      simp only [hst, Result.andThen_ok, Nat.add_zero]
    unfold Oper.wp
    rw [hrun, Oper.upon_skip]
    have hcsl : o + kk + (a.eval y).cells.toList.length ≤ cs.toList.length := by rw [hlen]; simp; omega
    have hsz : (setAt cs.toList (o + kk) (a.eval y).cells.toList).toArray.size = cs.size := by simp [setAt_length _ _ _ hcsl]
    refine hk _ _ M ρ (hH.turn ht.1 (fun k hk => setRow_other w b k _ (fun e => hk (by simp [h2', h5, Bk, blk, e]))) (by simp) rfl rfl rfl
      ⟨a', cap', by rw [hln]; exact h2', by omega, by omega, hle, .inr ⟨b, o, _, el, fz, h5, setRow_heap w b _ _ el _ h6, by rw [hsz]; exact h6', by rw [hsz]; exact h7, fun q p hq => ?_⟩⟩ (by simp only [RepS]) hd)
    have hget : (setAt cs.toList (o + kk) (a.eval y).cells.toList).toArray[o + q]? = if o + q < o + kk then cs[o + q]? else if o + q < o + kk + us.length then (a.eval y).cells.toList[o + q - (o + kk)]? else cs[o + q]? := by
      rw [List.getElem?_toArray, setAt_get _ _ _ _ (by omega), hlen]; simp
    rcases hn q p hq with ⟨g1, g2⟩ | ⟨g1, p0, g2, g3⟩
    · have hlt : q - kk < us.length := (List.getElem?_eq_some_iff.1 g2).1
      obtain ⟨c, c1, c2⟩ := repVs_at e' g2
      refine ⟨c, ?_, c2⟩
      rw [hget, if_neg (by omega), if_pos (by omega), ← c1]; congr 1; omega
    · obtain ⟨c, c1, c2⟩ := h8 q p0 g2
      refine ⟨c, ?_, g3 ▸ c2⟩
      rw [hget]
      rcases g1 with g1 | g1
      · rw [if_pos (by omega)]; exact c1
      · rw [if_neg (by omega), if_neg (by omega)]; exact c1

/-- What is appended: its rows, but for some cells. -/
def SrcW (P : Program) (e : Nat) (tx : TypeId) (s : S) (rt : RL) (rows : List (List PC)) (ids : List Nat) : Prop :=
  ∀ (C : Ctx) (st : St) (M : Mem) (ρ : Nat → Value) (a : Act) (w : World) (v : Value), Holds C st M ρ a w → RepS M ρ s v → okT rt st →
    ∃ news, Src P e tx v rows.length news w ∧ (∀ (j : Nat) (p : PC), rows.flatten[j]? = some p → ∃ c, news[j]? = some c ∧ RepV M ρ (toV ids p) c) ∧ ∀ r ∈ rows, r.length = e
theorem SrcW.vw {e : Nat} {tx el : TypeId} {id : Nat} {rows : List (List PC)} {ids : List Nat} (h : elemSz P tx = some (el, e)) : SrcW P e tx (.one (.ar id)) [(id, .vw ids e rows)] rows ids := by
  intro C st M ρ a w v hH hr ht
  obtain ⟨_, hu, _, _⟩ := elemSz_spec h
  obtain ⟨b, cap, h1, h2, h3, hl, h4⟩ := hH.tabs.res id _ ht.1
  simp only [RepS, RepV] at hr
  rw [h1] at hr; rw [hr.1]
  rcases h4 with ⟨rfl, hc⟩ | ⟨b', o, cs, el', fz, rfl, h6, _, _, h8⟩
  · have : rows = [] := List.length_eq_zero_iff.1 (by omega)
    subst this
    exact ⟨[], Src.ofNil w hu cap, by simp, by simp⟩
  · obtain ⟨us, h9, h10⟩ := repVs_of (M := M) (ρ := ρ) (vs := rows.flatten.map (toV ids)) (g := fun j => cs[o + j]?) fun j u hj => by
      rw [List.getElem?_map, Option.map_eq_some_iff] at hj
      obtain ⟨p, hp, rfl⟩ := hj
      exact h8 j p hp
    refine ⟨us, Src.ofSlice w hu _ _ cap us (by rw [h9.length, List.length_map, flat_len hl]) (fun j u hj => by rw [add_addr]; have := h10 j u hj; simp [World.cell?, h6, this]) h9.one, fun j p hj => ?_, hl⟩
    exact repVs_at h9 (m := j) (by rw [List.getElem?_map, hj]; rfl)

theorem L_append_vw {id id' e bytes : Nat} {rows rows2 rows3 : List (List PC)} {ids ids2 ids' : List Nat} {sy : S} {rt2 : RL} {tx el : TypeId} {z : List V} (hx : okc x (.one (.ar id))) (hy : okc y sy) (hs : SrcW P e tx sy rt2 rows2 ids2) (hm1 : mentI id' ids' = false) (h3l : rows3.length = rows.length + rows2.length) (h3e : ∀ r ∈ rows3, r.length = e)
    (h31 : ∀ (j : Nat) (x' : PC), j < rows.length * e → rows3.flatten[j]? = some x' → ∃ x, rows.flatten[j]? = some x ∧ toV ids x = toV ids' x') (h32 : ∀ (j : Nat) (x' : PC), rows3.flatten[rows.length * e + j]? = some x' → ∃ x, rows2.flatten[j]? = some x ∧ toV ids2 x = toV ids' x')
    (he : elemSz P t = some (el, e)) (hz : zeroV P el = some z) (hzl : z.length = e) (hby : (P.info? el).map (·.bytes) = some bytes) (hb : (rows.length + rows2.length) * bytes ≤ 140737488355328) (hlen : rows.length + rows2.length ≤ 9223372036854775807) :
    Snd P ⟨d, .call ⟨.builtin .append, #[x, y], #[t, tx]⟩, ty, ps, af, g⟩ (rq x (.one (.ar id)) ++ rq y sy) ((id, .vw ids e rows) :: rt2) [id'] (.one (.ar id')) [(id', some (.vw ids' e rows3)), (id, none)] := by
  intro C st M ρ a w hH h1 hT hF hd k Q hk
  rw [okS_append] at h1
  have e1 := hH.evS (ev_of hx h1.1)
  have e2 := hH.evS (ev_of hy h1.2)
  obtain ⟨b, cap, h2, h3, h4, hl0, h5⟩ := hH.tabs.res id _ hT.1
  simp only [RepS, RepV] at e1
  obtain ⟨ii, hu, hinf, hsz⟩ := elemSz_spec he
  obtain ⟨news, hsrc, hnews, hlen2⟩ := hs C st M ρ a w _ hH e2 hT.2
  obtain ⟨i', zv, hi', hzv, hzs⟩ := zeroV_len hz
  rw [hinf] at hi'; simp only [Option.some.injEq] at hi'; subst hi'
  rw [hinf] at hby; simp only [Option.map_some, Option.some.injEq] at hby
  have hnl : news.length = rows2.length * e := hsrc.newsLen
  have hfr := flat_len hl0
  -- cells of the old and the new, as the new name says them
  have hnew : ∀ (val : Value) (f : Nat → Option Value), (∀ j p, rows.flatten[j]? = some p → ∃ c, f j = some c ∧ RepV M ρ (toV ids p) c) → (∀ j c, news[j]? = some c → f (rows.length * e + j) = some c) →
      ∀ j p, rows3.flatten[j]? = some p → ∃ c, f j = some c ∧ RepV M (upd ρ id' val) (toV ids' p) c := fun val f hf1 hf2 j p hj => by
    rcases Nat.lt_or_ge j (rows.length * e) with hlt | hge
    · obtain ⟨x, hx, he⟩ := h31 j p hlt hj
      obtain ⟨c, c1, c2⟩ := hf1 j x hx
      refine ⟨c, c1, ?_⟩
      rw [he] at c2
      exact RepV.agree (upd_agree ρ id' val) _ _ (fun i hi => by subst hi; exact toV_ment hm1 p) c2
    · have e3 : rows.length * e + (j - rows.length * e) = j := by omega
      obtain ⟨x, hx, he⟩ := h32 (j - rows.length * e) p (by rw [e3]; exact hj)
      obtain ⟨c, c1, c2⟩ := hnews _ x hx
      refine ⟨c, by have := hf2 _ c c1; rwa [e3] at this, ?_⟩
      rw [he] at c2
      exact RepV.agree (upd_agree ρ id' val) _ _ (fun i hi => by subst hi; exact toV_ment hm1 _) c2
  have hcall : execOp a.eval ⟨d, .call ⟨.builtin .append, #[x, y], #[t, tx]⟩, ty, ps, af, g⟩ = (do pure (.value (← Builtin.append_ #[t, tx] ty #[a.eval x, a.eval y]))) := by
    simp [execOp, resolve, invoke, builtin]
  have fin : ∀ {val : Value} {w' : World}, (Builtin.append_ #[t, tx] ty #[a.eval x, a.eval y]).run P w = .ok val w' →
      (∀ b', b' < w.heap.size → (∀ i r, (some id) = some i → tg st.tab i = some r → ¬ Bk (ρ i) b') → w'.heap[b']? = w.heap[b']?) → w.heap.size ≤ w'.heap.size → w'.os = w.os → w'.tape = w.tape → w'.output = w.output →
      (∀ b', Bk val b' → w.heap.size ≤ b' ∨ ∃ i r, (some id) = some i ∧ tg st.tab i = some r ∧ Bk (ρ i) b') → HoldsR M (upd ρ id' val) w' id' (.vw ids' e rows3) → val.oneCell' = true →
      Oper.wp P ⟨d, .call ⟨.builtin .append, #[x, y], #[t, tx]⟩, ty, ps, af, g⟩ a w k Q := fun {val w'} hrun g1 g2 g3 g4 g5 g6 g7 g8 => by
    unfold Oper.wp
    rw [hcall]
    simp only [Sem.run_bind, hrun, Result.andThen_ok, Sem.run_pure, Oper.upon_value]
    exact hk _ _ _ _ (hH.step (some id) g1 g2 g3 g4 g5 g6 hF.1 g7 (by simp only [RepS, RepV]; exact ⟨(upd_same _ _ _).symm, g8⟩) hd)
  have hex : a.eval x = .slice b rows.length cap := e1.1.trans h2
  rcases Nat.lt_or_ge cap (rows.length + rows2.length) with hlt | hge
  · -- a new row
    have hold : ∃ olds : List Value, (Builtin.firstCells ii.size rows.length (.slice b rows.length cap)).run P w.drew = .ok olds.toArray w.drew ∧ (∀ (j : Nat) (p : PC), rows.flatten[j]? = some p → ∃ c, olds[j]? = some c ∧ RepV M ρ (toV ids p) c) ∧ olds.length = rows.length * e := by
      rcases h5 with ⟨rfl, hc⟩ | ⟨b', o, cs, el', fz, rfl, h6, _, _, h8⟩
      · have : rows = [] := List.length_eq_zero_iff.1 (by omega)
        subst this
        exact ⟨[], run_firstCells_none w.drew _ _ _ _, by simp, by simp⟩
      · obtain ⟨us, h9, h10⟩ := repVs_of (M := M) (ρ := ρ) (vs := rows.flatten.map (toV ids)) (g := fun j => cs[o + j]?) fun j u hj => by
          rw [List.getElem?_map, Option.map_eq_some_iff] at hj
          obtain ⟨p, hp, rfl⟩ := hj
          exact h8 j p hp
        have hul : us.length = rows.length * e := by rw [h9.length, List.length_map, hfr]
        refine ⟨us, ?_, fun j p hj => repVs_at h9 (m := j) (by rw [List.getElem?_map, hj]; rfl), hul⟩
        rw [hsz]
        exact run_firstCells_some w.drew e rows.length ⟨b', o, none⟩ _ cap us hul (fun j u hj => by
          rw [add_addr]
          have := h10 j u hj
          have h6' : w.drew.heap[b']? = some (.cells cs el' fz) := h6
          simp [World.cell?, h6', this])
    obtain ⟨olds, ho1, ho2, ho3⟩ := hold
    have hrun := run_append_grow_src (P := P) w t tx ty el ii zv hu hinf hzv b rows.length cap olds ho1 (a.eval y) rows2.length news (by rw [hsz]; exact hsrc) hlt (by omega) (growslice_fits hlt (by rw [hby]; exact hb))
    rw [← hex] at hrun
    have hcap := grownCap_ge w (rows.length + rows2.length) cap el
    refine fin hrun (fun b' hb' _ => heap_push_old w.drew _ b' hb') (by simp) rfl rfl rfl (fun b' hb' => .inl ?_) ⟨some ⟨w.heap.size, 0, none⟩, grownCap w (rows.length + rows2.length) cap el, by rw [upd_same, h3l], by rw [h3l]; exact hcap, (by have := grownCap_le_maxLen w (rows.length + rows2.length) cap el (by unfold maxLen; omega); unfold maxLen at this; omega), h3e, .inr
      ⟨w.heap.size, 0, _, el, (0, 0), rfl, heap_push_new w.drew _, fun i _ => by simp, ?_, ?_⟩⟩ rfl
    · simp only [Bk, blk, Option.some.injEq] at hb'; omega
    · simp only [Array.size_append, List.size_toArray, List.length_append, size_zeroCells, hzs, hzl, ho3, hnl, ← Nat.add_mul, Nat.zero_add]
      apply Nat.mul_le_mul_right; omega
    · refine hnew _ _ (fun j p hj => ?_) (fun j c hj => ?_)
      · obtain ⟨c, c1, c2⟩ := ho2 j p hj
        have hjl : j < olds.length := (List.getElem?_eq_some_iff.1 c1).1
        refine ⟨c, ?_, c2⟩
        rw [Nat.zero_add, Array.getElem?_append_left (by simp; omega)]
        simp only [List.getElem?_toArray]
        rw [List.getElem?_append_left hjl]; exact c1
      · have hjl : j < news.length := (List.getElem?_eq_some_iff.1 hj).1
        rw [Nat.zero_add, Array.getElem?_append_left (by simp; omega)]
        simp only [List.getElem?_toArray]
        rw [List.getElem?_append_right (by omega), ho3]
        rw [show rows.length * e + j - rows.length * e = j by omega]; exact hj
  · -- room
    rcases h5 with ⟨rfl, hc⟩ | ⟨b', o, cs, el', fz, rfl, h6, h6', h7, h8⟩
    · have e3 : rows2 = [] := List.length_eq_zero_iff.1 (by omega)
      have e4 : rows = [] := List.length_eq_zero_iff.1 (by omega)
      subst e3; subst e4; subst hc
      have hn0 : news = [] := List.eq_nil_of_length_eq_zero (by simpa using hnl)
      subst hn0
      have hrun : (Builtin.append_ #[t, tx] ty #[a.eval x, a.eval y]).run P w = .ok (.slice none 0 0) w := by
        rw [hex]
        have hl : (Builtin.lenOf (a.eval y)).run P w = .ok 0 w := hsrc.len w
        have hc : (Builtin.firstCells e 0 (a.eval y)).run P w = .ok #[] w := hsrc.cells
        rcases hsrc.kind with ⟨e', hk'⟩ | hk' <;> simp [Builtin.append_, run_underlying hu, run_underlying hk', Go.sizeOf, typeInfo, hinf, hl, hsz, hc]
      exact fin hrun (fun _ _ _ => rfl) (Nat.le_refl _) rfl rfl rfl (fun b' hb' => by simp [Bk, blk] at hb') ⟨none, 0, by rw [upd_same, h3l]; rfl, by rw [h3l]; simp, by simp, h3e, .inl ⟨rfl, rfl⟩⟩ rfl
    · have hfit : o + rows.length * e + 0 + news.length ≤ cs.size := by
        rw [hnl]
        have : (rows.length + rows2.length) * e ≤ cap * e := Nat.mul_le_mul_right _ hge
        rw [Nat.add_mul] at this
        omega
      have hst := run_storeCells_blk (P := P) b' (o + rows.length * e) el' fz news 0 cs w h6 h6' hfit hsrc.one
      have hrun : (Builtin.append_ #[t, tx] ty #[a.eval x, a.eval y]).run P w = .ok (.slice (some ⟨b', o, none⟩) (rows.length + rows2.length) cap) (w.setRow b' (setAt cs.toList (o + rows.length * e + 0) news).toArray) := by
        rw [hex]
        have hl := hsrc.len w
        have hc := hsrc.cells
        rcases hsrc.kind with ⟨e', hk'⟩ | hk' <;> simp [Builtin.append_, run_underlying hu, run_underlying hk', Go.sizeOf, typeInfo, hinf, hl, hsz, hc, hge, add_addr, hst]
      have hob : Bk (ρ id) b' := by rw [h2]; rfl
      have hsl : (setAt cs.toList (o + rows.length * e + 0) news).length = cs.size := by rw [setAt_length _ _ _ (by simpa using hfit)]; simp
      refine fin hrun (fun b2 hb2 hne => heap_setRow_other w b' _ b2 fun e => hne id _ rfl hT.1 (e ▸ hob)) (by simp [World.setRow]) rfl rfl rfl
        (fun b2 hb2 => .inr ⟨id, _, rfl, hT.1, by simp only [Bk, blk, Option.some.injEq] at hb2; rw [← hb2]; exact hob⟩)
        ⟨some ⟨b', o, none⟩, cap, by rw [upd_same, h3l], by rw [h3l]; exact hge, h4, h3e, .inr ⟨b', o, _, el', fz, rfl, setRow_heap w b' cs _ el' fz h6, ?_, ?_, ?_⟩⟩ rfl
      · simp only [List.size_toArray, hsl]; exact h6'
      · simp only [List.size_toArray, hsl]; exact h7
      · refine hnew _ _ (fun j p hj => ?_) (fun j c hj => ?_)
        · obtain ⟨c, c1, c2⟩ := h8 j p hj
          have hjl : j < rows.flatten.length := (List.getElem?_eq_some_iff.1 hj).1
          refine ⟨c, ?_, c2⟩
          simp only [List.getElem?_toArray]
          rw [setAt_get _ _ _ _ (by simp; omega), if_pos (by omega)]; simpa using c1
        · have hjl : j < news.length := (List.getElem?_eq_some_iff.1 hj).1
          simp only [List.getElem?_toArray]
          rw [setAt_get _ _ _ _ (by simp; omega), if_neg (by omega), if_pos (by omega)]
          rw [show o + (rows.length * e + j) - (o + rows.length * e + 0) = j by omega]
          exact hj

/-- A literal of one part whose cells lead to resources. -/
theorem L_lit_vw {id e : Nat} {row : List PC} {ids : List Nat} {s : S} {us : List V} {el : TypeId} {z : List V} (hx : okc x s) (hc : cellsOf s = some us) (hus : row.map (toV ids) = us) (hrl : row.length = e) (hm : mentI id ids = false)
    (he : elemSz P t = some (el, e)) (hz : zeroV P el = some z) (he0 : 0 < e) (heb : e ≤ 16777216) :
    Snd P ⟨d, .buildSlice t 1 #[(0, x)], ty, ps, af, g⟩ (rq x s) [] [id] (.one (.ar id)) [(id, some (.vw ids e [row]))] := by
  intro C st M ρ a w hH h1 hT hF hd k Q hk
  have e' := cellsOf_spec hc (hH.evS (ev_of hx h1))
  obtain ⟨ii, hu, hinf, hsz⟩ := elemSz_spec he
  obtain ⟨i', zv, hi', hzv, hzs⟩ := zeroV_len hz
  rw [hinf] at hi'; simp only [Option.some.injEq] at hi'; subst hi'
  have hul : us.length = e := by rw [← hus, List.length_map, hrl]
  have hcl : (a.eval x).cells.size = e := by have := e'.length; simp at this; omega
  have hfill : ∀ cur : Array Value, cur.size = e → Instr.fill (fun i => some (i * e, e)) cur [(0, a.eval x)] = some (a.eval x).cells := fun cur hcur => by
    simp only [Instr.fill]
    have hcond : ¬ ((a.eval x).cells.size ≠ e || 0 * e + (a.eval x).cells.size > cur.size) = true := by
      simp only [ne_eq, Bool.or_eq_true, decide_eq_true_eq]; omega
    have hfold := zipIdx_fold cur (0 * e) (a.eval x).cells.toList 0 cur (by simp; omega)
    have hfold' : (a.eval x).cells.zipIdx.foldl (fun cs (p : Value × Nat) => cs.setIfInBounds (0 * e + p.2) p.1) cur = (setAt cur.toList (0 * e) (a.eval x).cells.toList).toArray := by
      rw [← Array.foldl_toList]
      simpa using hfold
    rw [if_neg hcond, hfold']
    congr 1
    unfold setAt
    have : cur.toList.drop (0 * e + (a.eval x).cells.toList.length) = [] := by apply List.drop_eq_nil_of_le; simp; omega
    rw [this]; simp
  have hrun : (execOp a.eval ⟨d, .buildSlice t 1 #[(0, x)], ty, ps, af, g⟩).run P w = .ok (.value (.slice (some ⟨w.heap.size, 0, none⟩) 1 1)) (w.alloc (.cells (a.eval x).cells el)) := by
    have hn : ¬ 16777216 < e := by omega
    have h0 : ¬ e = 0 := by omega
    have hf := hfill ((Array.range (1 * e)).map fun x => zv.cells[x % zv.cells.size]!) (by simp)
    have hzrun : (zeroValue el).run P w = .ok zv w := by simp [zeroValue, typeInfo, hinf, hzv]
    simp [execOp, Instr.buildSlice, run_underlying hu, run_sizeOf hinf, hsz, hn, h0, newRow, hzrun] at hf ⊢
    simp [hf]
  unfold Oper.wp
  rw [hrun, Oper.upon_value]
  refine hk _ _ M _ (hH.alloc (val := .slice (some ⟨w.heap.size, 0, none⟩) 1 1) (fun b hb => by simp only [Bk, blk, Option.some.injEq] at hb; exact hb.symm) hF.1
    ⟨some ⟨w.heap.size, 0, none⟩, 1, upd_same _ _ _, by simp, by simp, by simp [hrl], .inr ⟨w.heap.size, 0, (a.eval x).cells, el, (0, 0), rfl, heap_push_new w _, fun i hi => by simp, by omega, fun j p hj => ?_⟩⟩ (by simp only [RepS, RepV]; exact ⟨(upd_same _ _ _).symm, rfl⟩) hd)
  simp only [List.flatten_cons, List.flatten_nil, List.append_nil] at hj
  obtain ⟨c, c1, c2⟩ := repVs_at e' (m := j) (v := toV ids p) (by rw [← hus, List.getElem?_map, hj]; rfl)
  refine ⟨c, by rw [Nat.zero_add]; simpa using c1, RepV.agree (upd_agree ρ id _) _ _ (fun i hi => by subst hi; exact toV_ment hm p) c2⟩
end
section
variable {P : Program} {C : Ctx} {k : List Frm} {n : Nat} {sl : Slots} {tab : Tab} {Q : Exit → St → Prop} {all : Array Oper} {rest : List Oper} {cur : Cur}
theorem g_idxW (T : Ty P) {d : Nat} {x y : Operand} {t : TypeId} {ty : TypeId} {ps : String} {af : Array Edge} {g0 : Option (Nat × Bool)} {gs : Slots} {md : Mode} (hC : C.low) {id e : Nat} {rows : List (List PC)} {ids : List Nat} {k0 : IntKind} {i : Int} {el : TypeId}
    (hx : ev sl x = some (.one (.ar id))) (hy : ev sl y = some (Kk k0 i)) (hT : tg tab id = some (.vw ids e rows)) (he : T.es t = some (el, e)) (h0 : 0 ≤ i) (hi : i < rows.length) (hm : metL all sl g0 = some gs) (hd : Nat.blt d n = true)
    (g : Goal P C (.ops all rest (nx md ⟨some d, gs ++ (rq x (.one (.ar id)) ++ rq y (Kk k0 i)), [(id, .vw ids e rows)], [], .one (.el id (i.toNat * e)), []⟩)) k n ((d, .one (.el id (i.toNat * e))) :: sl) tab Q) :
    Goal P C (.ops all (⟨some d, .indexAddr t x y, ty, ps, af, g0⟩ :: rest) md) k n sl tab Q := by
  have e1 := of_ev (st := ⟨n, sl, tab⟩) hx
  have e2 := of_ev (st := ⟨n, sl, tab⟩) hy
  have := metL_step hm (L_index_vw (ids := ids) (ty := ty) (ps := ps) (af := af) (g := g0) (d := some d) e1.1 e2.1 (T.es_ok _ _ he) h0 hi) (n := n) (tab := tab)
  exact g_law (L := ⟨some d, gs ++ (rq x (.one (.ar id)) ++ rq y (Kk k0 i)), [(id, .vw ids e rows)], [], .one (.el id (i.toNat * e)), []⟩) hC this.1 rfl ⟨by rw [okS_append, okS_append]; exact ⟨this.2, e1.2, e2.2⟩, ⟨hT, trivial⟩, rfl, hd⟩ g
theorem g_lenW (T : Ty P) {d : Nat} {x : Operand} {t : TypeId} {ty : TypeId} {ps : String} {af : Array Edge} {g0 : Option (Nat × Bool)} {gs : Slots} {md : Mode} (hC : C.low) {id e : Nat} {rows : List (List PC)} {ids : List Nat} {el : TypeId} {m : Nat}
    (hx : ev sl x = some (.one (.ar id))) (hT : tg tab id = some (.vw ids e rows)) (he : T.es t = some (el, m)) (hm : metL all sl g0 = some gs) (hd : Nat.blt d n = true)
    (g : Goal P C (.ops all rest (nx md ⟨some d, gs ++ rq x (.one (.ar id)), [(id, .vw ids e rows)], [], I rows.length, []⟩)) k n ((d, I rows.length) :: sl) tab Q) :
    Goal P C (.ops all (⟨some d, .call ⟨.builtin .len, #[x], #[t]⟩, ty, ps, af, g0⟩ :: rest) md) k n sl tab Q := by
  have e1 := of_ev (st := ⟨n, sl, tab⟩) hx
  have := metL_step hm (L_len_vw (e := e) (rows := rows) (ids := ids) (as' := #[t]) (ty := ty) (ps := ps) (af := af) (g := g0) (d := some d) e1.1 rfl (T.es_ok _ _ he)) (n := n) (tab := tab)
  exact g_law (L := ⟨some d, gs ++ rq x (.one (.ar id)), [(id, .vw ids e rows)], [], I rows.length, []⟩) hC this.1 rfl ⟨by rw [okS_append]; exact ⟨this.2, e1.2⟩, ⟨hT, trivial⟩, rfl, hd⟩ g
theorem g_loadW (T : Ty P) {d : Nat} {x : Operand} {t ty : TypeId} {ps : String} {af : Array Edge} {g0 : Option (Nat × Bool)} {gs : Slots} {md : Mode} (hC : C.low) {id kk e : Nat} {rows : List (List PC)} {ids : List Nat} (vs : List V) {s : Option Nat} {v : S}
    (hx : ev sl x = some (.one (.el id kk))) (hT : tg tab id = some (.vw ids e rows)) (hsh : T.sh t = some s) (hvs : ∀ j v, vs[j]? = some v → ∃ p, rows.flatten[kk + j]? = some p ∧ toV ids p = v) (hv : ofCells s vs = some v) (hm : metL all sl g0 = some gs) (hd : Nat.blt d n = true)
    (g : Goal P C (.ops all rest (nx md ⟨some d, gs ++ rq x (.one (.el id kk)), [(id, .vw ids e rows)], [], v, []⟩)) k n ((d, v) :: sl) tab Q) :
    Goal P C (.ops all (⟨some d, .load t x, ty, ps, af, g0⟩ :: rest) md) k n sl tab Q := by
  have e1 := of_ev (st := ⟨n, sl, tab⟩) hx
  have := metL_step hm (L_load_vw (e := e) (ty := ty) (ps := ps) (af := af) (g := g0) (d := some d) e1.1 (T.sh_ok _ _ hsh) hvs hv) (n := n) (tab := tab)
  exact g_law (L := ⟨some d, gs ++ rq x (.one (.el id kk)), [(id, .vw ids e rows)], [], v, []⟩) hC this.1 rfl ⟨by rw [okS_append]; exact ⟨this.2, e1.2⟩, ⟨hT, trivial⟩, rfl, hd⟩ g
theorem g_storeW (T : Ty P) {x y : Operand} {t ty : TypeId} {ps : String} {af : Array Edge} {g0 : Option (Nat × Bool)} {gs : Slots} {md : Mode} (hC : C.low) {id kk e : Nat} {rows : List (List PC)} (rows' : List (List PC)) {ids : List Nat} (ids' : List Nat) {us : List V} {s : S} {sh : Option Nat}
    (hx : ev sl x = some (.one (.el id kk))) (hy : ev sl y = some s) (hT : tg tab id = some (.vw ids e rows)) (hsh : T.sh t = some sh) (hc : cellsOf s = some us) (hl : us.length = sh.getD 1) (hln : rows'.length = rows.length) (hle : ∀ r ∈ rows', r.length = e) (hb : kk + us.length ≤ rows.length * e)
    (hn : ∀ q p, rows'.flatten[q]? = some p → (kk ≤ q ∧ us[q - kk]? = some (toV ids' p)) ∨ ((q < kk ∨ kk + us.length ≤ q) ∧ ∃ p0, rows.flatten[q]? = some p0 ∧ toV ids p0 = toV ids' p)) (hm : metL all sl g0 = some gs)
    (g : Goal P C (.ops all rest (nx md ⟨none, gs ++ (rq x (.one (.el id kk)) ++ rq y s), [(id, .vw ids e rows)], [], .un, [(id, some (.vw ids' e rows'))]⟩)) k n sl ((id, some (.vw ids' e rows')) :: tab) Q) :
    Goal P C (.ops all (⟨none, .store t x y, ty, ps, af, g0⟩ :: rest) md) k n sl tab Q := by
  have e1 := of_ev (st := ⟨n, sl, tab⟩) hx
  have e2 := of_ev (st := ⟨n, sl, tab⟩) hy
  have := metL_step hm (L_store_vw (ty := ty) (ps := ps) (af := af) (g := g0) (d := none) e1.1 e2.1 (T.sh_ok _ _ hsh) hc hl hln hle hb hn) (n := n) (tab := tab)
  exact g_law (L := ⟨none, gs ++ (rq x (.one (.el id kk)) ++ rq y s), [(id, .vw ids e rows)], [], .un, [(id, some (.vw ids' e rows'))]⟩) hC this.1 rfl ⟨by rw [okS_append, okS_append]; exact ⟨this.2, e1.2, e2.2⟩, ⟨hT, trivial⟩, rfl, rfl⟩ g
theorem g_appendW (T : Ty P) (id' : Nat) {d : Nat} {x y : Operand} {t tx ty : TypeId} {ps : String} {af : Array Edge} {g0 : Option (Nat × Bool)} {gs : Slots} {md : Mode} (hC : C.low) {id e bytes : Nat} {rows rows2 : List (List PC)} {ids ids2 : List Nat} (ids' : List Nat) (rows3 : List (List PC)) {sy : S} {rt2 : RL} {el : TypeId} {z : List V}
    (hx : ev sl x = some (.one (.ar id))) (hy : ev sl y = some sy) (hT : tg tab id = some (.vw ids e rows)) (hT2 : rdT tab rt2 = rt2) (hs : SrcW P e tx sy rt2 rows2 ids2) (hm1 : mentI id' ids' = false) (h3l : rows3.length = rows.length + rows2.length) (h3e : ∀ r ∈ rows3, r.length = e)
    (h31 : ∀ (j : Nat) (x' : PC), j < rows.length * e → rows3.flatten[j]? = some x' → ∃ x, rows.flatten[j]? = some x ∧ toV ids x = toV ids' x') (h32 : ∀ (j : Nat) (x' : PC), rows3.flatten[rows.length * e + j]? = some x' → ∃ x, rows2.flatten[j]? = some x ∧ toV ids2 x = toV ids' x')
    (he : T.es t = some (el, e)) (hz : T.zs el = some z) (hzl : Nat.beq z.length e = true) (hby : (P.info? el).map (·.bytes) = some bytes)
    (hb : (rows.length + rows2.length) * bytes ≤ 140737488355328) (hlen : rows.length + rows2.length ≤ 9223372036854775807) (hm : metL all sl g0 = some gs) (hd : Nat.blt d n = true) (hf : (Nat.ble 100 id' && freshB id' ⟨n, sl, tab⟩) = true)
    (g : Goal P C (.ops all rest (nx md ⟨some d, gs ++ (rq x (.one (.ar id)) ++ rq y sy), (id, .vw ids e rows) :: rt2, [id'], .one (.ar id'), [(id', some (.vw ids' e rows3)), (id, none)]⟩)) k n ((d, .one (.ar id')) :: sl) ([(id', some (.vw ids' e rows3)), (id, none)] ++ tab) Q) :
    Goal P C (.ops all (⟨some d, .call ⟨.builtin .append, #[x, y], #[t, tx]⟩, ty, ps, af, g0⟩ :: rest) md) k n sl tab Q := by
  have e1 := of_ev (st := ⟨n, sl, tab⟩) hx
  have e2 := of_ev (st := ⟨n, sl, tab⟩) hy
  have := metL_step hm (L_append_vw (P := P) (ty := ty) (ps := ps) (af := af) (g := g0) (d := some d) (id' := id') e1.1 e2.1 hs hm1 h3l h3e h31 h32 (T.es_ok _ _ he) (T.zs_ok _ _ hz) (Nat.eq_of_beq_eq_true hzl) hby hb hlen) (n := n) (tab := tab)
  exact g_law (L := ⟨some d, gs ++ (rq x (.one (.ar id)) ++ rq y sy), (id, .vw ids e rows) :: rt2, [id'], .one (.ar id'), [(id', some (.vw ids' e rows3)), (id, none)]⟩) hC this.1 rfl
    ⟨by rw [okS_append, okS_append]; exact ⟨this.2, e1.2, e2.2⟩, ⟨hT, rdT_ok hT2⟩, fr_one hf, hd⟩ g
theorem g_litW (T : Ty P) {d : Nat} {x : Operand} {t ty : TypeId} {ps : String} {af : Array Edge} {g0 : Option (Nat × Bool)} {gs : Slots} {md : Mode} (hC : C.low) {e : Nat} (row : List PC) (ids : List Nat) {s : S} {us : List V} {el : TypeId} {z : List V}
    (hx : ev sl x = some s) (hc : cellsOf s = some us) (hus : row.map (toV ids) = us) (hrl : row.length = e) (hmx : mentI (1000 + d) ids = false) (he : T.es t = some (el, e)) (hz : T.zs el = some z) (he0 : Nat.blt 0 e = true) (heb : Nat.ble e 16777216 = true)
    (hm : metL all sl g0 = some gs) (hd : Nat.blt d n = true) (hf : (Nat.ble 100 (1000 + d) && freshB (1000 + d) ⟨n, sl, tab⟩) = true)
    (g : Goal P C (.ops all rest (nx md ⟨some d, gs ++ rq x s, [], [1000 + d], .one (.ar (1000 + d)), [(1000 + d, some (.vw ids e [row]))]⟩)) k n ((d, .one (.ar (1000 + d))) :: sl) ((1000 + d, some (.vw ids e [row])) :: tab) Q) :
    Goal P C (.ops all (⟨some d, .buildSlice t 1 #[(0, x)], ty, ps, af, g0⟩ :: rest) md) k n sl tab Q := by
  have e1 := of_ev (st := ⟨n, sl, tab⟩) hx
  have := metL_step hm (L_lit_vw (P := P) (ty := ty) (ps := ps) (af := af) (g := g0) (d := some d) (id := 1000 + d) e1.1 hc hus hrl hmx (T.es_ok _ _ he) (T.zs_ok _ _ hz) (by simpa [Nat.blt_eq] using he0) (Nat.le_of_ble_eq_true heb)) (n := n) (tab := tab)
  exact g_law (L := ⟨some d, gs ++ rq x s, [], [1000 + d], .one (.ar (1000 + d)), [(1000 + d, some (.vw ids e [row]))]⟩) hC this.1 rfl ⟨by rw [okS_append]; exact ⟨this.2, e1.2⟩, trivial, fr_one hf, hd⟩ g

/-- An owned array of pure cells, told so. -/
theorem HoldsR.to_vw {M : Mem} {ρ : Nat → Value} {w : World} {id e : Nat} (ids : List Nat) {rows : List (List PV)} (h : HoldsR M ρ w id (.arr e rows)) : HoldsR M ρ w id (.vw ids e (rows.map (·.map PC.p))) := by
  obtain ⟨a, cap, h1, h2, h3, hl, h4⟩ := h.toV
  have hfl : (rows.map (·.map PC.p)).flatten = rows.flatten.map PC.p := by rw [List.map_flatten]
  refine ⟨a, cap, by rw [List.length_map]; exact h1, by rw [List.length_map]; exact h2, h3, fun r hr => ?_, ?_⟩
  · obtain ⟨r0, h0, rfl⟩ := List.mem_map.1 hr
    rw [List.length_map]; exact hl r0 h0
  · rcases h4 with h4 | ⟨b, o, cs, el, fz, h5, h6, h6', h7, h8⟩
    · exact .inl h4
    · refine .inr ⟨b, o, cs, el, fz, h5, h6, h6', h7, fun j p hj => ?_⟩
      rw [hfl, List.getElem?_map, Option.map_eq_some_iff] at hj
      obtain ⟨p, hp, rfl⟩ := hj
      exact h8 j p hp
theorem g_toW (hc : lst cur = true) (id : Nat) (ids : List Nat) {e : Nat} {rows : List (List PV)} {rows' : List (List PC)} (hid : tg tab id = some (.arr e rows)) (hr : rows.map (·.map PC.p) = rows') (g : Goal P C cur k n sl ((id, some (.vw ids e rows')) :: tab) Q) : Goal P C cur k n sl tab Q := by
  subst hr
  exact g_res hc hid (fun _ _ _ h => h.to_vw ids) g
/-- The same array by another list of ids. -/
theorem g_idsW (hc : lst cur = true) (id : Nat) {ids : List Nat} (ids' : List Nat) {e : Nat} {rows : List (List PC)} (rows' : List (List PC)) (hid : tg tab id = some (.vw ids e rows)) (hl : rows'.length = rows.length) (hle : ∀ r ∈ rows', r.length = e)
    (h : ∀ (j : Nat) (x' : PC), rows'.flatten[j]? = some x' → ∃ x, rows.flatten[j]? = some x ∧ toV ids x = toV ids' x') (g : Goal P C cur k n sl ((id, some (.vw ids' e rows')) :: tab) Q) : Goal P C cur k n sl tab Q :=
  g_res hc hid (fun M ρ w hr => RwR.vw (F := fun _ => True) hl hle (fun j x' hj => let ⟨x, h1, h2⟩ := h j x' hj; ⟨x, h1, by rw [h2]; exact RwV.refl _⟩) M ρ w id trivial hr) g
/-- A whole row is stored. -/
theorem row_store {e i : Nat} {ids ids' : List Nat} {rows : List (List PC)} {row' : List PC} (hl : ∀ r ∈ rows, r.length = e) (hr : row'.length = e) (hi : ∀ x ∈ rows.flatten, toV ids x = toV ids' x) :
    ∀ q p, (rows.set i row').flatten[q]? = some p → (i * e ≤ q ∧ (row'.map (toV ids'))[q - i * e]? = some (toV ids' p)) ∨ ((q < i * e ∨ i * e + (row'.map (toV ids')).length ≤ q) ∧ ∃ p0, rows.flatten[q]? = some p0 ∧ toV ids p0 = toV ids' p) := fun q p hq => by
  rcases flat_set hl hr hq with ⟨h1, h2⟩ | ⟨h1, h2⟩
  · obtain ⟨h2, h3⟩ := h2
    subst h2
    exact .inl ⟨by omega, by rw [List.getElem?_map, show i * e + h1 - i * e = h1 by omega, h3.2]; rfl⟩
  · exact .inr ⟨by rw [List.length_map, hr]; exact h1, p, h2, hi p (List.mem_of_getElem? h2)⟩
/-- Rows joined to rows, by a longer list of ids. -/
theorem rows_join {e : Nat} {ids ids2 ids' : List Nat} {rows rows2 rows2' : List (List PC)} (hl : ∀ r ∈ rows, r.length = e) (hl2 : ∀ r ∈ rows2', r.length = e) (hn : rows2'.length = rows2.length) (hi : ∀ x ∈ rows.flatten, toV ids x = toV ids' x)
    (h2 : ∀ (j : Nat) (x' : PC), rows2'.flatten[j]? = some x' → ∃ x, rows2.flatten[j]? = some x ∧ toV ids2 x = toV ids' x') :
    (rows ++ rows2').length = rows.length + rows2.length ∧ (∀ r ∈ rows ++ rows2', r.length = e) ∧ (∀ (j : Nat) (x' : PC), j < rows.length * e → (rows ++ rows2').flatten[j]? = some x' → ∃ x, rows.flatten[j]? = some x ∧ toV ids x = toV ids' x') ∧
      ∀ (j : Nat) (x' : PC), (rows ++ rows2').flatten[rows.length * e + j]? = some x' → ∃ x, rows2.flatten[j]? = some x ∧ toV ids2 x = toV ids' x' := by
  have hf := flat_len hl
  refine ⟨by rw [List.length_append, hn], fun r hr => (List.mem_append.1 hr).elim (hl r) (hl2 r), fun j x' hj hx => ?_, fun j x' hx => ?_⟩
  · rw [List.flatten_append, List.getElem?_append_left (by omega)] at hx
    exact ⟨x', hx, hi x' (List.mem_of_getElem? hx)⟩
  · rw [List.flatten_append, List.getElem?_append_right (by omega), hf, Nat.add_sub_cancel_left] at hx
    exact h2 j x' hx
end
end Hw
/- The engine, part BH: resources lent to a call as memory that nobody writes; resources that are written no more. -/
namespace Hw
open Go

open Classical in
/-- Memory with the cells of these resources' blocks. -/
noncomputable def lentN (M : Mem) (ρ : Nat → Value) (w : World) (B : RL) : Mem := fun b o => match M b o with
  | some v => some v
  | none => if ∃ i r, (i, r) ∈ B ∧ Bk (ρ i) b then w.cell? ⟨b, o, none⟩ else none
def HasAll (M : Mem) (ρ : Nat → Value) (w : World) (B : RL) : Prop := Imm M w ∧ ∀ i r, (i, r) ∈ B → HoldsR M ρ w i r
theorem lentN_le {M : Mem} {ρ : Nat → Value} {w : World} {B : RL} : MLe M (lentN M ρ w B) := fun b o v hv => by simp only [lentN, hv]
theorem lentN_imm {M : Mem} {ρ : Nat → Value} {w : World} {B : RL} (h : Imm M w) : Imm (lentN M ρ w B) w := fun b o v hv => by
  simp only [lentN] at hv
  split at hv
  · rename_i u hu; simp only [Option.some.injEq] at hv; subst hv; exact h b o u hu
  · split at hv
    · exact hv
    · cases hv
theorem lentN_new {M : Mem} {ρ : Nat → Value} {w : World} {B : RL} {b o : Nat} {v : Value} (h : lentN M ρ w B b o = some v) : M b o = some v ∨ ∃ i r, (i, r) ∈ B ∧ Bk (ρ i) b := by
  simp only [lentN] at h
  split at h
  · rename_i u hu; simp only [Option.some.injEq] at h; subst h; exact .inl hu
  · split at h
    · rename_i hb; exact .inr hb
    · cases h
theorem lentN_cell {M : Mem} {ρ : Nat → Value} {w : World} {B : RL} (hI : Imm M w) {b : Nat} (hb : ∃ i r, (i, r) ∈ B ∧ Bk (ρ i) b) {cs : Array Value} {el : TypeId} {fz : Nat × Nat} (hh : w.heap[b]? = some (.cells cs el fz)) (i : Nat) (c : Value) (hc : cs[i]? = some c) : lentN M ρ w B b i = some c := by
  have hc' : w.cell? ⟨b, i, none⟩ = some c := by simp [World.cell?, hh, hc]
  simp only [lentN]
  cases hm0 : M b i with
  | none => simp only; rw [if_pos hb]; exact hc'
  | some u => have := hI b i u hm0; rw [hc'] at this; exact this.symm
theorem lent_arr {M : Mem} {ρ : Nat → Value} {w : World} {B : RL} (hI : Imm M w) {v : Value} {e : Nat} {rs : List (List PV)} (h : ArrIn M w v e rs) (hb : ∀ b, blk v = some b → ∃ i r, (i, r) ∈ B ∧ Bk (ρ i) b) : RepPV (lentN M ρ w B) (.sl e rs) v := by
  obtain ⟨a0, cap, h1, h2, h3, h4⟩ := h
  simp only [RepPV]
  refine ⟨a0, cap, h1, h2, Nat.le_trans h2 h3, ?_⟩
  rcases h4 with ⟨rfl, hc⟩ | ⟨b, o, cs, el, fz, h5, h6, h6', h7, h8⟩
  · exact .inl (List.length_eq_zero_iff.1 (by omega))
  · exact .inr ⟨b, o, h5, RowsIn.mono lentN_le (fun i c hc => lentN_cell hI (hb b (by rw [h1, h5]; rfl)) h6 i c hc) _ _ h8⟩

def LnV (B : RL) (v v' : V) : Prop := ∀ M ρ w u, HasAll M ρ w B → RepV M ρ v u → RepV (lentN M ρ w B) ρ v' u
def LnVs (B : RL) (v v' : List V) : Prop := ∀ M ρ w u, HasAll M ρ w B → RepVs M ρ v u → RepVs (lentN M ρ w B) ρ v' u
def LnS (B : RL) (v v' : S) : Prop := ∀ M ρ w u, HasAll M ρ w B → RepS M ρ v u → RepS (lentN M ρ w B) ρ v' u
def LnSs (B : RL) (v v' : List S) : Prop := ∀ M ρ w u, HasAll M ρ w B → RepSs M ρ v u → RepSs (lentN M ρ w B) ρ v' u
section
variable {B : RL}
theorem LnV.le {v v' : V} (h : LeV v v') : LnV B v v' := fun _ _ _ _ _ hr => h _ _ _ (RepV.mono lentN_le _ _ hr)
theorem LnV.refl (v : V) : LnV B v v := .le (.refl v)
theorem LnS.le {v v' : S} (h : LeS v v') : LnS B v v' := fun _ _ _ _ _ hr => h _ _ _ (RepS.mono lentN_le _ _ hr)
theorem LnS.refl (v : S) : LnS B v v := .le (.refl v)
theorem LnVs.nil : LnVs B [] [] := fun _ _ _ x _ hr => by cases x <;> simp only [RepVs] at hr ⊢
theorem LnVs.cons {v v' : V} {vs vs' : List V} (h : LnV B v v') (hs : LnVs B vs vs') : LnVs B (v :: vs) (v' :: vs') := fun M ρ w x hf hr => by
  cases x with
  | nil => simp only [RepVs] at hr
  | cons c cs => simp only [RepVs] at hr ⊢; exact ⟨h _ _ _ _ hf hr.1, hs _ _ _ _ hf hr.2⟩
theorem LnVs.refl : ∀ v : List V, LnVs B v v
  | [] => .nil
  | v :: vs => .cons (.refl v) (LnVs.refl vs)
theorem LnS.one {v v' : V} (h : LnV B v v') : LnS B (.one v) (.one v') := fun M ρ w x hf hr => by simp only [RepS] at hr ⊢; exact h _ _ _ _ hf hr
theorem LnS.agg {v v' : List V} (h : LnVs B v v') : LnS B (.agg v) (.agg v') := fun M ρ w x hf hr => by
  simp only [RepS] at hr ⊢; obtain ⟨cs, h1, h2⟩ := hr; exact ⟨cs, h1, h _ _ _ _ hf h2⟩
theorem LnSs.nil : LnSs B [] [] := fun _ _ _ x _ hr => by cases x <;> simp only [RepSs] at hr ⊢
theorem LnSs.cons {v v' : S} {vs vs' : List S} (h : LnS B v v') (hs : LnSs B vs vs') : LnSs B (v :: vs) (v' :: vs') := fun M ρ w x hf hr => by
  cases x with
  | nil => simp only [RepSs] at hr
  | cons c cs => simp only [RepSs] at hr ⊢; exact ⟨h _ _ _ _ hf hr.1, hs _ _ _ _ hf hr.2⟩
theorem LnSs.refl : ∀ v : List S, LnSs B v v
  | [] => .nil
  | v :: vs => .cons (.refl v) (LnSs.refl vs)
theorem LnV.ar {id e : Nat} {rows : List (List PV)} (hm : (id, .arr e rows) ∈ B) : LnV B (.ar id) (.p (.sl e rows)) := fun M ρ w u hH hr => by
  simp only [RepV] at hr ⊢
  have hA : ArrIn M w (ρ id) e rows := hH.2 id _ hm
  rw [hr.1]
  obtain ⟨a, cap, h1, _⟩ := hA
  have hA : ArrIn M w (ρ id) e rows := hH.2 id _ hm
  exact lent_arr hH.1 hA fun b hb => ⟨id, _, hm, by rw [h1] at hb ⊢; exact hb⟩
theorem LnV.nv {id e q : Nat} {L : List (List (List PV))} {rs : List (List PV)} (hm : (id, .bag e L) ∈ B) (hq : L[q]? = some rs) : LnV B (.nv id q) (.p (.sl e rs)) := fun M ρ w u hH hr => by
  simp only [RepV] at hr ⊢
  obtain ⟨xs, f1, f2, _⟩ := hr
  exact lent_arr hH.1 (bag_inner (hH.2 id _ hm) hq f1 f2) fun b hb => ⟨id, _, hm, by rw [f1]; exact bk_of f2 hb⟩
theorem LnV.vw {id e : Nat} {ids : List Nat} {rows : List (List PC)} {rows' : List (List PV)} (hm : (id, .vw ids e rows) ∈ B) (hl : rows'.length = rows.length) (hle : ∀ r ∈ rows', r.length = e)
    (hc : ∀ (j : Nat) (x' : PV), rows'.flatten[j]? = some x' → ∃ x, rows.flatten[j]? = some x ∧ LnV B (toV ids x) (.p x')) : LnV B (.ar id) (.p (.sl e rows')) := fun M ρ w u hH hr => by
  simp only [RepV, RepPV] at hr ⊢
  obtain ⟨a, cap, h1, h2, h3, _, h4⟩ := hH.2 id _ hm
  refine ⟨a, cap, by rw [hl]; exact hr.1.trans h1, by omega, by omega, ?_⟩
  rcases h4 with ⟨rfl, hcap⟩ | ⟨b, o, cs, el, fz, h5, h6, h6', h7, h8⟩
  · exact .inl (List.length_eq_zero_iff.1 (by omega))
  · refine .inr ⟨b, o, h5, ?_⟩
    have hb : ∃ i r, (i, r) ∈ B ∧ Bk (ρ i) b := ⟨id, _, hm, by rw [h1, h5]; rfl⟩
    obtain ⟨ds, k9, k10⟩ := repVs_of (M := lentN M ρ w B) (ρ := ρ) (vs := rows'.flatten.map V.p) (g := fun j => cs[o + j]?) fun j v hj => by
      rw [List.getElem?_map, Option.map_eq_some_iff] at hj
      obtain ⟨x', hx', rfl⟩ := hj
      obtain ⟨x, hx, hv⟩ := hc j x' hx'
      obtain ⟨c, c1, c2⟩ := h8 j x hx
      exact ⟨c, c1, hv _ _ _ _ hH c2⟩
    exact RowsIn.mono (MLe.refl _) (fun i c hcc => lentN_cell hH.1 hb h6 i c hcc) _ _ (RowsIn.of_cells (ρ := ρ) hle k9 fun j c hj => k10 j c hj)
end
/-- Row by row, so cell by cell. -/
theorem flat_rel {α β : Type} {e : Nat} {rows : List (List α)} {rows' : List (List β)} {R : α → β → Prop} (hl : ∀ r ∈ rows, r.length = e) (hl' : ∀ r ∈ rows', r.length = e)
    (h : ∀ (i : Nat) (row' : List β), rows'[i]? = some row' → ∃ row, rows[i]? = some row ∧ ∀ (c : Nat) (x' : β), row'[c]? = some x' → ∃ x, row[c]? = some x ∧ R x x') :
    ∀ (j : Nat) (x' : β), rows'.flatten[j]? = some x' → ∃ x, rows.flatten[j]? = some x ∧ R x x' := fun j x' hj => by
  obtain ⟨i, c, row', h1, h2, h3, h4⟩ := flat_get hl' hj
  obtain ⟨row, g1, g2⟩ := h i row' h3
  obtain ⟨x, g3, g4⟩ := g2 c x' h4
  exact ⟨x, by rw [h1, flat_at hl h2, g1]; exact g3, g4⟩
section
variable {P : Program} {d : Option Nat} {ty : TypeId} {ps : String} {af : Array Edge} {g : Option (Nat × Bool)}
/-- A call that is lent resources, owns nothing and hands back plain cells. -/
theorem L_callN {f : FuncId} {args : List S} {res : S} (h : FnOK P f args [] res []) (B : RL) {x : Operand} {l : List Operand} {ts : Array TypeId} {first caps : List V} {ss : List S}
    (hx : okc x (.one (.cl f first caps))) (hl : okcs l ss) (hle : LnSs B (ones first ++ ss ++ ones caps) args) (hf : flatS res = true) :
    Snd P ⟨d, .call ⟨.value x, l.toArray, ts⟩, ty, ps, af, g⟩ (rq x (.one (.cl f first caps)) ++ rqs l ss) B [] res [] := by
  intro C st M ρ a w hH h1 hT hF hd k Q hk
  rw [okS_append] at h1
  have e1 := hH.evS (ev_of hx h1.1)
  have e2 := hH.evsS (evs_of hl h1.2)
  simp only [RepS, RepV] at e1
  obtain ⟨xs, ys, e3, e4, e5⟩ := e1
  have hall : HasAll M ρ w B := ⟨hH.run.imm, fun i r hm => hH.tabs.res i r (okT_mem hT hm)⟩
  have e6 : RepSs (lentN M ρ w B) ρ args (xs ++ l.map a.eval ++ ys) := hle _ _ _ _ hall (RepSs_append (RepSs_append (RepSs_ones e4) e2) (RepSs_ones e5))
  have e7 : THolds (lentN M ρ w B) ρ w (tb []) := ⟨fun _ _ h => (by cases h), fun _ _ _ _ _ h => (by cases h), fun _ _ _ h => (by cases h)⟩
  unfold Oper.wp
  rw [run_call h.1 e3, Oper.upon_enter]
  refine Calls.mono (h.2 (lentN M ρ w B) ρ w _ e6 e7 (lentN_imm hH.run.imm) (hH.gok.mono lentN_le)) fun e w' ⟨v, M', ρ', he, hr⟩ => ?_
  subst he
  have hH' := hH.grow (w' := w') (fun b hb => hr.fram b hb (fun ⟨i, r, h, _⟩ => by cases h)) hr.size hr.os hr.tape hr.output
  exact hk _ _ _ _ (hH'.app_val hd (flatS_any hf hr.rep))
end
section
variable {P : Program} {C : Ctx} {k : List Frm} {n : Nat} {sl : Slots} {tab : Tab} {Q : Exit → St → Prop} {all : Array Oper} {rest : List Oper} {cur : Cur}
theorem g_callN {d : Nat} {x : Operand} {l : List Operand} {ts : Array TypeId} {ty : TypeId} {ps : String} {af : Array Edge} {g0 : Option (Nat × Bool)} {gs : Slots} {md : Mode} (hC : C.low) {f : FuncId} {args ss : List S} {first caps : List V} {res : S}
    (h : FnOK P f args [] res []) (B : RL) (hx : ev sl x = some (.one (.cl f first caps))) (hl : evs sl l = some ss) (ha : LnSs B (ones first ++ ss ++ ones caps) args) (hc : flatS res = true) (hm : metL all sl g0 = some gs) (hB : rdT tab B = B) (hd : Nat.blt d n = true)
    (g : Goal P C (.ops all rest (nx md ⟨some d, gs ++ (rq x (.one (.cl f first caps)) ++ rqs l ss), B, [], res, []⟩)) k n ((d, res) :: sl) tab Q) :
    Goal P C (.ops all (⟨some d, .call ⟨.value x, l.toArray, ts⟩, ty, ps, af, g0⟩ :: rest) md) k n sl tab Q := by
  have e1 := of_ev (st := ⟨n, sl, tab⟩) hx
  have e2 := of_evs (st := ⟨n, sl, tab⟩) hl
  have := metL_step hm (L_callN (ty := ty) (ps := ps) (af := af) (g := g0) (d := some d) (ts := ts) h B e1.1 e2.1 ha hc) (n := n) (tab := tab)
  exact g_law (L := ⟨some d, gs ++ (rq x (.one (.cl f first caps)) ++ rqs l ss), B, [], res, []⟩) hC this.1 rfl ⟨by rw [okS_append, okS_append]; exact ⟨this.2, e1.2, e2.2⟩, rdT_ok hB, rfl, hd⟩ g
/-- Resources, said by what is written no more. -/
def LnR (B : RL) (r r' : Res) : Prop := ∀ M ρ w i, HasAll M ρ w B → HoldsR M ρ w i r → HoldsR (lentN M ρ w B) ρ w i r'
theorem LnR.box {B : RL} {vs vs' : List V} (h : LnVs B vs vs') : LnR B (.box vs) (.box vs') := fun _ _ _ _ hr ⟨b, cs, el, e1, e2, e3⟩ => ⟨b, cs, el, e1, e2, h _ _ _ _ hr e3⟩
def upN (B : RL) (tab : Tab) : List (Nat × Res) → Prop
  | [] => True
  | (i, r') :: l => (∃ r, tg tab i = some r ∧ (hasB i B.ids = false ∧ LnR B r r')) ∧ upN B tab l
theorem upN_tg {B : RL} {tab b : Tab} : ∀ {ups : List (Nat × Res)}, upN B tab ups → ∀ {k : Nat} {r : Res}, tg (resT ups ++ b) k = some r →
    tg b k = some r ∨ ∃ r0, tg tab k = some r0 ∧ k ∉ B.ids ∧ LnR B r0 r
  | [], _, k, r, h => .inl h
  | (t, s') :: l, hu, k, r, h => by
    simp only [resT, List.cons_append, tg_cons] at h
    split at h
    · rename_i e; subst e; simp only [Option.some.injEq] at h; subst h
      obtain ⟨r0, h1, h2, h3⟩ := hu.1
      have n1 : t ∉ B.ids := fun hm => by have := mem_hasB hm; rw [h2] at this; cases this
      exact .inr ⟨r0, h1, n1, h3⟩
    · exact upN_tg hu.2 h
theorem g_freezeN (hc : lst cur = true) (B : RL) (hBT : rdT tab B = B) (ups : Slots) (hS : upS (LnS B) sl ups) (bs : List (Nat × Res)) (hB : upN B tab bs)
    (g : Goal P C cur k n (ups ++ sl) (resT bs ++ (offs B.ids ++ tab)) Q) : Goal P C cur k n sl tab Q := by
  refine g_turn hc (fun {M ρ a w} h => ?_) g
  have hTB := rdT_ok (n := n) (sl := sl) hBT
  have hall : HasAll M ρ w B := ⟨h.run.imm, fun i r hm => h.tabs.res i r (okT_mem hTB hm)⟩
  have htab : ∀ i r, tg (resT bs ++ (offs B.ids ++ tab)) i = some r → i ∉ B.ids ∧ ∃ r0, tg tab i = some r0 ∧ (r = r0 ∨ LnR B r0 r) := fun i r hi => by
    rcases upN_tg hB hi with h1 | ⟨r0, h1, h2, h3⟩
    · have := tg_offs h1
      exact ⟨this.1, r, this.2, .inl rfl⟩
    · exact ⟨h2, r0, h1, .inr h3⟩
  refine ⟨lentN M ρ w B, ρ, h.dfr, h.sz, fun k s hk => ?_, ⟨fun i r hi => ?_, fun i j ri rj b hi hj hne hbi hbj => ?_, fun i r b hi hb o => ?_⟩, fun i r b hi hb => ?_,
    ⟨lentN_imm h.run.imm, h.run.fram, h.run.size, h.run.base.trans lentN_le, fun b o u hu => ?_, h.run.os, h.run.tape, h.run.output⟩, h.keep⟩
  · rcases upS_sg hS hk with h1 | ⟨s0, h1, h2⟩
    · exact RepS.mono lentN_le _ _ (h.slots k s h1)
    · exact h2 _ _ _ _ hall (h.slots k s0 h1)
  · obtain ⟨_, r0, h1, h2⟩ := htab i r hi
    rcases h2 with rfl | h2
    · exact (h.tabs.res i r h1).mono lentN_le
    · exact h2 _ _ _ _ hall (h.tabs.res i r0 h1)
  · obtain ⟨_, r0, h1, _⟩ := htab i ri hi
    obtain ⟨_, s0, h2, _⟩ := htab j rj hj
    exact h.tabs.dis i j r0 s0 b h1 h2 hne hbi hbj
  · obtain ⟨i1, r0, h1, _⟩ := htab i r hi
    cases hm : lentN M ρ w B b o with
    | none => rfl
    | some u =>
      rcases lentN_new hm with h3 | ⟨j, s, hj, hbj⟩
      · rw [h.tabs.own i r0 b h1 hb o] at h3; cases h3
      · exact (h.tabs.dis i j r0 s b h1 (okT_mem hTB hj) (fun e => i1 (e ▸ ids_mem hj)) hb hbj).elim
  · obtain ⟨_, r0, h1, _⟩ := htab i r hi
    exact h.ownf i r0 b h1 hb
  · rcases lentN_new hu with h3 | ⟨j, s, hj, hbj⟩
    · exact h.run.newM b o u h3
    · exact .inr (h.ownf j s b (okT_mem hTB hj) hbj)
end
end Hw
/- The engine, part BI: structs of numbers and strings, compared; interfaces held against nil. -/
namespace Hw
open Go

/-! Structs of numbers and strings -/
inductive Sc where
  | i (k : IntKind) (n : Int)
  | s (b : ByteArray)
  deriving DecidableEq
def Sc.v : Sc → Value
  | .i k n => .int k n
  | .s b => .string b
def Sc.V (c : Sc) : V := .p (.k c.v)
inductive SK where
  | i (k : IntKind)
  | s
def okSK : SK → Sc → Bool
  | .i k, .i k' _ => decide (k = k')
  | .s, .s _ => true
  | _, _ => false
def okSKs : List SK → List Sc → Bool
  | [], [] => true
  | k :: ks, c :: cs => okSK k c && okSKs ks cs
  | _, _ => false
def isStc (P : Program) (t : TypeId) : Bool := match P.underlying t with
  | some (.struct _) => true
  | _ => false
def eqFs (P : Program) (r : TypeId → Option (List SK)) : List Field → Nat → Option (List SK)
  | [], _ => some []
  | f :: fs, off => match decide (f.name ≠ "_") && Nat.beq f.offset off with
    | true => match r f.type with
      | some l => match !isStc P f.type || decide ((P.info? f.type).map (·.size) = some l.length) with
        | true => match eqFs P r fs (off + l.length) with
          | some l' => some (l ++ l')
          | none => none
        | false => none
      | none => none
    | false => none
def eqSh (P : Program) : Nat → TypeId → Option (List SK)
  | 0, _ => none
  | f + 1, t => match P.underlying t with
    | some (.int k) => some [.i k]
    | some .string => some [.s]
    | some (.struct fs) => match P.stoodInHeld t with
      | true => none
      | false => eqFs P (eqSh P f) fs.toList 0
    | _ => none
theorem okSKs_len : ∀ {l : List SK} {cs : List Sc}, okSKs l cs = true → cs.length = l.length
  | [], [], _ => rfl
  | [], _ :: _, h => by simp [okSKs] at h
  | _ :: _, [], h => by simp [okSKs] at h
  | k :: ks, c :: cs, h => by simp only [okSKs, Bool.and_eq_true] at h; simp [okSKs_len h.2]
theorem okSKs_split : ∀ {l l' : List SK} {cs : List Sc}, okSKs (l ++ l') cs = true → okSKs l (cs.take l.length) = true ∧ okSKs l' (cs.drop l.length) = true
  | [], _, cs, h => by simp only [List.nil_append] at h; simp [okSKs, h]
  | _ :: _, _, [], h => by simp [okSKs] at h
  | k :: ks, l', c :: cs, h => by
    simp only [List.cons_append, okSKs, Bool.and_eq_true] at h
    have := okSKs_split h.2
    simp only [List.length_cons, List.take_succ_cons, List.drop_succ_cons, okSKs, h.1, this.1, this.2, Bool.and_self, and_self]
/-- A value of such a type, out of its cells. -/
def valSc (P : Program) (t : TypeId) (cs : List Sc) : Value := if isStc P t = true then .agg (cs.map Sc.v).toArray else match cs with
  | c :: _ => c.v
  | [] => undef
theorem equal_flat {P : Program} : ∀ (f : Nat) (t : TypeId) (l : List SK), eqSh P f t = some l → ∀ (d : Nat), f ≤ d → ∀ (a b : List Sc), okSKs l a = true → okSKs l b = true → ∀ w : World,
    (Op.equalIn d t (valSc P t a) (valSc P t b)).run P w = .ok (decide (a = b)) w := by
  intro f
  induction f with
  | zero => intro t l h; cases h
  | succ f ih =>
  intro t l h d hd a b ha hb w
  obtain ⟨d, rfl⟩ : ∃ d', d = d' + 1 := ⟨d - 1, by omega⟩
  simp only [eqSh] at h
  split at h
  · rename_i k hu
    simp only [Option.some.injEq] at h; subst h
    match a, b, ha, hb with
    | [.i k1 x], [.i k2 y], ha, hb =>
      simp only [okSKs, okSK, Bool.and_true, decide_eq_true_eq] at ha hb
      subst ha; subst hb
      have hs : isStc P t = false := by simp [isStc, hu]
      simp only [valSc, hs, Bool.false_eq_true, if_false, Sc.v]
      rw [run_equalIn_int w d t k k x y hu]
      by_cases e : x = y
      · subst e; simp
      · simp [e]
    | [.s _], _, ha, _ => simp [okSKs, okSK] at ha
    | [], _, ha, _ => simp [okSKs] at ha
    | _ :: _ :: _, _, ha, _ => simp [okSKs] at ha
    | [.i _ _], [.s _], _, hb => simp [okSKs, okSK] at hb
    | [.i _ _], [], _, hb => simp [okSKs] at hb
    | [.i _ _], _ :: _ :: _, _, hb => simp [okSKs] at hb
  · rename_i hu
    simp only [Option.some.injEq] at h; subst h
    match a, b, ha, hb with
    | [.s x], [.s y], ha, hb =>
      have hs : isStc P t = false := by simp [isStc, hu]
      simp only [valSc, hs, Bool.false_eq_true, if_false, Sc.v]
      rw [run_equalIn_string w d t x y hu, ← beq_toListBytes, bytes_eq]
      by_cases e : x = y
      · subst e; simp
      · simp [e]
    | [.i _ _], _, ha, _ => simp [okSKs, okSK] at ha
    | [], _, ha, _ => simp [okSKs] at ha
    | _ :: _ :: _, _, ha, _ => simp [okSKs] at ha
    | [.s _], [.i _ _], _, hb => simp [okSKs, okSK] at hb
    | [.s _], [], _, hb => simp [okSKs] at hb
    | [.s _], _ :: _ :: _, _, hb => simp [okSKs] at hb
  · rename_i fs hu
    split at h
    · cases h
    · rename_i hst
      have hF : P.fieldsOf t = fs := by simp [Program.fieldsOf, hu]
      have hs : isStc P t = true := by simp [isStc, hu]
      simp only [valSc, hs, if_true]
      rw [run_equalIn_agg w d t _ _ (by rw [hF]; exact hu) hst, hF]
      -- field by field
      have key : ∀ (fl : List Field) (off : Nat) (l' : List SK), eqFs P (eqSh P f) fl off = some l' → ∀ a0 b0 : List Sc, off ≤ a0.length → off ≤ b0.length → okSKs l' (a0.drop off) = true → okSKs l' (b0.drop off) = true →
          (Op.eqFields d (a0.map Sc.v).toArray (b0.map Sc.v).toArray fl).run P w = .ok (decide (a0.drop off = b0.drop off)) w := by
        intro fl
        induction fl with
        | nil =>
          intro off l' hl a0 b0 _ _ h1 h2
          simp only [eqFs, Option.some.injEq] at hl; subst hl
          have e1 : a0.drop off = [] := List.eq_nil_of_length_eq_zero (okSKs_len h1)
          have e2 : b0.drop off = [] := List.eq_nil_of_length_eq_zero (okSKs_len h2)
          simp [Op.eqFields, e1, e2]
        | cons fd fl ihf =>
          intro off l' hl a0 b0 ho1 ho2 h1 h2
          simp only [eqFs] at hl
          split at hl
          · rename_i hname
            simp only [Bool.and_eq_true, decide_eq_true_eq] at hname
            have hoff := Nat.eq_of_beq_eq_true hname.2
            split at hl
            · rename_i lf hlf
              split at hl
              · rename_i hsz
                split at hl
                · rename_i lr hlr
                  simp only [Option.some.injEq] at hl; subst hl
                  obtain ⟨a1, a2⟩ := okSKs_split h1
                  obtain ⟨b1, b2⟩ := okSKs_split h2
                  have al := okSKs_len a1
                  have bl := okSKs_len b1
                  simp only [List.length_take, List.length_drop] at al bl
                  have hpart : ∀ c0 : List Sc, off + lf.length ≤ c0.length → okSKs lf ((c0.drop off).take lf.length) = true → (part fd.type (c0.map Sc.v).toArray fd.offset).run P w = .ok (valSc P fd.type ((c0.drop off).take lf.length)) w := fun c0 hc0 hok => by
                    rw [hoff]
                    cases hstr : isStc P fd.type with
                    | true =>
                      obtain ⟨fs', hu'⟩ : ∃ fs', P.underlying fd.type = some (.struct fs') := by
                        unfold isStc at hstr
                        split at hstr
                        · rename_i fs' e; exact ⟨fs', e⟩
                        · cases hstr
                      rw [hstr] at hsz
                      simp only [Bool.not_true, Bool.false_or, decide_eq_true_eq, Option.map_eq_some_iff] at hsz
                      obtain ⟨ii, hii, hsz⟩ := hsz
                      simp only [part, isAgg, Sem.run_bind, run_underlying hu', Result.andThen_ok, Sem.run_pure, if_true, run_sizeOf hii, hsz, valSc, hstr]
                      congr 2
                      apply Array.ext'
                      simp only [Array.toList_extract, List.extract_eq_take_drop, List.map_take, List.map_drop]
                      rw [Nat.add_sub_cancel_left]
                    | false =>
                      have hna : (isAgg fd.type).run P w = .ok false w := by
                        cases f with
                        | zero => cases hlf
                        | succ f' =>
                          simp only [eqSh] at hlf
                          split at hlf
                          · rename_i hu'; simp [isAgg, run_underlying hu']
                          · rename_i hu'; simp [isAgg, run_underlying hu']
                          · rename_i hu'; simp [isStc, hu'] at hstr
                          · cases hlf
                      have h1l : lf.length = 1 := by
                        cases f with
                        | zero => cases hlf
                        | succ f' =>
                          simp only [eqSh] at hlf
                          split at hlf
                          · simp only [Option.some.injEq] at hlf; subst hlf; rfl
                          · simp only [Option.some.injEq] at hlf; subst hlf; rfl
                          · rename_i hu'; simp [isStc, hu'] at hstr
                          · cases hlf
                      obtain ⟨c, hc⟩ : ∃ c, c0[off]? = some c := ⟨c0[off]'(by omega), List.getElem?_eq_getElem (by omega)⟩
                      have ht : (c0.drop off).take lf.length = [c] := by
                        rw [h1l, List.take_one, List.head?_drop, hc]; rfl
                      simp only [part, Sem.run_bind, hna, Result.andThen_ok, Bool.false_eq_true, if_false, List.getElem?_toArray, List.getElem?_map, hc, Option.map_some, Sem.run_pure, ht, valSc, hstr]
                  have hq := ih fd.type lf hlf d (by omega) _ _ a1 b1 w
                  simp only [Op.eqFields, if_pos hname.1, Sem.run_bind, hpart a0 (by omega) a1, hpart b0 (by omega) b1, hq, Result.andThen_ok, Sem.run_ite]
                  have hcat : ∀ c0 : List Sc, c0.drop off = (c0.drop off).take lf.length ++ c0.drop (off + lf.length) := fun c0 => by
                    rw [← List.drop_drop, List.take_append_drop]
                  rw [List.drop_drop] at a2 b2
                  by_cases e : (a0.drop off).take lf.length = (b0.drop off).take lf.length
                  · rw [decide_eq_true e]
                    simp only [Bool.not_true, Bool.false_eq_true, if_false]
                    rw [ihf _ _ hlr a0 b0 (by omega) (by omega) a2 b2]
                    congr 1
                    have : (a0.drop off = b0.drop off) ↔ (a0.drop (off + lf.length) = b0.drop (off + lf.length)) := by
                      rw [hcat a0, hcat b0, e]
                      exact ⟨fun h => List.append_cancel_left h, fun h => by rw [h]⟩
                    exact decide_eq_decide.2 this.symm
                  · rw [decide_eq_false e]
                    simp only [Bool.not_false, if_true, Sem.run_pure]
                    congr 1
                    refine (decide_eq_false fun h => e ?_).symm
                    rw [h]
                · cases hl
              · cases hl
            · cases hl
          · cases hl
      have := key fs.toList 0 l h a b (Nat.zero_le _) (Nat.zero_le _) (by simpa using ha) (by simpa using hb)
      simpa using this
  · cases h
section
variable {P : Program} {d : Option Nat} {ty : TypeId} {ps : String} {af : Array Edge} {g : Option (Nat × Bool)} {x y : Operand} {t : TypeId}
theorem rep_sc {M : Mem} {ρ : Nat → Value} : ∀ {a : List Sc} {cs : List Value}, RepVs M ρ (a.map Sc.V) cs → cs = a.map Sc.v
  | [], [], _ => rfl
  | [], _ :: _, h => by simp only [List.map_nil, RepVs] at h
  | _ :: _, [], h => by simp only [List.map_cons, RepVs] at h
  | c :: a, v :: cs, h => by
    simp only [List.map_cons, Sc.V, RepVs, RepV, RepPV] at h
    rw [h.1.1, rep_sc h.2]; rfl
/-- Structs of numbers and strings, held against one another. -/
theorem L_eqF {t' : TypeId} {neg : Bool} {l : List SK} {a b : List Sc} (hx : okc x (.agg (a.map Sc.V))) (hy : okc y (.agg (b.map Sc.V))) (hs : isStc P t = true) (h : eqSh P 8 t = some l) (ha : okSKs l a = true) (hb : okSKs l b = true) (hg : P.eqGuardType P.depth t = false) :
    Snd P ⟨d, .binOp (if neg = true then .neq else .eql) t x y t', ty, ps, af, g⟩ (rq x (.agg (a.map Sc.V)) ++ rq y (.agg (b.map Sc.V))) [] [] (.bq (if neg = true then !decide (a = b) else decide (a = b))) [] :=
  snd_quiet fun C st M ρ ac w hH h1 _ => by
    rw [okS_append] at h1
    have e1 := hH.evS (ev_of hx h1.1)
    have e2 := hH.evS (ev_of hy h1.2)
    simp only [RepS] at e1 e2
    obtain ⟨cs, e1, f1⟩ := e1
    obtain ⟨ds, e2, f2⟩ := e2
    rw [rep_sc f1] at e1
    rw [rep_sc f2] at e2
    have hq := equal_flat 8 t l h 10000 (by omega) a b ha hb w
    simp only [valSc, hs, if_true] at hq
    cases neg with
    | true =>
      refine ⟨.bool (!decide (a = b)), ?_, by simp only [RepS, if_true]⟩
      simp only [execOp, if_true, e1, e2, Sem.run_bind, run_eqGuard_agg w _ t x y _ _ hg, Result.andThen_ok, run_neq_struct, hq, Sem.run_pure]
    | false =>
      refine ⟨.bool (decide (a = b)), ?_, by simp only [RepS, Bool.false_eq_true, if_false]⟩
      simp only [execOp, Bool.false_eq_true, if_false, e1, e2, Sem.run_bind, run_eqGuard_agg w _ t x y _ _ hg, Result.andThen_ok, run_eql_struct, hq, Sem.run_pure]
end
section
variable {P : Program} {C : Ctx} {k : List Frm} {n : Nat} {sl : Slots} {tab : Tab} {Q : Exit → St → Prop} {all : Array Oper} {rest : List Oper}
theorem g_eqF {d : Nat} {x y : Operand} {t t' ty : TypeId} {ps : String} {af : Array Edge} {g0 : Option (Nat × Bool)} {gs : Slots} {md : Mode} (hC : C.low) (l : List SK) (a b : List Sc)
    (hx : ev sl x = some (.agg (a.map Sc.V))) (hy : ev sl y = some (.agg (b.map Sc.V))) (hs : isStc P t = true) (h : eqSh P 8 t = some l) (ha : okSKs l a = true) (hb : okSKs l b = true) (hg : P.eqGuardType P.depth t = false) (hm : metL all sl g0 = some gs) (hd : Nat.blt d n = true)
    (g : Goal P C (.ops all rest (nx md ⟨some d, gs ++ (rq x (.agg (a.map Sc.V)) ++ rq y (.agg (b.map Sc.V))), [], [], .bq (decide (a = b)), []⟩)) k n ((d, .bq (decide (a = b))) :: sl) tab Q) :
    Goal P C (.ops all (⟨some d, .binOp .eql t x y t', ty, ps, af, g0⟩ :: rest) md) k n sl tab Q := by
  have e1 := of_ev (st := ⟨n, sl, tab⟩) hx
  have e2 := of_ev (st := ⟨n, sl, tab⟩) hy
  have := metL_step hm (L_eqF (P := P) (neg := false) (ty := ty) (ps := ps) (af := af) (g := g0) (d := some d) (t' := t') e1.1 e2.1 hs h ha hb hg) (n := n) (tab := tab)
  exact g_law (L := ⟨some d, gs ++ (rq x (.agg (a.map Sc.V)) ++ rq y (.agg (b.map Sc.V))), [], [], .bq (decide (a = b)), []⟩) hC this.1 rfl ⟨by rw [okS_append, okS_append]; exact ⟨this.2, e1.2, e2.2⟩, trivial, rfl, hd⟩ g
theorem g_neF {d : Nat} {x y : Operand} {t t' ty : TypeId} {ps : String} {af : Array Edge} {g0 : Option (Nat × Bool)} {gs : Slots} {md : Mode} (hC : C.low) (l : List SK) (a b : List Sc)
    (hx : ev sl x = some (.agg (a.map Sc.V))) (hy : ev sl y = some (.agg (b.map Sc.V))) (hs : isStc P t = true) (h : eqSh P 8 t = some l) (ha : okSKs l a = true) (hb : okSKs l b = true) (hg : P.eqGuardType P.depth t = false) (hm : metL all sl g0 = some gs) (hd : Nat.blt d n = true)
    (g : Goal P C (.ops all rest (nx md ⟨some d, gs ++ (rq x (.agg (a.map Sc.V)) ++ rq y (.agg (b.map Sc.V))), [], [], .bq (!decide (a = b)), []⟩)) k n ((d, .bq (!decide (a = b))) :: sl) tab Q) :
    Goal P C (.ops all (⟨some d, .binOp .neq t x y t', ty, ps, af, g0⟩ :: rest) md) k n sl tab Q := by
  have e1 := of_ev (st := ⟨n, sl, tab⟩) hx
  have e2 := of_ev (st := ⟨n, sl, tab⟩) hy
  have := metL_step hm (L_eqF (P := P) (neg := true) (ty := ty) (ps := ps) (af := af) (g := g0) (d := some d) (t' := t') e1.1 e2.1 hs h ha hb hg) (n := n) (tab := tab)
  exact g_law (L := ⟨some d, gs ++ (rq x (.agg (a.map Sc.V)) ++ rq y (.agg (b.map Sc.V))), [], [], .bq (!decide (a = b)), []⟩) hC this.1 rfl ⟨by rw [okS_append, okS_append]; exact ⟨this.2, e1.2, e2.2⟩, trivial, rfl, hd⟩ g
end
end Hw
/- The engine, part BJ: parts of strings and of slices; interfaces held against nil. -/
namespace Hw
open Go

section
variable {P : Program} {d : Option Nat} {ty : TypeId} {ps : String} {af : Array Edge} {g : Option (Nat × Bool)} {x y z : Operand} {t : TypeId}
theorem L_slMid {a : ByteArray} {i j : Int} {k k' : IntKind} (hx : okc x (Sr a)) (hy : okc y (Kk k i)) (hz : okc z (Kk k' j)) (ht : P.underlying t = some .string) (h0 : 0 ≤ i) (h1 : i ≤ j) (h2 : j ≤ a.size) :
    Snd P ⟨d, .slice t x (some y) (some z) none, ty, ps, af, g⟩ (rq x (Sr a) ++ rq y (Kk k i) ++ rq z (Kk k' j)) [] [] (Sr (a.extract i.toNat j.toNat)) [] :=
  snd_quiet fun C st M ρ b w hH hs _ => by
    rw [okS_append, okS_append] at hs
    have e1 := hH.k (ev_of hx hs.1.1)
    have e2 := hH.k (ev_of hy hs.1.2)
    have e3 := hH.k (ev_of hz hs.2)
    refine ⟨.string (a.extract i.toNat j.toNat), ?_, by simp only [RepS, RepV, RepPV]; exact ⟨trivial, rfl⟩⟩
    simp only [execOp, e1, e2, e3, Option.map_none, Option.map_some, Sem.run_bind, run_sliceAt_string w t _ _ _ _ ht, run_slice_string_if w t a k k' i j ht, if_pos (⟨by omega, h2⟩ : 0 ≤ j ∧ j ≤ (a.size : Int)), if_pos (⟨h0, h1⟩ : 0 ≤ i ∧ i ≤ j), Result.andThen_ok, Sem.run_pure]
/-- A part of a slice that nobody writes. -/
theorem rep_part {M : Mem} {ρ : Nat → Value} {e : Nat} {rows : List (List PV)} {a : Option Addr} {cap l h : Nat} (hr : RepV M ρ (.p (.sl e rows)) (.slice a rows.length cap)) (h1 : l ≤ h) (h2 : h ≤ rows.length) : RepV M ρ (.p (.sl e ((rows.take h).drop l))) (sliced a l h cap e) := by
  simp only [RepV, RepPV] at hr ⊢
  obtain ⟨a', cap', e1, e2, e3, e4⟩ := hr
  simp only [Value.slice.injEq] at e1
  obtain ⟨rfl, _, rfl⟩ := e1
  have hl : ((rows.take h).drop l).length = h - l := by rw [List.length_drop, List.length_take]; omega
  refine ⟨if cap = l then a else a.map (·.add (l * e)), cap - l, by rw [hl]; rfl, by omega, by omega, ?_⟩
  rcases e4 with rfl | ⟨b, o, rfl, e4⟩
  · left
    simp at h2; subst h2
    simp
  · by_cases hc : cap = l
    · left
      exact List.length_eq_zero_iff.1 (by omega)
    · right
      rw [if_neg hc]
      exact ⟨b, o + l * e, by simp [Addr.add], (e4.take h).drop l⟩
theorem elem_of {el : TypeId} {e : Nat} (h : elemSz P t = some (el, e)) : P.underlying t = some (.slice (P.elem t)) ∧ ∀ w : World, (Go.sizeOf (P.elem t)).run P w = .ok e w := by
  obtain ⟨ii, hu, hinf, hsz⟩ := elemSz_spec h
  have he : P.elem t = el := by simp [Program.elem, hu]
  rw [he]
  exact ⟨hu, fun w => by rw [run_sizeOf hinf, hsz]⟩
theorem L_partLH {e : Nat} {rows : List (List PV)} {i j : Int} {k k' : IntKind} {el : TypeId} (hx : okc x (.one (.p (.sl e rows)))) (hy : okc y (Kk k i)) (hz : okc z (Kk k' j)) (he : elemSz P t = some (el, e)) (h0 : 0 ≤ i) (h1 : i ≤ j) (h2 : j ≤ rows.length) :
    Snd P ⟨d, .slice t x (some y) (some z) none, ty, ps, af, g⟩ (rq x (.one (.p (.sl e rows))) ++ rq y (Kk k i) ++ rq z (Kk k' j)) [] [] (.one (.p (.sl e ((rows.take j.toNat).drop i.toNat)))) [] :=
  snd_quiet fun C st M ρ b w hH hs _ => by
    rw [okS_append, okS_append] at hs
    have e1 := hH.evS (ev_of hx hs.1.1)
    have e2 := hH.k (ev_of hy hs.1.2)
    have e3 := hH.k (ev_of hz hs.2)
    simp only [RepS] at e1
    have e1' := e1
    simp only [RepV, RepPV] at e1'
    obtain ⟨a, cap, f1, f2, f3, _⟩ := e1'
    rw [f1] at e1
    obtain ⟨hu, hsz⟩ := elem_of he
    refine ⟨sliced a i.toNat j.toNat cap e, ?_, by simp only [RepS]; exact rep_part e1 (by omega) (by omega)⟩
    simp only [execOp, f1, e2, e3, Option.map_none, Option.map_some, Sem.run_bind, run_sliceAt_slice w t _ _ _ _ hu, run_slice_lh w t a rows.length cap hu k k' i j h0 h1 (by omega), hsz, Result.andThen_ok, Sem.run_pure]
theorem L_partH {e : Nat} {rows : List (List PV)} {j : Int} {k' : IntKind} {el : TypeId} (hx : okc x (.one (.p (.sl e rows)))) (hz : okc z (Kk k' j)) (he : elemSz P t = some (el, e)) (h0 : 0 ≤ j) (h2 : j ≤ rows.length) :
    Snd P ⟨d, .slice t x none (some z) none, ty, ps, af, g⟩ (rq x (.one (.p (.sl e rows))) ++ rq z (Kk k' j)) [] [] (.one (.p (.sl e (rows.take j.toNat)))) [] :=
  snd_quiet fun C st M ρ b w hH hs _ => by
    rw [okS_append] at hs
    have e1 := hH.evS (ev_of hx hs.1)
    have e3 := hH.k (ev_of hz hs.2)
    simp only [RepS] at e1
    have e1' := e1
    simp only [RepV, RepPV] at e1'
    obtain ⟨a, cap, f1, f2, f3, _⟩ := e1'
    rw [f1] at e1
    obtain ⟨hu, hsz⟩ := elem_of he
    refine ⟨sliced a 0 j.toNat cap e, ?_, by simp only [RepS]; have := rep_part e1 (Nat.zero_le j.toNat) (by omega); simpa only [List.drop_zero] using this⟩
    simp only [execOp, f1, e3, Option.map_none, Option.map_some, Sem.run_bind, run_sliceAt_slice w t _ _ _ _ hu, run_slice_h w t a rows.length cap hu k' j h0 (by omega), hsz, Result.andThen_ok, Sem.run_pure]
theorem L_partL {e : Nat} {rows : List (List PV)} {i : Int} {k : IntKind} {el : TypeId} (hx : okc x (.one (.p (.sl e rows)))) (hy : okc y (Kk k i)) (he : elemSz P t = some (el, e)) (h0 : 0 ≤ i) (h2 : i ≤ rows.length) :
    Snd P ⟨d, .slice t x (some y) none none, ty, ps, af, g⟩ (rq x (.one (.p (.sl e rows))) ++ rq y (Kk k i)) [] [] (.one (.p (.sl e (rows.drop i.toNat)))) [] :=
  snd_quiet fun C st M ρ b w hH hs _ => by
    rw [okS_append] at hs
    have e1 := hH.evS (ev_of hx hs.1)
    have e2 := hH.k (ev_of hy hs.2)
    simp only [RepS] at e1
    have e1' := e1
    simp only [RepV, RepPV] at e1'
    obtain ⟨a, cap, f1, f2, f3, _⟩ := e1'
    rw [f1] at e1
    obtain ⟨hu, hsz⟩ := elem_of he
    refine ⟨sliced a i.toNat rows.length cap e, ?_, by simp only [RepS]; have := rep_part e1 (l := i.toNat) (h := rows.length) (by omega) (Nat.le_refl _); rwa [List.take_length] at this⟩
    simp only [execOp, f1, e2, Option.map_none, Option.map_some, Sem.run_bind, run_sliceAt_slice w t _ _ _ _ hu, run_slice_l w t a rows.length cap hu k i h0 (by omega), hsz, Result.andThen_ok, Sem.run_pure]
/-- An element of an array's value, the elements of one cell. -/
theorem L_index1 {vs : List V} {len : Nat} {el : TypeId} {i : Int} {k : IntKind} {v : V} (hx : okc x (.agg vs)) (hy : okc y (Kk k i)) (ht : P.underlying t = some (.array len el)) (he : (P.info? el).map (·.size) = some 1) (hs : shp P el = some none) (h0 : 0 ≤ i) (hi : i < len) (hv : vs[i.toNat]? = some v) :
    Snd P ⟨d, .index t x y, ty, ps, af, g⟩ (rq x (.agg vs) ++ rq y (Kk k i)) [] [] (.one v) [] :=
  snd_quiet fun C st M ρ a w hH h1 _ => by
    rw [okS_append] at h1
    have e1 := hH.evS (ev_of hx h1.1)
    have e2 := hH.k (ev_of hy h1.2)
    simp only [RepS] at e1
    obtain ⟨cs, e1, e3⟩ := e1
    obtain ⟨ii, hinf, hsz⟩ := Option.map_eq_some_iff.1 he
    obtain ⟨c, c1, c2⟩ := repVs_at e3 hv
    refine ⟨c, ?_, by simp only [RepS]; exact c2⟩
    simp only [execOp, e1, e2, Instr.index, asIntOf, Sem.run_bind, Sem.run_pure, Result.andThen_ok, run_underlying ht]
    rw [if_pos ⟨h0, hi⟩]
    simp [part, run_isAgg_one hs, run_sizeOf hinf, hsz, c1]
def isIfc (P : Program) (t : TypeId) : Bool := match P.underlying t with
  | some (.interface _) => true
  | _ => false
theorem isIfc_spec {P : Program} {t : TypeId} (h : isIfc P t = true) : ∃ ms, P.underlying t = some (.interface ms) := by
  unfold isIfc at h
  split at h
  · rename_i ms e; exact ⟨ms, e⟩
  · cases h
/-- An interface that holds something, against nil. -/
theorem L_ifc {t' : TypeId} {id : Nat} {neg : Bool} (hx : okc x (.one (.ar id))) (ht : isIfc P t = true) :
    Snd P ⟨d, .binOp (if neg = true then .neq else .eql) t x (.const .nilIface) t', ty, ps, af, g⟩ (rq x (.one (.ar id))) [(id, .ifc)] [] (Bo neg) [] :=
  snd_quiet fun C st M ρ a w hH h1 hT => by
    obtain ⟨ms, ht⟩ := isIfc_spec ht
    have e1 := hH.evS (ev_of hx h1)
    simp only [RepS, RepV] at e1
    obtain ⟨te, pe, hv⟩ := hH.tabs.res id _ hT.1
    rw [hv] at e1
    have h : ∀ q : Nat, (Op.equalIn (q + 1) t (.iface te pe) .nilIface).run P w = .ok false w := fun q => by simp [Op.equalIn, run_underlying ht]
    have e0 : a.eval (.const .nilIface) = .nilIface := rfl
    refine ⟨.bool neg, ?_, repB neg⟩
    cases neg with
    | true =>
      simp only [execOp, if_true, e1.1, e0, Sem.run_bind]
      simp [eqGuard, binOp, Op.equal, Op.maxDepth, h 9999, Sem.run_pure]
    | false =>
      simp only [execOp, Bool.false_eq_true, if_false, e1.1, e0, Sem.run_bind]
      simp [eqGuard, binOp, Op.equal, Op.maxDepth, h 9999, Sem.run_pure]
theorem L_ifn {t' : TypeId} {neg : Bool} (hx : okc x (.one (.p (.k .nilIface)))) (ht : isIfc P t = true) :
    Snd P ⟨d, .binOp (if neg = true then .neq else .eql) t x (.const .nilIface) t', ty, ps, af, g⟩ (rq x (.one (.p (.k .nilIface)))) [] [] (Bo (!neg)) [] :=
  snd_quiet fun C st M ρ a w hH h1 hT => by
    obtain ⟨ms, ht⟩ := isIfc_spec ht
    have e1 := hH.evS (ev_of hx h1)
    simp only [RepS, RepV, RepPV] at e1
    have h : ∀ q : Nat, (Op.equalIn (q + 1) t .nilIface .nilIface).run P w = .ok true w := fun q => by simp [Op.equalIn, run_underlying ht]
    have e0 : a.eval (.const .nilIface) = .nilIface := rfl
    refine ⟨.bool (!neg), ?_, repB (!neg)⟩
    cases neg with
    | true =>
      simp only [execOp, if_true, e1.1, e0, Sem.run_bind]
      simp [eqGuard, binOp, Op.equal, Op.maxDepth, h 9999, Sem.run_pure]
    | false =>
      simp only [execOp, Bool.false_eq_true, if_false, e1.1, e0, Sem.run_bind]
      simp [eqGuard, binOp, Op.equal, Op.maxDepth, h 9999, Sem.run_pure]
end
section
variable {P : Program} {C : Ctx} {k : List Frm} {n : Nat} {sl : Slots} {tab : Tab} {Q : Exit → St → Prop} {all : Array Oper} {rest : List Oper}
theorem g_slMid {d : Nat} {x y z : Operand} {t ty : TypeId} {ps : String} {af : Array Edge} {g0 : Option (Nat × Bool)} {gs : Slots} {md : Mode} (hC : C.low) {a : ByteArray} {i j : Int} {k0 k1 : IntKind}
    (hx : ev sl x = some (Sr a)) (hy : ev sl y = some (Kk k0 i)) (hz : ev sl z = some (Kk k1 j)) (ht : P.underlying t = some .string) (h0 : 0 ≤ i) (h1 : i ≤ j) (h2 : j ≤ a.size) (hm : metL all sl g0 = some gs) (hd : Nat.blt d n = true)
    (g : Goal P C (.ops all rest (nx md ⟨some d, gs ++ (rq x (Sr a) ++ rq y (Kk k0 i) ++ rq z (Kk k1 j)), [], [], Sr (a.extract i.toNat j.toNat), []⟩)) k n ((d, Sr (a.extract i.toNat j.toNat)) :: sl) tab Q) :
    Goal P C (.ops all (⟨some d, .slice t x (some y) (some z) none, ty, ps, af, g0⟩ :: rest) md) k n sl tab Q := by
  have e1 := of_ev (st := ⟨n, sl, tab⟩) hx
  have e2 := of_ev (st := ⟨n, sl, tab⟩) hy
  have e3 := of_ev (st := ⟨n, sl, tab⟩) hz
  have := metL_step hm (L_slMid (P := P) (ty := ty) (ps := ps) (af := af) (g := g0) (d := some d) (t := t) e1.1 e2.1 e3.1 ht h0 h1 h2) (n := n) (tab := tab)
  exact g_law (L := ⟨some d, gs ++ (rq x (Sr a) ++ rq y (Kk k0 i) ++ rq z (Kk k1 j)), [], [], Sr (a.extract i.toNat j.toNat), []⟩) hC this.1 rfl ⟨by rw [okS_append, okS_append, okS_append]; exact ⟨this.2, ⟨e1.2, e2.2⟩, e3.2⟩, trivial, rfl, hd⟩ g
theorem g_index1 {d : Nat} {x y : Operand} {t ty : TypeId} {ps : String} {af : Array Edge} {g0 : Option (Nat × Bool)} {gs : Slots} {md : Mode} (hC : C.low) {vs : List V} {len : Nat} {el : TypeId} {k0 : IntKind} {i : Int} {v : V}
    (hx : ev sl x = some (.agg vs)) (hy : ev sl y = some (Kk k0 i)) (ht : P.underlying t = some (.array len el)) (he : (P.info? el).map (·.size) = some 1) (hs : shp P el = some none) (h0 : 0 ≤ i) (hi : i < len) (hv : vs[i.toNat]? = some v) (hm : metL all sl g0 = some gs) (hd : Nat.blt d n = true)
    (g : Goal P C (.ops all rest (nx md ⟨some d, gs ++ (rq x (.agg vs) ++ rq y (Kk k0 i)), [], [], .one v, []⟩)) k n ((d, .one v) :: sl) tab Q) :
    Goal P C (.ops all (⟨some d, .index t x y, ty, ps, af, g0⟩ :: rest) md) k n sl tab Q := by
  have e1 := of_ev (st := ⟨n, sl, tab⟩) hx
  have e2 := of_ev (st := ⟨n, sl, tab⟩) hy
  have := metL_step hm (L_index1 (P := P) (ty := ty) (ps := ps) (af := af) (g := g0) (d := some d) (t := t) e1.1 e2.1 ht he hs h0 hi hv) (n := n) (tab := tab)
  exact g_law (L := ⟨some d, gs ++ (rq x (.agg vs) ++ rq y (Kk k0 i)), [], [], .one v, []⟩) hC this.1 rfl ⟨by rw [okS_append, okS_append]; exact ⟨this.2, e1.2, e2.2⟩, trivial, rfl, hd⟩ g
theorem g_partLH (T : Ty P) {d : Nat} {x y z : Operand} {t ty : TypeId} {ps : String} {af : Array Edge} {g0 : Option (Nat × Bool)} {gs : Slots} {md : Mode} (hC : C.low) {e : Nat} {rows : List (List PV)} (rows' : List (List PV)) {i j : Int} {k0 k1 : IntKind} {el : TypeId}
    (hx : ev sl x = some (.one (.p (.sl e rows)))) (hy : ev sl y = some (Kk k0 i)) (hz : ev sl z = some (Kk k1 j)) (he : T.es t = some (el, e)) (h0 : 0 ≤ i) (h1 : i ≤ j) (h2 : j ≤ rows.length) (hr : (rows.take j.toNat).drop i.toNat = rows') (hm : metL all sl g0 = some gs) (hd : Nat.blt d n = true)
    (g : Goal P C (.ops all rest (nx md ⟨some d, gs ++ (rq x (.one (.p (.sl e rows))) ++ rq y (Kk k0 i) ++ rq z (Kk k1 j)), [], [], .one (.p (.sl e rows')), []⟩)) k n ((d, .one (.p (.sl e rows'))) :: sl) tab Q) :
    Goal P C (.ops all (⟨some d, .slice t x (some y) (some z) none, ty, ps, af, g0⟩ :: rest) md) k n sl tab Q := by
  subst hr
  have e1 := of_ev (st := ⟨n, sl, tab⟩) hx
  have e2 := of_ev (st := ⟨n, sl, tab⟩) hy
  have e3 := of_ev (st := ⟨n, sl, tab⟩) hz
  have := metL_step hm (L_partLH (P := P) (ty := ty) (ps := ps) (af := af) (g := g0) (d := some d) (t := t) e1.1 e2.1 e3.1 (T.es_ok _ _ he) h0 h1 h2) (n := n) (tab := tab)
  exact g_law (L := ⟨some d, gs ++ (rq x (.one (.p (.sl e rows))) ++ rq y (Kk k0 i) ++ rq z (Kk k1 j)), [], [], .one (.p (.sl e ((rows.take j.toNat).drop i.toNat))), []⟩) hC this.1 rfl ⟨by rw [okS_append, okS_append, okS_append]; exact ⟨this.2, ⟨e1.2, e2.2⟩, e3.2⟩, trivial, rfl, hd⟩ g
theorem g_partH (T : Ty P) {d : Nat} {x z : Operand} {t ty : TypeId} {ps : String} {af : Array Edge} {g0 : Option (Nat × Bool)} {gs : Slots} {md : Mode} (hC : C.low) {e : Nat} {rows : List (List PV)} (rows' : List (List PV)) {j : Int} {k1 : IntKind} {el : TypeId}
    (hx : ev sl x = some (.one (.p (.sl e rows)))) (hz : ev sl z = some (Kk k1 j)) (he : T.es t = some (el, e)) (h0 : 0 ≤ j) (h2 : j ≤ rows.length) (hr : rows.take j.toNat = rows') (hm : metL all sl g0 = some gs) (hd : Nat.blt d n = true)
    (g : Goal P C (.ops all rest (nx md ⟨some d, gs ++ (rq x (.one (.p (.sl e rows))) ++ rq z (Kk k1 j)), [], [], .one (.p (.sl e rows')), []⟩)) k n ((d, .one (.p (.sl e rows'))) :: sl) tab Q) :
    Goal P C (.ops all (⟨some d, .slice t x none (some z) none, ty, ps, af, g0⟩ :: rest) md) k n sl tab Q := by
  subst hr
  have e1 := of_ev (st := ⟨n, sl, tab⟩) hx
  have e3 := of_ev (st := ⟨n, sl, tab⟩) hz
  have := metL_step hm (L_partH (P := P) (ty := ty) (ps := ps) (af := af) (g := g0) (d := some d) (t := t) e1.1 e3.1 (T.es_ok _ _ he) h0 h2) (n := n) (tab := tab)
  exact g_law (L := ⟨some d, gs ++ (rq x (.one (.p (.sl e rows))) ++ rq z (Kk k1 j)), [], [], .one (.p (.sl e (rows.take j.toNat))), []⟩) hC this.1 rfl ⟨by rw [okS_append, okS_append]; exact ⟨this.2, e1.2, e3.2⟩, trivial, rfl, hd⟩ g
theorem g_partL (T : Ty P) {d : Nat} {x y : Operand} {t ty : TypeId} {ps : String} {af : Array Edge} {g0 : Option (Nat × Bool)} {gs : Slots} {md : Mode} (hC : C.low) {e : Nat} {rows : List (List PV)} (rows' : List (List PV)) {i : Int} {k0 : IntKind} {el : TypeId}
    (hx : ev sl x = some (.one (.p (.sl e rows)))) (hy : ev sl y = some (Kk k0 i)) (he : T.es t = some (el, e)) (h0 : 0 ≤ i) (h2 : i ≤ rows.length) (hr : rows.drop i.toNat = rows') (hm : metL all sl g0 = some gs) (hd : Nat.blt d n = true)
    (g : Goal P C (.ops all rest (nx md ⟨some d, gs ++ (rq x (.one (.p (.sl e rows))) ++ rq y (Kk k0 i)), [], [], .one (.p (.sl e rows')), []⟩)) k n ((d, .one (.p (.sl e rows'))) :: sl) tab Q) :
    Goal P C (.ops all (⟨some d, .slice t x (some y) none none, ty, ps, af, g0⟩ :: rest) md) k n sl tab Q := by
  subst hr
  have e1 := of_ev (st := ⟨n, sl, tab⟩) hx
  have e2 := of_ev (st := ⟨n, sl, tab⟩) hy
  have := metL_step hm (L_partL (P := P) (ty := ty) (ps := ps) (af := af) (g := g0) (d := some d) (t := t) e1.1 e2.1 (T.es_ok _ _ he) h0 h2) (n := n) (tab := tab)
  exact g_law (L := ⟨some d, gs ++ (rq x (.one (.p (.sl e rows))) ++ rq y (Kk k0 i)), [], [], .one (.p (.sl e (rows.drop i.toNat))), []⟩) hC this.1 rfl ⟨by rw [okS_append, okS_append]; exact ⟨this.2, e1.2, e2.2⟩, trivial, rfl, hd⟩ g
theorem g_ifcE {d : Nat} {x : Operand} {t t' ty : TypeId} {ps : String} {af : Array Edge} {g0 : Option (Nat × Bool)} {gs : Slots} {md : Mode} (hC : C.low) {id : Nat}
    (hx : ev sl x = some (.one (.ar id))) (hT : tg tab id = some .ifc) (ht : isIfc P t = true) (hm : metL all sl g0 = some gs) (hd : Nat.blt d n = true)
    (g : Goal P C (.ops all rest (nx md ⟨some d, gs ++ rq x (.one (.ar id)), [(id, .ifc)], [], Bo false, []⟩)) k n ((d, Bo false) :: sl) tab Q) :
    Goal P C (.ops all (⟨some d, .binOp .eql t x (.const .nilIface) t', ty, ps, af, g0⟩ :: rest) md) k n sl tab Q := by
  have e1 := of_ev (st := ⟨n, sl, tab⟩) hx
  have := metL_step hm (L_ifc (P := P) (neg := false) (ty := ty) (ps := ps) (af := af) (g := g0) (d := some d) (t' := t') e1.1 ht) (n := n) (tab := tab)
  exact g_law (L := ⟨some d, gs ++ rq x (.one (.ar id)), [(id, .ifc)], [], Bo false, []⟩) hC this.1 rfl ⟨by rw [okS_append]; exact ⟨this.2, e1.2⟩, ⟨hT, trivial⟩, rfl, hd⟩ g
theorem g_ifcN {d : Nat} {x : Operand} {t t' ty : TypeId} {ps : String} {af : Array Edge} {g0 : Option (Nat × Bool)} {gs : Slots} {md : Mode} (hC : C.low) {id : Nat}
    (hx : ev sl x = some (.one (.ar id))) (hT : tg tab id = some .ifc) (ht : isIfc P t = true) (hm : metL all sl g0 = some gs) (hd : Nat.blt d n = true)
    (g : Goal P C (.ops all rest (nx md ⟨some d, gs ++ rq x (.one (.ar id)), [(id, .ifc)], [], Bo true, []⟩)) k n ((d, Bo true) :: sl) tab Q) :
    Goal P C (.ops all (⟨some d, .binOp .neq t x (.const .nilIface) t', ty, ps, af, g0⟩ :: rest) md) k n sl tab Q := by
  have e1 := of_ev (st := ⟨n, sl, tab⟩) hx
  have := metL_step hm (L_ifc (P := P) (neg := true) (ty := ty) (ps := ps) (af := af) (g := g0) (d := some d) (t' := t') e1.1 ht) (n := n) (tab := tab)
  exact g_law (L := ⟨some d, gs ++ rq x (.one (.ar id)), [(id, .ifc)], [], Bo true, []⟩) hC this.1 rfl ⟨by rw [okS_append]; exact ⟨this.2, e1.2⟩, ⟨hT, trivial⟩, rfl, hd⟩ g
theorem g_ifnE {d : Nat} {x : Operand} {t t' ty : TypeId} {ps : String} {af : Array Edge} {g0 : Option (Nat × Bool)} {gs : Slots} {md : Mode} (hC : C.low)
    (hx : ev sl x = some (.one (.p (.k .nilIface)))) (ht : isIfc P t = true) (hm : metL all sl g0 = some gs) (hd : Nat.blt d n = true)
    (g : Goal P C (.ops all rest (nx md ⟨some d, gs ++ rq x (.one (.p (.k .nilIface))), [], [], Bo true, []⟩)) k n ((d, Bo true) :: sl) tab Q) :
    Goal P C (.ops all (⟨some d, .binOp .eql t x (.const .nilIface) t', ty, ps, af, g0⟩ :: rest) md) k n sl tab Q := by
  have e1 := of_ev (st := ⟨n, sl, tab⟩) hx
  have := metL_step hm (L_ifn (P := P) (neg := false) (ty := ty) (ps := ps) (af := af) (g := g0) (d := some d) (t' := t') e1.1 ht) (n := n) (tab := tab)
  exact g_law (L := ⟨some d, gs ++ rq x (.one (.p (.k .nilIface))), [], [], Bo true, []⟩) hC this.1 rfl ⟨by rw [okS_append]; exact ⟨this.2, e1.2⟩, trivial, rfl, hd⟩ g
theorem g_ifnN {d : Nat} {x : Operand} {t t' ty : TypeId} {ps : String} {af : Array Edge} {g0 : Option (Nat × Bool)} {gs : Slots} {md : Mode} (hC : C.low)
    (hx : ev sl x = some (.one (.p (.k .nilIface)))) (ht : isIfc P t = true) (hm : metL all sl g0 = some gs) (hd : Nat.blt d n = true)
    (g : Goal P C (.ops all rest (nx md ⟨some d, gs ++ rq x (.one (.p (.k .nilIface))), [], [], Bo false, []⟩)) k n ((d, Bo false) :: sl) tab Q) :
    Goal P C (.ops all (⟨some d, .binOp .neq t x (.const .nilIface) t', ty, ps, af, g0⟩ :: rest) md) k n sl tab Q := by
  have e1 := of_ev (st := ⟨n, sl, tab⟩) hx
  have := metL_step hm (L_ifn (P := P) (neg := true) (ty := ty) (ps := ps) (af := af) (g := g0) (d := some d) (t' := t') e1.1 ht) (n := n) (tab := tab)
  exact g_law (L := ⟨some d, gs ++ rq x (.one (.p (.k .nilIface))), [], [], Bo false, []⟩) hC this.1 rfl ⟨by rw [okS_append]; exact ⟨this.2, e1.2⟩, trivial, rfl, hd⟩ g
end
end Hw
