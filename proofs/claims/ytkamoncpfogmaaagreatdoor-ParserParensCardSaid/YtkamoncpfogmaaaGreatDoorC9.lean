/- The engine, part BK: parts of owned arrays. -/
import Derived.Test.YtkamoncpfogmaaaGreatDoorC8
import Derived.Test.YtkamoncpfogmaaaGreatDoorC2
import Derived.Sort.Grow
import Derived.Test.YtkamoncpfogmaaaGreatDoorC1
import Derived.Test.YtkamoncpfogmaaaGreatDoorC5
set_option linter.unusedVariables false
set_option linter.unusedSimpArgs false
namespace Hw
open Go

section
variable {P : Program} {d : Option Nat} {ty : TypeId} {ps : String} {af : Array Edge} {g : Option (Nat × Bool)} {x y z : Operand} {t : TypeId}
theorem SrcW.sv {e : Nat} {tx el : TypeId} {id l m : Nat} {ids : List Nat} {rows : List (List PC)} (h : elemSz P tx = some (el, e)) (hl : l + m ≤ rows.length) : SrcW P e tx (.one (.sv id (l * e) m)) [(id, .vw ids e rows)] ((rows.drop l).take m) ids := by
  intro C st M ρ a w v hH hr ht
  obtain ⟨_, hu, _, _⟩ := elemSz_spec h
  have hlen : ((rows.drop l).take m).length = m := by rw [List.length_take, List.length_drop]; omega
  obtain ⟨b, cap, h1, h2, h3, hle, h4⟩ := hH.tabs.res id _ ht.1
  have hle' : ∀ r ∈ (rows.drop l).take m, r.length = e := fun r hr => hle r (List.mem_of_mem_drop (List.mem_of_mem_take hr))
  simp only [RepS, RepV] at hr
  rw [hlen]
  rcases hr with ⟨rfl, a0, c0, rfl⟩ | ⟨b0, o0, N, cap0, c0, f1, rfl, f3, f4⟩
  · refine ⟨[], ?_, by simp, by simp⟩
    cases a0 with
    | none => exact Src.ofNil w hu c0
    | some ad => exact Src.ofSlice w hu ad 0 c0 [] (by simp) (by simp) (by simp)
  · rcases h4 with ⟨rfl, hc⟩ | ⟨b', o, cs, el', fz, rfl, h6, _, _, h8⟩
    · rw [h1] at f1; simp at f1
    · rw [h1] at f1
      simp only [Value.slice.injEq, Option.some.injEq, Addr.mk.injEq] at f1
      obtain ⟨⟨rfl, rfl, _⟩, _, rfl⟩ := f1
      have hfl := flat_len hle'
      rw [hlen] at hfl
      have hat : ∀ j x, ((rows.drop l).take m).flatten[j]? = some x → rows.flatten[l * e + j]? = some x := fun j x hj => by
        obtain ⟨i, c, row, g1, g2, g3, g4⟩ := flat_get hle' hj
        have him : i < m := by have := (List.getElem?_eq_some_iff.1 g3).1; omega
        rw [List.getElem?_take, if_pos him, List.getElem?_drop] at g3
        have := flat_at hle (i := l + i) (c := c) g2
        rw [g3, Nat.add_mul] at this
        rw [g1, ← Nat.add_assoc, this]; exact g4
      obtain ⟨us, h9, h10⟩ := repVs_of (M := M) (ρ := ρ) (vs := ((rows.drop l).take m).flatten.map (toV ids)) (g := fun j => cs[o + (l * e + j)]?) fun j u hj => by
        rw [List.getElem?_map, Option.map_eq_some_iff] at hj
        obtain ⟨p, hp, rfl⟩ := hj
        exact h8 _ p (hat j p hp)
      refine ⟨us, Src.ofSlice w hu _ _ c0 us (by rw [h9.length, List.length_map, hfl]) (fun j u hj => by rw [add_addr]; have := h10 j u hj; simp only [← Nat.add_assoc] at this; simp [World.cell?, h6, this]) h9.one, fun j p hj => ?_, hle'⟩
      exact repVs_at h9 (m := j) (by rw [List.getElem?_map, hj]; rfl)
end
section
variable {P : Program} {C : Ctx} {k : List Frm} {n : Nat} {sl : Slots} {tab : Tab} {Q : Exit → St → Prop} {all : Array Oper} {rest : List Oper}
end
end Hw
/- The engine, part BL: an array is taken out of a bag; arrays of a bag as what is appended. -/
namespace Hw
open Go

def OpF (id id' id2 j : Nat) (ρ : Nat → Value) : Prop := ∃ (cs : List Value) (v : Value), ρ id = .tuple cs.toArray ∧ cs[j]? = some v ∧ ρ id2 = v ∧ ρ id' = .tuple (cs.set j (.slice none 0 0)).toArray
theorem OpF.nv {id id' id2 j i : Nat} (h : i ≠ j) : RwV (OpF id id' id2 j) (.nv id i) (.nv id' i) := fun M ρ x hF hr => by
  obtain ⟨cs, v, h1, h2, h3, h4⟩ := hF
  simp only [RepV] at hr ⊢
  obtain ⟨xs, f1, f2, f3⟩ := hr
  rw [h1] at f1
  have : xs = cs := by simp only [Value.tuple.injEq] at f1; have := congrArg Array.toList f1; simpa using this.symm
  subst this
  exact ⟨_, h4, by rw [List.getElem?_set_ne (fun e => h e.symm)]; exact f2, f3⟩
theorem OpF.ar {id id' id2 j : Nat} : RwV (OpF id id' id2 j) (.nv id j) (.ar id2) := fun M ρ x hF hr => by
  obtain ⟨cs, v, h1, h2, h3, h4⟩ := hF
  simp only [RepV] at hr ⊢
  obtain ⟨xs, f1, f2, f3⟩ := hr
  rw [h1] at f1
  have : xs = cs := by simp only [Value.tuple.injEq] at f1; have := congrArg Array.toList f1; simpa using this.symm
  subst this
  rw [h2] at f2
  exact ⟨by rw [h3]; exact (Option.some.inj f2).symm, f3⟩
section
variable {P : Program} {C : Ctx} {k : List Frm} {n : Nat} {sl : Slots} {tab : Tab} {Q : Exit → St → Prop} {cur : Cur}
end
section
variable {P : Program}
theorem SrcS.nv {e q : Nat} {tx el : TypeId} {id : Nat} {L : List (List (List PV))} {rs : List (List PV)} (h : elemSz P tx = some (el, e)) (hq : L[q]? = some rs) (hl : ∀ r ∈ rs, r.length = e) : SrcS P e tx (.one (.nv id q)) [(id, .bag e L)] rs := by
  intro C st M ρ a w v hH hr hT
  obtain ⟨_, hu, _, _⟩ := elemSz_spec h
  simp only [RepS, RepV] at hr
  obtain ⟨xs, f1, f2, _⟩ := hr
  obtain ⟨a', cap, rfl, h2, h3, h4⟩ := bag_inner (hH.tabs.res id _ hT.1) hq f1 f2
  rcases h4 with ⟨rfl, hc⟩ | ⟨b', o, cs, el', fz, rfl, h6, _, _, h8⟩
  · have : rs = [] := List.length_eq_zero_iff.1 (by omega)
    subst this
    exact ⟨[], Src.ofNil w hu cap, by simp [RepVs], by simp⟩
  · obtain ⟨us, g1, g2, g3⟩ := h8.cells (ρ := ρ)
    exact ⟨us, Src.ofSlice w hu _ _ cap us g2 (fun j u hj => by rw [add_addr]; have := g3 j u hj; simp [World.cell?, h6, this]) g1.one, g1, hl⟩
end
end Hw
/- The engine, part BN: a bag's arrays numbered anew; grids: an owned array of owned arrays, row by row; grids lent and frozen. -/
namespace Hw
open Go Go.Proofs

def RbF (id id' : Nat) (js : List Nat) (ρ : Nat → Value) : Prop := ∃ cs ds : List Value, ρ id = .tuple cs.toArray ∧ ρ id' = .tuple ds.toArray ∧ ∀ (i q : Nat), js[i]? = some q → ds[i]? = cs[q]?
theorem RbF.nv {id id' i q : Nat} {js : List Nat} (h : js[i]? = some q) : RwV (RbF id id' js) (.nv id q) (.nv id' i) := fun M ρ x hF hr => by
  obtain ⟨cs, ds, h1, h2, h3⟩ := hF
  simp only [RepV] at hr ⊢
  obtain ⟨xs, f1, f2, f3⟩ := hr
  rw [h1] at f1
  have : xs = cs := by simp only [Value.tuple.injEq] at f1; have := congrArg Array.toList f1; simpa using this.symm
  subst this
  exact ⟨ds, h2, by rw [h3 i q h]; exact f2, f3⟩
section
variable {P : Program} {C : Ctx} {k : List Frm} {n : Nat} {sl : Slots} {tab : Tab} {Q : Exit → St → Prop} {cur : Cur}
def grJ (js : List Nat) : List (List PC) := js.map fun q => [PC.n 0 q]
def gr (n : Nat) : List (List PC) := grJ (List.range n)
theorem grJ_len (js : List Nat) : (grJ js).length = js.length := List.length_map _
theorem gr_len (n : Nat) : (gr n).length = n := by rw [gr, grJ_len, List.length_range]
theorem grJ_one (js : List Nat) : ∀ r ∈ grJ js, r.length = 1 := fun r hr => by obtain ⟨_, _, rfl⟩ := List.mem_map.1 hr; rfl
theorem gr_one (n : Nat) : ∀ r ∈ gr n, r.length = 1 := grJ_one _
theorem grJ_flat (js : List Nat) : (grJ js).flatten = js.map (PC.n 0) := by
  induction js with
  | nil => rfl
  | cons a l ih => simp only [grJ, List.map_cons, List.flatten_cons] at ih ⊢; rw [ih]; rfl
theorem grJ_at {js : List Nat} {i q : Nat} (h : js[i]? = some q) : (grJ js).flatten[i]? = some (.n 0 q) := by rw [grJ_flat, List.getElem?_map, h]; rfl
theorem gr_at {n i : Nat} (h : i < n) : (gr n).flatten[i]? = some (.n 0 i) := grJ_at (by rw [List.getElem?_range h])
end
section
variable {P : Program} {d : Option Nat} {ty et : TypeId} {ps : String} {af : Array Edge} {g : Option (Nat × Bool)} {t t' : TypeId} {x : Operand}
end
section
variable {P : Program} {C : Ctx} {k : List Frm} {n : Nat} {sl : Slots} {tab : Tab} {Q : Exit → St → Prop} {all : Array Oper} {rest : List Oper}
end
section
variable {B : RL}
theorem LnV.grid {o id e : Nat} {L : List (List (List PV))} (ho : (o, .vw [id] 1 (gr L.length)) ∈ B) (hid : (id, .bag e L) ∈ B) : LnV B (.ar o) (.p (.sl 1 (L.map fun rs => [.sl e rs]))) :=
  LnV.vw ho (by rw [List.length_map, gr_len]) (fun r hr => by obtain ⟨_, _, rfl⟩ := List.mem_map.1 hr; rfl) fun j x' hj => by
    have hfl : (L.map fun rs => [PV.sl e rs]).flatten = L.map (PV.sl e) := by
      clear ho hid hj
      induction L with
      | nil => rfl
      | cons a l ih => simp only [List.map_cons, List.flatten_cons, List.singleton_append] at ih ⊢; rw [ih]
    rw [hfl, List.getElem?_map, Option.map_eq_some_iff] at hj
    obtain ⟨rs, hrs, rfl⟩ := hj
    have hlt := (List.getElem?_eq_some_iff.1 hrs).1
    exact ⟨_, gr_at hlt, LnV.nv hid hrs⟩
theorem LnV.sv {id e a m : Nat} {rows : List (List PV)} (hm : (id, .arr e rows) ∈ B) (hle : ∀ r ∈ rows, r.length = e) (ha : a + m ≤ rows.length) : LnV B (.sv id (a * e) m) (.p (.sl e ((rows.drop a).take m))) := fun M ρ w u hH hr => by
  simp only [RepV, RepPV] at hr ⊢
  have hlen : ((rows.drop a).take m).length = m := by rw [List.length_take, List.length_drop]; omega
  rcases hr with ⟨rfl, a', c, rfl⟩ | ⟨b, o, N, cap, c, h1, rfl, h3, h4⟩
  · exact ⟨a', c, by rw [List.take_zero]; rfl, by rw [List.take_zero]; exact Nat.zero_le _, by rw [List.take_zero]; exact Nat.zero_le _, .inl (List.take_zero)⟩
  · refine ⟨_, c, by rw [hlen], by rw [hlen]; exact h3, by rw [hlen]; omega, .inr ⟨b, _, rfl, ?_⟩⟩
    have hA : ArrIn M w (ρ id) e rows := hH.2 id _ hm
    obtain ⟨av, cap', g1, g2, g3, g4⟩ := hA
    rw [h1] at g1
    simp only [Value.slice.injEq] at g1
    rcases g4 with ⟨g4, _⟩ | ⟨b', o', cs, el, fz, g5, g6, _, _, g8⟩
    · rw [g4] at g1; cases g1.1
    · rw [g5] at g1
      simp only [Option.some.injEq, Addr.mk.injEq] at g1
      obtain ⟨⟨rfl, rfl, _⟩, _⟩ := g1
      have hb : ∃ i r, (i, r) ∈ B ∧ Bk (ρ i) b := ⟨id, _, hm, by rw [h1]; rfl⟩
      have := RowsIn.mono (M' := lentN M ρ w B) lentN_le (fun i c hc => lentN_cell hH.1 hb g6 i c hc) _ _ g8
      exact (this.drop a).take m
end
end Hw
/- The engine, part BO: what a call of the library's leaves, in general; rows that are laid over; arrays sorted. -/
namespace Hw
open Go Go.Proofs Go.Sort

section
variable {α : Type} [Inhabited α]
end
end Hw
/- The engine, part BP: grids that a call leaves: an owned array of owned arrays under new names. -/
namespace Hw
open Go Go.Proofs

theorem apart_pw {cs : List Value} : Apart cs ↔ cs.Pairwise fun x y => ∀ b, blk x = some b → blk y ≠ some b := by
  rw [List.pairwise_iff_getElem]
  constructor
  · intro h i j hi hj hij b hb hb'
    exact h i j b _ _ (List.getElem?_eq_getElem hi) (List.getElem?_eq_getElem hj) (by omega) hb hb'
  · intro h i j b x y hx hy hne hb hb'
    obtain ⟨hi, rfl⟩ := List.getElem?_eq_some_iff.1 hx
    obtain ⟨hj, rfl⟩ := List.getElem?_eq_some_iff.1 hy
    rcases Nat.lt_or_ge i j with h1 | h1
    · exact h i j hi hj h1 b hb hb'
    · exact h j i hj hi (by omega) b hb' hb
theorem Apart.sub {cs ds : List Value} (h : Apart cs) (hs : ds.Sublist cs) : Apart ds := apart_pw.2 ((apart_pw.1 h).sublist hs)
theorem Apart.cons {cs : List Value} {v : Value} (h : Apart cs) (hv : ∀ c ∈ cs, ∀ b, blk c = some b → blk v ≠ some b) : Apart (v :: cs) :=
  apart_pw.2 (List.pairwise_cons.2 ⟨fun c hc b hb hb' => hv c hc b hb' hb, apart_pw.1 h⟩)

def RowDone (w w' : World) (b0 : Option Nat) (ys : List Value) (v : Value) : Prop := ∃ (B o cap : Nat) (cs : Array Value) (el : TypeId) (fz : Nat × Nat), v = .slice (some ⟨B, o, none⟩) ys.length cap ∧ w'.heap[B]? = some (.cells cs el fz) ∧ Unfrozen fz cs.size ∧
  o + cap ≤ cs.size ∧ ys.length ≤ cap ∧ cap ≤ 9223372036854775807 ∧ (∀ (j : Nat) u, ys[j]? = some u → cs[o + j]? = some u) ∧ (w.heap.size ≤ B ∨ b0 = some B) ∧ (∀ k, k < w.heap.size → b0 ≠ some k → w'.heap[k]? = w.heap[k]?) ∧
  w.heap.size ≤ w'.heap.size ∧ w'.os = w.os ∧ w'.tape = w.tape ∧ w'.output = w.output
end Hw
/- The engine, part BQ: laws of grids: lent, taken in, put together, read, written. -/
namespace Hw
open Go

theorem RwR.grid {F : (Nat → Value) → Prop} {a b n : Nat} (h : ∀ j, j < n → RwV F (.nv a j) (.nv b j)) : RwR F (.vw [a] 1 (gr n)) (.vw [b] 1 (gr n)) := RwR.vw rfl (gr_one n) fun j x' hj => by
  rw [gr, grJ_flat, List.getElem?_map, Option.map_eq_some_iff] at hj
  obtain ⟨q, hq, rfl⟩ := hj
  have hlt := (List.getElem?_eq_some_iff.1 hq).1
  rw [List.length_range] at hlt
  rw [List.getElem?_range hlt] at hq
  obtain rfl := Option.some.inj hq
  exact ⟨_, gr_at hlt, by simpa [toV] using h j hlt⟩
theorem TkF.arr {id id2 id' m n : Nat} (h : n = m) : RwV (TkF id id2 id' m) (.ar id2) (.nv id' n) := by subst h; exact TkF.ar
section
variable {P : Program} {C : Ctx} {k : List Frm} {n : Nat} {sl : Slots} {tab : Tab} {Q : Exit → St → Prop} {all : Array Oper} {rest : List Oper}
end
end Hw
/- The engine, part BR: an owned array whose cells are all pure, told so. -/
namespace Hw
open Go

section
variable {P : Program} {C : Ctx} {k : List Frm} {n : Nat} {sl : Slots} {tab : Tab} {Q : Exit → St → Prop} {cur : Cur}
end
section
variable {P : Program} {d : Option Nat} {ty : TypeId} {ps : String} {af : Array Edge} {g : Option (Nat × Bool)} {x y z : Operand} {t : TypeId}
end
section
variable {P : Program} {C : Ctx} {k : List Frm} {n : Nat} {sl : Slots} {tab : Tab} {Q : Exit → St → Prop} {all : Array Oper} {rest : List Oper}
end
end Hw
/- The engine, part BS: a literal slice of the run's own. -/
namespace Hw
open Go
section
variable {P : Program} {d : Option Nat} {ty : TypeId} {ps : String} {af : Array Edge} {g : Option (Nat × Bool)} {t : TypeId}
end
section
variable {P : Program} {C : Ctx} {k : List Frm} {n : Nat} {sl : Slots} {tab : Tab} {Q : Exit → St → Prop} {all : Array Oper} {rest : List Oper}
end
end Hw
/- The engine, part BT: a cell's address of an array in a box; the least and the greatest of two. -/
namespace Hw
open Go
section
variable {P : Program} {d : Option Nat} {ty : TypeId} {ps : String} {af : Array Edge} {g : Option (Nat × Bool)} {x y : Operand} {t : TypeId}
end
section
variable {P : Program} {C : Ctx} {k : List Frm} {n : Nat} {sl : Slots} {tab : Tab} {Q : Exit → St → Prop} {all : Array Oper} {rest : List Oper}
end
section
variable {P : Program} {d : Option Nat} {ty : TypeId} {ps : String} {af : Array Edge} {g : Option (Nat × Bool)} {x1 x2 : Operand}
end
section
variable {P : Program} {C : Ctx} {k : List Frm} {n : Nat} {sl : Slots} {tab : Tab} {Q : Exit → St → Prop} {all : Array Oper} {rest : List Oper}
end
end Hw
/- The engine, part BU: copy from one slice to another. -/
namespace Hw
open Go
section
variable {P : Program} {d : Option Nat} {ty : TypeId} {ps : String} {af : Array Edge} {g : Option (Nat × Bool)} {x y : Operand} {t tx : TypeId}
def DstV (ρ : Nat → Value) (id k e m : Nat) (v : Value) : Prop := (m = 0 ∧ ∃ (a : Option Addr) (c : Nat), v = .slice a 0 c) ∨ ∃ (b o N cap c : Nat), ρ id = .slice (some ⟨b, o, none⟩) N cap ∧ v = .slice (some ⟨b, o + k * e, none⟩) m c
def SrcC (e : Nat) (s : S) (rt : RL) (n : Nat) (rows2 : List (List PV)) : Prop :=
  ∀ (C : Ctx) (st : St) (M : Mem) (ρ : Nat → Value) (a : Act) (w : World) (v : Value), Holds C st M ρ a w → RepS M ρ s v → okT rt st →
    rows2.length = n ∧ ∃ (ad : Option Addr) (cap : Nat), v = .slice ad n cap ∧ (n = 0 ∨ ∃ (b o : Nat) (gg : Nat → Option Value), ad = some ⟨b, o, none⟩ ∧ (∀ i c, gg i = some c → w.cell? ⟨b, i, none⟩ = some c) ∧ RowsIn M gg e rows2 o)
theorem SrcC.sl {e : Nat} {rows : List (List PV)} : SrcC e (.one (.p (.sl e rows))) [] rows.length rows := fun C st M ρ a w v hH hr _ => by
  simp only [RepS, RepV, RepPV] at hr
  obtain ⟨ad, cap, h1, _, _, h4⟩ := hr
  refine ⟨rfl, ad, cap, h1, ?_⟩
  rcases h4 with h4 | ⟨b, o, h5, h6⟩
  · exact .inl (by rw [h4]; rfl)
  · exact .inr ⟨b, o, M b, h5, fun i c hi => hH.run.imm b i c hi, h6⟩
theorem SrcC.sv {id e n : Nat} {rows : List (List PV)} (hn : n ≤ rows.length) : SrcC e (.one (.sv id 0 n)) [(id, .arr e rows)] n (rows.take n) := fun C st M ρ a w v hH hr ht => by
  simp only [RepS, RepV] at hr
  refine ⟨by rw [List.length_take]; omega, ?_⟩
  rcases hr with ⟨h0, ad, c, h1⟩ | ⟨b, o, N, cap, c, h1, h2, _, _⟩
  · subst h0; exact ⟨ad, c, h1, .inl rfl⟩
  · refine ⟨_, c, h2, ?_⟩
    obtain ⟨ad, cap', h3, h4, h5, h6⟩ := hH.tabs.res id _ ht.1
    rw [h1] at h3
    simp only [Value.slice.injEq] at h3
    rcases h6 with ⟨h6, _⟩ | ⟨b', o', cs, el, fz, h6, h7, _, _, h8⟩
    · rw [h6] at h3; cases h3.1
    · rw [h6] at h3
      have hbo : b = b' ∧ o = o' := by have := h3.1; simp at this; exact this
      obtain ⟨rfl, rfl⟩ := hbo
      exact .inr ⟨b, o + 0, fun i => cs[i]?, rfl, fun i c hi => by simp only [World.cell?, h7]; simpa using hi, by rw [Nat.add_zero]; exact h8.take n⟩
theorem DstV.ar {C : Ctx} {st : St} {M : Mem} {ρ : Nat → Value} {a : Act} {w : World} (hH : Holds C st M ρ a w) {id e : Nat} {rows : List (List PV)} {v : Value} (hT : tg st.tab id = some (.arr e rows)) (h : RepS M ρ (.one (.ar id)) v) : DstV ρ id 0 e rows.length v := by
  simp only [RepS, RepV] at h
  obtain ⟨ad, cap, h3, h4, h5, h6⟩ := hH.tabs.res id _ hT
  rcases h6 with ⟨h6, h7⟩ | ⟨b, o, cs, el, fz, h6, _⟩
  · exact .inl ⟨by omega, ad, cap, by rw [h.1, h3, show rows.length = 0 by omega]⟩
  · exact .inr ⟨b, o, rows.length, cap, cap, by rw [h3, h6], by rw [h.1, h3, h6, Nat.zero_mul, Nat.add_zero]⟩
theorem DstV.sv {M : Mem} {ρ : Nat → Value} {id k e m : Nat} {v : Value} (h : RepS M ρ (.one (.sv id (k * e) m)) v) : DstV ρ id k e m v := by
  simp only [RepS, RepV] at h
  rcases h with ⟨h0, ad, c, h1⟩ | ⟨b, o, N, cap, c, h1, h2, _, _⟩
  · exact .inl ⟨h0, ad, c, h1⟩
  · exact .inr ⟨b, o, N, cap, c, h1, h2⟩
end
section
variable {P : Program} {C : Ctx} {k : List Frm} {n : Nat} {sl : Slots} {tab : Tab} {Q : Exit → St → Prop} {all : Array Oper} {rest : List Oper}
end
end Hw
namespace Hw.Pa
open Go Go.Proofs Hw.M

theorem parts_le (op : Int) : partsS op ≤ 3 := by
  unfold partsS
  repeat' split
  all_goals decide
theorem node_facts {op n : Int} {s : Str} {l : List Ex} (h : nodeS (.mk op n s l) = true) : l.length ≤ 6 ∧ (op = 1 → 0 ≤ n ∧ n ≤ 1099511627776) ∧ partsS op ≠ -2 ∧ (0 ≤ partsS op → (l.length : Int) = partsS op) := by
  have h : (!decide (partsS op = -2) && !(decide (0 ≤ partsS op) && !decide ((l.length : Int) = partsS op)) && !(decide (partsS op = -1) && decide (6 < (l.length : Int))) && namedS (.mk op n s l) &&
      (if op = 1 then decide (0 ≤ n) && decide (n ≤ 1099511627776) else if op = 2 then decide (n = 0) || decide (n = 1) else decide (n = 0))) = true := h
  simp only [Bool.and_eq_true] at h
  obtain ⟨⟨⟨⟨h1, h2⟩, h3⟩, h4⟩, h5⟩ := h
  have h1 : partsS op ≠ -2 := by simpa using h1
  have hle := parts_le op
  have hge : -2 ≤ partsS op := by
    unfold partsS
    repeat' split
    all_goals decide
  have hl : 0 ≤ partsS op → (l.length : Int) = partsS op := fun h => by
    rw [decide_eq_true h] at h2
    simpa using h2
  refine ⟨?_, ?_, h1, hl⟩
  · by_cases h : 0 ≤ partsS op
    · have := hl h; omega
    · have hm : partsS op = -1 := by omega
      rw [decide_eq_true hm] at h3
      have : ¬ 6 < (l.length : Int) := by simpa using h3
      omega
  · intro e
    rw [if_pos e] at h5
    simp only [Bool.and_eq_true, decide_eq_true_eq] at h5
    exact h5
theorem partsF_len : ∀ (l : List Ex) (how : Nat), (partsF l how).length = l.length
  | [], _ => by simp [partsF]
  | x :: r, how => by simp only [partsF, List.length_cons, partsF_len r]
theorem own_size {op n : Int} {s : Str} {ps : List Str} (hs : s.size ≤ 40) (hn : op = 1 → 0 ≤ n ∧ n ≤ 1099511627776) (hl : ps.length ≤ 6) : (ownF op n s ps).size ≤ sumS ps + 80 := by
  have hL := accC_size ps 0 (⟨#[]⟩ : ByteArray)
  have h0 : ((⟨#[]⟩ : ByteArray) : Str).size = 0 := rfl
  have hlst : (lstC ps).size ≤ sumS ps + 14 := by
    unfold lstC
    rw [size_app, size_app]
    have h1 : ((⟨#[40]⟩ : ByteArray) : Str).size = 1 := rfl
    have h2 : ((⟨#[41]⟩ : ByteArray) : Str).size = 1 := rfl
    omega
  have g0 := getD_size ps 0
  have g2 := get2_size ps
  have hsg : (sgnS op).size ≤ 3 := by
    unfold sgnS
    split
    · rename_i x hx
      have hm := List.mem_of_find?_eq_some hx
      have : ∀ x ∈ signT, x.2.2.size ≤ 3 := by decide
      exact this x hm
    · show 0 ≤ 3; decide
  unfold ownF
  by_cases q1 : op = 1
  · rw [if_pos q1]
    obtain ⟨a, b⟩ := hn q1
    have := itoaB_size (n := n) (by omega) (by omega)
    omega
  rw [if_neg q1]
  by_cases q2 : op = 2
  · rw [if_pos q2]
    split
    · have : ((⟨#[116, 114, 117, 101]⟩ : ByteArray) : Str).size = 4 := rfl
      omega
    · have : ((⟨#[102, 97, 108, 115, 101]⟩ : ByteArray) : Str).size = 5 := rfl
      omega
  rw [if_neg q2]
  by_cases q3 : op = 3
  · rw [if_pos q3]
    have : ((⟨#[110, 105, 108]⟩ : ByteArray) : Str).size = 3 := rfl
    omega
  rw [if_neg q3]
  by_cases q4 : op = 4
  · rw [if_pos q4]
    omega
  rw [if_neg q4]
  by_cases q6 : op = 6
  · rw [if_pos q6]
    rw [size_app]
    have : ((⟨#[110, 101, 119, 32]⟩ : ByteArray) : Str).size = 4 := rfl
    omega
  rw [if_neg q6]
  by_cases q5 : op = 5
  · rw [if_pos q5]
    rw [size_app, size_app]
    have : ((⟨#[32, 46, 32]⟩ : ByteArray) : Str).size = 3 := rfl
    omega
  rw [if_neg q5]
  by_cases q7 : op = 7
  · rw [if_pos q7]
    rw [size_app, size_app]
    have : ((⟨#[32]⟩ : ByteArray) : Str).size = 1 := rfl
    omega
  rw [if_neg q7]
  by_cases q21 : op = 21
  · rw [if_pos q21]
    rw [size_app]
    have : ((⟨#[105, 102]⟩ : ByteArray) : Str).size = 2 := rfl
    omega
  rw [if_neg q21]
  by_cases q22 : op = 22
  · rw [if_pos q22]
    rw [size_app]
    have : ((⟨#[109, 97, 120]⟩ : ByteArray) : Str).size = 3 := rfl
    omega
  rw [if_neg q22]
  by_cases q23 : op = 23
  · rw [if_pos q23]
    rw [size_app]
    have : ((⟨#[109, 105, 110]⟩ : ByteArray) : Str).size = 3 := rfl
    omega
  rw [if_neg q23]
  by_cases q24 : op = 24
  · rw [if_pos q24]
    rw [size_app]
    have : ((⟨#[108, 111, 103]⟩ : ByteArray) : Str).size = 3 := rfl
    omega
  rw [if_neg q24]
  by_cases q18 : op = 18
  · rw [if_pos q18]
    rw [size_app]
    have : ((⟨#[110, 111, 116, 32]⟩ : ByteArray) : Str).size = 4 := rfl
    omega
  rw [if_neg q18]
  by_cases q8 : op = 8
  · rw [if_pos q8]
    rw [size_app]
    have : ((⟨#[45]⟩ : ByteArray) : Str).size = 1 := rfl
    omega
  rw [if_neg q8]
  rw [size_app, size_app]
  omega
mutual
theorem full_size : ∀ (x : Ex) (how : Nat), vE x = true → (fullS x how).size ≤ 150 * cntE x
  | .mk op n s l, how, h => by
    simp only [vE, Bool.and_eq_true] at h
    obtain ⟨h1, h2, _⟩ := node_facts h.1
    have h3 := node_size h.1
    have h4 := parts_size l how h.2
    have h5 := own_size (ps := partsF l how) h3 h2 (by rw [partsF_len]; exact h1)
    simp only [fullS, cntE]
    omega
theorem parts_size : ∀ (l : List Ex) (how : Nat), vEs l = true → sumS (partsF l how) ≤ 150 * cntEs l + 9 * l.length
  | [], _, _ => by simp [partsF, sumS]
  | x :: r, how, h => by
    simp only [vEs, Bool.and_eq_true] at h
    have h1 := full_size x (how / 3) h.1
    have h2 := parts_size r how h.2
    have h3 := opn_size how
    have h4 := cls_size how
    simp only [partsF, sumS, cntEs, List.length_cons]
    rw [size_app, size_app]
    omega
end
theorem u8q (how : Nat) (hh : how < 256) : IntKind.u8.wrap ((how : Int).tdiv 3) = ((how / 3 : Nat) : Int) := by
  rw [show (how : Int).tdiv 3 = ((how / 3 : Nat) : Int) from rfl]
  have e : ∀ v : Int, IntKind.u8.wrap v = v % 256 := fun v => rfl
  rw [e]
  omega
abbrev fullR (e : Ex) (how : Nat) : RL := [(0, .box [.p (ks (opn how))]), (1, .box ((exprC e).map V.p)), (2, .box [.p (.k (.int .u8 (how : Int)))]), (3, .box [.p (ks (cls how))])]
abbrev full5 (e : Ex) (how : Nat) : RL := [(0, .box [.p (ks (opn how))]), (1, .box ((exprC e).map V.p)), (2, .box [.p (.k (.int .u8 (how : Int)))]), (3, .box [.p (ks (cls how))]), (4, .box [.cl 49 [] [.bx 0 0, .bx 1 0, .bx 2 0, .bx 3 0]])]
theorem accC_snoc : ∀ (ps : List Str) (p : Str) (i : Nat) (a : Str), accC (ps ++ [p]) i a = (if 0 < i + ps.length then accC ps i a ++ (⟨#[32, 44]⟩ : ByteArray) else accC ps i a) ++ p
  | [], p, i, a => by simp [accC]
  | q :: r, p, i, a => by
    have h := accC_snoc r p (i + 1) ((if 0 < i then a ++ (⟨#[32, 44]⟩ : ByteArray) else a) ++ q)
    rw [if_pos (show 0 < i + 1 + r.length by omega)] at h
    rw [if_pos (show 0 < i + (q :: r).length by simp only [List.length_cons]; omega)]
    exact h
theorem sumS_take (ps : List Str) (i : Nat) : sumS (ps.take i) ≤ sumS ps := by
  induction ps generalizing i with
  | nil => simp [sumS]
  | cons p r ih =>
    cases i with
    | zero => simp [sumS]
    | succ i => simp only [List.take_succ_cons, sumS]; have := ih i; omega
theorem part_ok (e : Ex) (how i : Nat) {x : Ex} (hx : e.l[i]? = some x) (hh : how < 256) (hf : FnOK Tryz.prog 19 [aggS (exprC x), Kk .u8 ((how / 3 : Nat) : Int)] [] (Sr (fullS x (how / 3))) []) (hz : (fullS x (how / 3)).size ≤ 1000000) :
    FnOK Tryz.prog 49 [I (i : Nat), .one (.bx 0 0), .one (.bx 1 0), .one (.bx 2 0), .one (.bx 3 0)] (fullR e how) (Sr (opn how ++ fullS x (how / 3) ++ cls how)) (fullR e how) := by
  have h1 := opn_size how
  have h2 := cls_size how
  have hq : IntKind.u8.wrap ((how : Int).tdiv 3) = ((how / 3 : Nat) : Int) := u8q how hh
  rw [← hq] at hf
  refine fn_ok T Tryz.func49 (by kernel_rfl) rfl rfl rfl rfl fun C hC => ?_
  repeat' first | refine g_go T hC true 400 rfl rfl ?_ | refine g_cond rfl (fun h => ?_) (fun h => ?_) | refine g_end T hC (by kernel_rfl) ?_ | refine g_splitD (fun h => ?_) (fun h => ?_) | refine g_idx T hC rfl rfl rfl (Int.natCast_nonneg _) (map_atE hx) rfl rfl ?_ | refine g_quo hC rfl rfl (by decide) rfl rfl ?_ | refine g_call hC (hf) rfl rfl (LeSs.refl _) rfl rfl rfl ?_ | (refine g_cat hC rfl rfl (by omega) rfl rfl ?_) | (refine g_cat hC rfl rfl (by rw [size_app]; omega) rfl rfl ?_) | refine g_retl T (.inl rfl) rfl ?_
  exact g_fin ⟨.inl rfl, id, _, rfl, .refl _, ⟨rfl, rfl, rfl, rfl, trivial⟩, rfl, rfl⟩
theorem list_ok (e : Ex) (how : Nat) (hh : how < 256) (hf : ∀ (i : Nat) (x : Ex), e.l[i]? = some x → FnOK Tryz.prog 19 [aggS (exprC x), Kk .u8 ((how / 3 : Nat) : Int)] [] (Sr (fullS x (how / 3))) []) (hz : ∀ (i : Nat) (x : Ex), e.l[i]? = some x → (fullS x (how / 3)).size ≤ 1000000) (hs : sumS (partsF e.l how) ≤ 1000000) (hl : e.l.length ≤ 6) :
    FnOK Tryz.prog 50 [.one (.bx 1 0), .one (.bx 4 0)] (full5 e how) (Sr (lstC (partsF e.l how))) (full5 e how) := by
  refine fn_ok T Tryz.func50 (by kernel_rfl) rfl rfl rfl rfl fun C hC => ?_
  repeat' first | refine g_go T hC true 400 rfl rfl ?_ | refine g_cond rfl (fun h => ?_) (fun h => ?_)
  refine g_loop (fun i : Nat => i ≤ e.l.length ∧ True) (fun i => ([(0, .one (.bx 1 0)), (1, .one (.bx 4 0)), (3, Sr (accC ((partsF e.l how).take i) 0 (⟨#[]⟩ : ByteArray))), (6, pS (exprsP e.l)), (7, I ((e.l.map exprR).length : Nat)), (8, I (i : Nat))], tb (full5 e how))) (fun i => e.l.length - i) hC
    0 ⟨Nat.zero_le _, trivial⟩ id ⟨rfl, ⟨rfl, rfl, rfl, rfl, rfl, rfl, trivial⟩, ⟨rfl, rfl, rfl, rfl, rfl, trivial⟩, rfl, fun _ _ => rfl⟩ ?_
  rintro i ⟨hi, _⟩
  have hpl := partsF_len e.l how
  by_cases hlt : i < e.l.length
  · obtain ⟨x, hx⟩ := exists_at hlt
    have hp := partsF_at how hx
    have hP := part_ok e how i hx hh (hf i x hx) (hz i x hx)
    have hac := accC_size ((partsF e.l how).take i) 0 (⟨#[]⟩ : ByteArray)
    have hst := sumS_take (partsF e.l how) i
    have h0 : ((⟨#[]⟩ : ByteArray) : Str).size = 0 := rfl
    have h2 : ((⟨#[32, 44]⟩ : ByteArray) : Str).size = 2 := rfl
    have htl : ((partsF e.l how).take i).length = i := by rw [List.length_take]; omega
    have hts : accC ((partsF e.l how).take (i + 1)) 0 (⟨#[]⟩ : ByteArray) = (if 0 < i then accC ((partsF e.l how).take i) 0 (⟨#[]⟩ : ByteArray) ++ (⟨#[32, 44]⟩ : ByteArray) else accC ((partsF e.l how).take i) 0 (⟨#[]⟩ : ByteArray)) ++ (opn how ++ fullS x (how / 3) ++ cls how) := by
      rw [List.take_add_one, hp]
      show accC (_ ++ [_]) 0 (⟨#[]⟩ : ByteArray) = _
      rw [accC_snoc, Nat.zero_add, htl]
    have hps : (opn how ++ fullS x (how / 3) ++ cls how : Str).size ≤ 1000010 := by
      have := opn_size how
      have := cls_size how
      have := hz i x hx
      rw [size_app, size_app]; omega
    by_cases hi0 : 0 < i
    · rw [if_pos hi0] at hts
      repeat' first | refine g_go T hC true 400 rfl rfl ?_ | (exfalso; have h' := of_decide_eq_false h; (try simp only [List.length_map] at h'); omega) | refine g_cond rfl (fun h => ?_) (fun h => ?_) | refine g_callR hC (hP) (nm [0, 1, 2, 3]) rfl rfl (LeSs.refl _) rfl rfl rfl rfl rfl rfl rfl rfl ?_ | (refine g_cat hC rfl rfl (by omega) rfl rfl ?_) | (refine g_cat hC rfl rfl (by rw [size_app]; omega) rfl rfl ?_)
      rw [← hts, wrapS (i := i) (by omega)]
      exact g_round (i + 1) ⟨hlt, trivial⟩ id (by omega) ⟨rfl, ⟨rfl, rfl, rfl, rfl, rfl, rfl, trivial⟩, ⟨rfl, rfl, rfl, rfl, rfl, trivial⟩, rfl, fun _ _ => rfl⟩
    · rw [if_neg hi0] at hts
      repeat' first | refine g_go T hC true 400 rfl rfl ?_ | (exfalso; have h' := of_decide_eq_false h; (try simp only [List.length_map] at h'); omega) | (exfalso; have h' := of_decide_eq_true h; omega) | refine g_cond rfl (fun h => ?_) (fun h => ?_) | refine g_callR hC (hP) (nm [0, 1, 2, 3]) rfl rfl (LeSs.refl _) rfl rfl rfl rfl rfl rfl rfl rfl ?_ | (refine g_cat hC rfl rfl (by omega) rfl rfl ?_)
      rw [← hts, wrapS (i := i) (by omega)]
      exact g_round (i + 1) ⟨hlt, trivial⟩ id (by omega) ⟨rfl, ⟨rfl, rfl, rfl, rfl, rfl, rfl, trivial⟩, ⟨rfl, rfl, rfl, rfl, rfl, trivial⟩, rfl, fun _ _ => rfl⟩
  · have hac := accC_size (partsF e.l how) 0 (⟨#[]⟩ : ByteArray)
    have h0 : ((⟨#[]⟩ : ByteArray) : Str).size = 0 := rfl
    have h1 : ((⟨#[40]⟩ : ByteArray) : Str).size = 1 := rfl
    have h3 : ((⟨#[41]⟩ : ByteArray) : Str).size = 1 := rfl
    rw [List.take_of_length_le (by omega)]
    repeat' first | refine g_go T hC true 400 rfl rfl ?_ | (exfalso; have h' := of_decide_eq_true h; (try simp only [List.length_map] at h'); omega) | refine g_cond rfl (fun h => ?_) (fun h => ?_) | refine g_outE ?_ | (refine g_cat hC rfl rfl (by omega) rfl rfl ?_) | (refine g_cat hC rfl rfl (by rw [size_app]; omega) rfl rfl ?_) | refine g_retl T (.inl rfl) rfl ?_
    exact g_fin ⟨.inl rfl, id, _, rfl, .refl _, ⟨rfl, rfl, rfl, rfl, rfl, trivial⟩, rfl, rfl⟩
end Hw.Pa
namespace Hw.Pa
open Go Go.Proofs Hw.M

theorem bin_ops {op : Int} (h : partsS op = 2) (h2 : op ≠ 22) (h3 : op ≠ 23) : op = 9 ∨ op = 10 ∨ op = 11 ∨ op = 12 ∨ op = 13 ∨ op = 14 ∨ op = 15 ∨ op = 16 ∨ op = 17 ∨ op = 19 ∨ op = 20 := by
  have h1 : 9 ≤ op ∧ op ≤ 23 ∧ op ≠ 18 ∧ op ≠ 21 := by
    unfold partsS at h
    repeat' (split at h)
    all_goals (first | (exfalso; omega) | skip)
    all_goals simp_all
    all_goals omega
  omega
theorem sg_valid {op : Int} (h : partsS op = 2) (h2 : op ≠ 22) (h3 : op ≠ 23) : LXs (lst (sgnS op)) [sgT op] := by
  have hv : validF (sgT op) = true ∧ (sgT op).k ≠ 5 ∧ txtT (sgT op) = lst (sgnS op) := by
    rcases bin_ops h h2 h3 with rfl | rfl | rfl | rfl | rfl | rfl | rfl | rfl | rfl | rfl | rfl
    all_goals exact ⟨by decide, by decide, rfl⟩
  have := LXs.tok hv.1 hv.2.1
  rwa [hv.2.2] at this
theorem PL.at {ps : List Str} {ks : List (List Tok)} (h : PL ps ks) {i : Nat} (hi : i < ps.length) : LXa (lst (ps.getD i (⟨#[]⟩ : ByteArray))) (ks.getD i []) ∧ ∀ r, Sep (lst (ps.getD i (⟨#[]⟩ : ByteArray)) ++ r) := by
  induction ps generalizing ks i with
  | nil => cases hi
  | cons p ps ih =>
    cases ks with
    | nil => exact h.elim
    | cons k ks =>
      obtain ⟨h1, h2, h3⟩ := h
      cases i with
      | zero => exact ⟨h1, h2⟩
      | succ i => exact ih h3 (by simpa using hi)
theorem own_lx {op n : Int} {s : Str} {l : List Ex} {ps : List Str} {ks : List (List Tok)} (hv : nodeS (.mk op n s l) = true) (hp : PL ps ks) (hl : ps.length = l.length) : LXs (lst (ownF op n s ps)) (ownK op n s ks) := by
  obtain ⟨_, hn, hp2, har⟩ := node_facts hv
  have hnm : namedS (.mk op n s l) = true := by
    unfold nodeS at hv
    simp only [Bool.and_eq_true] at hv
    exact hv.1.2
  have hnm : (if op = 4 then decide (s = (⟨#[116, 104, 105, 115]⟩ : ByteArray)) || isName s else if op = 5 ∨ op = 6 ∨ op = 7 then isName s else decide (s = (⟨#[]⟩ : ByteArray))) = true := hnm
  have bl : ∀ r : By, Sep ([32] ++ r) := fun r => .inr ⟨32, r, rfl, by decide⟩
  have B := LXa.blank (c := 32) (by decide)
  have one : partsS op = 1 → 0 < ps.length := fun e => by have := har (by omega); omega
  unfold ownF ownK
  by_cases q1 : op = 1
  · rw [if_pos q1, if_pos q1]; obtain ⟨a, b⟩ := hn q1; exact lx_int a b
  rw [if_neg q1, if_neg q1]
  by_cases q2 : op = 2
  · rw [if_pos q2, if_pos q2]
    split
    · exact lx_kw (⟨#[116, 114, 117, 101]⟩ : ByteArray) (by decide)
    · exact lx_kw (⟨#[102, 97, 108, 115, 101]⟩ : ByteArray) (by decide)
  rw [if_neg q2, if_neg q2]
  by_cases q3 : op = 3
  · rw [if_pos q3, if_pos q3]; exact lx_kw (⟨#[110, 105, 108]⟩ : ByteArray) (by decide)
  rw [if_neg q3, if_neg q3]
  by_cases q4 : op = 4
  · rw [if_pos q4, if_pos q4]
    rw [if_pos q4] at hnm
    by_cases qt : s = (⟨#[116, 104, 105, 115]⟩ : ByteArray)
    · rw [if_pos qt, qt]; exact lx_kw (⟨#[116, 104, 105, 115]⟩ : ByteArray) (by decide)
    · rw [if_neg qt]
      rw [decide_eq_false qt, Bool.false_or] at hnm
      exact lx_nm hnm
  rw [if_neg q4, if_neg q4]
  rw [if_neg q4] at hnm
  by_cases q6 : op = 6
  · rw [if_pos q6, if_pos q6]
    rw [if_pos (.inr (.inl q6))] at hnm
    rw [lst_app]
    exact ((lx_kw (⟨#[110, 101, 119]⟩ : ByteArray) (by decide)).app (B.appS (lx_nm hnm)) fun r => .inr ⟨32, _, rfl, by decide⟩)
  rw [if_neg q6, if_neg q6]
  by_cases q5 : op = 5
  · rw [if_pos q5, if_pos q5]
    rw [if_pos (.inl q5)] at hnm
    obtain ⟨p0, _⟩ := hp.at (one (by rw [q5]; rfl))
    rw [lst_app, lst_app, List.append_assoc]
    exact p0.appS (B.appS ((lx_sy (⟨#[46]⟩ : ByteArray) (by decide)).app (B.appS (lx_nm hnm)) fun r => .inr ⟨32, _, rfl, by decide⟩))
  rw [if_neg q5, if_neg q5]
  by_cases q7 : op = 7
  · rw [if_pos q7, if_pos q7]
    rw [if_pos (.inr (.inr q7))] at hnm
    rw [lst_app, lst_app, List.append_assoc]
    exact ((lx_nm hnm).appA (B.app (lst_lx hp)) fun r => .inr ⟨32, _, rfl, by decide⟩).s
  rw [if_neg q7, if_neg q7]
  by_cases q21 : op = 21
  · rw [if_pos q21, if_pos q21, lst_app]; exact ((lx_kw (⟨#[105, 102]⟩ : ByteArray) (by decide)).appA (lst_lx hp) (lst_sep ps)).s
  rw [if_neg q21, if_neg q21]
  by_cases q22 : op = 22
  · rw [if_pos q22, if_pos q22, lst_app]; exact ((lx_kw (⟨#[109, 97, 120]⟩ : ByteArray) (by decide)).appA (lst_lx hp) (lst_sep ps)).s
  rw [if_neg q22, if_neg q22]
  by_cases q23 : op = 23
  · rw [if_pos q23, if_pos q23, lst_app]; exact ((lx_kw (⟨#[109, 105, 110]⟩ : ByteArray) (by decide)).appA (lst_lx hp) (lst_sep ps)).s
  rw [if_neg q23, if_neg q23]
  by_cases q24 : op = 24
  · rw [if_pos q24, if_pos q24, lst_app]; exact ((lx_kw (⟨#[108, 111, 103]⟩ : ByteArray) (by decide)).appA (lst_lx hp) (lst_sep ps)).s
  rw [if_neg q24, if_neg q24]
  by_cases q18 : op = 18
  · rw [if_pos q18, if_pos q18, lst_app]
    obtain ⟨p0, _⟩ := hp.at (one (by rw [q18]; rfl))
    exact ((lx_kw (⟨#[110, 111, 116]⟩ : ByteArray) (by decide)).appA (B.app p0) fun r => .inr ⟨32, _, rfl, by decide⟩).s
  rw [if_neg q18, if_neg q18]
  by_cases q8 : op = 8
  · rw [if_pos q8, if_pos q8, lst_app]
    obtain ⟨p0, s0⟩ := hp.at (one (by rw [q8]; rfl))
    exact ((lx_sy (⟨#[45]⟩ : ByteArray) (by decide)).appA p0 s0).s
  rw [if_neg q8, if_neg q8]
  have hpo : partsS op = 2 := by
    unfold partsS at hp2 ⊢
    repeat' split
    all_goals (simp_all <;> omega)
  have h2 : ps.length = 2 := by have := har (by omega); omega
  obtain ⟨p0, _⟩ := hp.at (by omega : 0 < ps.length)
  obtain ⟨p1, s1⟩ := hp.at (by omega : 1 < ps.length)
  rw [lst_app, lst_app, List.append_assoc, List.append_assoc]
  exact p0.appS ((sg_valid hpo q22 q23).appA p1 s1).s
mutual
theorem full_lx : ∀ (x : Ex) (how : Nat), vE x = true → LXs (lst (fullS x how)) (fullK x how)
  | .mk op n s l, how, h => by
    simp only [vE, Bool.and_eq_true] at h
    simp only [fullS, fullK]
    exact own_lx h.1 (parts_lx l how h.2) (partsF_len l how)
theorem parts_lx : ∀ (l : List Ex) (how : Nat), vEs l = true → PL (partsF l how) (partsK l how)
  | [], _, _ => by simp only [partsF, partsK, PL]
  | x :: r, how, h => by
    simp only [vEs, Bool.and_eq_true] at h
    simp only [partsF, partsK, PL]
    refine ⟨?_, fun q => ?_, parts_lx r how h.2⟩
    · rw [lst_app, lst_app]
      exact ((opn_lx how).appS (full_lx x (how / 3) h.1)).appA (cls_lx how) (cls_sep how)
    · rw [lst_app, lst_app, List.append_assoc, List.append_assoc]
      exact opn_sep how _
end
end Hw.Pa
namespace Hw.Pa
open Go Go.Proofs Hw.M

def At (l : List Tok) (i : Nat) (ks : List Tok) : Prop := ∀ (j : Nat) (t : Tok), ks[j]? = some t → (l[i + j]?).map keyT = some (keyT t)
def OR {α : Type} (r : PA α) (x : α) (j : Nat) : Prop := r = .out ∨ r = .ok x j
theorem OR.ok {α : Type} {x : α} {j : Nat} : OR (.ok x j) x j := .inr rfl
theorem OR.out {α : Type} {x : α} {j : Nat} : OR .out x j := .inl rfl
theorem OR.bind {α β : Type} {r : PA α} {f : α → Nat → PA β} {y : α} {k : Nat} {x : β} {j : Nat} (h : OR r y k) (hf : OR (f y k) x j) : OR (r.bind f) x j := by
  rcases h with h | h
  · rw [h]; exact .out
  · rw [h]; exact hf
section
variable {l : List Tok}
theorem At.left {i : Nat} {a b : List Tok} (h : At l i (a ++ b)) : At l i a := fun j t ht => h j t (by rw [List.getElem?_append_left (List.getElem?_eq_some_iff.1 ht).1]; exact ht)
theorem At.right {i : Nat} {a b : List Tok} (h : At l i (a ++ b)) : At l (i + a.length) b := fun j t ht => by
  have := h (a.length + j) t (by rw [List.getElem?_append_right (by omega), Nat.add_sub_cancel_left]; exact ht)
  rw [show i + a.length + j = i + (a.length + j) by omega]; exact this
theorem At.isA {i : Nat} {t : Tok} {ts : List Tok} (h : At l i (t :: ts)) (s : Str) : isA l i s = ((decide (t.k = 3) || decide (t.k = 4)) && decide (t.t = s)) := by
  have h := h 0 t rfl
  rw [Nat.add_zero] at h
  unfold Hw.Pa.isA
  cases hl : l[i]? with
  | none => rw [hl] at h; cases h
  | some u =>
    rw [hl] at h
    simp only [Option.map_some, Option.some.injEq, keyT, Prod.mk.injEq] at h
    simp only [h.1, h.2.1]
theorem At.name {i : Nat} {s : Str} {ts : List Tok} (h : At l i (tK 1 s 0 :: ts)) : nameA l i = .ok s (i + 1) := by
  have h := h 0 _ rfl
  rw [Nat.add_zero] at h
  unfold nameA
  cases hl : l[i]? with
  | none => rw [hl] at h; cases h
  | some u =>
    rw [hl] at h
    simp only [Option.map_some, Option.some.injEq, keyT, Prod.mk.injEq] at h
    simp only [h.1, h.2.1, if_true]
theorem At.one {i : Nat} {s : Str} {ts : List Tok} (h : At l i (tK 4 s 0 :: ts)) : oneA l s i = .ok () (i + 1) := by
  unfold oneA
  rw [if_pos (by rw [h.isA]; simp)]
def NoOp (l : List Tok) (j n : Nat) : Prop := (∀ m, n ≤ m → opA l j m = none) ∧ ¬ isA l j (⟨#[46]⟩ : ByteArray) = true
def Stp (l : List Tok) (j : Nat) : Prop := ∀ s, isA l j s = true → s = (⟨#[41]⟩ : ByteArray) ∨ s = (⟨#[44]⟩ : ByteArray)
theorem Stp.no {j : Nat} (h : Stp l j) (n : Nat) : NoOp l j n := by
  refine ⟨fun m _ => ?_, fun e => by rcases h _ e with h | h <;> revert h <;> decide⟩
  unfold opA
  rw [Option.map_eq_none_iff, List.find?_eq_none]
  intro p hp e
  have hs : ∀ m, ∀ p ∈ opsA m, p.1 ≠ (⟨#[41]⟩ : ByteArray) ∧ p.1 ≠ (⟨#[44]⟩ : ByteArray) := by
    intro m
    by_cases h : m < 6
    · have : m = 0 ∨ m = 1 ∨ m = 2 ∨ m = 3 ∨ m = 4 ∨ m = 5 := by omega
      rcases this with rfl | rfl | rfl | rfl | rfl | rfl <;> decide
    · have : opsA m = [] := by unfold opsA; split <;> first | omega | rfl
      rw [this]; simp
  obtain ⟨h1, h2⟩ := hs m p hp
  rcases h _ e with h | h
  · exact h1 h
  · exact h2 h
theorem dots_no {j : Nat} {x : Ex} (h : ¬ isA l j (⟨#[46]⟩ : ByteArray) = true) (f : Nat) : OR (dotsA l f x j) x j := by
  cases f with
  | zero => simp only [dotsA]; exact .out
  | succ f => simp only [dotsA]; rw [if_neg h]; exact .ok
theorem more_no {j n : Nat} {x : Ex} (h : opA l j n = none) (f : Nat) : OR (moreA l f n x j) x j := by
  cases f with
  | zero => simp only [moreA]; exact .out
  | succ f => simp only [moreA]; rw [h]; exact .ok
theorem lift {i j : Nat} {x : Ex} {n0 : Nat} (hp : ∀ f, OR (postA l f i) x j) (h1 : ¬ isA l i (⟨#[110, 111, 116]⟩ : ByteArray) = true) (h2 : ¬ isA l i (⟨#[45]⟩ : ByteArray) = true) (hn : NoOp l j n0) : ∀ (f n : Nat), n0 ≤ n → n ≤ 6 → OR (exprA l f n i) x j := by
  intro f
  induction f with
  | zero => intro n _ _; simp only [exprA]; exact .out
  | succ f ih =>
    intro n hn0 hn6
    simp only [exprA]
    by_cases q2 : n = 2
    · rw [if_pos q2, if_neg h1]; exact ih 3 (by omega) (by omega)
    rw [if_neg q2]
    by_cases q6 : n = 6
    · rw [if_pos q6, if_neg h2]; exact hp f
    rw [if_neg q6]
    exact (ih (n + 1) (by omega) (by omega)).bind (more_no (hn.1 n hn0) f)
theorem post_of {i j : Nat} {x : Ex} (hp : ∀ f, OR (primA l f i) x j) (hd : ¬ isA l j (⟨#[46]⟩ : ByteArray) = true) (f : Nat) : OR (postA l f i) x j := by
  cases f with
  | zero => simp only [postA]; exact .out
  | succ f => simp only [postA]; exact (hp f).bind (dots_no hd f)
theorem paren {i j : Nat} {x : Ex} {ts : List Tok} (ho : At l i (tK 4 (⟨#[40]⟩ : ByteArray) 0 :: ts)) (he : ∀ f, OR (exprA l f 0 (i + 1)) x j) (hc : oneA l (⟨#[41]⟩ : ByteArray) j = .ok () (j + 1)) (f : Nat) : OR (primA l f i) x (j + 1) := by
  cases f with
  | zero => simp only [primA]; exact .out
  | succ f =>
    have hA := fun s => ho.isA s
    simp only [primA]
    have h0 := ho 0 _ rfl
    rw [Nat.add_zero] at h0
    cases hl : l[i]? with
    | none => rw [hl] at h0; cases h0
    | some u =>
      rw [hl] at h0
      simp only [Option.map_some, Option.some.injEq, keyT, Prod.mk.injEq] at h0
      simp only [h0.1]
      simp only [hA]
      simp
      rw [show (oneA l (⟨#[41]⟩ : ByteArray)) = oneA l (⟨#[41]⟩ : ByteArray) from rfl]
      refine (he f).bind ?_
      rw [hc]
      exact .ok
end
end Hw.Pa
namespace Hw.Pa
open Go Go.Proofs Hw.M

def partK (x : Ex) (how : Nat) : List Tok := opnK how ++ fullK x (how / 3) ++ clsK how
section
variable {l : List Tok}
theorem stp_of {k : Nat} {t : Tok} {ts : List Tok} (h : At l k (t :: ts)) (ht : t.t = (⟨#[41]⟩ : ByteArray) ∨ t.t = (⟨#[44]⟩ : ByteArray)) : Stp l k := fun s e => by
  rw [h.isA] at e
  simp only [Bool.and_eq_true, decide_eq_true_eq] at e
  rw [← e.2]; exact ht
theorem at_not {i : Nat} {t : Tok} {ts : List Tok} (h : At l i (t :: ts)) {s : Str} (hs : t.t ≠ s) : ¬ isA l i s = true := by
  rw [h.isA]
  simp [hs]
def FX (l : List Tok) (x : Ex) (how : Nat) : Prop := ∀ i, At l i (fullK x how) → Stp l (i + (fullK x how).length) → ∀ f, OR (exprA l f 0 i) x (i + (fullK x how).length)
theorem part_prim {x : Ex} {how : Nat} (hF : FX l x (how / 3)) {i : Nat} (ha : At l i (partK x how)) (f : Nat) : OR (primA l f i) x (i + (partK x how).length) := by
  unfold partK opnK clsK at ha ⊢
  by_cases h1 : how % 3 = 1
  · rw [if_pos h1, if_pos h1] at ha ⊢
    have a1 := ha.left
    have a2 := ha.right
    have b1 := a1.left
    have b2 := a1.right
    simp only [List.length_append, List.length_cons, List.length_nil] at a2 b2 ⊢
    have c1 : At l (i + 1) (tK 4 (⟨#[40]⟩ : ByteArray) 0 :: []) := fun j t ht => by
      have := b1 (j + 1) t (by simpa using ht)
      rw [show i + 1 + j = i + (j + 1) by omega]; exact this
    have hst := stp_of a2 (.inl rfl)
    have e1 := hF (i + 2) b2 (by rw [show i + 2 + (fullK x (how / 3)).length = i + (0 + 1 + 1 + (fullK x (how / 3)).length) by omega]; exact hst)
    have a3 : At l (i + (0 + 1 + 1 + (fullK x (how / 3)).length) + 1) (tK 4 (⟨#[41]⟩ : ByteArray) 0 :: []) := fun j t ht => by
      have := a2 (j + 1) t (by simpa using ht)
      rw [show i + (0 + 1 + 1 + (fullK x (how / 3)).length) + 1 + j = i + (0 + 1 + 1 + (fullK x (how / 3)).length) + (j + 1) by omega]; exact this
    have p1 := paren c1 (j := i + (0 + 1 + 1 + (fullK x (how / 3)).length)) (fun f => by
      have := e1 f
      rw [show i + 2 + (fullK x (how / 3)).length = i + (0 + 1 + 1 + (fullK x (how / 3)).length) by omega] at this
      exact this) a2.one
    have hs3 := stp_of a3 (.inl rfl)
    have p2 := lift (post_of p1 (hs3.no 0).2) (at_not c1 (by decide)) (at_not c1 (by decide)) (hs3.no 0)
    have p3 := paren b1 (fun f => p2 f 0 (Nat.le_refl _) (by decide)) a3.one f
    have e : i + (0 + 1 + 1 + (fullK x (how / 3)).length + (0 + 1 + 1)) = i + (0 + 1 + 1 + (fullK x (how / 3)).length) + 1 + 1 := by omega
    rw [e]
    exact p3
  · rw [if_neg h1, if_neg h1] at ha ⊢
    have a1 := ha.left
    have a2 := ha.right
    have b1 := a1.left
    have b2 := a1.right
    simp only [List.length_append, List.length_cons, List.length_nil] at a2 b2 ⊢
    have hst := stp_of a2 (.inl rfl)
    have e1 := hF (i + 1) b2 (by rw [show i + 1 + (fullK x (how / 3)).length = i + (0 + 1 + (fullK x (how / 3)).length) by omega]; exact hst)
    have p1 := paren b1 (j := i + (0 + 1 + (fullK x (how / 3)).length)) (fun f => by
      have := e1 f
      rw [show i + 1 + (fullK x (how / 3)).length = i + (0 + 1 + (fullK x (how / 3)).length) by omega] at this
      exact this) a2.one f
    have e : i + (0 + 1 + (fullK x (how / 3)).length + (0 + 1)) = i + (0 + 1 + (fullK x (how / 3)).length) + 1 := by omega
    rw [e]
    exact p1
theorem part_head (x : Ex) (how : Nat) : ∃ ts, partK x how = tK 4 (⟨#[40]⟩ : ByteArray) 0 :: ts := by
  unfold partK opnK
  split
  · exact ⟨_, rfl⟩
  · exact ⟨_, rfl⟩
theorem part_expr {x : Ex} {how : Nat} (hF : FX l x (how / 3)) {i : Nat} (ha : At l i (partK x how)) {n0 : Nat} (hn : NoOp l (i + (partK x how).length) n0) (f n : Nat) (h0 : n0 ≤ n) (h6 : n ≤ 6) : OR (exprA l f n i) x (i + (partK x how).length) := by
  obtain ⟨ts, e⟩ := part_head x how
  have hh : At l i (tK 4 (⟨#[40]⟩ : ByteArray) 0 :: ts) := by rw [← e]; exact ha
  exact lift (post_of (fun f => part_prim hF ha f) hn.2) (at_not hh (by decide)) (at_not hh (by decide)) hn f n h0 h6
theorem args_or : ∀ (xs : List Ex) (how i c : Nat), (∀ x ∈ xs, FX l x (how / 3)) → At l i (joinK (partsK xs how) c ++ [tK 4 (⟨#[41]⟩ : ByteArray) 0]) → ∀ (f : Nat) (acc : List Ex), acc.length = c → OR (argsP l f i acc) (acc ++ xs) (i + (joinK (partsK xs how) c).length + 1)
  | _, _, _, _, _, _, 0, _, _ => by simp only [argsP]; exact .out
  | [], how, i, c, _, ha, f + 1, acc, _ => by
    simp only [partsK, joinK, List.nil_append, List.length_nil, Nat.add_zero, List.append_nil] at ha ⊢
    simp only [argsP]
    rw [if_pos (by rw [ha.isA]; simp)]
    exact .ok
  | x :: r, how, i, c, hx, ha, f + 1, acc, hac => by
    have hF := hx x List.mem_cons_self
    have hr : ∀ y ∈ r, FX l y (how / 3) := fun y hy => hx y (List.mem_cons_of_mem _ hy)
    have hpk : partsK (x :: r) how = partK x how :: partsK r how := rfl
    rw [hpk, joinK] at ha ⊢
    obtain ⟨ts, et⟩ := part_head x how
    simp only [argsP]
    have next : ∀ k, At l k (joinK (partsK r how) (c + 1) ++ [tK 4 (⟨#[41]⟩ : ByteArray) 0]) → Stp l k := fun k h => by
      cases r with
      | nil =>
        simp only [partsK, joinK, List.nil_append] at h
        exact stp_of h (.inl rfl)
      | cons y r =>
        have e : partsK (y :: r) how = partK y how :: partsK r how := rfl
        rw [e, joinK, if_pos (by omega)] at h
        exact stp_of (t := tK 4 (⟨#[44]⟩ : ByteArray) 0) (ts := partK y how ++ joinK (partsK r how) (c + 1 + 1) ++ [tK 4 (⟨#[41]⟩ : ByteArray) 0]) (by simpa using h) (.inr rfl)
    by_cases hc : 0 < c
    · rw [if_pos hc] at ha ⊢
      have h1 : At l i (tK 4 (⟨#[44]⟩ : ByteArray) 0 :: (partK x how ++ (joinK (partsK r how) (c + 1) ++ [tK 4 (⟨#[41]⟩ : ByteArray) 0]))) := by simpa using ha
      have h2 : At l (i + 1) (partK x how ++ (joinK (partsK r how) (c + 1) ++ [tK 4 (⟨#[41]⟩ : ByteArray) 0])) := fun j t ht => by
        have := h1 (j + 1) t (by simpa using ht)
        rw [show i + 1 + j = i + (j + 1) by omega]; exact this
      have h3 := h2.right
      have e := part_expr hF h2.left ((next _ h3).no 0) f 0 (Nat.le_refl _) (by decide)
      have e2 := args_or r how _ (c + 1) hr h3 f (acc ++ [x]) (by simp [hac])
      rw [if_neg (at_not h1 (by decide)), if_neg (by omega), h1.one]
      refine OR.bind (y := ()) (k := i + 1) .ok (e.bind ?_)
      rw [List.append_assoc] at e2
      have en : i + ([tK 4 (⟨#[44]⟩ : ByteArray) 0] ++ partK x how ++ joinK (partsK r how) (c + 1)).length + 1 = i + 1 + (partK x how).length + (joinK (partsK r how) (c + 1)).length + 1 := by
        simp only [List.length_append, List.length_cons, List.length_nil]; omega
      rw [en]
      exact e2
    · rw [if_neg hc] at ha ⊢
      have hc0 : c = 0 := by omega
      have h1 : At l i (partK x how ++ (joinK (partsK r how) (c + 1) ++ [tK 4 (⟨#[41]⟩ : ByteArray) 0])) := by simpa using ha
      have h3 := h1.right
      have e := part_expr hF h1.left ((next _ h3).no 0) f 0 (Nat.le_refl _) (by decide)
      have e2 := args_or r how _ (c + 1) hr h3 f (acc ++ [x]) (by simp [hac])
      have hh : At l i (tK 4 (⟨#[40]⟩ : ByteArray) 0 :: ts) := by rw [← et]; exact h1.left
      rw [if_neg (at_not hh (by decide)), if_pos (by omega)]
      refine OR.bind (y := ()) (k := i) .ok (e.bind ?_)
      rw [List.append_assoc] at e2
      have en : i + ([] ++ partK x how ++ joinK (partsK r how) (c + 1)).length + 1 = i + (partK x how).length + (joinK (partsK r how) (c + 1)).length + 1 := by
        simp only [List.length_append, List.length_nil]; omega
      rw [en]
      exact e2
end
end Hw.Pa
namespace Hw.Pa
open Go Go.Proofs Hw.M

section
variable {l : List Tok}
theorem At.tail {i : Nat} {t : Tok} {ts : List Tok} (h : At l i (t :: ts)) : At l (i + 1) ts := fun j u hu => by
  have := h (j + 1) u (by simpa using hu)
  rw [show i + 1 + j = i + (j + 1) by omega]; exact this
theorem next_stp {r : List Ex} {how c k : Nat} (h : At l k (joinK (partsK r how) (c + 1) ++ [tK 4 (⟨#[41]⟩ : ByteArray) 0])) : Stp l k := by
  cases r with
  | nil =>
    simp only [partsK, joinK, List.nil_append] at h
    exact stp_of h (.inl rfl)
  | cons y r =>
    have e : partsK (y :: r) how = partK y how :: partsK r how := rfl
    rw [e, joinK, if_pos (by omega)] at h
    exact stp_of (t := tK 4 (⟨#[44]⟩ : ByteArray) 0) (ts := partK y how ++ joinK (partsK r how) (c + 1 + 1) ++ [tK 4 (⟨#[41]⟩ : ByteArray) 0]) (by simpa using h) (.inr rfl)
theorem parts_or : ∀ (xs : List Ex) (how i c : Nat), (∀ x ∈ xs, FX l x (how / 3)) → At l i (joinK (partsK xs how) (c + 1) ++ [tK 4 (⟨#[41]⟩ : ByteArray) 0]) → ∀ (f : Nat) (acc : List Ex), acc.length = c + 1 → OR (partsA l f xs.length i acc) (acc ++ xs) (i + (joinK (partsK xs how) (c + 1)).length + 1)
  | _, _, _, _, _, _, 0, _, _ => by simp only [partsA]; exact .out
  | [], how, i, c, _, ha, f + 1, acc, _ => by
    simp only [partsK, joinK, List.nil_append, List.length_nil, Nat.add_zero, List.append_nil] at ha ⊢
    simp only [partsA, if_true]
    rw [ha.one]
    exact .ok
  | x :: r, how, i, c, hx, ha, f + 1, acc, hac => by
    have hF := hx x List.mem_cons_self
    have hr : ∀ y ∈ r, FX l y (how / 3) := fun y hy => hx y (List.mem_cons_of_mem _ hy)
    have hpk : partsK (x :: r) how = partK x how :: partsK r how := rfl
    rw [hpk, joinK, if_pos (by omega)] at ha ⊢
    simp only [partsA]
    have h1 : At l i (tK 4 (⟨#[44]⟩ : ByteArray) 0 :: (partK x how ++ (joinK (partsK r how) (c + 1 + 1) ++ [tK 4 (⟨#[41]⟩ : ByteArray) 0]))) := by simpa using ha
    have h2 := h1.tail
    have h3 := h2.right
    have e := part_expr hF h2.left ((next_stp h3).no 0) f 0 (Nat.le_refl _) (by decide)
    have e2 := parts_or r how _ (c + 1) hr h3 f (acc ++ [x]) (by simp [hac])
    rw [if_neg (by simp), if_neg (by omega), h1.one]
    refine OR.bind (y := ()) (k := i + 1) .ok (e.bind ?_)
    rw [List.append_assoc] at e2
    have en : i + ([tK 4 (⟨#[44]⟩ : ByteArray) 0] ++ partK x how ++ joinK (partsK r how) (c + 1 + 1)).length + 1 = i + 1 + (partK x how).length + (joinK (partsK r how) (c + 1 + 1)).length + 1 := by
      simp only [List.length_append, List.length_cons, List.length_nil]; omega
    rw [en]
    exact e2
theorem plist_or {x : Ex} {r : List Ex} {how i : Nat} (hx : ∀ y ∈ x :: r, FX l y (how / 3)) (ha : At l i (lstK (partsK (x :: r) how))) (f : Nat) : OR (partsA l f (x :: r).length i []) (x :: r) (i + (lstK (partsK (x :: r) how)).length) := by
  cases f with
  | zero => simp only [partsA]; exact .out
  | succ f =>
    have hF := hx x List.mem_cons_self
    have hr : ∀ y ∈ r, FX l y (how / 3) := fun y hy => hx y (List.mem_cons_of_mem _ hy)
    have hpk : partsK (x :: r) how = partK x how :: partsK r how := rfl
    unfold lstK at ha ⊢
    rw [hpk, joinK, if_neg (by omega)] at ha ⊢
    have h1 : At l i (tK 4 (⟨#[40]⟩ : ByteArray) 0 :: (partK x how ++ (joinK (partsK r how) (0 + 1) ++ [tK 4 (⟨#[41]⟩ : ByteArray) 0]))) := by simpa using ha
    have h2 := h1.tail
    have h3 := h2.right
    have e := part_expr hF h2.left ((next_stp h3).no 0) f 0 (Nat.le_refl _) (by decide)
    have e2 := parts_or r how _ 0 hr h3 f ([] ++ [x]) rfl
    simp only [partsA]
    rw [if_neg (by simp), if_pos (show ([] : List Ex).length = 0 from rfl), h1.one]
    refine OR.bind (y := ()) (k := i + 1) .ok (e.bind ?_)
    have en : i + ([tK 4 (⟨#[40]⟩ : ByteArray) 0] ++ ([] ++ partK x how ++ joinK (partsK r how) (0 + 1)) ++ [tK 4 (⟨#[41]⟩ : ByteArray) 0]).length = i + 1 + (partK x how).length + (joinK (partsK r how) (0 + 1)).length + 1 := by
      simp only [List.length_append, List.length_cons, List.length_nil]; omega
    rw [en]
    exact e2
end
end Hw.Pa
namespace Hw.Pa
open Go Go.Proofs Hw.M

section
variable {l : List Tok}
theorem at_get {i : Nat} {t : Tok} {ts : List Tok} (h : At l i (t :: ts)) : ∃ u, l[i]? = some u ∧ u.k = t.k ∧ u.t = t.t ∧ u.n = t.n := by
  have h0 := h 0 t rfl
  rw [Nat.add_zero] at h0
  cases hl : l[i]? with
  | none => rw [hl] at h0; cases h0
  | some u =>
    rw [hl] at h0
    simp only [Option.map_some, Option.some.injEq, keyT, Prod.mk.injEq] at h0
    exact ⟨u, rfl, h0.1, h0.2.1, h0.2.2⟩
theorem prim_int {i : Nat} {n : Int} {ts : List Tok} (h : At l i (tK 2 (⟨#[]⟩ : ByteArray) n :: ts)) (f : Nat) : OR (primA l f i) (.mk 1 n (⟨#[]⟩ : ByteArray) []) (i + 1) := by
  cases f with
  | zero => simp only [primA]; exact .out
  | succ f =>
    obtain ⟨u, hu, h1, h2, h3⟩ := at_get h
    simp only [primA, hu, h1, h3, if_true]
    exact .ok
theorem prim_name {i : Nat} {s : Str} {ts : List Tok} (h : At l i (tK 1 s 0 :: ts)) (hn : ¬ isA l (i + 1) (⟨#[40]⟩ : ByteArray) = true) (f : Nat) : OR (primA l f i) (.mk 4 0 s []) (i + 1) := by
  cases f with
  | zero => simp only [primA]; exact .out
  | succ f =>
    obtain ⟨u, hu, h1, h2, h3⟩ := at_get h
    simp only [primA, hu, h1, h2]
    rw [if_neg (show ¬ ((1 : Int) = 2) by decide), if_pos trivial, if_neg hn]
    exact .ok
theorem prim_call {i : Nat} {s : Str} {ts : List Tok} {a : List Ex} {j : Nat} (h : At l i (tK 1 s 0 :: ts)) (hn : isA l (i + 1) (⟨#[40]⟩ : ByteArray) = true) (ha : ∀ f, OR (argsP l f (i + 2) []) a j) (f : Nat) : OR (primA l f i) (.mk 7 0 s a) j := by
  cases f with
  | zero => simp only [primA]; exact .out
  | succ f =>
    obtain ⟨u, hu, h1, h2, h3⟩ := at_get h
    simp only [primA, hu, h1, h2]
    rw [if_neg (show ¬ ((1 : Int) = 2) by decide), if_pos trivial, if_pos hn]
    exact (ha f).bind .ok
def kwA (l : List Tok) (w : Str) (f i : Nat) : PA Ex :=
  if w = (⟨#[116, 114, 117, 101]⟩ : ByteArray) then .ok (.mk 2 1 (⟨#[]⟩ : ByteArray) []) (i + 1) else if w = (⟨#[102, 97, 108, 115, 101]⟩ : ByteArray) then .ok (.mk 2 0 (⟨#[]⟩ : ByteArray) []) (i + 1) else if w = (⟨#[110, 105, 108]⟩ : ByteArray) then .ok (.mk 3 0 (⟨#[]⟩ : ByteArray) []) (i + 1) else if w = (⟨#[116, 104, 105, 115]⟩ : ByteArray) then .ok (.mk 4 0 (⟨#[116, 104, 105, 115]⟩ : ByteArray) []) (i + 1)
  else if w = (⟨#[110, 101, 119]⟩ : ByteArray) then (nameA l (i + 1)).bind fun s i => .ok (.mk 6 0 s []) i
  else if w = (⟨#[105, 102]⟩ : ByteArray) then (partsA l f 3 (i + 1) []).bind fun a i => .ok (.mk 21 0 (⟨#[]⟩ : ByteArray) a) i
  else if w = (⟨#[109, 97, 120]⟩ : ByteArray) then (partsA l f 2 (i + 1) []).bind fun a i => .ok (.mk 22 0 (⟨#[]⟩ : ByteArray) a) i
  else if w = (⟨#[109, 105, 110]⟩ : ByteArray) then (partsA l f 2 (i + 1) []).bind fun a i => .ok (.mk 23 0 (⟨#[]⟩ : ByteArray) a) i
  else if w = (⟨#[108, 111, 103]⟩ : ByteArray) then (partsA l f 1 (i + 1) []).bind fun a i => .ok (.mk 24 0 (⟨#[]⟩ : ByteArray) a) i
  else .out
theorem prim_kw {i : Nat} {w : Str} {ts : List Tok} (h : At l i (tK 3 w 0 :: ts)) {x : Ex} {j : Nat} (hk : ∀ f, OR (kwA l w f i) x j) (hw : w = (⟨#[116, 114, 117, 101]⟩ : ByteArray) ∨ w = (⟨#[102, 97, 108, 115, 101]⟩ : ByteArray) ∨ w = (⟨#[110, 105, 108]⟩ : ByteArray) ∨ w = (⟨#[116, 104, 105, 115]⟩ : ByteArray) ∨ w = (⟨#[110, 101, 119]⟩ : ByteArray) ∨ w = (⟨#[105, 102]⟩ : ByteArray) ∨ w = (⟨#[109, 97, 120]⟩ : ByteArray) ∨ w = (⟨#[109, 105, 110]⟩ : ByteArray) ∨ w = (⟨#[108, 111, 103]⟩ : ByteArray)) (f : Nat) : OR (primA l f i) x j := by
  cases f with
  | zero => simp only [primA]; exact .out
  | succ f =>
    have hA := fun s => h.isA s
    have hk := hk f
    obtain ⟨u, hu, h1, h2, h3⟩ := at_get h
    simp only [primA, hu, h1, hA]
    unfold kwA at hk
    rcases hw with rfl | rfl | rfl | rfl | rfl | rfl | rfl | rfl | rfl
    all_goals simpa using hk
end
end Hw.Pa
namespace Hw.Pa
open Go Go.Proofs Hw.M

theorem node_more {op n : Int} {s : Str} {l : List Ex} (h : nodeS (.mk op n s l) = true) : (op ≠ 1 → op ≠ 2 → n = 0) ∧ (op = 2 → n = 0 ∨ n = 1) ∧ (op ≠ 4 → op ≠ 5 → op ≠ 6 → op ≠ 7 → s = (⟨#[]⟩ : ByteArray)) ∧ (op = 4 → s = (⟨#[116, 104, 105, 115]⟩ : ByteArray) ∨ isName s = true) := by
  have h : (!decide (partsS op = -2) && !(decide (0 ≤ partsS op) && !decide ((l.length : Int) = partsS op)) && !(decide (partsS op = -1) && decide (6 < (l.length : Int))) && (if op = 4 then decide (s = (⟨#[116, 104, 105, 115]⟩ : ByteArray)) || isName s else if op = 5 ∨ op = 6 ∨ op = 7 then isName s else decide (s = (⟨#[]⟩ : ByteArray))) &&
      (if op = 1 then decide (0 ≤ n) && decide (n ≤ 1099511627776) else if op = 2 then decide (n = 0) || decide (n = 1) else decide (n = 0))) = true := h
  simp only [Bool.and_eq_true] at h
  obtain ⟨⟨_, h4⟩, h5⟩ := h
  refine ⟨fun a b => ?_, fun a => ?_, fun a b c d => ?_, fun a => ?_⟩
  · rw [if_neg a, if_neg b] at h5; exact of_decide_eq_true h5
  · subst a
    rw [if_neg (by decide), if_pos rfl] at h5
    simpa using h5
  · rw [if_neg a, if_neg (by omega)] at h4; exact of_decide_eq_true h4
  · rw [if_pos a] at h4; simpa using h4
section
variable {l : List Tok}
theorem prim_expr {i j : Nat} {x : Ex} {t : Tok} {ts : List Tok} (h : At l i (t :: ts)) (h1 : t.t ≠ (⟨#[110, 111, 116]⟩ : ByteArray)) (h2 : t.t ≠ (⟨#[45]⟩ : ByteArray)) (hp : ∀ f, OR (primA l f i) x j) (hs : Stp l j) (f n : Nat) (hn : n ≤ 6) : OR (exprA l f n i) x j :=
  lift (post_of hp (hs.no 0).2) (at_not h h1) (at_not h h2) (hs.no 0) f n (Nat.zero_le _) hn
theorem not_expr {i j : Nat} {x : Ex} {ts : List Tok} (h : At l i (tK 3 (⟨#[110, 111, 116]⟩ : ByteArray) 0 :: ts)) (hx : ∀ f n, n ≤ 6 → OR (exprA l f n (i + 1)) x j) (hs : Stp l j) : ∀ (f n : Nat), n ≤ 2 → OR (exprA l f n i) (.mk 18 0 (⟨#[]⟩ : ByteArray) [x]) j := by
  intro f
  induction f with
  | zero => intro n _; simp only [exprA]; exact .out
  | succ f ih =>
    intro n hn
    simp only [exprA]
    by_cases q2 : n = 2
    · rw [if_pos q2, if_pos (by rw [h.isA]; simp)]
      exact (hx f 2 (by decide)).bind .ok
    rw [if_neg q2, if_neg (by omega)]
    exact (ih (n + 1) (by omega)).bind (more_no ((hs.no 0).1 n (Nat.zero_le _)) f)
theorem neg_expr {i j : Nat} {x : Ex} {ts : List Tok} (h : At l i (tK 4 (⟨#[45]⟩ : ByteArray) 0 :: ts)) (hx : ∀ f n, n ≤ 6 → OR (exprA l f n (i + 1)) x j) (hs : Stp l j) : ∀ (f n : Nat), n ≤ 6 → OR (exprA l f n i) (.mk 8 0 (⟨#[]⟩ : ByteArray) [x]) j := by
  intro f
  induction f with
  | zero => intro n _; simp only [exprA]; exact .out
  | succ f ih =>
    intro n hn
    simp only [exprA]
    by_cases q2 : n = 2
    · rw [if_pos q2, if_neg (at_not h (by decide))]; exact ih 3 (by decide)
    rw [if_neg q2]
    by_cases q6 : n = 6
    · rw [if_pos q6, if_pos (by rw [h.isA]; simp)]
      exact (hx f 6 (by decide)).bind .ok
    rw [if_neg q6]
    exact (ih (n + 1) (by omega)).bind (more_no ((hs.no 0).1 n (Nat.zero_le _)) f)
theorem bin_expr {i k j m : Nat} {a b : Ex} {op : Int} (hm : m ≤ 5) (hm2 : m ≠ 2) (h1 : ¬ isA l i (⟨#[110, 111, 116]⟩ : ByteArray) = true) (ha : ∀ f n, m < n → n ≤ 6 → OR (exprA l f n i) a k) (ho : opA l k m = some op) (hb : ∀ f n, n ≤ 6 → OR (exprA l f n (k + 1)) b j) (hs : Stp l j) :
    ∀ (f n : Nat), n ≤ m → OR (exprA l f n i) (.mk op 0 (⟨#[]⟩ : ByteArray) [a, b]) j := by
  intro f
  induction f with
  | zero => intro n _; simp only [exprA]; exact .out
  | succ f ih =>
    intro n hn
    simp only [exprA]
    by_cases q2 : n = 2
    · rw [if_pos q2, if_neg h1]; exact ih 3 (by omega)
    rw [if_neg q2, if_neg (by omega)]
    by_cases qm : n = m
    · subst qm
      refine (ha f (n + 1) (by omega) (by omega)).bind ?_
      cases f with
      | zero => simp only [moreA]; exact .out
      | succ f =>
        simp only [moreA]
        rw [ho]
        refine (hb f (n + 1) (by omega)).bind ?_
        split
        · exact .ok
        · exact more_no ((hs.no 0).1 n (Nat.zero_le _)) f
    · exact (ih (n + 1) (by omega)).bind (more_no ((hs.no 0).1 n (Nat.zero_le _)) f)
end
end Hw.Pa
namespace Hw.Pa
open Go Go.Proofs Hw.M

section
variable {l : List Tok}
theorem nil_of {L : List Ex} (h : L.length = 0) : L = [] := List.length_eq_zero_iff.1 h
theorem one_of {L : List Ex} (h : L.length = 1) : ∃ a, L = [a] := by
  match L, h with
  | [a], _ => exact ⟨a, rfl⟩
theorem two_of {L : List Ex} (h : L.length = 2) : ∃ a b, L = [a, b] := by
  match L, h with
  | [a, b], _ => exact ⟨a, b, rfl⟩
theorem kw_list {w : Str} {op : Int} {L : List Ex} {how i k : Nat} (hk : L.length = k) (hk1 : 1 ≤ k) (hF : ∀ y ∈ L, FX l y (how / 3)) (ha : At l i ([tK 3 w 0] ++ lstK (partsK L how)))
    (hw : w = (⟨#[116, 114, 117, 101]⟩ : ByteArray) ∨ w = (⟨#[102, 97, 108, 115, 101]⟩ : ByteArray) ∨ w = (⟨#[110, 105, 108]⟩ : ByteArray) ∨ w = (⟨#[116, 104, 105, 115]⟩ : ByteArray) ∨ w = (⟨#[110, 101, 119]⟩ : ByteArray) ∨ w = (⟨#[105, 102]⟩ : ByteArray) ∨ w = (⟨#[109, 97, 120]⟩ : ByteArray) ∨ w = (⟨#[109, 105, 110]⟩ : ByteArray) ∨ w = (⟨#[108, 111, 103]⟩ : ByteArray)) (he : ∀ f, kwA l w f i = (partsA l f k (i + 1) []).bind fun a i => .ok (.mk op 0 (⟨#[]⟩ : ByteArray) a) i) (f : Nat) :
    OR (primA l f i) (.mk op 0 (⟨#[]⟩ : ByteArray) L) (i + ([tK 3 w 0] ++ lstK (partsK L how)).length) := by
  cases L with
  | nil => simp at hk; omega
  | cons x r =>
    have h1 := ha.left
    have h2 := ha.right
    have hp := fun f => plist_or hF h2 f
    subst hk
    refine prim_kw (ts := lstK (partsK (x :: r) how)) ha (fun f => ?_) hw f
    rw [he]
    refine (hp f).bind ?_
    have e : i + [tK 3 w 0].length + (lstK (partsK (x :: r) how)).length = i + ([tK 3 w 0] ++ lstK (partsK (x :: r) how)).length := by rw [List.length_append]; omega
    rw [e]
    exact .ok
def lvlA (op : Int) : Nat := if op = 20 then 0 else if op = 19 then 1 else if op = 14 ∨ op = 15 ∨ op = 16 ∨ op = 17 then 3 else if op = 9 ∨ op = 10 then 4 else 5
theorem opA_sg {op : Int} (h : op = 9 ∨ op = 10 ∨ op = 11 ∨ op = 12 ∨ op = 13 ∨ op = 14 ∨ op = 15 ∨ op = 16 ∨ op = 17 ∨ op = 19 ∨ op = 20) {k : Nat} {ts : List Tok} (ha : At l k (sgT op :: ts)) (m : Nat) : opA l k m = if m = lvlA op then some op else none := by
  have hA := fun s => ha.isA s
  unfold opA
  simp only [hA]
  by_cases h6 : m < 6
  · have hm : m = 0 ∨ m = 1 ∨ m = 2 ∨ m = 3 ∨ m = 4 ∨ m = 5 := by omega
    rcases h with rfl | rfl | rfl | rfl | rfl | rfl | rfl | rfl | rfl | rfl | rfl <;> rcases hm with rfl | rfl | rfl | rfl | rfl | rfl <;> rfl
  · have e : opsA m = [] := by unfold opsA; split <;> first | omega | rfl
    have hl : lvlA op ≤ 5 := by
      unfold lvlA
      (repeat' split)
      all_goals decide
    rw [e, if_neg (by omega)]
    rfl
theorem full_or : ∀ (m : Nat) (x : Ex) (how : Nat), sizeOf x < m → vE x = true → FX l x how := by
  intro m
  induction m with
  | zero => intro x how h; omega
  | succ m ih =>
  intro x how hm hv i ha hs f
  obtain ⟨op, n, s, L⟩ := x
  simp only [vE, Bool.and_eq_true] at hv
  obtain ⟨hl6, hn1, hp2, har⟩ := node_facts hv.1
  obtain ⟨n0, n2, s0, s4⟩ := node_more hv.1
  have hF : ∀ y ∈ L, FX l y (how / 3) := fun y hy => by
    obtain ⟨j, hj⟩ := List.getElem?_of_mem hy
    have h1 := size_at hj
    simp only [Ex.mk.sizeOf_spec] at hm
    exact ih y (how / 3) (by omega) (vEs_at hv.2 hj)
  simp only [fullK] at ha hs ⊢
  unfold ownK at ha hs ⊢
  by_cases q1 : op = 1
  · rw [if_pos q1] at ha hs ⊢
    subst q1
    obtain rfl := nil_of (by have := har (by decide); have e : partsS 1 = 0 := rfl; omega : L.length = 0)
    obtain rfl := s0 (by decide) (by decide) (by decide) (by decide)
    exact prim_expr ha (show ((⟨#[]⟩ : ByteArray) : Str) ≠ (⟨#[110, 111, 116]⟩ : ByteArray) by decide) (show ((⟨#[]⟩ : ByteArray) : Str) ≠ (⟨#[45]⟩ : ByteArray) by decide) (prim_int ha) hs f 0 (by decide)
  rw [if_neg q1] at ha hs ⊢
  by_cases q2 : op = 2
  · rw [if_pos q2] at ha hs ⊢
    subst q2
    obtain rfl := nil_of (by have := har (by decide); have e : partsS 2 = 0 := rfl; omega : L.length = 0)
    obtain rfl := s0 (by decide) (by decide) (by decide) (by decide)
    rcases n2 rfl with rfl | rfl
    · rw [if_neg (by decide)] at ha hs ⊢
      exact prim_expr ha (by decide) (by decide) (prim_kw ha (fun f => .ok) (by decide)) hs f 0 (by decide)
    · rw [if_pos rfl] at ha hs ⊢
      exact prim_expr ha (by decide) (by decide) (prim_kw ha (fun f => .ok) (by decide)) hs f 0 (by decide)
  rw [if_neg q2] at ha hs ⊢
  obtain rfl := n0 q1 q2
  by_cases q3 : op = 3
  · rw [if_pos q3] at ha hs ⊢
    subst q3
    obtain rfl := nil_of (by have := har (by decide); have e : partsS 3 = 0 := rfl; omega : L.length = 0)
    obtain rfl := s0 (by decide) (by decide) (by decide) (by decide)
    exact prim_expr ha (by decide) (by decide) (prim_kw ha (fun f => .ok) (by decide)) hs f 0 (by decide)
  rw [if_neg q3] at ha hs ⊢
  have nn : ∀ {s : Str}, isName s = true → s ≠ (⟨#[110, 111, 116]⟩ : ByteArray) ∧ s ≠ (⟨#[45]⟩ : ByteArray) := fun {s} h => ⟨fun e => by subst e; revert h; decide, fun e => by subst e; revert h; decide⟩
  by_cases q4 : op = 4
  · rw [if_pos q4] at ha hs ⊢
    subst q4
    obtain rfl := nil_of (by have := har (by decide); have e : partsS 4 = 0 := rfl; omega : L.length = 0)
    by_cases qt : s = (⟨#[116, 104, 105, 115]⟩ : ByteArray)
    · rw [if_pos qt] at ha hs ⊢
      subst qt
      exact prim_expr ha (show ((⟨#[116, 104, 105, 115]⟩ : ByteArray) : Str) ≠ (⟨#[110, 111, 116]⟩ : ByteArray) by decide) (show ((⟨#[116, 104, 105, 115]⟩ : ByteArray) : Str) ≠ (⟨#[45]⟩ : ByteArray) by decide) (prim_kw ha (fun f => .ok) (by decide)) hs f 0 (by decide)
    · rw [if_neg qt] at ha hs ⊢
      have hnm : isName s = true := (s4 rfl).resolve_left qt
      obtain ⟨w1, w2⟩ := nn hnm
      exact prim_expr ha w1 w2 (prim_name ha fun e => by rcases hs _ e with h | h <;> revert h <;> decide) hs f 0 (by decide)
  rw [if_neg q4] at ha hs ⊢
  have hnm3 : op = 5 ∨ op = 6 ∨ op = 7 → isName s = true := fun h => by
    have h4 : namedS (.mk op 0 s L) = true := by
      have := hv.1
      unfold nodeS at this
      simp only [Bool.and_eq_true] at this
      exact this.1.2
    have h4 : (if op = 4 then decide (s = (⟨#[116, 104, 105, 115]⟩ : ByteArray)) || isName s else if op = 5 ∨ op = 6 ∨ op = 7 then isName s else decide (s = (⟨#[]⟩ : ByteArray))) = true := h4
    rw [if_neg q4, if_pos h] at h4
    exact h4
  by_cases q6 : op = 6
  · rw [if_pos q6] at ha hs ⊢
    have hnm := hnm3 (.inr (.inl q6))
    subst q6
    obtain rfl := nil_of (by have := har (by decide); have e : partsS 6 = 0 := rfl; omega : L.length = 0)
    have h1 := ha.tail
    refine prim_expr ha (show ((⟨#[110, 101, 119]⟩ : ByteArray) : Str) ≠ (⟨#[110, 111, 116]⟩ : ByteArray) by decide) (show ((⟨#[110, 101, 119]⟩ : ByteArray) : Str) ≠ (⟨#[45]⟩ : ByteArray) by decide) (prim_kw ha (fun f => ?_) (by decide)) hs f 0 (by decide)
    show OR ((nameA l (i + 1)).bind fun s i => PA.ok (Ex.mk 6 0 s []) i) _ _
    rw [h1.name]
    exact .ok
  rw [if_neg q6] at ha hs ⊢
  by_cases q5 : op = 5
  · rw [if_pos q5] at ha hs ⊢
    subst q5
    obtain ⟨a, rfl⟩ := one_of (by have := har (by decide); have e : partsS 5 = 1 := rfl; omega : L.length = 1)
    have hg : (partsK [a] how).getD 0 [] = partK a how := rfl
    rw [hg] at ha hs ⊢
    have h1 := ha.left
    have h2 := ha.right
    have h3 := h2.tail
    obtain ⟨ts, et⟩ := part_head a how
    have hh : At l i (tK 4 (⟨#[40]⟩ : ByteArray) 0 :: ts) := by rw [← et]; exact h1
    have hp := fun f => part_prim (hF a (by simp)) h1 f
    have en : i + (partK a how ++ [tK 4 (⟨#[46]⟩ : ByteArray) 0, tK 1 s 0]).length = i + (partK a how).length + 1 + 1 := by simp only [List.length_append, List.length_cons, List.length_nil]; omega
    rw [en] at hs ⊢
    have hd : ∀ f, OR (dotsA l f a (i + (partK a how).length)) (.mk 5 0 s [a]) (i + (partK a how).length + 1 + 1) := fun f => by
      cases f with
      | zero => simp only [dotsA]; exact .out
      | succ f =>
        simp only [dotsA]
        rw [if_pos (by rw [h2.isA]; simp), h3.name]
        exact dots_no (hs.no 0).2 f
    refine lift (fun f => ?_) (at_not hh (show ((⟨#[40]⟩ : ByteArray) : Str) ≠ (⟨#[110, 111, 116]⟩ : ByteArray) by decide)) (at_not hh (show ((⟨#[40]⟩ : ByteArray) : Str) ≠ (⟨#[45]⟩ : ByteArray) by decide)) (hs.no 0) f 0 (Nat.le_refl _) (by decide)
    cases f with
    | zero => simp only [postA]; exact .out
    | succ f => simp only [postA]; exact (hp f).bind (hd f)
  rw [if_neg q5] at ha hs ⊢
  by_cases q7 : op = 7
  · rw [if_pos q7] at ha hs ⊢
    have hnm := hnm3 (.inr (.inr q7))
    subst q7
    obtain ⟨w1, w2⟩ := nn hnm
    have h0 : At l i (tK 1 s 0 :: lstK (partsK L how)) := ha
    have h1 : At l (i + 1) (tK 4 (⟨#[40]⟩ : ByteArray) 0 :: (joinK (partsK L how) 0 ++ [tK 4 (⟨#[41]⟩ : ByteArray) 0])) := by
      have := h0.tail
      unfold lstK at this
      simpa using this
    have h2 := h1.tail
    have e : i + ([tK 1 s 0] ++ lstK (partsK L how)).length = i + 2 + (joinK (partsK L how) 0).length + 1 := by unfold lstK; simp only [List.length_append, List.length_cons, List.length_nil]; omega
    rw [e] at hs ⊢
    exact prim_expr h0 w1 w2 (prim_call h0 (by rw [h1.isA]; simp) fun f => args_or L how (i + 2) 0 hF h2 f [] rfl) hs f 0 (by decide)
  rw [if_neg q7] at ha hs ⊢
  by_cases q21 : op = 21
  · rw [if_pos q21] at ha hs ⊢
    subst q21
    obtain rfl := s0 (by decide) (by decide) (by decide) (by decide)
    have hL : L.length = 3 := by have := har (by decide); have e : partsS 21 = 3 := rfl; omega
    have h0 : At l i (tK 3 (⟨#[105, 102]⟩ : ByteArray) 0 :: lstK (partsK L how)) := ha
    exact prim_expr h0 (show ((⟨#[105, 102]⟩ : ByteArray) : Str) ≠ (⟨#[110, 111, 116]⟩ : ByteArray) by decide) (show ((⟨#[105, 102]⟩ : ByteArray) : Str) ≠ (⟨#[45]⟩ : ByteArray) by decide) (kw_list hL (by decide) hF ha (by decide) fun f => rfl) hs f 0 (by decide)
  rw [if_neg q21] at ha hs ⊢
  by_cases q22 : op = 22
  · rw [if_pos q22] at ha hs ⊢
    subst q22
    obtain rfl := s0 (by decide) (by decide) (by decide) (by decide)
    have hL : L.length = 2 := by have := har (by decide); have e : partsS 22 = 2 := rfl; omega
    have h0 : At l i (tK 3 (⟨#[109, 97, 120]⟩ : ByteArray) 0 :: lstK (partsK L how)) := ha
    exact prim_expr h0 (show ((⟨#[109, 97, 120]⟩ : ByteArray) : Str) ≠ (⟨#[110, 111, 116]⟩ : ByteArray) by decide) (show ((⟨#[109, 97, 120]⟩ : ByteArray) : Str) ≠ (⟨#[45]⟩ : ByteArray) by decide) (kw_list hL (by decide) hF ha (by decide) fun f => rfl) hs f 0 (by decide)
  rw [if_neg q22] at ha hs ⊢
  by_cases q23 : op = 23
  · rw [if_pos q23] at ha hs ⊢
    subst q23
    obtain rfl := s0 (by decide) (by decide) (by decide) (by decide)
    have hL : L.length = 2 := by have := har (by decide); have e : partsS 23 = 2 := rfl; omega
    have h0 : At l i (tK 3 (⟨#[109, 105, 110]⟩ : ByteArray) 0 :: lstK (partsK L how)) := ha
    exact prim_expr h0 (show ((⟨#[109, 105, 110]⟩ : ByteArray) : Str) ≠ (⟨#[110, 111, 116]⟩ : ByteArray) by decide) (show ((⟨#[109, 105, 110]⟩ : ByteArray) : Str) ≠ (⟨#[45]⟩ : ByteArray) by decide) (kw_list hL (by decide) hF ha (by decide) fun f => rfl) hs f 0 (by decide)
  rw [if_neg q23] at ha hs ⊢
  by_cases q24 : op = 24
  · rw [if_pos q24] at ha hs ⊢
    subst q24
    obtain rfl := s0 (by decide) (by decide) (by decide) (by decide)
    have hL : L.length = 1 := by have := har (by decide); have e : partsS 24 = 1 := rfl; omega
    have h0 : At l i (tK 3 (⟨#[108, 111, 103]⟩ : ByteArray) 0 :: lstK (partsK L how)) := ha
    exact prim_expr h0 (show ((⟨#[108, 111, 103]⟩ : ByteArray) : Str) ≠ (⟨#[110, 111, 116]⟩ : ByteArray) by decide) (show ((⟨#[108, 111, 103]⟩ : ByteArray) : Str) ≠ (⟨#[45]⟩ : ByteArray) by decide) (kw_list hL (by decide) hF ha (by decide) fun f => rfl) hs f 0 (by decide)
  rw [if_neg q24] at ha hs ⊢
  by_cases q18 : op = 18
  · rw [if_pos q18] at ha hs ⊢
    subst q18
    obtain rfl := s0 (by decide) (by decide) (by decide) (by decide)
    obtain ⟨a, rfl⟩ := one_of (by have := har (by decide); have e : partsS 18 = 1 := rfl; omega : L.length = 1)
    have h0 : At l i (tK 3 (⟨#[110, 111, 116]⟩ : ByteArray) 0 :: partK a how) := ha
    have h1 := h0.tail
    have e : i + ([tK 3 (⟨#[110, 111, 116]⟩ : ByteArray) 0] ++ (partsK [a] how).getD 0 []).length = i + 1 + (partK a how).length := by
      have hg : (partsK [a] how).getD 0 [] = partK a how := rfl
      rw [hg]; simp only [List.length_append, List.length_cons, List.length_nil]; omega
    rw [e] at hs ⊢
    exact not_expr h0 (fun f n hn => part_expr (hF a (by simp)) h1 (hs.no 0) f n (Nat.zero_le _) hn) hs f 0 (by decide)
  rw [if_neg q18] at ha hs ⊢
  by_cases q8 : op = 8
  · rw [if_pos q8] at ha hs ⊢
    subst q8
    obtain rfl := s0 (by decide) (by decide) (by decide) (by decide)
    obtain ⟨a, rfl⟩ := one_of (by have := har (by decide); have e : partsS 8 = 1 := rfl; omega : L.length = 1)
    have h0 : At l i (tK 4 (⟨#[45]⟩ : ByteArray) 0 :: partK a how) := ha
    have h1 := h0.tail
    have e : i + ([tK 4 (⟨#[45]⟩ : ByteArray) 0] ++ (partsK [a] how).getD 0 []).length = i + 1 + (partK a how).length := by
      have hg : (partsK [a] how).getD 0 [] = partK a how := rfl
      rw [hg]; simp only [List.length_append, List.length_cons, List.length_nil]; omega
    rw [e] at hs ⊢
    exact neg_expr h0 (fun f n hn => part_expr (hF a (by simp)) h1 (hs.no 0) f n (Nat.zero_le _) hn) hs f 0 (by decide)
  rw [if_neg q8] at ha hs ⊢
  obtain rfl := s0 q4 q5 q6 q7
  have hpo : partsS op = 2 := by
    unfold partsS at hp2 ⊢
    repeat' split
    all_goals (simp_all <;> omega)
  obtain ⟨a, b, rfl⟩ := two_of (by have := har (by omega); omega : L.length = 2)
  have hop := bin_ops hpo q22 q23
  have hg : (partsK [a, b] how).getD 0 [] = partK a how := rfl
  have hg1 : (partsK [a, b] how).getD 1 [] = partK b how := rfl
  rw [hg, hg1] at ha hs ⊢
  have h1 := ha.left.left
  have h2 : At l (i + (partK a how).length) (sgT op :: partK b how) := by
    have : At l i (partK a how ++ (sgT op :: partK b how)) := by simpa using ha
    exact this.right
  have h3 := h2.tail
  have e : i + (partK a how ++ [sgT op] ++ partK b how).length = i + (partK a how).length + 1 + (partK b how).length := by simp only [List.length_append, List.length_cons, List.length_nil]; omega
  rw [e] at hs ⊢
  obtain ⟨ts, et⟩ := part_head a how
  have hh : At l i (tK 4 (⟨#[40]⟩ : ByteArray) 0 :: ts) := by rw [← et]; exact h1
  have hl5 : lvlA op ≤ 5 ∧ lvlA op ≠ 2 := by
    unfold lvlA
    (repeat' split)
    all_goals decide
  have hno : NoOp l (i + (partK a how).length) (lvlA op + 1) := by
    refine ⟨fun m hm => ?_, ?_⟩
    · rw [opA_sg hop h2 m, if_neg (by omega)]
    · refine at_not h2 ?_
      rcases hop with rfl | rfl | rfl | rfl | rfl | rfl | rfl | rfl | rfl | rfl | rfl
      all_goals decide
  exact bin_expr hl5.1 hl5.2 (at_not hh (show ((⟨#[40]⟩ : ByteArray) : Str) ≠ (⟨#[110, 111, 116]⟩ : ByteArray) by decide)) (fun f n h0 h6 => part_expr (hF a (by simp)) h1 hno f n (by omega) h6) (by rw [opA_sg hop h2, if_pos rfl]) (fun f n h6 => part_expr (hF b (by simp)) h3 (hs.no 0) f n (Nat.zero_le _) h6) hs f 0 (Nat.zero_le _)
end
end Hw.Pa
namespace Hw.Pa
open Go Go.Proofs Hw.M

def MG {α : Type} (i : Nat) (r : PA α) : Prop := (∀ x k, r = .ok x k → i ≤ k) ∧ (∀ k, r = .no k → i ≤ k)
section
variable {α β : Type}
theorem MG.ok {x : α} {i k : Nat} (h : i ≤ k) : MG i (PA.ok x k) := ⟨(fun _ _ e => by cases e; exact h), fun _ e => by cases e⟩
theorem MG.no {i k : Nat} (h : i ≤ k) : MG i (PA.no k : PA α) := ⟨(fun _ _ e => by cases e), fun _ e => by cases e; exact h⟩
theorem MG.out {i : Nat} : MG i (PA.out : PA α) := ⟨(fun _ _ e => by cases e), fun _ e => by cases e⟩
theorem MG.mono {i k : Nat} {r : PA α} (h : i ≤ k) (hr : MG k r) : MG i r := ⟨fun x j e => Nat.le_trans h (hr.1 x j e), fun j e => Nat.le_trans h (hr.2 j e)⟩
theorem MG.bind {i : Nat} {r : PA α} {f : α → Nat → PA β} (h : MG i r) (hf : ∀ y k, MG k (f y k)) : MG i (r.bind f) := by
  cases r with
  | ok y k => exact (hf y k).mono (h.1 y k rfl)
  | no k => exact .no (h.2 k rfl)
  | out => exact .out
theorem MG.ite {i : Nat} {c : Prop} [Decidable c] {a b : PA α} (h1 : MG i a) (h2 : MG i b) : MG i (if c then a else b) := by split <;> assumption
def CC (J : Nat) (r r' : PA α) : Prop :=
  (∀ x k, r = .ok x k → (k < J → r' = .out ∨ r' = r) ∧ (J ≤ k → MG J r')) ∧ (∀ k, r = .no k → (k < J → r' = .out ∨ r' = r) ∧ (J ≤ k → MG J r'))
theorem CC.refl {J : Nat} {r : PA α} : CC J r r :=
  ⟨fun _ _ e => ⟨fun _ => .inr rfl, fun h => by subst e; exact .ok h⟩, fun _ e => ⟨fun _ => .inr rfl, fun h => by subst e; exact .no h⟩⟩
theorem CC.out {J : Nat} {r' : PA α} : CC J .out r' := ⟨(fun _ _ e => by cases e), fun _ e => by cases e⟩
theorem CC.outR {J : Nat} {r : PA α} : CC J r .out := ⟨fun _ _ _ => ⟨fun _ => .inl rfl, fun _ => .out⟩, fun _ _ => ⟨fun _ => .inl rfl, fun _ => .out⟩⟩
theorem CC.start {J i : Nat} {r r' : PA α} (h1 : MG i r) (h2 : MG i r') (h : i < J → CC J r r') : CC J r r' := by
  by_cases hi : i < J
  · exact h hi
  · have hm : MG J r' := h2.mono (by omega)
    exact ⟨fun x k e => ⟨fun hk => absurd (h1.1 x k e) (by omega), fun _ => hm⟩, fun k e => ⟨fun hk => absurd (h1.2 k e) (by omega), fun _ => hm⟩⟩
theorem CC.bind {J : Nat} {r r' : PA α} {f f' : α → Nat → PA β} (h : CC J r r') (hm : ∀ y k, MG k (f y k)) (hm' : ∀ y k, MG k (f' y k)) (hf : ∀ y k, k < J → CC J (f y k) (f' y k)) : CC J (r.bind f) (r'.bind f') := by
  cases r with
  | out => exact .out
  | no k =>
    obtain ⟨h1, h2⟩ := h.2 k rfl
    by_cases hk : k < J
    · rcases h1 hk with e | e
      · rw [e]; exact .outR
      · rw [e]; exact .refl
    · have := (h2 (by omega)).bind (f := f') hm'
      exact ⟨(fun _ _ e => by cases e), fun k' e => by cases e; exact ⟨fun h => absurd h hk, fun _ => this⟩⟩
  | ok y k =>
    obtain ⟨h1, h2⟩ := h.1 y k rfl
    by_cases hk : k < J
    · rcases h1 hk with e | e
      · rw [e]; exact .outR
      · rw [e]; exact hf y k hk
    · have h3 := (h2 (by omega)).bind (f := f') hm'
      have h4 := hm y k
      exact ⟨fun x j e => ⟨fun hj => absurd (h4.1 x j e) (by omega), fun _ => h3⟩, fun j e => ⟨fun hj => absurd (h4.2 j e) (by omega), fun _ => h3⟩⟩
theorem CC.ite {J : Nat} {c c' : Prop} [Decidable c] [Decidable c'] {a b a' b' : PA α} (hc : c ↔ c') (h1 : c → CC J a a') (h2 : ¬c → CC J b b') : CC J (if c then a else b) (if c' then a' else b') := by
  by_cases h : c
  · rw [if_pos h, if_pos (hc.1 h)]; exact h1 h
  · rw [if_neg h, if_neg (fun e => h (hc.2 e))]; exact h2 h
end
section
variable {l : List Tok}
theorem MG.one (s : Str) (i : Nat) : MG i (oneA l s i) := .ite (.ok (Nat.le_succ _)) (.no (Nat.le_refl _))
theorem MG.name (i : Nat) : MG i (nameA l i) := by
  unfold nameA
  split
  · exact .ite (.ok (Nat.le_succ _)) (.no (Nat.le_refl _))
  · exact .no (Nat.le_refl _)
theorem MG.int (i : Nat) : MG i (intA l i) := by
  unfold intA
  split
  · exact .ite (.ok (Nat.le_succ _)) (.no (Nat.le_refl _))
  · exact .no (Nat.le_refl _)
theorem MG.typ (i : Nat) : MG i (typA l i) := .ite (.ok (Nat.le_succ _)) (.ite (.ok (Nat.le_succ _)) (.name i))
theorem MG.field (i : Nat) : MG i (fieldA l i) := (MG.name i).bind fun _ k => (MG.typ k).bind fun _ _ => .ok (Nat.le_refl _)
theorem MG.sep (s : Str) (n i : Nat) : MG i (if n = 0 then PA.ok () i else oneA l s i) := .ite (.ok (Nat.le_refl _)) (.one s i)
theorem MG.list {α : Type} (sep fin : Str) (one : Nat → PA α) (ho : ∀ i, MG i (one i)) : ∀ (f i : Nat) (acc : List α), MG i (listA l sep fin one f i acc)
  | 0, _, _ => .out
  | f + 1, i, acc => by
    simp only [listA]
    exact .ite (.ok (Nat.le_succ _)) ((MG.sep _ _ _).bind fun _ k => (ho k).bind fun _ k => MG.list sep fin one ho f k _)
theorem expr_mg : ∀ f : Nat, (∀ n i, MG i (exprA l f n i)) ∧ (∀ n x i, MG i (moreA l f n x i)) ∧ (∀ i, MG i (postA l f i)) ∧ (∀ x i, MG i (dotsA l f x i)) ∧
    (∀ i a, MG i (argsP l f i a)) ∧ (∀ k i a, MG i (partsA l f k i a)) ∧ (∀ i, MG i (primA l f i)) := by
  intro f
  induction f with
  | zero => exact ⟨fun _ _ => by simp only [exprA]; exact .out, fun _ _ _ => by simp only [moreA]; exact .out, fun _ => by simp only [postA]; exact .out, fun _ _ => by simp only [dotsA]; exact .out, fun _ _ => by simp only [argsP]; exact .out, fun _ _ _ => by simp only [partsA]; exact .out, fun _ => by simp only [primA]; exact .out⟩
  | succ f ih =>
    obtain ⟨h1, h2, h3, h4, h5, h6, h7⟩ := ih
    have s1 : ∀ i : Nat, i ≤ i + 1 := fun _ => Nat.le_succ _
    refine ⟨fun n i => ?_, fun n x i => ?_, fun i => ?_, fun x i => ?_, fun i a => ?_, fun k i a => ?_, fun i => ?_⟩
    · simp only [exprA]
      exact .ite (.ite (((h1 _ _).mono (s1 i)).bind fun _ _ => .ok (Nat.le_refl _)) (h1 _ _)) (.ite (.ite (((h1 _ _).mono (s1 i)).bind fun _ _ => .ok (Nat.le_refl _)) (h3 _)) ((h1 _ _).bind fun _ k => h2 _ _ k))
    · simp only [moreA]
      split
      · exact .ok (Nat.le_refl _)
      · exact ((h1 _ _).mono (s1 i)).bind fun _ k => .ite (.ok (Nat.le_refl _)) (h2 _ _ k)
    · simp only [postA]; exact (h7 i).bind fun _ k => h4 _ k
    · simp only [dotsA]; exact .ite (((MG.name _).mono (s1 i)).bind fun _ k => h4 _ k) (.ok (Nat.le_refl _))
    · simp only [argsP]; exact .ite (.ok (s1 i)) ((MG.sep _ _ _).bind fun _ k => (h1 _ k).bind fun _ k => h5 k _)
    · simp only [partsA]; exact .ite ((MG.one _ _).bind fun _ _ => .ok (Nat.le_refl _)) ((MG.one _ _).bind fun _ k => (h1 _ k).bind fun _ k => h6 _ k _)
    · simp only [primA]
      split
      · exact .no (Nat.le_refl _)
      · have s2 : i ≤ i + 2 := by omega
        refine .ite (.ok (s1 i)) (.ite (.ite (((h5 _ _).mono s2).bind fun _ _ => .ok (Nat.le_refl _)) (.ok (s1 i))) ?_)
        refine .ite (.ok (s1 i)) (.ite (.ok (s1 i)) (.ite (.ok (s1 i)) (.ite (.ok (s1 i)) (.ite (((MG.name _).mono (s1 i)).bind fun _ _ => .ok (Nat.le_refl _)) ?_))))
        refine .ite (((h6 _ _ _).mono (s1 i)).bind fun _ _ => .ok (Nat.le_refl _)) (.ite (((h6 _ _ _).mono (s1 i)).bind fun _ _ => .ok (Nat.le_refl _)) (.ite (((h6 _ _ _).mono (s1 i)).bind fun _ _ => .ok (Nat.le_refl _)) (.ite (((h6 _ _ _).mono (s1 i)).bind fun _ _ => .ok (Nat.le_refl _)) ?_)))
        exact .ite (((h1 _ _).mono (s1 i)).bind fun _ k => (MG.one _ k).bind fun _ _ => .ok (Nat.le_refl _)) (.no (Nat.le_refl _))
theorem stmt_mg : ∀ f : Nat, (∀ i a, MG i (stmtsA l f i a)) ∧ (∀ i, MG i (blockA l f i)) ∧ (∀ i, MG i (stmtA l f i)) := by
  intro f
  induction f with
  | zero => exact ⟨fun _ _ => by simp only [stmtsA]; exact .out, fun _ => by simp only [blockA]; exact .out, fun _ => by simp only [stmtA]; exact .out⟩
  | succ f ih =>
    obtain ⟨h1, h2, h3⟩ := ih
    have hE := (expr_mg (l := l) f).1
    have hP := (expr_mg (l := l) f).2.2.1
    have s1 : ∀ i : Nat, i ≤ i + 1 := fun _ => Nat.le_succ _
    refine ⟨fun i a => ?_, fun i => ?_, fun i => ?_⟩
    · simp only [stmtsA]; exact .ite (.ok (s1 i)) ((h3 i).bind fun _ k => h1 k _)
    · simp only [blockA]; exact (MG.one _ _).bind fun _ k => h1 k _
    · simp only [stmtA]
      refine .ite (((hE _ _).mono (s1 i)).bind fun _ k => (h2 k).bind fun _ k => .ite (((h2 _).mono (s1 k)).bind fun _ _ => .ok (Nat.le_refl _)) (.ok (Nat.le_refl _))) ?_
      refine .ite (((hE _ _).mono (s1 i)).bind fun _ k => (h2 k).bind fun _ _ => .ok (Nat.le_refl _)) ?_
      refine .ite (.ite (.ok (by omega)) (((hE _ _).mono (s1 i)).bind fun _ k => (MG.one _ k).bind fun _ _ => .ok (Nat.le_refl _))) ?_
      exact (hP i).bind fun _ k => .ite (((hE _ _).mono (s1 k)).bind fun _ k => (MG.one _ k).bind fun _ _ => .ok (Nat.le_refl _)) (.ite (((hE _ _).mono (s1 k)).bind fun _ k => (MG.one _ k).bind fun _ _ => .ok (Nat.le_refl _)) (.ite ((MG.one _ k).bind fun _ _ => .ok (Nat.le_refl _)) (.no (Nat.le_refl _))))
theorem locs_mg : ∀ (f i : Nat) (acc : List Fld), MG i (locsA l f i acc)
  | 0, _, _ => .out
  | f + 1, i, acc => by
    simp only [locsA]
    exact .ite (((MG.field _).mono (Nat.le_succ i)).bind fun _ k => (MG.one _ k).bind fun _ k => locs_mg f k _) (.ok (Nat.le_refl _))
theorem proc_mg (f i : Nat) : MG i (procA l f i) :=
  (MG.name i).bind fun _ k => (MG.one _ k).bind fun _ k => (MG.list _ _ _ (fun i => .field i) f k _).bind fun _ k => (MG.ite (.ok (Nat.le_refl _)) (.typ k)).bind fun _ k => (MG.one _ k).bind fun _ k => (locs_mg f k _).bind fun _ k => ((stmt_mg f).1 k _).bind fun _ _ => .ok (Nat.le_refl _)
theorem formula_mg (f i : Nat) : MG i (formulaA l f i) := (MG.one _ i).bind fun _ k => (expr_mg f).1 _ k
theorem measure_mg (f i : Nat) : MG i (measureA l f i) :=
  (MG.name i).bind fun _ k => (MG.one _ k).bind fun _ k => (MG.name k).bind fun _ k => (MG.one _ k).bind fun _ k => (MG.one _ k).bind fun _ k =>
    ((MG.int _).mono (by split <;> omega)).bind fun _ k => (formula_mg f k).bind fun _ _ => .ok (Nat.le_refl _)
theorem item_mg (f i : Nat) (d : Desc) : MG i (itemA l f i d) := by
  have s1 : i ≤ i + 1 := Nat.le_succ _
  unfold itemA
  refine .ite (((MG.name _).mono s1).bind fun _ k => (MG.one _ k).bind fun _ k => (MG.list _ _ _ (fun i => .field i) f k _).bind fun _ _ => .ok (Nat.le_refl _)) ?_
  refine .ite (((MG.field _).mono s1).bind fun _ _ => .ok (Nat.le_refl _)) (.ite (((proc_mg f _).mono s1).bind fun _ _ => .ok (Nat.le_refl _)) (.ite (((measure_mg f _).mono s1).bind fun _ _ => .ok (Nat.le_refl _)) ?_))
  refine .ite (((MG.name _).mono s1).bind fun _ k => (MG.ite (((MG.name _).mono (Nat.le_succ k)).bind fun _ k => (MG.one _ k).bind fun _ _ => .ok (Nat.le_refl _)) (.ok (Nat.le_refl _))).bind fun _ k => (formula_mg f k).bind fun _ _ => .ok (Nat.le_refl _)) ?_
  refine .ite (((MG.ite (.ok (Nat.le_refl _)) (.name _)).mono s1).bind fun _ k => (formula_mg f k).bind fun _ _ => .ok (Nat.le_refl _)) ?_
  exact .ite (((MG.name _).mono s1).bind fun _ k => (formula_mg f k).bind fun _ _ => .ok (Nat.le_refl _)) (.no (Nat.le_refl _))
theorem items_mg (f : Nat) : ∀ (g i : Nat) (d : Desc), MG i (itemsA l f g i d)
  | 0, _, _ => .out
  | g + 1, i, d => by
    simp only [itemsA]
    exact .ite (.ok (Nat.le_succ _)) ((item_mg f i d).bind fun _ k => items_mg f g k _)
end
end Hw.Pa
namespace Hw.Pa
open Go Go.Proofs Hw.M

def AG (J : Nat) (l l' : List Tok) : Prop := ∀ i, i < J → (l[i]?).map keyT = (l'[i]?).map keyT
section
variable {J : Nat} {l l' : List Tok} (ha : AG J l l')
include ha
theorem isA_ag {i : Nat} (hi : i < J) (s : Str) : isA l i s = isA l' i s := by
  have h := ha i hi
  unfold isA
  cases h1 : l[i]? with
  | none =>
    cases h2 : l'[i]? with
    | none => rfl
    | some u => rw [h1, h2] at h; cases h
  | some t =>
    cases h2 : l'[i]? with
    | none => rw [h1, h2] at h; cases h
    | some u =>
      rw [h1, h2] at h
      simp only [Option.map_some, Option.some.injEq, keyT, Prod.mk.injEq] at h
      simp only [h.1, h.2.1]
theorem isA_ag' {i : Nat} (hi : i < J) (s : Str) : isA l i s = true ↔ isA l' i s = true := by rw [isA_ag ha hi]
theorem CC.one (s : Str) (i : Nat) : CC J (oneA l s i) (oneA l' s i) :=
  .start (MG.one s i) (MG.one s i) fun hi => .ite (isA_ag' ha hi s) (fun _ => .refl) fun _ => .refl
theorem CC.name (i : Nat) : CC J (nameA l i) (nameA l' i) := by
  refine .start (.name i) (.name i) fun hi => ?_
  have h := ha i hi
  unfold nameA
  cases h1 : l[i]? with
  | none =>
    cases h2 : l'[i]? with
    | none => exact .refl
    | some u => rw [h1, h2] at h; cases h
  | some t =>
    cases h2 : l'[i]? with
    | none => rw [h1, h2] at h; cases h
    | some u =>
      rw [h1, h2] at h
      simp only [Option.map_some, Option.some.injEq, keyT, Prod.mk.injEq] at h
      simp only [h.1, h.2.1]
      exact .refl
theorem CC.int (i : Nat) : CC J (intA l i) (intA l' i) := by
  refine .start (.int i) (.int i) fun hi => ?_
  have h := ha i hi
  unfold intA
  cases h1 : l[i]? with
  | none =>
    cases h2 : l'[i]? with
    | none => exact .refl
    | some u => rw [h1, h2] at h; cases h
  | some t =>
    cases h2 : l'[i]? with
    | none => rw [h1, h2] at h; cases h
    | some u =>
      rw [h1, h2] at h
      simp only [Option.map_some, Option.some.injEq, keyT, Prod.mk.injEq] at h
      simp only [h.1, h.2.2]
      exact .refl
theorem CC.typ (i : Nat) : CC J (typA l i) (typA l' i) :=
  .start (.typ i) (.typ i) fun hi => .ite (isA_ag' ha hi _) (fun _ => .refl) fun _ => .ite (isA_ag' ha hi _) (fun _ => .refl) fun _ => .name ha i
theorem CC.field (i : Nat) : CC J (fieldA l i) (fieldA l' i) :=
  (CC.name ha i).bind (fun _ k => (MG.typ k).bind fun _ _ => .ok (Nat.le_refl _)) (fun _ k => (MG.typ k).bind fun _ _ => .ok (Nat.le_refl _)) fun _ k _ =>
    (CC.typ ha k).bind (fun _ _ => .ok (Nat.le_refl _)) (fun _ _ => .ok (Nat.le_refl _)) fun _ _ _ => .refl
theorem CC.sep (s : Str) (n i : Nat) : CC J (if n = 0 then PA.ok () i else oneA l s i) (if n = 0 then PA.ok () i else oneA l' s i) := .ite Iff.rfl (fun _ => .refl) fun _ => .one ha s i
theorem CC.list {α : Type} (sep fin : Str) (one one' : Nat → PA α) (ho : ∀ i, MG i (one i)) (ho' : ∀ i, MG i (one' i)) (hc : ∀ i, CC J (one i) (one' i)) : ∀ (f f' i : Nat) (acc : List α), CC J (listA l sep fin one f i acc) (listA l' sep fin one' f' i acc)
  | 0, _, _, _ => .out
  | _ + 1, 0, _, _ => .outR
  | f + 1, f' + 1, i, acc => by
    refine .start (MG.list _ _ _ ho _ _ _) (MG.list _ _ _ ho' _ _ _) fun hi => ?_
    simp only [listA]
    refine .ite (isA_ag' ha hi _) (fun _ => .refl) fun _ => (CC.sep ha _ _ _).bind (fun _ k => (ho k).bind fun _ k => MG.list _ _ _ ho _ _ _) (fun _ k => (ho' k).bind fun _ k => MG.list _ _ _ ho' _ _ _) fun _ k _ =>
      (hc k).bind (fun _ k => MG.list _ _ _ ho _ _ _) (fun _ k => MG.list _ _ _ ho' _ _ _) fun _ k _ => CC.list sep fin one one' ho ho' hc f f' k _
theorem opA_ag {i : Nat} (hi : i < J) (n : Nat) : opA l i n = opA l' i n := by
  unfold opA
  congr 1
  congr 1
  funext p
  rw [isA_ag ha hi]
theorem expr_cc : ∀ f f' : Nat, (∀ n i, CC J (exprA l f n i) (exprA l' f' n i)) ∧ (∀ n x i, CC J (moreA l f n x i) (moreA l' f' n x i)) ∧ (∀ i, CC J (postA l f i) (postA l' f' i)) ∧ (∀ x i, CC J (dotsA l f x i) (dotsA l' f' x i)) ∧
    (∀ i a, CC J (argsP l f i a) (argsP l' f' i a)) ∧ (∀ k i a, CC J (partsA l f k i a) (partsA l' f' k i a)) ∧ (∀ i, CC J (primA l f i) (primA l' f' i)) := by
  intro f
  induction f with
  | zero => intro f'; exact ⟨fun _ _ => by simp only [exprA]; exact .out, fun _ _ _ => by simp only [moreA]; exact .out, fun _ => by simp only [postA]; exact .out, fun _ _ => by simp only [dotsA]; exact .out, fun _ _ => by simp only [argsP]; exact .out, fun _ _ _ => by simp only [partsA]; exact .out, fun _ => by simp only [primA]; exact .out⟩
  | succ f ih =>
    intro f'
    cases f' with
    | zero => exact ⟨fun _ _ => by simp only [exprA]; exact .outR, fun _ _ _ => by simp only [moreA]; exact .outR, fun _ => by simp only [postA]; exact .outR, fun _ _ => by simp only [dotsA]; exact .outR, fun _ _ => by simp only [argsP]; exact .outR, fun _ _ _ => by simp only [partsA]; exact .outR, fun _ => by simp only [primA]; exact .outR⟩
    | succ f' =>
    obtain ⟨h1, h2, h3, h4, h5, h6, h7⟩ := ih f'
    obtain ⟨m1, m2, m3, m4, m5, m6, m7⟩ := expr_mg (l := l) f
    obtain ⟨k1, k2, k3, k4, k5, k6, k7⟩ := expr_mg (l := l') f'
    have M := expr_mg (l := l) (f + 1)
    have K := expr_mg (l := l') (f' + 1)
    have O : ∀ {α : Type} {x : α} {k : Nat}, MG k (PA.ok x k) := fun {_ _ _} => .ok (Nat.le_refl _)
    refine ⟨fun n i => .start (M.1 n i) (K.1 n i) fun hi => ?_, fun n x i => .start (M.2.1 n x i) (K.2.1 n x i) fun hi => ?_, fun i => ?_, fun x i => .start (M.2.2.2.1 x i) (K.2.2.2.1 x i) fun hi => ?_, fun i a => .start (M.2.2.2.2.1 i a) (K.2.2.2.2.1 i a) fun hi => ?_, fun k i a => ?_, fun i => .start (M.2.2.2.2.2.2 i) (K.2.2.2.2.2.2 i) fun hi => ?_⟩
    · simp only [exprA]
      exact .ite Iff.rfl (fun _ => .ite (isA_ag' ha hi _) (fun _ => (h1 _ _).bind (fun _ _ => O) (fun _ _ => O) fun _ _ _ => .refl) fun _ => h1 _ _) fun _ =>
        .ite Iff.rfl (fun _ => .ite (isA_ag' ha hi _) (fun _ => (h1 _ _).bind (fun _ _ => O) (fun _ _ => O) fun _ _ _ => .refl) fun _ => h3 _) fun _ =>
          (h1 _ _).bind (fun _ k => m2 _ _ k) (fun _ k => k2 _ _ k) fun _ k _ => h2 _ _ k
    · simp only [moreA]
      rw [opA_ag ha hi]
      split
      · exact .refl
      · exact (h1 _ _).bind (fun _ k => .ite O (m2 _ _ k)) (fun _ k => .ite O (k2 _ _ k)) fun _ k _ => .ite Iff.rfl (fun _ => .refl) fun _ => h2 _ _ k
    · simp only [postA]; exact (h7 i).bind (fun _ k => m4 _ k) (fun _ k => k4 _ k) fun _ k _ => h4 _ k
    · simp only [dotsA]; exact .ite (isA_ag' ha hi _) (fun _ => (CC.name ha _).bind (fun _ k => m4 _ k) (fun _ k => k4 _ k) fun _ k _ => h4 _ k) fun _ => .refl
    · simp only [argsP]
      exact .ite (isA_ag' ha hi _) (fun _ => .refl) fun _ => (CC.sep ha _ _ _).bind (fun _ k => (m1 _ k).bind fun _ k => m5 k _) (fun _ k => (k1 _ k).bind fun _ k => k5 k _) fun _ k _ =>
        (h1 _ k).bind (fun _ k => m5 k _) (fun _ k => k5 k _) fun _ k _ => h5 k _
    · simp only [partsA]
      exact .ite Iff.rfl (fun _ => (CC.one ha _ _).bind (fun _ _ => O) (fun _ _ => O) fun _ _ _ => .refl) fun _ => (CC.one ha _ _).bind (fun _ k => (m1 _ k).bind fun _ k => m6 _ k _) (fun _ k => (k1 _ k).bind fun _ k => k6 _ k _) fun _ k _ =>
        (h1 _ k).bind (fun _ k => m6 _ k _) (fun _ k => k6 _ k _) fun _ k _ => h6 _ k _
    · simp only [primA]
      have h := ha i hi
      cases e1 : l[i]? with
      | none =>
        cases e2 : l'[i]? with
        | none => exact .refl
        | some u => rw [e1, e2] at h; cases h
      | some t =>
        cases e2 : l'[i]? with
        | none => rw [e1, e2] at h; cases h
        | some u =>
          rw [e1, e2] at h
          simp only [Option.map_some, Option.some.injEq, keyT, Prod.mk.injEq] at h
          obtain ⟨q1, q2, q3⟩ := h
          simp only [q1, q2, q3]
          have A := fun s => isA_ag' ha hi s
          have B : ∀ {r r' : PA (List Ex)} {g : List Ex → Ex}, CC J r r' → CC J (r.bind fun a i => .ok (g a) i) (r'.bind fun a i => .ok (g a) i) := fun {_ _ _} h => h.bind (fun _ _ => O) (fun _ _ => O) fun _ _ _ => .refl
          refine .ite Iff.rfl (fun _ => .refl) fun _ => .ite Iff.rfl (fun _ => ?_) fun _ => ?_
          · have s2 : i + 1 ≤ i + 2 := by omega
            exact .start (i := i + 1) (.ite (((m5 _ _).mono s2).bind fun _ _ => O) O) (.ite (((k5 _ _).mono s2).bind fun _ _ => O) O) fun hi2 => .ite (isA_ag' ha hi2 _) (fun _ => B (h5 _ _)) fun _ => .refl
          refine .ite (A _) (fun _ => .refl) fun _ => .ite (A _) (fun _ => .refl) fun _ => .ite (A _) (fun _ => .refl) fun _ => .ite (A _) (fun _ => .refl) fun _ => .ite (A _) (fun _ => (CC.name ha _).bind (fun _ _ => O) (fun _ _ => O) fun _ _ _ => .refl) fun _ => ?_
          refine .ite (A _) (fun _ => B (h6 _ _ _)) fun _ => .ite (A _) (fun _ => B (h6 _ _ _)) fun _ => .ite (A _) (fun _ => B (h6 _ _ _)) fun _ => .ite (A _) (fun _ => B (h6 _ _ _)) fun _ => ?_
          exact .ite (A _) (fun _ => (h1 _ _).bind (fun _ k => (MG.one _ k).bind fun _ _ => O) (fun _ k => (MG.one _ k).bind fun _ _ => O) fun _ k _ => (CC.one ha _ k).bind (fun _ _ => O) (fun _ _ => O) fun _ _ _ => .refl) fun _ => .refl
end
end Hw.Pa
namespace Hw.Pa
open Go Go.Proofs Hw.M

theorem mO {α : Type} {x : α} {k : Nat} : MG k (PA.ok x k) := .ok (Nat.le_refl _)
section
variable {J : Nat} {l l' : List Tok} (ha : AG J l l')
include ha
theorem CC.fin {α β : Type} {r r' : PA α} {g : α → β} (h : CC J r r') : CC J (r.bind fun a i => .ok (g a) i) (r'.bind fun a i => .ok (g a) i) := have _ := ha; h.bind (fun _ _ => mO) (fun _ _ => mO) fun _ _ _ => .refl
theorem stmt_cc : ∀ f f' : Nat, (∀ i a, CC J (stmtsA l f i a) (stmtsA l' f' i a)) ∧ (∀ i, CC J (blockA l f i) (blockA l' f' i)) ∧ (∀ i, CC J (stmtA l f i) (stmtA l' f' i)) := by
  intro f
  induction f with
  | zero => intro f'; exact ⟨fun _ _ => by simp only [stmtsA]; exact .out, fun _ => by simp only [blockA]; exact .out, fun _ => by simp only [stmtA]; exact .out⟩
  | succ f ih =>
    intro f'
    cases f' with
    | zero => exact ⟨fun _ _ => by simp only [stmtsA]; exact .outR, fun _ => by simp only [blockA]; exact .outR, fun _ => by simp only [stmtA]; exact .outR⟩
    | succ f' =>
    obtain ⟨h1, h2, h3⟩ := ih f'
    obtain ⟨m1, m2, m3⟩ := stmt_mg (l := l) f
    obtain ⟨k1, k2, k3⟩ := stmt_mg (l := l') f'
    have M := stmt_mg (l := l) (f + 1)
    have K := stmt_mg (l := l') (f' + 1)
    have hE := (expr_cc ha f f').1
    have hP := (expr_cc ha f f').2.2.1
    have mE := (expr_mg (l := l) f).1
    have kE := (expr_mg (l := l') f').1
    have s1 : ∀ i : Nat, i ≤ i + 1 := fun _ => Nat.le_succ _
    have semi : ∀ {α : Type} (x : α) (k : Nat), CC J ((oneA l (⟨#[59]⟩ : ByteArray) k).bind fun _ i => PA.ok x i) ((oneA l' (⟨#[59]⟩ : ByteArray) k).bind fun _ i => PA.ok x i) := fun {_} x k => (CC.one ha _ k).bind (fun _ _ => mO) (fun _ _ => mO) fun _ _ _ => .refl
    have msemi : ∀ {α : Type} (x : α) (k : Nat), MG k ((oneA l (⟨#[59]⟩ : ByteArray) k).bind fun _ i => PA.ok x i) := fun {_} x k => (MG.one _ k).bind fun _ _ => mO
    have ksemi : ∀ {α : Type} (x : α) (k : Nat), MG k ((oneA l' (⟨#[59]⟩ : ByteArray) k).bind fun _ i => PA.ok x i) := fun {_} x k => (MG.one _ k).bind fun _ _ => mO
    refine ⟨fun i a => .start (M.1 i a) (K.1 i a) fun hi => ?_, fun i => ?_, fun i => .start (M.2.2 i) (K.2.2 i) fun hi => ?_⟩
    · simp only [stmtsA]; exact .ite (isA_ag' ha hi _) (fun _ => .refl) fun _ => (h3 i).bind (fun _ k => m1 k _) (fun _ k => k1 k _) fun _ k _ => h1 k _
    · simp only [blockA]; exact (CC.one ha _ _).bind (fun _ k => m1 k _) (fun _ k => k1 k _) fun _ k _ => h1 k _
    · simp only [stmtA]
      have A := fun s => isA_ag' ha hi s
      refine .ite (A _) (fun _ => ?_) fun _ => .ite (A _) (fun _ => ?_) fun _ => .ite (A _) (fun _ => ?_) fun _ => ?_
      · exact (hE _ _).bind (fun _ k => (m2 k).bind fun _ k => .ite (((m2 _).mono (s1 k)).bind fun _ _ => mO) mO) (fun _ k => (k2 k).bind fun _ k => .ite (((k2 _).mono (s1 k)).bind fun _ _ => mO) mO) fun _ k _ =>
          (h2 k).bind (fun _ k => .ite (((m2 _).mono (s1 k)).bind fun _ _ => mO) mO) (fun _ k => .ite (((k2 _).mono (s1 k)).bind fun _ _ => mO) mO) fun _ k hk =>
            .ite (isA_ag' ha hk _) (fun _ => CC.fin ha (h2 _)) fun _ => .refl
      · exact (hE _ _).bind (fun _ k => (m2 k).bind fun _ k => mO) (fun _ k => (k2 k).bind fun _ k => mO) fun _ k _ => CC.fin ha (h2 k)
      · refine .start (i := i + 1) (.ite (.ok (by omega)) ((mE _ _).bind fun _ k => msemi _ k)) (.ite (.ok (by omega)) ((kE _ _).bind fun _ k => ksemi _ k)) fun hi2 => ?_
        exact .ite (isA_ag' ha hi2 _) (fun _ => .refl) fun _ => (hE _ _).bind (fun _ k => msemi _ k) (fun _ k => ksemi _ k) fun _ k _ => semi _ k
      · refine (hP i).bind (fun _ k => .ite (((mE _ _).mono (s1 k)).bind fun _ k => msemi _ k) (.ite (((mE _ _).mono (s1 k)).bind fun _ k => msemi _ k) (.ite (msemi _ k) (.no (Nat.le_refl _)))))
          (fun _ k => .ite (((kE _ _).mono (s1 k)).bind fun _ k => ksemi _ k) (.ite (((kE _ _).mono (s1 k)).bind fun _ k => ksemi _ k) (.ite (ksemi _ k) (.no (Nat.le_refl _))))) fun x k hk => ?_
        exact .ite (by rw [isA_ag ha hk]) (fun _ => (hE _ _).bind (fun _ k => msemi _ k) (fun _ k => ksemi _ k) fun _ k _ => semi _ k) fun _ =>
          .ite (by rw [isA_ag ha hk]) (fun _ => (hE _ _).bind (fun _ k => msemi _ k) (fun _ k => ksemi _ k) fun _ k _ => semi _ k) fun _ => .ite Iff.rfl (fun _ => semi _ k) fun _ => .refl
theorem locs_cc : ∀ (f f' i : Nat) (acc : List Fld), CC J (locsA l f i acc) (locsA l' f' i acc)
  | 0, _, _, _ => .out
  | _ + 1, 0, _, _ => .outR
  | f + 1, f' + 1, i, acc => by
    refine .start (locs_mg _ _ _) (locs_mg _ _ _) fun hi => ?_
    simp only [locsA]
    exact .ite (isA_ag' ha hi _) (fun _ => (CC.field ha _).bind (fun _ k => (MG.one _ k).bind fun _ k => locs_mg f k _) (fun _ k => (MG.one _ k).bind fun _ k => locs_mg f' k _) fun _ k _ =>
      (CC.one ha _ k).bind (fun _ k => locs_mg f k _) (fun _ k => locs_mg f' k _) fun _ k _ => locs_cc f f' k _) fun _ => .refl
theorem fields_cc (sep fin : Str) (f f' i : Nat) (acc : List Fld) : CC J (listA l sep fin (fieldA l) f i acc) (listA l' sep fin (fieldA l') f' i acc) := CC.list ha sep fin _ _ (fun i => .field i) (fun i => .field i) (CC.field ha) f f' i acc
theorem formula_cc (f f' i : Nat) : CC J (formulaA l f i) (formulaA l' f' i) := (CC.one ha _ i).bind (fun _ k => (expr_mg f).1 _ k) (fun _ k => (expr_mg f').1 _ k) fun _ k _ => (expr_cc ha f f').1 _ k
theorem proc_cc (f f' i : Nat) : CC J (procA l f i) (procA l' f' i) := by
  unfold procA
  have m7 : ∀ {l : List Tok} (f : Nat) (n : Str) (ps : List Fld) (r : Str) (ls : List Fld) (k : Nat), MG k ((stmtsA l f k []).bind fun b i => PA.ok (⟨n, ps, r, ls, b⟩ : Pr) i) := fun f _ _ _ _ k => ((stmt_mg f).1 k _).bind fun _ _ => mO
  have m6 : ∀ {l : List Tok} (f : Nat) (n : Str) (ps : List Fld) (r : Str) (k : Nat), MG k ((locsA l f k []).bind fun ls i => (stmtsA l f i []).bind fun b i => PA.ok (⟨n, ps, r, ls, b⟩ : Pr) i) := fun f _ _ _ k => (locs_mg f k _).bind fun _ k => m7 f _ _ _ _ k
  have m5 : ∀ {l : List Tok} (f : Nat) (n : Str) (ps : List Fld) (r : Str) (k : Nat), MG k ((oneA l ⟨#[123]⟩ k).bind fun _ i => (locsA l f i []).bind fun ls i => (stmtsA l f i []).bind fun b i => PA.ok (⟨n, ps, r, ls, b⟩ : Pr) i) := fun f _ _ _ k => (MG.one _ k).bind fun _ k => m6 f _ _ _ k
  have m4 : ∀ {l : List Tok} (f : Nat) (n : Str) (ps : List Fld) (k : Nat), MG k ((if isA l k ⟨#[123]⟩ = true then PA.ok (⟨#[]⟩ : ByteArray) k else typA l k).bind fun r i => (oneA l ⟨#[123]⟩ i).bind fun _ i => (locsA l f i []).bind fun ls i => (stmtsA l f i []).bind fun b i => PA.ok (⟨n, ps, r, ls, b⟩ : Pr) i) :=
    fun f _ _ k => (MG.ite mO (.typ k)).bind fun _ k => m5 f _ _ _ k
  refine (CC.name ha i).bind (fun _ k => (MG.one _ k).bind fun _ k => (MG.list _ _ _ (fun i => .field i) f k _).bind fun _ k => m4 f _ _ k) (fun _ k => (MG.one _ k).bind fun _ k => (MG.list _ _ _ (fun i => .field i) f' k _).bind fun _ k => m4 f' _ _ k) fun n k _ => ?_
  refine (CC.one ha _ k).bind (fun _ k => (MG.list _ _ _ (fun i => .field i) f k _).bind fun _ k => m4 f _ _ k) (fun _ k => (MG.list _ _ _ (fun i => .field i) f' k _).bind fun _ k => m4 f' _ _ k) fun _ k _ => ?_
  refine (fields_cc ha _ _ f f' k _).bind (fun _ k => m4 f _ _ k) (fun _ k => m4 f' _ _ k) fun ps k hk => ?_
  refine (CC.ite (isA_ag' ha hk _) (fun _ => .refl) fun _ => .typ ha k).bind (fun _ k => m5 f _ _ _ k) (fun _ k => m5 f' _ _ _ k) fun r k _ => ?_
  refine (CC.one ha _ k).bind (fun _ k => m6 f _ _ _ k) (fun _ k => m6 f' _ _ _ k) fun _ k _ => ?_
  exact (locs_cc ha f f' k _).bind (fun _ k => m7 f _ _ _ _ k) (fun _ k => m7 f' _ _ _ _ k) fun ls k _ => CC.fin ha ((stmt_cc ha f f').1 k _)
theorem measure_cc (f f' i : Nat) : CC J (measureA l f i) (measureA l' f' i) := by
  unfold measureA
  have m7 : ∀ {l : List Tok} (f : Nat) (n t : Str) (z : Int) (k : Nat), MG k ((formulaA l f k).bind fun x j => PA.ok (⟨n, t, z, x⟩ : Ms) j) := fun f _ _ _ k => (formula_mg f k).bind fun _ _ => mO
  have m6 : ∀ {l : List Tok} (f : Nat) (n t : Str) (k : Nat), MG k ((intA l (if isA l k (⟨#[45]⟩ : ByteArray) = true then k + 1 else k)).bind fun z i' => (formulaA l f i').bind fun x j => PA.ok (⟨n, t, if isA l k (⟨#[45]⟩ : ByteArray) = true then -z else z, x⟩ : Ms) j) :=
    fun f _ _ k => ((MG.int _).mono (by split <;> omega)).bind fun _ k => m7 f _ _ _ k
  refine (CC.name ha i).bind (fun _ k => (MG.one _ k).bind fun _ k => (MG.name k).bind fun _ k => (MG.one _ k).bind fun _ k => (MG.one _ k).bind fun _ k => m6 f _ _ k) (fun _ k => (MG.one _ k).bind fun _ k => (MG.name k).bind fun _ k => (MG.one _ k).bind fun _ k => (MG.one _ k).bind fun _ k => m6 f' _ _ k) fun n k _ => ?_
  refine (CC.one ha _ k).bind (fun _ k => (MG.name k).bind fun _ k => (MG.one _ k).bind fun _ k => (MG.one _ k).bind fun _ k => m6 f _ _ k) (fun _ k => (MG.name k).bind fun _ k => (MG.one _ k).bind fun _ k => (MG.one _ k).bind fun _ k => m6 f' _ _ k) fun _ k _ => ?_
  refine (CC.name ha k).bind (fun _ k => (MG.one _ k).bind fun _ k => (MG.one _ k).bind fun _ k => m6 f _ _ k) (fun _ k => (MG.one _ k).bind fun _ k => (MG.one _ k).bind fun _ k => m6 f' _ _ k) fun t k _ => ?_
  refine (CC.one ha _ k).bind (fun _ k => (MG.one _ k).bind fun _ k => m6 f _ _ k) (fun _ k => (MG.one _ k).bind fun _ k => m6 f' _ _ k) fun _ k _ => ?_
  refine (CC.one ha _ k).bind (fun _ k => m6 f _ _ k) (fun _ k => m6 f' _ _ k) fun _ k hk => ?_
  rw [isA_ag ha hk]
  exact (CC.int ha _).bind (fun _ k => m7 f _ _ _ k) (fun _ k => m7 f' _ _ _ k) fun _ k _ => CC.fin ha (formula_cc ha f f' k)
theorem item_cc (f f' i : Nat) (d : Desc) : CC J (itemA l f i d) (itemA l' f' i d) := by
  refine .start (item_mg f i d) (item_mg f' i d) fun hi => ?_
  have A := fun s => isA_ag' ha hi s
  have s1 : ∀ i : Nat, i ≤ i + 1 := fun _ => Nat.le_succ _
  have mf : ∀ {l : List Tok} {α : Type} (f : Nat) (g : Ex → α) (k : Nat), MG k ((formulaA l f k).bind fun x i => PA.ok (g x) i) := fun {_ _} f _ k => (formula_mg f k).bind fun _ _ => mO
  have mi : ∀ {l : List Tok} (k : Nat), MG k (if isA l k (⟨#[40]⟩ : ByteArray) = true then (nameA l (k + 1)).bind fun t i => (oneA l (⟨#[41]⟩ : ByteArray) i).bind fun _ i => PA.ok t i else PA.ok (⟨#[]⟩ : ByteArray) k) := fun k => .ite (((MG.name _).mono (s1 k)).bind fun _ k => (MG.one _ k).bind fun _ _ => mO) mO
  unfold itemA
  refine .ite (A _) (fun _ => ?_) fun _ => .ite (A _) (fun _ => CC.fin ha (CC.field ha _)) fun _ => .ite (A _) (fun _ => CC.fin ha (proc_cc ha f f' _)) fun _ => .ite (A _) (fun _ => CC.fin ha (measure_cc ha f f' _)) fun _ => .ite (A _) (fun _ => ?_) fun _ => .ite (A _) (fun _ => ?_) fun _ => .ite (A _) (fun _ => ?_) fun _ => .refl
  · exact (CC.name ha _).bind (fun _ k => (MG.one _ k).bind fun _ k => (MG.list _ _ _ (fun i => .field i) f k _).bind fun _ _ => mO) (fun _ k => (MG.one _ k).bind fun _ k => (MG.list _ _ _ (fun i => .field i) f' k _).bind fun _ _ => mO) fun _ k _ =>
      (CC.one ha _ k).bind (fun _ k => (MG.list _ _ _ (fun i => .field i) f k _).bind fun _ _ => mO) (fun _ k => (MG.list _ _ _ (fun i => .field i) f' k _).bind fun _ _ => mO) fun _ k _ => CC.fin ha (fields_cc ha _ _ f f' k _)
  · refine (CC.name ha _).bind (fun _ k => (mi k).bind fun _ k => mf f _ k) (fun _ k => (mi k).bind fun _ k => mf f' _ k) fun _ k hk => ?_
    refine (CC.ite (isA_ag' ha hk _) (fun _ => (CC.name ha _).bind (fun _ k => (MG.one _ k).bind fun _ _ => mO) (fun _ k => (MG.one _ k).bind fun _ _ => mO) fun t k _ => (CC.one ha _ k).bind (fun _ _ => mO) (fun _ _ => mO) fun _ _ _ => .refl) fun _ => .refl).bind (fun _ k => mf f _ k) (fun _ k => mf f' _ k) fun _ k _ => CC.fin ha (formula_cc ha f f' k)
  · refine (CC.start (i := i + 1) (.ite mO (.name _)) (.ite mO (.name _)) fun hi2 => .ite (isA_ag' ha hi2 _) (fun _ => .refl) fun _ => .name ha _).bind (fun _ k => mf f _ k) (fun _ k => mf f' _ k) fun _ k _ => CC.fin ha (formula_cc ha f f' k)
  · exact (CC.name ha _).bind (fun _ k => mf f _ k) (fun _ k => mf f' _ k) fun _ k _ => CC.fin ha (formula_cc ha f f' k)
theorem items_cc (f f' : Nat) : ∀ (g g' i : Nat) (d : Desc), CC J (itemsA l f g i d) (itemsA l' f' g' i d)
  | 0, _, _, _ => .out
  | _ + 1, 0, _, _ => .outR
  | g + 1, g' + 1, i, d => by
    refine .start (items_mg f _ _ _) (items_mg f' _ _ _) fun hi => ?_
    simp only [itemsA]
    exact .ite (isA_ag' ha hi _) (fun _ => .refl) fun _ => (item_cc ha f f' i d).bind (fun _ k => items_mg f g k _) (fun _ k => items_mg f' g' k _) fun d k _ => items_cc f f' g g' k d
theorem desc_cc (f f' : Nat) : CC J (descA l f) (descA l' f') := by
  unfold descA
  refine (CC.one ha _ 0).bind (fun _ k => (MG.name k).bind fun _ k => (MG.one _ k).bind fun _ k => items_mg f f k _) (fun _ k => (MG.name k).bind fun _ k => (MG.one _ k).bind fun _ k => items_mg f' f' k _) fun _ k _ => ?_
  refine (CC.name ha k).bind (fun _ k => (MG.one _ k).bind fun _ k => items_mg f f k _) (fun _ k => (MG.one _ k).bind fun _ k => items_mg f' f' k _) fun _ k _ => ?_
  exact (CC.one ha _ k).bind (fun _ k => items_mg f f k _) (fun _ k => items_mg f' f' k _) fun _ k _ => items_cc ha f f' f f' k _
end
end Hw.Pa
namespace Hw.Pa
open Go Go.Proofs Hw.M

theorem keys_get {a b : List Tok} (h : a.map keyT = b.map keyT) (k : Nat) : (a[k]?).map keyT = (b[k]?).map keyT := by
  rw [← List.getElem?_map, ← List.getElem?_map, h]
structure Stop (s : Str) (l o : List Tok) (i : Nat) (t : Tok) : Prop where
  tok : tokensS s = (l, (0, 0), 0)
  good : GoodL l
  eq : ∃ q : Int × Int, l = o ++ [⟨5, (⟨#[]⟩ : ByteArray), 0, q.1, q.2⟩] ∧ InvT o q
  at_ : o[i]? = some t
  place : (descTop s).2.1 = (t.ln, t.cl)
  ans : descA l (10 * l.length + 13) = .no i ∨ ∃ x, descA l (10 * l.length + 13) = .ok x i
section
variable {s : Str} {l o : List Tok} {i : Nat} {t : Tok} (hS : Stop s l o i t)
include hS
theorem Stop.lt : i < o.length := (List.getElem?_eq_some_iff.1 hS.at_).1
theorem Stop.take {k : Nat} (hk : k ≤ o.length) : l.take k = o.take k := by
  obtain ⟨q, e, _⟩ := hS.eq
  rw [e, List.take_append_of_le_length hk]
theorem Stop.valid {u : Tok} (hu : u ∈ o) : validF u = true ∧ u.k ≠ 5 := by
  obtain ⟨q, _, h⟩ := hS.eq
  exact ⟨(h.each u hu).1, (h.each u hu).2.1⟩
theorem Stop.get : l[i]? = some t := by
  obtain ⟨q, e, _⟩ := hS.eq
  rw [e, List.getElem?_append_left hS.lt]
  exact hS.at_
theorem Stop.asc : ∀ (d j : Nat) (u v : Tok), o[j]? = some u → o[j + d + 1]? = some v → ltP (posT u) (posT v)
  | 0, j, u, v, hu, hv => by
    obtain ⟨q, _, h⟩ := hS.eq
    exact h.asc j u v hu hv
  | d + 1, j, u, v, hu, hv => by
    obtain ⟨q, _, h⟩ := hS.eq
    have hlt := (List.getElem?_eq_some_iff.1 hv).1
    obtain ⟨w, hw⟩ := exists_at (l := o) (i := j + d + 1) (by omega)
    exact (Stop.asc d j u w hu hw).trans (h.asc (j + d + 1) w v hw hv)
theorem Stop.first {j : Nat} {u : Tok} (hj : j < i) (hu : l[j]? = some u) : ¬ (u.ln = t.ln ∧ u.cl = t.cl) := by
  have hi := hS.lt
  have hu' : o[j]? = some u := by
    obtain ⟨q, e, _⟩ := hS.eq
    rw [e, List.getElem?_append_left (by omega)] at hu
    exact hu
  have ht : o[j + (i - j - 1) + 1]? = some t := by rw [show j + (i - j - 1) + 1 = i by omega]; exact hS.at_
  have h := hS.asc (i - j - 1) j u t hu' ht
  unfold ltP posT at h
  simp only at h
  omega
theorem Stop.okJ {k : Nat} (hk : k ≤ o.length) : okJ (l.take k) := fun j u hu => by
  rw [hS.take hk] at hu
  have hm : u ∈ o := List.mem_of_mem_take (List.mem_of_getElem? hu)
  obtain ⟨h1, h2⟩ := hS.valid hm
  unfold okAt
  rw [h1, decide_eq_false h2]
  rfl
theorem Stop.size {k : Nat} (hs : s.size ≤ 2000) (hk : k ≤ o.length) : (accJ (l.take k) 0 (⟨#[]⟩ : ByteArray)).size ≤ 45000 := by
  rw [accJ_len]
  have h1 := joinL_len (l.take k) 0
  have h2 := szT_take l k
  have h3 := tokens_sz s
  rw [hS.tok] at h3
  have h4 : l.length ≤ s.size + 1 := by
    rcases tokens_good s with ⟨l2, e, _, h⟩ | ⟨q, e, h, h74⟩
    · rw [hS.tok] at e
      simp only [Prod.mk.injEq, and_true] at e
      rw [e]; exact h
    · rw [hS.tok] at h
      simp only [Prod.mk.injEq] at h
      omega
  have h5 : (l.take k).length ≤ l.length := by rw [List.length_take]; omega
  simp only at h3
  omega
theorem Stop.begin (hs : s.size ≤ 2000) : (descTop (accJ (l.take i) 0 (⟨#[]⟩ : ByteArray))).2.2 = 8 ∨ (descTop (accJ (l.take i) 0 (⟨#[]⟩ : ByteArray))).2.2 = 0 ∨ (descTop (accJ (l.take i) 0 (⟨#[]⟩ : ByteArray))).2.2 = 4 := by
  have hi := hS.lt
  obtain ⟨o2, e1, e2⟩ := join_back (hS.okJ (by omega : i ≤ o.length)) (by have := hS.size hs (by omega : i ≤ o.length); omega)
  have hw : withEnd (l.take i) = l.take i ++ [endT] := by
    unfold withEnd
    rw [if_neg]
    intro h
    rw [hS.take (by omega)] at h
    rw [List.getLast?_eq_getElem?] at h
    rw [Option.map_eq_some_iff] at h
    obtain ⟨u, hu, h5⟩ := h
    exact (hS.valid (List.mem_of_mem_take (List.mem_of_getElem? hu))).2 h5
  rw [hw] at e2
  have hlen : (l.take i).length = i := by rw [hS.take (by omega), List.length_take]; omega
  have hlen2 : o2.length = i + 1 := by
    have := congrArg List.length e2
    rw [List.length_map, List.length_map, List.length_append, hlen] at this
    exact this
  have hg : GoodL o2 := by
    rcases tokens_good (accJ (l.take i) 0 (⟨#[]⟩ : ByteArray)) with ⟨l2, e, h, _⟩ | ⟨q, e, h, h74⟩
    · rw [e1] at e
      simp only [Prod.mk.injEq, and_true] at e
      rw [e]; exact h
    · rw [e1] at h
      simp only [Prod.mk.injEq] at h
      omega
  have hag : AG i l o2 := fun k hk => by
    rw [keys_get e2 k, List.getElem?_append_left (by omega), List.getElem?_take, if_pos hk]
  have h5 : ∀ u, o2[i]? = some u → u.k = 5 := fun u hu => by
    have h := keys_get e2 i
    rw [hu, List.getElem?_append_right (by omega), hlen, Nat.sub_self] at h
    simp only [List.getElem?_cons_zero, Option.map_some, Option.some.injEq, keyT, endT, Prod.mk.injEq] at h
    exact h.1
  have hcc := desc_cc hag (10 * l.length + 13) (10 * o2.length + 13)
  have hmg : MG i (descA o2 (10 * o2.length + 13)) := by
    rcases hS.ans with e | ⟨x, e⟩
    · exact (hcc.2 i e).2 (Nat.le_refl _)
    · exact (hcc.1 x i e).2 (Nat.le_refl _)
  have hrg : RA o2 (descA o2 (10 * o2.length + 13)) := by
    rw [← er_desc]
    exact .er (.go (.one hg (by omega) _) fun _ _ hk => .go (.name hg hk) fun _ _ hk => .go (.one hg hk _) fun _ _ hk => items_rg hg _ _ _ _ hk)
  have hout := desc_out (l := o2) (f := 10 * o2.length + 13) (by omega)
  have hT : descTop (accJ (l.take i) 0 (⟨#[]⟩ : ByteArray)) = topD o2 := by unfold descTop; rw [e1]; exact if_pos rfl
  rw [hT]
  unfold topD
  cases hx : descA o2 (10 * o2.length + 13) with
  | out => exact absurd hx hout
  | no j =>
    have a := hmg.2 j hx
    have b := hrg.2 j hx
    obtain rfl : j = i := by omega
    obtain ⟨u, hu⟩ := exists_at b
    simp only [hu, h5 u hu, if_true]
    first
      | exact .inl rfl
      | exact .inl trivial
  | ok x j =>
    have a := hmg.1 x j hx
    have b := hrg.1 x j hx
    obtain rfl : j = i := by omega
    obtain ⟨u, hu⟩ := exists_at b
    simp only [hu, h5 u hu, if_true]
    split
    · first
        | exact .inr (.inl rfl)
        | exact .inr (.inl trivial)
    · first
        | exact .inr (.inr rfl)
        | exact .inr (.inr trivial)
end
end Hw.Pa
namespace Hw.Pa
open Go Go.Proofs Hw.M

theorem full_top {x : Ex} (how : Nat) (hv : exprOk x = true) (hc : cntE x ≤ 60) : exprTop (fullS x how) = (x, (0, 0), 0) := by
  have hvE : vE x = true := vE_of x 1 (of_decide_eq_true hv)
  have hz := full_size x how hvE
  obtain ⟨p', o, e1, e2⟩ := full_lx x how hvE [] (.inl rfl) (1, 1) []
  have hT : tokensS (fullS x how) = (o ++ [⟨5, (⟨#[]⟩ : ByteArray), 0, p'.1, p'.2⟩], (0, 0), 0) := by
    unfold tokensS
    rw [if_neg (by omega)]
    rw [List.append_nil] at e1
    rw [e1, lxx_nil, List.nil_append]
  generalize hl : o ++ [(⟨5, (⟨#[]⟩ : ByteArray), 0, p'.1, p'.2⟩ : Tok)] = l at hT
  have hlen : o.length = (fullK x how).length := by have := congrArg List.length e2; simpa using this
  have hat : At l 0 (fullK x how) := fun j t ht => by
    have hj := (List.getElem?_eq_some_iff.1 ht).1
    rw [Nat.zero_add, ← hl, List.getElem?_append_left (by omega), keys_get e2 j, ht]
    rfl
  have hend : l[(fullK x how).length]? = some ⟨5, (⟨#[]⟩ : ByteArray), 0, p'.1, p'.2⟩ := by
    rw [← hl, List.getElem?_append_right (by omega), hlen, Nat.sub_self]
    rfl
  have hst : Stp l (0 + (fullK x how).length) := fun s e => by
    rw [Nat.zero_add] at e
    unfold isA at e
    rw [hend] at e
    simp at e
  have hor := full_or (sizeOf x + 1) x how (Nat.lt_succ_self _) hvE 0 hat hst (10 * l.length + 13)
  have hout := (expr_fuel (l := l) (10 * l.length + 13)).1 0 0 (by decide) (by omega)
  rcases hor with h | h
  · exact absurd h hout
  · rw [Nat.zero_add] at h
    unfold exprTop
    rw [hT]
    simp only [if_true]
    unfold topT
    rw [h]
    simp only [hend, if_true]
    rw [if_pos hv]
theorem size_cnt {x : Ex} (hs : countS x 1 ≤ 60) : cntE x ≤ 60 := by
  have e : countS x ((1 : Nat) : Int) = countS x 1 := rfl
  have := (cnt_ok x 1 (by rw [e]; omega)).1
  omega
theorem rsizeY_ok (x : Ex) (hv : exprOk x = true) : FnOK Tryz.prog 18 [aggS (exprC x)] [] (I (countS x 1)) [] := by
  have hE := expr_ok x
  rw [hv] at hE
  have hK := count_ok (sizeOf x + 1) x 1 (by omega) (by omega) (by omega)
  refine fn_ok T Tryz.func18 (by kernel_rfl) rfl rfl rfl rfl fun C hC => ?_
  repeat' first | refine g_go T hC true 400 rfl rfl ?_ | (exfalso; simp at h; done) | refine g_cond rfl (fun h => ?_) (fun h => ?_) | refine g_call hC (hE) rfl rfl (LeSs.refl _) rfl rfl rfl ?_ | refine g_call hC (hK) rfl rfl (LeSs.refl _) rfl rfl rfl ?_ | refine g_reti T (.inl rfl) rfl ?_
  all_goals rfl
end Hw.Pa
