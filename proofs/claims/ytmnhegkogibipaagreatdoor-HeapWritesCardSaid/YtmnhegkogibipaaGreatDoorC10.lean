/- The engine and the contracts. -/
import Derived.Test.YtmnhegkogibipaaGreatDoorC9
set_option linter.unusedVariables false
set_option linter.unusedSimpArgs false
namespace Hw.Z
open Go Go.Proofs Hw.M

/-! What a search counts: references are nodes that are entered, or passed over -/
def refs (ps : List (Fld × Int)) : Nat := (ps.filter isRef).length
theorem refs_append (a b : List (Fld × Int)) : refs (a ++ b) = refs a + refs b := by simp only [refs, List.filter_append, List.length_append]
def refsAll (d : Desc) (m : Hp) (l : List Int) : Nat := (l.map fun x => refs (pairsOf d m x)).sum
theorem refsAll_append (d : Desc) (m : Hp) (a b : List Int) : refsAll d m (a ++ b) = refsAll d m a + refsAll d m b := by simp only [refsAll, List.map_append, List.sum_append]
structure Stp (d : Desc) (m : Hp) (ps : List (Fld × Int)) (s s' : SS) (new : List Int) (e : Nat) : Prop where
  ord : s'.order = s.order ++ new
  cnt : refs ps + refsAll d m new = new.length + e
  ag0 : e = 0 → s'.again = s.again
  ag1 : e ≠ 0 → s.again = 0 → s'.again ≠ 0 ∧ s'.again ∈ s'.order
  ag2 : s.again ≠ 0 → s'.again = s.again
  all : ∀ p ∈ ps, isRef p = true → p.2 ∈ s'.order
  cls : ∀ x ∈ new, ∀ p ∈ pairsOf d m x, isRef p = true → p.2 ∈ s'.order
theorem Stp.app {d : Desc} {m : Hp} {ps qs : List (Fld × Int)} {s s1 s2 : SS} {n1 n2 : List Int} {e1 e2 : Nat} (h : Stp d m ps s s1 n1 e1) (k : Stp d m qs s1 s2 n2 e2) : Stp d m (ps ++ qs) s s2 (n1 ++ n2) (e1 + e2) := by
  have hsub : ∀ x, x ∈ s1.order → x ∈ s2.order := fun x hx => by rw [k.ord]; exact List.mem_append_left _ hx
  refine ⟨by rw [k.ord, h.ord, List.append_assoc], ?_, fun he => ?_, fun he h0 => ?_, fun h0 => ?_, fun p hp hr => ?_, fun x hx p hp hr => ?_⟩
  · have h1 := h.cnt
    have h2 := k.cnt
    rw [refs_append, refsAll_append, List.length_append]; omega
  · rw [k.ag0 (by omega), h.ag0 (by omega)]
  · by_cases h1 : e1 = 0
    · exact k.ag1 (by omega) (by rw [h.ag0 h1]; exact h0)
    · have h2 := h.ag1 h1 h0
      rw [k.ag2 h2.1]
      exact ⟨h2.1, hsub _ h2.2⟩
  · have h1 := h.ag2 h0
    rw [k.ag2 (by rw [h1]; exact h0), h1]
  · rcases List.mem_append.1 hp with hp | hp
    · exact hsub _ (h.all p hp hr)
    · exact k.all p hp hr
  · rcases List.mem_append.1 hx with hx | hx
    · exact hsub _ (h.cls x hx p hp hr)
    · exact k.cls x hx p hp hr
theorem Stp.none (d : Desc) (m : Hp) (s : SS) : Stp d m [] s s [] 0 := ⟨by simp, rfl, fun _ => rfl, fun h => absurd rfl h, fun _ => rfl, fun p hp => by simp at hp, fun x hx => by simp at hx⟩
theorem Stp.skip {d : Desc} {m : Hp} {p : Fld × Int} {s : SS} (h : isRef p = false) : Stp d m [p] s s [] 0 :=
  ⟨by simp, by simp [refs, refsAll, h], fun _ => rfl, fun h => absurd rfl h, fun _ => rfl, fun q hq hr => (by simp only [List.mem_singleton] at hq; subst hq; rw [h] at hr; cases hr), fun x hx => by simp at hx⟩
theorem look_stp {d : Desc} {m : Hp} (hw : WF d m) {k : Nat}
    (hE : ∀ (p : Fld × Int) (s : SS), isRef p = true → RefOK m p → StOK m s → m.n.length - s.order.length < k → ∃ new e, Stp d m [p] s (enterS k d m p.2 s) new e) :
    ∀ (ps : List (Fld × Int)) (s : SS), (∀ p ∈ ps, RefOK m p) → StOK m s → m.n.length - s.order.length < k → ∃ new e, Stp d m ps s (lookS k d m ps s) new e
  | [], s, _, _, _ => ⟨[], 0, Stp.none d m s⟩
  | p :: ps, s, hp, hs, hk => by
    rw [lookS_cons]
    by_cases hr : isRef p = true
    · rw [if_pos hr]
      have hv := hp p (by simp) hr
      have hkeep := enterS_keep hw k p.2 s hv.1 hv.2 hs
      obtain ⟨n1, e1, h1⟩ := hE p s hr (hp p (by simp)) hs hk
      obtain ⟨n2, e2, h2⟩ := look_stp hw hE ps _ (fun q hq => hp q (by simp [hq])) hkeep.1 (by have := hkeep.2; omega)
      exact ⟨_, _, h1.app h2⟩
    · rw [if_neg hr]
      obtain ⟨n2, e2, h2⟩ := look_stp hw hE ps s (fun q hq => hp q (by simp [hq])) hs hk
      exact ⟨_, _, (Stp.skip (by simpa using hr)).app h2⟩
theorem enter_stp {d : Desc} {m : Hp} (hw : WF d m) : ∀ (k : Nat) (p : Fld × Int) (s : SS), isRef p = true → RefOK m p → StOK m s → m.n.length - s.order.length < k → ∃ new e, Stp d m [p] s (enterS k d m p.2 s) new e
  | 0, _, _, _, _, _, h => by omega
  | k + 1, p, s, hr, hv, hs, hk => by
    have hb := hv hr
    have hone : refs [p] = 1 := by simp [refs, hr]
    cases ho : (s.order.any fun x => decide (x = p.2)) with
    | true =>
      have hm : p.2 ∈ s.order := any_mem.1 ho
      rw [enterS_old ho]
      refine ⟨[], 1, by simp, by rw [hone]; rfl, fun h => by omega, fun _ h0 => ?_, fun h0 => by simp only [if_neg h0], fun q hq _ => ?_, fun x hx => by simp at hx⟩
      · simp only [if_pos h0]; exact ⟨by omega, hm⟩
      · simp only [List.mem_singleton] at hq; subst hq; exact hm
    | false =>
      rw [enterS_new ho]
      have hs' := hs.snoc hb.1 hb.2 ho s.again
      have hle := hs'.le
      simp only [List.length_append, List.length_singleton] at hle
      obtain ⟨n2, e2, h2⟩ := look_stp hw (enter_stp hw k) (pairsOf d m p.2) ⟨s.order ++ [p.2], s.again⟩ (hw.pairs p.2) hs' (by simp only [List.length_append, List.length_singleton]; omega)
      have hm : p.2 ∈ (lookS k d m (pairsOf d m p.2) ⟨s.order ++ [p.2], s.again⟩).order := by rw [h2.ord]; simp
      refine ⟨p.2 :: n2, e2, by rw [h2.ord]; simp, ?_, h2.ag0, h2.ag1, h2.ag2, fun q hq _ => ?_, fun x hx => ?_⟩
      · have := h2.cnt
        have e : refsAll d m (p.2 :: n2) = refs (pairsOf d m p.2) + refsAll d m n2 := by simp [refsAll]
        rw [hone, e, List.length_cons]; omega
      · simp only [List.mem_singleton] at hq; subst hq; exact hm
      · rcases List.mem_cons.1 hx with rfl | hx
        · exact h2.all
        · exact h2.cls x hx
/-- The search of a whole memory. -/
theorem search_stp {d : Desc} {m : Hp} (hw : WG d m) : ∃ e, Stp d m (d.globals.zip m.g) ⟨[], 0⟩ (searchS d m) (searchS d m).order e := by
  obtain ⟨new, e, h⟩ := look_stp hw.toWF (enter_stp hw.toWF (m.n.length + 1)) (d.globals.zip m.g) ⟨[], 0⟩ hw.gref ⟨by simp, by simp⟩ (by simp)
  have : new = (searchS d m).order := by have := h.ord; simpa [searchS] using this.symm
  subst this
  exact ⟨e, h⟩
/-! The canonical memory is valid, and its references are counted -/
theorem posI_mem {l : List Int} {v : Int} (h : v ∈ l) : 1 ≤ posI l v ∧ posI l v ≤ (l.length : Int) ∧ l[(posI l v - 1).toNat]? = some v := by
  rcases idxOf_ge (p := fun x : Int => decide (x = v)) (l := l) with h1 | ⟨i, x, h1, h2, h3, _⟩
  · have := idxOf_any (fun x : Int => decide (x = v)) l
    rw [any_mem.2 h, h1] at this
    cases this
  · have hx : x = v := by simpa using h3
    have hlt : i < l.length := (List.getElem?_eq_some_iff.1 h2).1
    have e : posI l v = (i : Int) + 1 := by rw [posI, h1]
    rw [e]
    refine ⟨by omega, by omega, ?_⟩
    rw [show ((i : Int) + 1 - 1).toNat = i by omega, h2, hx]
theorem posI_out {l : List Int} {v : Int} (h : ∀ x ∈ l, x ≠ v) : posI l v = 0 := by
  rcases idxOf_ge (p := fun x : Int => decide (x = v)) (l := l) with h1 | ⟨i, x, h1, h2, h3, _⟩
  · rw [posI, h1]; rfl
  · exact absurd (by simpa using h3) (h x (List.mem_of_getElem? h2))
theorem zip_ren (f : Fld × Int → Int) : ∀ (l : List Fld) (v : List Int), l.zip ((l.zip v).map f) = (l.zip v).map fun p => (p.1, f p)
  | [], _ => rfl
  | _ :: _, [] => rfl
  | a :: l, b :: v => by simp only [List.zip_cons_cons, List.map_cons, zip_ren f l v]
structure Canon (d : Desc) (m : Hp) (o : List Int) : Prop where
  zero : posI o 0 = 0
  glob : ∀ p ∈ d.globals.zip m.g, isRef p = true → p.2 ∈ o
  node : ∀ x ∈ o, ∀ p ∈ pairsOf d m x, isRef p = true → p.2 ∈ o
theorem isRef_ren {o : List Int} {p : Fld × Int} (hz : posI o 0 = 0) (h : isRef p = true → p.2 ∈ o) : isRef (p.1, renOf o p) = isRef p := by
  cases hp : isPlain p.1.t with
  | true => simp only [isRef, hp, Bool.not_true, Bool.false_and]
  | false =>
    have e : renOf o p = posI o p.2 := by simp only [renOf, hp, Bool.false_eq_true, if_false]
    by_cases h0 : p.2 = 0
    · have e2 : renOf o p = 0 := by rw [e, h0, hz]
      simp only [isRef, hp, e2, h0]
    · have hr : isRef p = true := by simp only [isRef, hp, decide_eq_false h0, Bool.not_false, Bool.and_self]
      have h1 := (posI_mem (h hr)).1
      rw [hr]
      have h2 : ¬ renOf o p = 0 := by rw [e]; omega
      simp only [isRef, hp, decide_eq_false h2, Bool.not_false, Bool.and_self]
theorem refs_ren {o : List Int} (hz : posI o 0 = 0) : ∀ (l : List Fld) (v : List Int), (∀ p ∈ l.zip v, isRef p = true → p.2 ∈ o) → refs (l.zip (renS o l v)) = refs (l.zip v) := by
  intro l v h
  rw [renS, zip_ren]
  generalize l.zip v = ps at h
  induction ps with
  | nil => rfl
  | cons p ps ih =>
    have e := isRef_ren hz (h p (by simp))
    have := ih fun q hq => h q (by simp [hq])
    simp only [refs, List.map_cons, List.filter_cons, e] at this ⊢
    split <;> simp_all
theorem canon_at {d : Desc} {m : Hp} {s : SS} {n : Int} {x : Nd} {ty : NodeT} (hx : m.n[(n - 1).toNat]? = some x) (hty : d.types[x.t.toNat]? = some ty) : nodeC d m s.order n = ⟨x.t, renS s.order ty.f x.f⟩ := by
  simp only [nodeC, hx, fieldsAt, hty, Option.map_some, Option.getD_some]
theorem pair_canon {d : Desc} {m : Hp} {s : SS} {p : Fld × Int} (hz : posI s.order 0 = 0) (h : pairOk d m p = true) (hin : isRef p = true → p.2 ∈ s.order) : pairOk d (canonS d m s) (p.1, renOf s.order p) = true := by
  simp only [pairOk, rightV] at h ⊢
  by_cases h1 : p.1.t = (⟨#[105, 110, 116]⟩ : ByteArray)
  · have hp : isPlain p.1.t = true := by simp only [isPlain, h1, decide_true, Bool.true_or]
    rw [if_pos h1] at h ⊢
    simp only [renOf, hp, if_true]; exact h
  · by_cases h2 : p.1.t = (⟨#[98, 111, 111, 108]⟩ : ByteArray)
    · have hp : isPlain p.1.t = true := by simp only [isPlain, h2, decide_true, Bool.or_true]
      rw [if_neg h1, if_pos h2] at h ⊢
      simp only [renOf, hp, if_true]; exact h
    · have hp : isPlain p.1.t = false := by simp only [isPlain, decide_eq_false h1, decide_eq_false h2, Bool.or_self]
      have e : renOf s.order p = posI s.order p.2 := by simp only [renOf, hp, Bool.false_eq_true, if_false]
      rw [if_neg h1, if_neg h2] at h ⊢
      simp only [e]
      by_cases h0 : p.2 = 0
      · rw [h0, hz]; simp
      · have hr : isRef p = true := by simp only [isRef, hp, decide_eq_false h0, Bool.not_false, Bool.and_self]
        obtain ⟨k1, k2, k3⟩ := posI_mem (hin hr)
        simp only [decide_eq_false h0, Bool.false_or, Bool.and_eq_true, decide_eq_true_eq] at h
        obtain ⟨_, h5⟩ := h
        cases hx : m.n[(p.2 - 1).toNat]? with
        | none => rw [hx] at h5; cases h5
        | some x =>
          rw [hx] at h5
          have e3 : ((canonS d m s).n[(posI s.order p.2 - 1).toNat]?).map (·.t) = some (tyIdx d p.1.t) := by
            simp only [canonS, List.getElem?_map, k3, Option.map_some, nodeC, hx]
            exact h5
          have e4 : posI s.order p.2 ≤ ((canonS d m s).n.length : Int) := by simp only [canonS, List.length_map]; exact k2
          rw [e3, decide_eq_true k1, decide_eq_true e4]; simp
theorem canonOf {d : Desc} {m : Hp} (hval : validM d m = true) : Canon d m (searchS d m).order := by
  have hs := search_ok hval
  obtain ⟨e, h⟩ := search_stp (wg_of hval)
  exact ⟨posI_out fun x hx => by have := hs.inr x hx; omega, h.all, h.cls⟩
theorem renS_len {o : List Int} {l : List Fld} {v : List Int} (h : l.length = v.length) : (renS o l v).length = v.length := by simp only [renS, List.length_map, List.length_zip]; omega
theorem canon_valid {d : Desc} {m : Hp} (hval : validM d m = true) : validM d (canonS d m (searchS d m)) = true := by
  have hc := canonOf hval
  have hs := search_ok hval
  have hw := wg_of hval
  have hle := hs.le
  have hsm := hw.small
  have hgl := hw.glen
  have hval' := hval
  simp only [validM, Bool.and_eq_true, decide_eq_true_eq, Bool.not_eq_true', decide_eq_false_iff_not] at hval' ⊢
  obtain ⟨⟨⟨⟨⟨v1, v2⟩, v3⟩, v4⟩, v5⟩, v6⟩ := hval'
  have hat : ∀ n ∈ (searchS d m).order, ∃ x ty, m.n[(n - 1).toNat]? = some x ∧ x ∈ m.n ∧ 0 ≤ x.t ∧ d.types[x.t.toNat]? = some ty ∧ ty.f.length = x.f.length ∧ nodeC d m (searchS d m).order n = ⟨x.t, renS (searchS d m).order ty.f x.f⟩ ∧ pairsOf d m n = ty.f.zip x.f := by
    intro n hn
    have hr := hs.inr n hn
    obtain ⟨x, hx⟩ := exists_at (l := m.n) (i := (n - 1).toNat) (by omega)
    obtain ⟨ht, ty, hty, hlen, _⟩ := hw.node x (List.mem_of_getElem? hx)
    exact ⟨x, ty, hx, List.mem_of_getElem? hx, ht, hty, hlen, canon_at hx hty, by simp only [pairsOf, hx, fieldsAt, hty, Option.map_some, Option.getD_some]⟩
  refine ⟨⟨⟨⟨⟨v1, ?_⟩, ?_⟩, ?_⟩, ?_⟩, ?_⟩
  · simp only [canonS]; rw [renS_len hgl]; exact v2
  · simp only [canonS, List.length_map]; omega
  · rw [List.all_eq_true]
    intro y hy
    simp only [canonS, List.mem_map] at hy
    obtain ⟨n, hn, rfl⟩ := hy
    obtain ⟨x, ty, hx, hxm, ht, hty, hlen, hnc, _⟩ := hat n hn
    have := List.all_eq_true.1 v4 x hxm
    rw [hnc]
    simp only [nodeShape, renS_len hlen] at this ⊢
    exact this
  · rw [List.all_eq_true]
    intro y hy
    simp only [canonS, renS, zip_ren, List.mem_map] at hy
    obtain ⟨p, hp, rfl⟩ := hy
    exact pair_canon hc.zero (List.all_eq_true.1 v5 p hp) (hc.glob p hp)
  · rw [List.all_eq_true]
    intro y hy
    simp only [canonS, List.mem_map] at hy
    obtain ⟨n, hn, rfl⟩ := hy
    obtain ⟨x, ty, hx, hxm, ht, hty, hlen, hnc, hpr⟩ := hat n hn
    have := List.all_eq_true.1 v6 x hxm
    rw [hnc]
    simp only [nodeRight, hty, Option.map_some, Option.getD_some] at this ⊢
    rw [List.all_eq_true]
    intro q hq
    simp only [renS, zip_ren, List.mem_map] at hq
    obtain ⟨p, hp, rfl⟩ := hq
    exact pair_canon hc.zero (List.all_eq_true.1 this p hp) (hc.node n hn p (by rw [hpr]; exact hp))
theorem canon_many {d : Desc} {m : Hp} (hval : validM d m = true) (h : manyS m = false) : manyS (canonS d m (searchS d m)) = false := by
  have hs := search_ok hval
  have hw := wg_of hval
  have hle := hs.le
  have hgl := hw.glen
  simp only [manyS, Bool.or_eq_false_iff, decide_eq_false_iff_not] at h ⊢
  obtain ⟨⟨h1, h2⟩, h3⟩ := h
  refine ⟨⟨?_, ?_⟩, ?_⟩
  · simp only [canonS]; rw [renS_len hgl]; exact h1
  · simp only [canonS, List.length_map]; omega
  · rw [List.any_eq_false] at h3 ⊢
    intro y hy
    simp only [canonS, List.mem_map] at hy
    obtain ⟨n, hn, rfl⟩ := hy
    have hr := hs.inr n hn
    obtain ⟨x, hx⟩ := exists_at (l := m.n) (i := (n - 1).toNat) (by omega)
    obtain ⟨ht, ty, hty, hlen, _⟩ := hw.node x (List.mem_of_getElem? hx)
    have := h3 x (List.mem_of_getElem? hx)
    rw [canon_at hx hty]
    simp only [renS_len hlen]; exact this
/-- How many references a memory's fields hold. -/
def refsM (d : Desc) (m : Hp) : Nat := refs (d.globals.zip m.g) + (m.n.map fun x => refs ((fieldsAt d x.t).zip x.f)).sum
theorem canon_refs {d : Desc} {m : Hp} (hval : validM d m = true) :
    ∃ e, refsM d (canonS d m (searchS d m)) = (searchS d m).order.length + e ∧ (e = 0 → (searchS d m).again = 0) ∧ (e ≠ 0 → (searchS d m).again ≠ 0 ∧ (searchS d m).again ∈ (searchS d m).order) := by
  have hc := canonOf hval
  have hs := search_ok hval
  have hw := wg_of hval
  have hle := hs.le
  obtain ⟨e, h⟩ := search_stp hw
  refine ⟨e, ?_, fun he => h.ag0 he, fun he => h.ag1 he rfl⟩
  rw [← h.cnt, refsM]
  have e1 : refs (d.globals.zip (canonS d m (searchS d m)).g) = refs (d.globals.zip m.g) := refs_ren hc.zero _ _ hc.glob
  rw [e1]
  congr 1
  simp only [canonS, refsAll, List.map_map]
  congr 1
  refine List.map_congr_left fun n hn => ?_
  have hr := hs.inr n hn
  obtain ⟨x, hx⟩ := exists_at (l := m.n) (i := (n - 1).toNat) (by omega)
  obtain ⟨ht, ty, hty, hlen, _⟩ := hw.node x (List.mem_of_getElem? hx)
  have hpr : pairsOf d m n = ty.f.zip x.f := by simp only [pairsOf, hx, fieldsAt, hty, Option.map_some, Option.getD_some]
  simp only [Function.comp]
  rw [canon_at hx hty, hpr]
  simp only [fieldsAt, hty, Option.map_some, Option.getD_some]
  exact refs_ren hc.zero _ _ fun p hp => hc.node n hn p (by rw [hpr]; exact hp)
end Hw.Z
namespace Hw.Z
open Go Go.Proofs Hw.M

theorem sidx_ok (l : List Int) (v : Int) : FnOK Tryz.prog 74 [pS (intsP l), I v] [] (I (inI l v)) [] := by
  refine fn_ok T Tryz.func74 (by kernel_rfl) rfl rfl rfl rfl fun C hC => ?_
  refine g_len 0 rfl fun hlen => ?_
  rw [List.length_map] at hlen
  repeat' first
    | refine g_go T hC true 400 rfl rfl ?_
    | refine g_cond rfl (fun h => ?_) (fun h => ?_)
    | refine g_end T hC (by kernel_rfl) ?_
    | refine g_splitD (fun h => ?_) (fun h => ?_)
    | refine g_splitG rfl rfl rfl (fun h => ?_) (fun h => ?_)
    | refine g_splitP rfl rfl (fun h => ?_) (fun h => ?_)
  rw [List.length_map]
  refine g_loop (fun i : Nat => i ≤ l.length ∧ (l.take i).any (fun x => decide (x = v)) = false) (fun i => ([(0, pS (intsP l)), (1, I v), (7, I l.length), (8, I i)], [])) (fun i => l.length - i) hC
    0 ⟨Nat.zero_le _, by simp⟩ id ⟨rfl, ⟨rfl, rfl, rfl, rfl, trivial⟩, trivial, rfl, fun _ _ => rfl⟩ ?_
  rintro i ⟨hi, hn⟩
  refine g_run' T hC true 200 rfl ?_
  refine g_cond rfl (fun h => ?_) (fun h => ?_)
  · have hlt : i < l.length := by simpa using h
    obtain ⟨x, hx⟩ := exists_at hlt
    repeat' first
      | refine g_go T hC true 400 rfl rfl ?_
      | refine g_cond rfl (fun h => ?_) (fun h => ?_)
      | refine g_end T hC (by kernel_rfl) ?_
      | refine g_splitD (fun h => ?_) (fun h => ?_)
      | refine g_splitG rfl rfl rfl (fun h => ?_) (fun h => ?_)
      | refine g_splitP rfl rfl (fun h => ?_) (fun h => ?_)
      | refine g_idx T hC rfl rfl rfl (Int.natCast_nonneg _) (map_at (by assumption)) rfl rfl ?_
      | refine g_outR ?_
      | refine g_reti T (.inl rfl) rfl ?_
    · have h' : v = x := of_decide_eq_true h
      exact (idxOf_at hx (decide_eq_true h'.symm) hn).symm
    · have h' : ¬ v = x := of_decide_eq_false h
      rw [wrapS (by omega)]
      refine g_round (i + 1) ⟨by omega, ?_⟩ id (by omega) ⟨rfl, ⟨rfl, rfl, rfl, rfl, trivial⟩, trivial, rfl, fun _ _ => rfl⟩
      rw [any_take hx, hn, Bool.false_or]; exact decide_eq_false fun e => h' e.symm
  · have hge : ¬ i < l.length := by simpa using h
    repeat' first
      | refine g_go T hC true 400 rfl rfl ?_
      | refine g_cond rfl (fun h => ?_) (fun h => ?_)
      | refine g_end T hC (by kernel_rfl) ?_
      | refine g_splitD (fun h => ?_) (fun h => ?_)
      | refine g_splitG rfl rfl rfl (fun h => ?_) (fun h => ?_)
      | refine g_splitP rfl rfl (fun h => ?_) (fun h => ?_)
      | refine g_outE ?_
      | refine g_reti T (.inl rfl) rfl ?_
    exact (idxOf_no (any_end (by omega) hn)).symm
theorem contains_ok (l : List Int) (v : Int) : FnOK Tryz.prog 28 [pS (intsP l), I v] [] (.bq (l.any fun x => decide (x = v))) [] := by
  have hany : decide (inI l v < 0) = !(l.any fun x => decide (x = v)) := idxOf_any _ _
  have e : decide (0 ≤ inI l v) = l.any fun x => decide (x = v) := by
    have e1 : decide (0 ≤ inI l v) = !decide (inI l v < 0) := by rw [← decide_not]; exact decide_eq_decide.2 (by omega)
    rw [e1, hany, Bool.not_not]
  rw [← e]
  refine fn_ok T Tryz.func28 (by kernel_rfl) rfl rfl rfl rfl fun C hC => ?_
  repeat' first
    | refine g_go T hC true 400 rfl rfl ?_
    | refine g_cond rfl (fun h => ?_) (fun h => ?_)
    | refine g_end T hC (by kernel_rfl) ?_
    | refine g_splitD (fun h => ?_) (fun h => ?_)
    | refine g_splitG rfl rfl rfl (fun h => ?_) (fun h => ?_)
    | refine g_splitP rfl rfl (fun h => ?_) (fun h => ?_)
    | refine g_call hC (sidx_ok l v) rfl rfl (LeSs.refl _) rfl rfl rfl ?_
    | refine g_retq T (.inl rfl) rfl ?_
    | refine g_retl T (.inl rfl) rfl ?_
  all_goals rfl

theorem refs_take {ps : List (Fld × Int)} {i : Nat} {x : Fld × Int} (h : ps[i]? = some x) : refs (ps.take (i + 1)) = refs (ps.take i) + (if isRef x = true then 1 else 0) := by
  rw [take_snoc' h, refs_append]
  congr 1
  simp only [refs]
  by_cases hr : isRef x = true
  · rw [if_pos hr]; simp [hr]
  · rw [if_neg hr]; simp [hr]
theorem refs_le (ps : List (Fld × Int)) : refs ps ≤ ps.length := List.length_filter_le _ _
theorem trees1_ok (l : List Fld) (v : List Int) (hlv : l.length = v.length) (c : Int) (h0 : 0 ≤ c) (hc : c + v.length ≤ 1000000) :
    FnOK Tryz.prog 29 [pS (fieldsP l), pS (intsP v), .one (.bx 0 0)] [(0, .box [.p (ki c)])] (.tup []) [(0, .box [.p (ki (c + refs (l.zip v)))])] := by
  generalize hR : c + (refs (l.zip v) : Int) = RES
  refine fn_ok T Tryz.func29 (by kernel_rfl) rfl rfl rfl rfl fun C hC => ?_
  repeat' first
    | refine g_go T hC true 400 rfl rfl ?_
    | refine g_cond rfl (fun h => ?_) (fun h => ?_)
    | refine g_end T hC (by kernel_rfl) ?_
    | refine g_splitD (fun h => ?_) (fun h => ?_)
    | refine g_splitG rfl rfl rfl (fun h => ?_) (fun h => ?_)
    | refine g_splitP rfl rfl (fun h => ?_) (fun h => ?_)
  rw [List.length_map]
  refine g_loop (fun i : Nat => i ≤ v.length) (fun i => ([(0, pS (fieldsP l)), (2, .one (.bx 0 0)), (8, pS (intsP v)), (9, I v.length), (10, I i)], [(0, some (Res.box [.p (ki (c + refs ((l.zip v).take i)))]))])) (fun i => v.length - i) hC
    0 (Nat.zero_le _) id ⟨rfl, ⟨rfl, rfl, rfl, rfl, rfl, trivial⟩, ⟨by (simp [refs]; rfl), trivial⟩, rfl, fun _ _ => rfl⟩ ?_
  intro i hi
  refine g_run' T hC true 200 rfl ?_
  refine g_cond rfl (fun h => ?_) (fun h => ?_)
  rotate_left
  · have hge : ¬ i < v.length := by simpa using h
    rw [List.take_of_length_le (by rw [List.length_zip]; omega), hR]
    repeat' first
      | refine g_go T hC true 400 rfl rfl ?_
      | refine g_cond rfl (fun h => ?_) (fun h => ?_)
      | refine g_end T hC (by kernel_rfl) ?_
      | refine g_splitD (fun h => ?_) (fun h => ?_)
      | refine g_splitG rfl rfl rfl (fun h => ?_) (fun h => ?_)
      | refine g_splitP rfl rfl (fun h => ?_) (fun h => ?_)
      | refine g_outE ?_
    exact g_fin ⟨.inr rfl, id, [], rfl, .refl _, ⟨rfl, trivial⟩, rfl, rfl⟩
  have hlt : i < v.length := by simpa using h
  clear h
  obtain ⟨x, hx⟩ := exists_at (l := l.zip v) (i := i) (by rw [List.length_zip]; omega)
  obtain ⟨hx1, hx2⟩ := zip_at hx
  have hrt := refs_take hx
  have hb : refs ((l.zip v).take i) ≤ v.length := by
    have := refs_le ((l.zip v).take i)
    rw [List.length_take, List.length_zip] at this
    omega
  repeat' first
    | refine g_go T hC true 400 rfl rfl ?_
    | refine g_cond rfl (fun h => ?_) (fun h => ?_)
    | refine g_end T hC (by kernel_rfl) ?_
    | refine g_splitD (fun h => ?_) (fun h => ?_)
    | refine g_splitG rfl rfl rfl (fun h => ?_) (fun h => ?_)
    | refine g_splitP rfl rfl (fun h => ?_) (fun h => ?_)
    | refine g_idx T hC rfl rfl rfl (Int.natCast_nonneg _) (map_at (by assumption)) rfl rfl ?_
  · rename_i k1 k2
    have hr : isRef x = true := by simp_all [isRef, isPlain]
    rw [if_pos hr] at hrt
    have w2 : IntKind.i64.wrap (c + (refs ((l.zip v).take i) : Int) + 1) = c + (refs ((l.zip v).take (i + 1)) : Int) := by
      rw [hrt, wrap64 (by omega)]; omega
    rw [wrapS (by omega), w2]
    exact g_round (i + 1) (by omega) id (by omega) ⟨rfl, ⟨rfl, rfl, rfl, rfl, rfl, trivial⟩, ⟨rfl, trivial⟩, rfl, fun _ _ => rfl⟩
  all_goals
    have hr : ¬ isRef x = true := by simp_all [isRef, isPlain]
    rw [if_neg hr] at hrt
    rw [wrapS (by omega)]
    exact g_round (i + 1) (by omega) id (by omega) ⟨rfl, ⟨rfl, rfl, rfl, rfl, rfl, trivial⟩, ⟨by rw [hrt]; rfl, trivial⟩, rfl, fun _ _ => rfl⟩
theorem sum_le60 {α : Type} {f : α → Nat} : ∀ (l : List α), (∀ x ∈ l, f x ≤ 60) → (l.map f).sum ≤ 60 * l.length
  | [], _ => by simp
  | a :: l, h => by
    have h1 := h a (by simp)
    have h2 := sum_le60 l fun x hx => h x (by simp [hx])
    simp only [List.map_cons, List.sum_cons, List.length_cons]; omega
def nrefs (d : Desc) (x : Nd) : Nat := refs ((fieldsAt d x.t).zip x.f)
theorem heapTrees_ok (d : Desc) (m : Hp) : FnOK Tryz.prog 5 [aggS (descR d), aggS (memR m)] [] (.bq true) [] := by
  have hL := large_ok d [m]
  have hV := valid12_ok d m
  cases hg : (greatS d || [m].any manyS) with
  | true =>
    rw [hg] at hL
    refine fn_ok T Tryz.func5 (by kernel_rfl) rfl rfl rfl rfl fun C hC => ?_
    repeat' first
      | refine g_go T hC true 400 rfl rfl ?_
      | refine g_cond rfl (fun h => ?_) (fun h => ?_)
      | refine g_end T hC (by kernel_rfl) ?_
      | refine g_splitD (fun h => ?_) (fun h => ?_)
      | refine g_splitG rfl rfl rfl (fun h => ?_) (fun h => ?_)
      | refine g_splitP rfl rfl (fun h => ?_) (fun h => ?_)
      | refine g_call hC (awake_ok) rfl rfl (LeSs.refl _) rfl rfl rfl ?_
      | refine g_lit T hC rfl rfl rfl rfl rfl rfl rfl rfl rfl ?_
      | refine g_call hC (hL) rfl rfl (LeSs.refl _) rfl rfl rfl ?_
      | refine g_retq T (.inl rfl) rfl ?_
      | refine g_retl T (.inl rfl) rfl ?_
    all_goals clear hL hV
    all_goals first | rfl | (exfalso; simp_all; done)
  | false =>
  rw [hg] at hL
  cases hval : validM d m with
  | false =>
    rw [hval] at hV
    refine fn_ok T Tryz.func5 (by kernel_rfl) rfl rfl rfl rfl fun C hC => ?_
    repeat' first
      | refine g_go T hC true 400 rfl rfl ?_
      | refine g_cond rfl (fun h => ?_) (fun h => ?_)
      | refine g_end T hC (by kernel_rfl) ?_
      | refine g_splitD (fun h => ?_) (fun h => ?_)
      | refine g_splitG rfl rfl rfl (fun h => ?_) (fun h => ?_)
      | refine g_splitP rfl rfl (fun h => ?_) (fun h => ?_)
      | refine g_call hC (awake_ok) rfl rfl (LeSs.refl _) rfl rfl rfl ?_
      | refine g_lit T hC rfl rfl rfl rfl rfl rfl rfl rfl rfl ?_
      | refine g_call hC (hL) rfl rfl (LeSs.refl _) rfl rfl rfl ?_
      | refine g_call hC (hV) rfl rfl (LeSs.refl _) rfl rfl rfl ?_
      | refine g_retq T (.inl rfl) rfl ?_
      | refine g_retl T (.inl rfl) rfl ?_
    all_goals clear hL hV
    all_goals first | rfl | (exfalso; simp_all; done)
  | true =>
  rw [hval] at hV
  have hmm : manyS m = false := by
    simp only [List.any_cons, List.any_nil, Bool.or_false, Bool.or_eq_false_iff] at hg
    exact hg.2
  have hcv := canon_valid hval
  have hcm := canon_many hval hmm
  obtain ⟨e, hcnt, he0, he1⟩ := canon_refs hval
  have hV2 := valid12_ok d (canonS d m (searchS d m))
  rw [hcv] at hV2
  have hM2 := many_ok (canonS d m (searchS d m))
  rw [hcm] at hM2
  have hK := contains_ok (searchS d m).order (searchS d m).again
  have hTr := tree_ok hval
  have hRe := reachable_ok hval
  have hCa := canon_ok hval
  have hcl : (canonS d m (searchS d m)).n.length = (searchS d m).order.length := by simp only [canonS, List.length_map]
  generalize canonS d m (searchS d m) = cm at *
  have hwc := wg_of hcv
  have hgl := hwc.glen
  have hmany := hcm
  simp only [manyS, Bool.or_eq_false_iff, decide_eq_false_iff_not] at hmany
  obtain ⟨⟨hg60, hn60⟩, hf60⟩ := hmany
  rw [List.any_eq_false] at hf60
  have hf : ∀ x ∈ cm.n, x.f.length ≤ 60 := fun x hx => by
    have := hf60 x hx
    simp only [decide_eq_true_eq] at this
    omega
  have hnr : ∀ x ∈ cm.n, nrefs d x ≤ 60 := fun x hx => by
    have h1 := refs_le ((fieldsAt d x.t).zip x.f)
    rw [List.length_zip] at h1
    have := hf x hx
    unfold nrefs; omega
  have hc0 : refs (d.globals.zip cm.g) ≤ 60 := by
    have h1 := refs_le (d.globals.zip cm.g)
    rw [List.length_zip] at h1
    omega
  have hGl := trees1_ok d.globals cm.g hgl 0 (by omega) (by omega)
  have hsum : refsM d cm = refs (d.globals.zip cm.g) + (cm.n.map (nrefs d)).sum := rfl
  rw [hsum] at hcnt
  have hiff : ((searchS d m).again = 0) ↔ e = 0 := ⟨fun h => by
    by_cases h1 : e = 0
    · exact h1
    · exact absurd h (he1 h1).1, he0⟩
  have hKt : ¬ (searchS d m).again = 0 → ((searchS d m).order.any fun x => decide (x = (searchS d m).again)) = true := fun h => any_mem.2 (he1 fun h1 => h (he0 h1)).2
  generalize searchS d m = s at *
  refine fn_ok T Tryz.func5 (by kernel_rfl) rfl rfl rfl rfl fun C hC => ?_
  repeat' first
    | refine g_go T hC true 400 rfl rfl ?_
    | refine g_bools hC rfl rfl (by kernel_rfl) rfl rfl ?_
    | refine g_cond rfl (fun h => ?_) (fun h => ?_)
    | refine g_end T hC (by kernel_rfl) ?_
    | refine g_splitD (fun h => ?_) (fun h => ?_)
    | refine g_splitG rfl rfl rfl (fun h => ?_) (fun h => ?_)
    | refine g_splitP rfl rfl (fun h => ?_) (fun h => ?_)
    | refine g_call hC (awake_ok) rfl rfl (LeSs.refl _) rfl rfl rfl ?_
    | refine g_lit T hC rfl rfl rfl rfl rfl rfl rfl rfl rfl ?_
    | refine g_call hC (hL) rfl rfl (LeSs.refl _) rfl rfl rfl ?_
    | refine g_call hC (hV) rfl rfl (LeSs.refl _) rfl rfl rfl ?_
    | refine g_call hC (hTr) rfl rfl (LeSs.refl _) rfl rfl rfl ?_
    | refine g_call hC (hCa) rfl rfl (LeSs.refl _) rfl rfl rfl ?_
    | refine g_call hC (hRe) rfl rfl (LeSs.refl _) rfl rfl rfl ?_
    | refine g_call hC (hM2) rfl rfl (LeSs.refl _) rfl rfl rfl ?_
    | refine g_call hC (hV2) rfl rfl (LeSs.refl _) rfl rfl rfl ?_
    | refine g_call hC (hK) rfl rfl (LeSs.refl _) rfl rfl rfl ?_
    | refine g_retl T (.inl rfl) rfl ?_
    | refine g_callR hC (hGl) (nm [1012]) rfl rfl (LeSs.refl _) rfl rfl rfl rfl rfl rfl rfl rfl ?_
  all_goals clear hL hV hV2 hM2 hTr hRe hCa hK hGl
  all_goals first | rfl | (exfalso; clear hcv hcm hwc hgl hf hnr hcnt hf60; simp_all; done) | (exfalso; rename_i k1; have k2 : ¬ s.again = 0 := of_decide_eq_false (Bool.not_eq_true' _ ▸ k1); have k3 := hKt k2; rw [k3] at h; cases h; done) | skip
  all_goals
    rw [List.length_map]
    refine g_loop (fun i : Nat => i ≤ cm.n.length) (fun i => ([(2, .one (.bx 1002 0)), (5, .bq (decide (s.again = 0))), (8, .one (.bx 1008 0)), (12, .one (.bx 1012 0)), (13, .one (.cl 29 [] [.bx 1012 0])), (91, pS (nodesP cm.n)), (92, I cm.n.length), (93, I i)],
      [(1002, some (Res.box ((descR d).map V.p))), (1008, some (Res.box ((memR cm).map V.p))), (1012, some (Res.box [.p (ki (0 + (refs (d.globals.zip cm.g) : Int) + (((cm.n.take i).map (nrefs d)).sum : Nat)))]))])) (fun i => cm.n.length - i) hC
      0 (Nat.zero_le _) id ⟨rfl, ⟨rfl, rfl, rfl, rfl, rfl, rfl, rfl, rfl, trivial⟩, ⟨rfl, rfl, by (simp; rfl), trivial⟩, rfl, fun _ _ => rfl⟩ ?_
    intro i hi
    refine g_run' T hC true 200 rfl ?_
    refine g_cond rfl (fun h => ?_) (fun h => ?_)
    · have hlt : i < cm.n.length := by simpa using h
      obtain ⟨x, hx⟩ := exists_at hlt
      obtain ⟨ht, ty, hty, hlen, _⟩ := hwc.node x (List.mem_of_getElem? hx)
      have hxm := List.mem_of_getElem? hx
      have hs60 := sum_le60 (f := nrefs d) (cm.n.take i) fun y hy => hnr y (List.mem_of_mem_take hy)
      have hx60 := hf x hxm
      have hl60 : (cm.n.take i).length ≤ 60 := by rw [List.length_take]; omega
      have hT1 := trees1_ok ty.f x.f hlen (0 + (refs (d.globals.zip cm.g) : Int) + (((cm.n.take i).map (nrefs d)).sum : Nat)) (by omega) (by omega)
      have hnx : nrefs d x = refs (ty.f.zip x.f) := by simp only [nrefs, fieldsAt, hty, Option.map_some, Option.getD_some]
      have hsn : (((cm.n.take (i + 1)).map (nrefs d)).sum : Nat) = ((cm.n.take i).map (nrefs d)).sum + refs (ty.f.zip x.f) := by
        rw [take_snoc' hx, List.map_append, List.sum_append, ← hnx]; simp
      have hE : 0 + (refs (d.globals.zip cm.g) : Int) + (((cm.n.take i).map (nrefs d)).sum : Nat) + (refs (ty.f.zip x.f) : Int) = 0 + (refs (d.globals.zip cm.g) : Int) + (((cm.n.take (i + 1)).map (nrefs d)).sum : Nat) := by rw [hsn]; omega
      rw [hE] at hT1
      repeat' first
        | refine g_go T hC true 400 rfl rfl ?_
        | refine g_cond rfl (fun h => ?_) (fun h => ?_)
        | refine g_end T hC (by kernel_rfl) ?_
        | refine g_splitD (fun h => ?_) (fun h => ?_)
        | refine g_splitG rfl rfl rfl (fun h => ?_) (fun h => ?_)
        | refine g_splitP rfl rfl (fun h => ?_) (fun h => ?_)
        | refine g_idx T hC rfl rfl rfl (Int.natCast_nonneg _) (map_at (by assumption)) rfl rfl ?_
        | refine g_idx T hC rfl rfl rfl ht (map_atI hty) rfl rfl ?_
        | refine g_callR hC (hT1) (nm [1012]) rfl rfl (LeSs.refl _) rfl rfl rfl rfl rfl rfl rfl rfl ?_
      rw [wrapS (by omega)]
      exact g_round (i + 1) (by omega) id (by omega) ⟨rfl, ⟨rfl, rfl, rfl, rfl, rfl, rfl, rfl, rfl, trivial⟩, ⟨rfl, rfl, rfl, trivial⟩, rfl, fun _ _ => rfl⟩
    · have hge : ¬ i < cm.n.length := by simpa using h
      rw [List.take_of_length_le (by omega)]
      repeat' first
        | refine g_go T hC true 400 rfl rfl ?_
        | refine g_boolsE hC rfl rfl (by kernel_rfl) rfl rfl ?_
        | refine g_cond rfl (fun h => ?_) (fun h => ?_)
        | refine g_end T hC (by kernel_rfl) ?_
        | refine g_splitD (fun h => ?_) (fun h => ?_)
        | refine g_splitG rfl rfl rfl (fun h => ?_) (fun h => ?_)
        | refine g_splitP rfl rfl (fun h => ?_) (fun h => ?_)
        | refine g_outE ?_
        | refine g_retq T (.inl rfl) rfl ?_
        | refine g_retl T (.inl rfl) rfl ?_
      all_goals first
        | (exfalso; have h9 := of_decide_eq_false h; rw [List.length_map] at h9; omega)
        | (refine decide_eq_true (decide_eq_decide.2 ?_); rw [List.length_map, hiff]; omega)
end Hw.Z
namespace Hw.Z
open Go Go.Proofs Hw.M

/-! Memories whose nodes have other numbers -/
def phiP (φ : Int → Int) (p : Fld × Int) : Fld × Int := (p.1, if isRef p = true then φ p.2 else p.2)
structure Sim (d : Desc) (m m' : Hp) (S : Int → Prop) (φ : Int → Int) : Prop where
  inr : ∀ v, S v → 1 ≤ v ∧ v ≤ (m.n.length : Int)
  inr' : ∀ v, S v → 1 ≤ φ v ∧ φ v ≤ (m'.n.length : Int)
  inj : ∀ u v, S u → S v → φ u = φ v → u = v
  node : ∀ v, S v → ∃ x x', m.n[(v - 1).toNat]? = some x ∧ m'.n[(φ v - 1).toNat]? = some x' ∧ x'.t = x.t ∧ (fieldsAt d x.t).zip x'.f = ((fieldsAt d x.t).zip x.f).map (phiP φ)
  cls : ∀ v, S v → ∀ p ∈ pairsOf d m v, isRef p = true → S p.2
theorem isRef_phi {φ : Int → Int} {p : Fld × Int} (h : isRef p = true → 1 ≤ φ p.2) : isRef (phiP φ p) = isRef p := by
  cases hr : isRef p with
  | false => simp only [phiP, hr, Bool.false_eq_true, if_false]
  | true =>
    have h1 := h hr
    simp only [isRef, Bool.and_eq_true] at hr
    have h2 : ¬ φ p.2 = 0 := by omega
    simp only [phiP, isRef, hr.1, hr.2, Bool.and_self, if_true, decide_eq_false h2, Bool.not_false]
theorem Sim.pairs {d : Desc} {m m' : Hp} {S : Int → Prop} {φ : Int → Int} (h : Sim d m m' S φ) {v : Int} (hv : S v) : pairsOf d m' (φ v) = (pairsOf d m v).map (phiP φ) := by
  obtain ⟨x, x', h1, h2, h3, h4⟩ := h.node v hv
  simp only [pairsOf, h1, h2, h3, h4]
theorem nodup_map {S : Int → Prop} {φ : Int → Int} (inj : ∀ u v, S u → S v → φ u = φ v → u = v) : ∀ {l : List Int}, l.Nodup → (∀ x ∈ l, S x) → (l.map φ).Nodup
  | [], _, _ => by simp
  | a :: l, hn, hS => by
    simp only [List.map_cons, List.nodup_cons] at hn ⊢
    refine ⟨fun hm => ?_, nodup_map inj hn.2 fun x hx => hS x (by simp [hx])⟩
    obtain ⟨b, hb, e⟩ := List.mem_map.1 hm
    have := inj b a (hS b (by simp [hb])) (hS a (by simp)) e
    subst this; exact hn.1 hb
theorem Sim.st {d : Desc} {m m' : Hp} {S : Int → Prop} {φ : Int → Int} (h : Sim d m m' S φ) {s : SS} (hs : StOK m s) (hS : ∀ x ∈ s.order, S x) (a : Int) : StOK m' ⟨s.order.map φ, a⟩ :=
  ⟨nodup_map h.inj hs.nodup hS, fun x hx => by obtain ⟨y, hy, rfl⟩ := List.mem_map.1 hx; exact h.inr' y (hS y hy)⟩
theorem any_phi {S : Int → Prop} {φ : Int → Int} (inj : ∀ u v, S u → S v → φ u = φ v → u = v) {l : List Int} {n : Int} (hS : ∀ x ∈ l, S x) (hn : S n) : ((l.map φ).any fun x => decide (x = φ n)) = l.any fun x => decide (x = n) := by
  induction l with
  | nil => rfl
  | cons a l ih =>
    simp only [List.map_cons, List.any_cons, ih fun x hx => hS x (by simp [hx])]
    congr 1
    exact decide_eq_decide.2 ⟨fun e => inj a n (hS a (by simp)) hn e, fun e => by rw [e]⟩
theorem look_sim {d : Desc} {m m' : Hp} {S : Int → Prop} {φ : Int → Int} (h : Sim d m m' S φ) (hw : WF d m) {k k' : Nat}
    (hE : ∀ (n : Int) (s s' : SS), S n → (∀ x ∈ s.order, S x) → StOK m s → m.n.length - s.order.length < k → m'.n.length - s.order.length < k' → s'.order = s.order.map φ →
      (enterS k' d m' (φ n) s').order = (enterS k d m n s).order.map φ ∧ ∀ x ∈ (enterS k d m n s).order, S x) :
    ∀ (ps : List (Fld × Int)) (s s' : SS), (∀ p ∈ ps, isRef p = true → S p.2) → (∀ x ∈ s.order, S x) → StOK m s → m.n.length - s.order.length < k → m'.n.length - s.order.length < k' → s'.order = s.order.map φ →
      (lookS k' d m' (ps.map (phiP φ)) s').order = (lookS k d m ps s).order.map φ ∧ ∀ x ∈ (lookS k d m ps s).order, S x
  | [], s, s', _, hS, _, _, _, ho => ⟨ho, hS⟩
  | p :: ps, s, s', hp, hS, hs, hk, hk', ho => by
    rw [List.map_cons, lookS_cons, lookS_cons]
    have hrp : isRef (phiP φ p) = isRef p := isRef_phi fun hr => (h.inr' _ (hp p (by simp) hr)).1
    by_cases hr : isRef p = true
    · have hSp := hp p (by simp) hr
      have hv := h.inr _ hSp
      rw [if_pos hr, hrp, if_pos hr]
      have e2 : (phiP φ p).2 = φ p.2 := by simp only [phiP, hr, if_true]
      rw [e2]
      obtain ⟨h1, h2⟩ := hE p.2 s s' hSp hS hs hk hk' ho
      have hkeep := enterS_keep hw k p.2 s hv.1 hv.2 hs
      exact look_sim h hw hE ps _ _ (fun q hq => hp q (by simp [hq])) h2 hkeep.1 (by have := hkeep.2; omega) (by have := hkeep.2; omega) h1
    · rw [if_neg hr, hrp, if_neg hr]
      exact look_sim h hw hE ps s s' (fun q hq => hp q (by simp [hq])) hS hs hk hk' ho
theorem enter_sim {d : Desc} {m m' : Hp} {S : Int → Prop} {φ : Int → Int} (h : Sim d m m' S φ) (hw : WF d m) : ∀ (k k' : Nat) (n : Int) (s s' : SS), S n → (∀ x ∈ s.order, S x) → StOK m s → m.n.length - s.order.length < k → m'.n.length - s.order.length < k' → s'.order = s.order.map φ →
      (enterS k' d m' (φ n) s').order = (enterS k d m n s).order.map φ ∧ ∀ x ∈ (enterS k d m n s).order, S x
  | 0, _, _, _, _, _, _, _, hk, _, _ => by omega
  | _ + 1, 0, _, _, _, _, _, _, _, hk, _ => by omega
  | k + 1, k' + 1, n, s, s', hn, hS, hs, hk, hk', ho => by
    have hb := h.inr n hn
    have hany := any_phi h.inj (l := s.order) hS hn
    rw [← ho] at hany
    cases hc : (s.order.any fun x => decide (x = n)) with
    | true =>
      rw [hc] at hany
      rw [enterS_old hc, enterS_old hany]
      exact ⟨ho, hS⟩
    | false =>
      rw [hc] at hany
      rw [enterS_new hc, enterS_new hany, h.pairs hn]
      have hs1 := hs.snoc hb.1 hb.2 hc s.again
      have hS1 : ∀ x ∈ s.order ++ [n], S x := fun x hx => by
        rcases List.mem_append.1 hx with hx | hx
        · exact hS x hx
        · simp only [List.mem_singleton] at hx; subst hx; exact hn
      have hle := hs1.le
      have hle' := (h.st hs1 hS1 0).le
      simp only [List.length_append, List.length_singleton, List.length_map] at hle hle'
      exact look_sim h hw (enter_sim h hw k k') _ _ _ (h.cls n hn) hS1 hs1 (by simp only [List.length_append, List.length_singleton]; omega) (by simp only [List.length_append, List.length_singleton]; omega) (by simp only [ho, List.map_append, List.map_cons, List.map_nil])
/-- Whole memories. -/
structure SimG (d : Desc) (m m' : Hp) (S : Int → Prop) (φ : Int → Int) : Prop extends Sim d m m' S φ where
  glob : d.globals.zip m'.g = (d.globals.zip m.g).map (phiP φ)
  gcls : ∀ p ∈ d.globals.zip m.g, isRef p = true → S p.2
theorem search_sim {d : Desc} {m m' : Hp} {S : Int → Prop} {φ : Int → Int} (h : SimG d m m' S φ) (hw : WF d m) : (searchS d m').order = (searchS d m).order.map φ ∧ ∀ x ∈ (searchS d m).order, S x := by
  have := look_sim h.toSim hw (enter_sim h.toSim hw (m.n.length + 1) (m'.n.length + 1)) (d.globals.zip m.g) ⟨[], 0⟩ ⟨[], 0⟩ h.gcls (by simp) ⟨by simp, by simp⟩ (by simp) (by simp) rfl
  simp only [searchS, h.glob]; exact this
theorem posI_phi {S : Int → Prop} {φ : Int → Int} (inj : ∀ u v, S u → S v → φ u = φ v → u = v) {n : Int} (hn : S n) : ∀ {l : List Int}, (∀ x ∈ l, S x) → posI (l.map φ) (φ n) = posI l n
  | [], _ => rfl
  | a :: l, hS => by
    have ih := posI_phi inj hn (l := l) fun x hx => hS x (by simp [hx])
    simp only [posI] at ih ⊢
    rw [List.map_cons, idxOf_cons, idxOf_cons]
    have e : decide (φ a = φ n) = decide (a = n) := decide_eq_decide.2 ⟨fun e => inj a n (hS a (by simp)) hn e, fun e => by rw [e]⟩
    rw [e]
    by_cases h : decide (a = n) = true
    · rw [if_pos h, if_pos h]
    · rw [if_neg h, if_neg h]
      have : idxOf (fun x => decide (x = φ n)) (l.map φ) = idxOf (fun x => decide (x = n)) l := by omega
      rw [this]
theorem ren_phi {S : Int → Prop} {φ : Int → Int} (inj : ∀ u v, S u → S v → φ u = φ v → u = v) {o : List Int} (hS : ∀ x ∈ o, S x) (hz : posI o 0 = 0) (hz' : posI (o.map φ) 0 = 0) {l : List Fld} {v v' : List Int} (he : l.zip v' = (l.zip v).map (phiP φ))
    (hc : ∀ p ∈ l.zip v, isRef p = true → S p.2) : renS (o.map φ) l v' = renS o l v := by
  simp only [renS, he, List.map_map]
  refine List.map_congr_left fun p hp => ?_
  simp only [Function.comp, renOf, phiP]
  by_cases hpl : isPlain p.1.t = true
  · have : isRef p = false := by simp only [isRef, hpl, Bool.not_true, Bool.false_and]
    simp only [this, hpl, Bool.false_eq_true, if_false, if_true]
  · have hpl : isPlain p.1.t = false := by simpa using hpl
    simp only [hpl, Bool.false_eq_true, if_false]
    by_cases h0 : p.2 = 0
    · have : isRef p = false := by simp only [isRef, h0, decide_true, Bool.not_true, Bool.and_false]
      simp only [this, Bool.false_eq_true, if_false, h0, hz, hz']
    · have hr : isRef p = true := by simp only [isRef, hpl, decide_eq_false h0, Bool.not_false, Bool.and_self]
      simp only [hr, if_true]
      exact posI_phi inj (hc p hp hr) hS
theorem canon_sim {d : Desc} {m m' : Hp} {S : Int → Prop} {φ : Int → Int} (h : SimG d m m' S φ) (hw : WF d m) (hs : StOK m (searchS d m)) : canonS d m' (searchS d m') = canonS d m (searchS d m) := by
  obtain ⟨ho, hS⟩ := search_sim h hw
  have hz : posI (searchS d m).order 0 = 0 := posI_out fun x hx => by have := hs.inr x hx; omega
  have hz' : posI ((searchS d m).order.map φ) 0 = 0 := posI_out fun x hx => by
    obtain ⟨y, hy, rfl⟩ := List.mem_map.1 hx
    have := h.inr' y (hS y hy); omega
  simp only [canonS, ho, List.map_map]
  congr 1
  · exact ren_phi h.inj hS hz hz' h.glob h.gcls
  · refine List.map_congr_left fun n hn => ?_
    obtain ⟨x, x', h1, h2, h3, h4⟩ := h.node n (hS n hn)
    simp only [Function.comp, nodeC, h1, h2, h3]
    congr 1
    refine ren_phi h.inj hS hz hz' h4 fun p hp hr => h.cls n (hS n hn) p ?_ hr
    simp only [pairsOf, h1]; exact hp

/-! The canonical memory is its own -/
theorem posI_inj {l : List Int} {u v : Int} (hu : u ∈ l) (hv : v ∈ l) (h : posI l u = posI l v) : u = v := by
  have h1 := (posI_mem hu).2.2
  have h2 := (posI_mem hv).2.2
  rw [h] at h1
  exact Option.some.inj (h1.symm.trans h2)
theorem ren_is_phi {o : List Int} (hz : posI o 0 = 0) (p : Fld × Int) : (p.1, renOf o p) = phiP (posI o) p := by
  simp only [phiP, renOf]
  congr 1
  cases hpl : isPlain p.1.t with
  | true =>
    have : isRef p = false := by simp only [isRef, hpl, Bool.not_true, Bool.false_and]
    simp only [this, Bool.false_eq_true, if_false, if_true]
  | false =>
    simp only [Bool.false_eq_true, if_false]
    by_cases h0 : p.2 = 0
    · have : isRef p = false := by simp only [isRef, h0, decide_true, Bool.not_true, Bool.and_false]
      simp only [this, Bool.false_eq_true, if_false, h0, hz]
    · have hr : isRef p = true := by simp only [isRef, hpl, decide_eq_false h0, Bool.not_false, Bool.and_self]
      simp only [hr, if_true]
theorem canon_simG {d : Desc} {m : Hp} (hval : validM d m = true) : SimG d m (canonS d m (searchS d m)) (· ∈ (searchS d m).order) (posI (searchS d m).order) := by
  have hs := search_ok hval
  have hw := wg_of hval
  have hc := canonOf hval
  refine ⟨⟨hs.inr, fun v hv => ?_, fun u v hu hv e => posI_inj hu hv e, fun v hv => ?_, hc.node⟩, ?_, hc.glob⟩
  · have := posI_mem hv
    simp only [canonS, List.length_map]; exact ⟨this.1, this.2.1⟩
  · have hr := hs.inr v hv
    obtain ⟨x, hx⟩ := exists_at (l := m.n) (i := (v - 1).toNat) (by omega)
    obtain ⟨ht, ty, hty, hlen, _⟩ := hw.node x (List.mem_of_getElem? hx)
    refine ⟨x, nodeC d m (searchS d m).order v, hx, ?_, ?_, ?_⟩
    · simp only [canonS, List.getElem?_map, (posI_mem hv).2.2, Option.map_some]
    · rw [canon_at hx hty]
    · rw [canon_at hx hty]
      simp only [fieldsAt, hty, Option.map_some, Option.getD_some, renS, zip_ren]
      exact List.map_congr_left fun p _ => ren_is_phi hc.zero p
  · simp only [canonS, renS, zip_ren]
    exact List.map_congr_left fun p _ => ren_is_phi hc.zero p
theorem posI_cons_ne {a : Int} {l : List Int} {v : Int} (h : a ≠ v) (hm : v ∈ l) : posI (a :: l) v = posI l v + 1 := by
  have h1 := (posI_mem hm).1
  simp only [posI] at h1 ⊢
  rw [idxOf_cons, if_neg (by simpa using h), if_neg (by omega)]
theorem map_posI : ∀ {l : List Int}, l.Nodup → l.map (posI l) = (List.range l.length).map fun i => ((i : Nat) : Int) + 1
  | [], _ => rfl
  | a :: l, hn => by
    simp only [List.nodup_cons] at hn
    have ih := map_posI hn.2
    rw [List.map_cons, List.length_cons, List.range_succ_eq_map, List.map_cons, List.map_map]
    have e0 : posI (a :: l) a = 1 := by simp only [posI, idxOf_cons, decide_true, if_true]; rfl
    rw [e0]
    congr 1
    have e1 : l.map (posI (a :: l)) = (l.map (posI l)).map (· + 1) := by
      rw [List.map_map]
      exact List.map_congr_left fun v hv => posI_cons_ne (fun e => hn.1 (e ▸ hv)) hv
    rw [e1, ih, List.map_map]
    exact List.map_congr_left fun i _ => by simp only [Function.comp]; omega
theorem canon_canon {d : Desc} {m : Hp} (hval : validM d m = true) : canonS d (canonS d m (searchS d m)) (searchS d (canonS d m (searchS d m))) = canonS d m (searchS d m) :=
  canon_sim (canon_simG hval) (wg_of hval).toWF (search_ok hval)
theorem canon_order {d : Desc} {m : Hp} (hval : validM d m = true) : (searchS d (canonS d m (searchS d m))).order = (List.range (searchS d m).order.length).map fun i => ((i : Nat) : Int) + 1 := by
  rw [(search_sim (canon_simG hval) (wg_of hval).toWF).1]
  exact map_posI (search_ok hval).nodup
end Hw.Z
