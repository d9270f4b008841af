/- The engine and the contracts. -/
import Derived.Test.YtmnhegkogibipaaGreatDoorC12
set_option linter.unusedVariables false
set_option linter.unusedSimpArgs false
namespace Hw.Z
open Go Go.Proofs Go.Shelf Hw.M

/-! The lines of a memory's text -/
abbrev nlS : Str := ⟨#[10]⟩
abbrev endS : Str := ⟨#[32, 125, 10]⟩
def gLine (p : Fld × Int) : Str := (p.1.n ++ (⟨#[32, 61, 32]⟩ : ByteArray)) ++ showB p.1.t p.2 ++ nlS
def fLine (p : Fld × Int) : Str := (((⟨#[32]⟩ : ByteArray) ++ p.1.n) ++ (⟨#[32, 61, 32]⟩ : ByteArray)) ++ showB p.1.t p.2 ++ (⟨#[59]⟩ : ByteArray)
def nHead (k : Nat) (ty : NodeT) : Str := (⟨#[35]⟩ : ByteArray) ++ itoaB ((k : Int) + 1) ++ (((⟨#[32]⟩ : ByteArray) ++ ty.n) ++ (⟨#[32, 123]⟩ : ByteArray))
def nText (k : Nat) (ty : NodeT) (f : List Int) : Str := nHead k ty ++ catB ((ty.f.zip f).map fLine) ++ endS
def ntx (d : Desc) (m : Hp) (i : Nat) : Str := match m.n[i]? with
  | some x => match d.types[x.t.toNat]? with
    | some ty => nText i ty x.f
    | none => (⟨#[]⟩ : ByteArray)
  | none => (⟨#[]⟩ : ByteArray)
def nodesT (d : Desc) (m : Hp) (i : Nat) : Str := catB ((List.range i).map (ntx d m))
theorem nodesT_succ (d : Desc) (m : Hp) (i : Nat) : nodesT d m (i + 1) = nodesT d m i ++ ntx d m i := by
  rw [nodesT, List.range_succ, List.map_append, catB_append, List.map_singleton, catB, catB, cat_nil]; rfl
def gT (d : Desc) (m : Hp) : Str := catB ((d.globals.zip m.g).map gLine)
def memText (d : Desc) (m : Hp) : Str := gT d m ++ nodesT d m m.n.length

/-! Their sizes -/
theorem name_le {s : Str} (h : isName s = true) : s.size ≤ 40 := by
  simp only [isName, Bool.and_eq_true, Bool.not_eq_true', decide_eq_false_iff_not] at h
  have := h.1.1.1.2
  omega
theorem field_names {l : List Fld} {k : Int} (h : fieldsOk l k = true) : ∀ f ∈ l, f.n.size ≤ 40 := fun f hf => by
  simp only [fieldsOk, Bool.and_eq_true, List.all_eq_true] at h
  exact name_le (by have := h.2 f hf; simp only [fieldOk, Bool.and_eq_true] at this; exact this.1)
theorem small_of {d : Desc} {m : Hp} (hn : m.n.length ≤ 4096) {p : Fld × Int} (h : pairOk d m p = true) : smallV p.2 := by
  simp only [pairOk, rightV] at h
  unfold smallV
  split at h
  · simp only [Bool.and_eq_true, decide_eq_true_eq] at h; omega
  · split at h
    · simp only [Bool.or_eq_true, decide_eq_true_eq] at h; omega
    · simp only [Bool.or_eq_true, Bool.and_eq_true, decide_eq_true_eq] at h
      rcases h with h | ⟨⟨h1, h2⟩, _⟩ <;> omega
structure Sizes (d : Desc) (m : Hp) : Prop where
  glob : ∀ p ∈ d.globals.zip m.g, p.1.n.size ≤ 40 ∧ smallV p.2
  glen : d.globals.length ≤ 8
  node : ∀ x ∈ m.n, ∀ ty, d.types[x.t.toNat]? = some ty → ty.n.size ≤ 40 ∧ ty.f.length ≤ 12 ∧ ∀ p ∈ ty.f.zip x.f, p.1.n.size ≤ 40 ∧ smallV p.2
theorem sizesM {d : Desc} {m : Hp} (hval : validM d m = true) : Sizes d m := by
  have hw := wg_of hval
  have hval' := hval
  simp only [validM, Bool.and_eq_true, decide_eq_true_eq, Bool.not_eq_true', decide_eq_false_iff_not] at hval'
  obtain ⟨⟨⟨⟨⟨v1, v2⟩, v3⟩, v4⟩, v5⟩, v6⟩ := hval'
  have hv := (hasTypes_parts v1).1
  simp only [validD, validPre, Bool.and_eq_true] at hv
  have hgl := fields_le hv.1.1.1.1.1.1.1.1.2
  have hgn := field_names hv.1.1.1.1.1.1.1.1.2
  have hty := List.all_eq_true.1 hv.1.1.2
  refine ⟨fun p hp => ⟨hgn _ (mem_zip_left hp), small_of (by have := hw.small; omega) (List.all_eq_true.1 v5 p hp)⟩, by omega, fun x hx ty ht => ?_⟩
  have h1 := hty ty (List.mem_of_getElem? ht)
  simp only [typeOk, Bool.and_eq_true] at h1
  have h2 := List.all_eq_true.1 v6 x hx
  simp only [nodeRight, ht, Option.map_some, Option.getD_some] at h2
  have h3 := fields_le h1.2
  exact ⟨name_le h1.1, by omega, fun p hp => ⟨field_names h1.2 _ (mem_zip_left hp), small_of (by have := hw.small; omega) (List.all_eq_true.1 h2 p hp)⟩⟩
theorem gLine_size {p : Fld × Int} (h : p.1.n.size ≤ 40 ∧ smallV p.2) : (gLine p).size ≤ 66 := by
  have := showB_size p.1.t h.2
  simp only [gLine, size_app]
  have e1 : ByteArray.size (⟨#[32, 61, 32]⟩ : ByteArray) = 3 := rfl
  have e2 : ByteArray.size nlS = 1 := rfl
  omega
theorem fLine_size {p : Fld × Int} (h : p.1.n.size ≤ 40 ∧ smallV p.2) : (fLine p).size ≤ 67 := by
  have := showB_size p.1.t h.2
  simp only [fLine, size_app]
  have e1 : ByteArray.size (⟨#[32, 61, 32]⟩ : ByteArray) = 3 := rfl
  have e2 : ByteArray.size (⟨#[32]⟩ : ByteArray) = 1 := rfl
  have e3 : ByteArray.size (⟨#[59]⟩ : ByteArray) = 1 := rfl
  omega
theorem nHead_size {k : Nat} {ty : NodeT} (hk : k ≤ 5000) (h : ty.n.size ≤ 40) : (nHead k ty).size ≤ 65 := by
  have := itoaB_size (n := (k : Int) + 1) (by omega) (by omega)
  simp only [nHead, size_app]
  have e1 : ByteArray.size (⟨#[35]⟩ : ByteArray) = 1 := rfl
  have e2 : ByteArray.size (⟨#[32]⟩ : ByteArray) = 1 := rfl
  have e3 : ByteArray.size (⟨#[32, 123]⟩ : ByteArray) = 2 := rfl
  omega
theorem fT_size {ps : List (Fld × Int)} (h : ∀ p ∈ ps, p.1.n.size ≤ 40 ∧ smallV p.2) (hl : ps.length ≤ 12) (j : Nat) : (catB ((ps.map fLine).take j)).size ≤ 804 := by
  have h1 := catB_take_le (ps.map fLine) j
  have h2 := catB_le (k := 67) (l := ps.map fLine) fun x hx => by
    obtain ⟨p, hp, rfl⟩ := List.mem_map.1 hx
    exact fLine_size (h p hp)
  rw [List.length_map] at h2
  omega
theorem ntx_size {d : Desc} {m : Hp} (hs : Sizes d m) (hn : m.n.length ≤ 60) (i : Nat) : (ntx d m i).size ≤ 872 := by
  unfold ntx
  split
  · rename_i x hx
    have hi : i < m.n.length := (List.getElem?_eq_some_iff.1 hx).1
    split
    · rename_i ty hty
      obtain ⟨h1, h2, h3⟩ := hs.node x (List.mem_of_getElem? hx) ty hty
      have a1 := nHead_size (k := i) (by omega) h1
      have a2 := fT_size h3 (by rw [List.length_zip]; omega) ((ty.f.zip x.f).map fLine).length
      rw [List.take_length] at a2
      simp only [nText, size_app]
      have e1 : ByteArray.size endS = 3 := rfl
      omega
    · exact Nat.zero_le _
  · exact Nat.zero_le _
theorem gT_size {d : Desc} {m : Hp} (hs : Sizes d m) (j : Nat) : (catB (((d.globals.zip m.g).map gLine).take j)).size ≤ 528 := by
  have h1 := catB_take_le ((d.globals.zip m.g).map gLine) j
  have h2 := catB_le (k := 66) (l := (d.globals.zip m.g).map gLine) fun x hx => by
    obtain ⟨p, hp, rfl⟩ := List.mem_map.1 hx
    exact gLine_size (hs.glob p hp)
  rw [List.length_map, List.length_zip] at h2
  have := hs.glen
  omega
theorem nodesT_size {d : Desc} {m : Hp} (hs : Sizes d m) (hn : m.n.length ≤ 60) {i : Nat} (hi : i ≤ 60) : (nodesT d m i).size ≤ 52320 := by
  have h2 := catB_le (k := 872) (l := (List.range i).map (ntx d m)) fun x hx => by
    obtain ⟨p, _, rfl⟩ := List.mem_map.1 hx
    exact ntx_size hs hn p
  rw [List.length_map, List.length_range] at h2
  unfold nodesT; omega
theorem memText_size {d : Desc} {m : Hp} (hs : Sizes d m) (hn : m.n.length ≤ 60) : (memText d m).size ≤ 60000 := by
  have h1 := gT_size hs ((d.globals.zip m.g).map gLine).length
  rw [List.take_length] at h1
  have h2 := nodesT_size hs hn hn
  unfold memText gT
  rw [size_app]; omega
end Hw.Z
namespace Hw.Z
open Go Go.Proofs Go.Shelf Hw.M

theorem app_rows {a b c : Str} (h : a ++ b = c) : bytesR a ++ bytesR b = bytesR c := by rw [← bytesR_append, h]
theorem text_no {d : Desc} {m : Hp} (hval : validM d m = false) : FnOK Tryz.prog 40 [aggS (descR d), aggS (memR m)] [] (.tup [Sr (⟨#[]⟩ : ByteArray), I 1]) [] := by
  have hV := heapValid_ok d m
  rw [hval] at hV
  refine fn_ok T Tryz.func40 (by kernel_rfl) rfl rfl rfl rfl fun C hC => ?_
  repeat' first
    | refine g_go T hC true 400 rfl rfl ?_
    | refine g_cond rfl (fun h => ?_) (fun h => ?_)
    | refine g_end T hC (by kernel_rfl) ?_
    | refine g_splitD (fun h => ?_) (fun h => ?_)
    | refine g_splitG rfl rfl rfl (fun h => ?_) (fun h => ?_)
    | refine g_splitP rfl rfl (fun h => ?_) (fun h => ?_)
    | refine g_call hC (hV) rfl rfl (LeSs.refl _) rfl rfl rfl ?_
  all_goals first
    | exact g_fin ⟨.inl rfl, id, _, rfl, .refl _, trivial, rfl, rfl⟩
    | (exfalso; simp_all; done)
set_option maxHeartbeats 4000000 in
theorem text_ok {d : Desc} {m : Hp} (hval : validM d m = true) (hn60 : m.n.length ≤ 60) : FnOK Tryz.prog 40 [aggS (descR d), aggS (memR m)] [] (.tup [Sr (memText d m), I 0]) [] := by
  have hV := heapValid_ok d m
  rw [hval] at hV
  have hw := wg_of hval
  have hgl := hw.glen
  have hs := sizesM hval
  have hg8 := hs.glen
  have hszT := memText_size hs hn60
  generalize hRES : memText d m = RES at hszT
  have e1 : ByteArray.size (⟨#[32, 61, 32]⟩ : ByteArray) = 3 := rfl
  have e2 : ByteArray.size (⟨#[32]⟩ : ByteArray) = 1 := rfl
  have e3 : ByteArray.size (⟨#[59]⟩ : ByteArray) = 1 := rfl
  have e4 : ByteArray.size nlS = 1 := rfl
  have e5 : ByteArray.size endS = 3 := rfl
  have e6 : ByteArray.size (⟨#[35]⟩ : ByteArray) = 1 := rfl
  have e7 : ByteArray.size (⟨#[32, 123]⟩ : ByteArray) = 2 := rfl
  refine fn_ok T Tryz.func40 (by kernel_rfl) rfl rfl rfl rfl fun C hC => ?_
  repeat' first
    | refine g_go T hC true 400 rfl rfl ?_
    | refine g_cond rfl (fun h => ?_) (fun h => ?_)
    | refine g_end T hC (by kernel_rfl) ?_
    | refine g_splitD (fun h => ?_) (fun h => ?_)
    | refine g_splitG rfl rfl rfl (fun h => ?_) (fun h => ?_)
    | refine g_splitP rfl rfl (fun h => ?_) (fun h => ?_)
    | refine g_call hC (hV) rfl rfl (LeSs.refl _) rfl rfl rfl ?_
  · exfalso; cases h
  rw [List.length_map]
  refine g_adopt hC rfl 101 1 rfl [(6, .one (.ar 101))] ⟨⟨_, rfl, AdS.nil⟩, trivial⟩ [] trivial ?_
  refine g_loop (fun i : Nat => i ≤ d.globals.length) (fun i => ([(2, .one (.bx 1002 0)), (3, .one (.bx 1003 0)), (6, .one (.ar 101)), (18, pS (fieldsP d.globals)), (19, I d.globals.length), (20, I i)],
      [(1002, some (Res.box ((descR d).map V.p))), (1003, some (Res.box ((memR m).map V.p))), (101, some (Res.arr 1 (bytesR (catB (((d.globals.zip m.g).map gLine).take i)))))])) (fun i => d.globals.length - i) hC
    0 (Nat.zero_le _) id ⟨rfl, ⟨rfl, rfl, rfl, rfl, rfl, rfl, trivial⟩, ⟨rfl, rfl, rfl, trivial⟩, rfl, fun _ _ => rfl⟩ ?_
  intro i hi
  refine g_run' T hC true 200 rfl ?_
  refine g_cond rfl (fun h => ?_) (fun h => ?_)
  · have hlt : i < d.globals.length := by simpa using h
    clear h
    obtain ⟨x, hx⟩ := exists_at (l := d.globals.zip m.g) (i := i) (by rw [List.length_zip]; omega)
    obtain ⟨hx1, hx2⟩ := zip_at hx
    obtain ⟨hxn, hxv⟩ := hs.glob x (List.mem_of_getElem? hx)
    have hsz := gT_size hs i
    have hstep : catB (((d.globals.zip m.g).map gLine).take (i + 1)) = catB (((d.globals.zip m.g).map gLine).take i) ++ gLine x := catB_take (by rw [List.getElem?_map, hx]; rfl)
    generalize catB (((d.globals.zip m.g).map gLine).take i) = b at hsz hstep
    have hb := bytesR_len b
    have hss := showB_size x.1.t hxv
    have hVal := value_ok (b ++ (x.1.n ++ (⟨#[32, 61, 32]⟩ : ByteArray))) x.1.t x.2 hxv (by simp only [size_app]; omega)
    have hfin : b ++ (x.1.n ++ (⟨#[32, 61, 32]⟩ : ByteArray)) ++ showB x.1.t x.2 ++ nlS = catB (((d.globals.zip m.g).map gLine).take (i + 1)) := by
      rw [hstep, gLine]; simp only [ByteArray.append_assoc]
    repeat' first
      | refine g_go T hC true 400 rfl rfl ?_
      | refine g_cond rfl (fun h => ?_) (fun h => ?_)
      | refine g_end T hC (by kernel_rfl) ?_
      | refine g_splitD (fun h => ?_) (fun h => ?_)
      | refine g_splitG rfl rfl rfl (fun h => ?_) (fun h => ?_)
      | refine g_splitP rfl rfl (fun h => ?_) (fun h => ?_)
      | refine g_idx T hC rfl rfl rfl (Int.natCast_nonneg _) (map_at (by assumption)) rfl rfl ?_
      | (refine g_cat hC rfl rfl (by omega) rfl rfl ?_)
      | (refine g_append T 102 hC (rows := bytesR b) (rows2 := bytesR (x.1.n ++ (⟨#[32, 61, 32]⟩ : ByteArray))) (rows3 := bytesR (b ++ (x.1.n ++ (⟨#[32, 61, 32]⟩ : ByteArray)))) (bytes := 1) rfl rfl rfl rfl (SrcS.str (by kernel_rfl)) (app_rows rfl) rfl rfl rfl (by kernel_rfl) (by simp only [bytesR_len, size_app]; omega) (by simp only [bytesR_len, size_app]; omega) rfl rfl rfl ?_)
      | refine g_callR hC (hVal) (nm [102, 103]) rfl rfl (LeSs.refl _) rfl rfl rfl rfl rfl rfl rfl rfl ?_
      | refine g_lit T hC rfl rfl rfl rfl rfl rfl rfl rfl rfl ?_
      | (refine g_append T 104 hC (rows := bytesR (b ++ (x.1.n ++ (⟨#[32, 61, 32]⟩ : ByteArray)) ++ showB x.1.t x.2)) (rows2 := bytesR nlS) (rows3 := bytesR (catB (((d.globals.zip m.g).map gLine).take (i + 1)))) (bytes := 1) rfl rfl rfl rfl (SrcS.sl (T.es_ok _ _ rfl)) (app_rows hfin) rfl rfl rfl (by kernel_rfl) (by simp only [bytesR_len, size_app]; omega) (by simp only [bytesR_len, size_app]; omega) rfl rfl rfl ?_)
    rw [wrap64 (by omega)]
    exact g_round (i + 1) (by omega) (mv 101 104) (by omega) ⟨rfl, ⟨rfl, rfl, rfl, rfl, rfl, rfl, trivial⟩, ⟨rfl, rfl, rfl, trivial⟩, rfl, fun i hi => mv_low (by omega) hi⟩
  have hge : ¬ i < d.globals.length := by simpa using h
  have hG : catB (((d.globals.zip m.g).map gLine).take i) = gT d m := by
    rw [List.take_of_length_le (by rw [List.length_map, List.length_zip]; omega)]; rfl
  have hGs := gT_size hs i
  rw [hG] at hGs
  rw [hG]
  clear h hge hG hi
  repeat' first
    | refine g_go T hC true 400 rfl rfl ?_
    | refine g_cond rfl (fun h => ?_) (fun h => ?_)
    | refine g_end T hC (by kernel_rfl) ?_
    | refine g_splitD (fun h => ?_) (fun h => ?_)
    | refine g_splitG rfl rfl rfl (fun h => ?_) (fun h => ?_)
    | refine g_splitP rfl rfl (fun h => ?_) (fun h => ?_)
    | refine g_outE ?_
  rw [List.length_map]
  refine g_loop (fun i : Nat => i ≤ m.n.length) (fun i => ([(2, .one (.bx 1002 0)), (3, .one (.bx 1003 0)), (6, .one (.ar 101)), (42, pS (nodesP m.n)), (43, I m.n.length), (44, I i)],
      [(1002, some (Res.box ((descR d).map V.p))), (1003, some (Res.box ((memR m).map V.p))), (101, some (Res.arr 1 (bytesR (gT d m ++ nodesT d m i))))])) (fun i => m.n.length - i) hC
    0 (Nat.zero_le _) id ⟨rfl, ⟨rfl, rfl, rfl, rfl, rfl, rfl, trivial⟩, ⟨rfl, rfl, by rw [show nodesT d m 0 = (⟨#[]⟩ : ByteArray) from rfl, cat_nil]; rfl, trivial⟩, rfl, fun _ _ => rfl⟩ ?_
  intro i hi
  refine g_run' T hC true 200 rfl ?_
  refine g_cond rfl (fun h => ?_) (fun h => ?_)
  · have hlt : i < m.n.length := by simpa using h
    clear h
    obtain ⟨x, hx⟩ := exists_at (l := m.n) (i := i) hlt
    obtain ⟨ht0, ty, hty, htyl, _⟩ := hw.node x (List.mem_of_getElem? hx)
    obtain ⟨hs1, hs2, hs3⟩ := hs.node x (List.mem_of_getElem? hx) ty hty
    have hnt : ntx d m i = nText i ty x.f := by unfold ntx; rw [hx]; simp only [hty]
    have hns := nodesT_succ d m i
    have hsz := nodesT_size hs hn60 (i := i) (by omega)
    have hzz := nodesT_size hs hn60 (i := i + 1) (by omega)
    have hib := itoaB_size (n := (i : Int) + 1) (by omega) (by omega)
    generalize hB : gT d m ++ nodesT d m i = b
    have hbs : b.size ≤ 52848 := by rw [← hB, size_app]; omega
    have hb := bytesR_len b
    have hI := appendInt_ok (b ++ (⟨#[35]⟩ : ByteArray)) ((i : Int) + 1) (by omega) (by omega) (by rw [size_app]; omega)
    have hfin : b ++ (⟨#[35]⟩ : ByteArray) ++ itoaB ((i : Int) + 1) ++ ((⟨#[32]⟩ : ByteArray) ++ ty.n ++ (⟨#[32, 123]⟩ : ByteArray)) = b ++ nHead i ty := by
      rw [nHead]; simp only [ByteArray.append_assoc]
    repeat' first
      | refine g_go T hC true 400 rfl rfl ?_
      | refine g_cond rfl (fun h => ?_) (fun h => ?_)
      | refine g_end T hC (by kernel_rfl) ?_
      | refine g_splitD (fun h => ?_) (fun h => ?_)
      | refine g_splitG rfl rfl rfl (fun h => ?_) (fun h => ?_)
      | refine g_splitP rfl rfl (fun h => ?_) (fun h => ?_)
      | refine g_idx T hC rfl rfl rfl (Int.natCast_nonneg _) (map_at (by assumption)) rfl rfl ?_
      | refine g_lit T hC rfl rfl rfl rfl rfl rfl rfl rfl rfl ?_
      | (refine g_append T 103 hC (rows := bytesR b) (rows2 := bytesR (⟨#[35]⟩ : ByteArray)) (rows3 := bytesR (b ++ (⟨#[35]⟩ : ByteArray))) (bytes := 1) rfl rfl rfl rfl (SrcS.sl (T.es_ok _ _ rfl)) (app_rows rfl) rfl rfl rfl (by kernel_rfl) (by simp only [bytesR_len, size_app]; omega) (by simp only [bytesR_len, size_app]; omega) rfl rfl rfl ?_)
      | (rw [wrap64 (by omega)]; refine g_callR hC hI (nm [103, 104]) rfl rfl (LeSs.refl _) rfl rfl rfl rfl rfl rfl rfl rfl ?_)
      | refine g_idx T hC rfl rfl rfl ht0 (map_atI hty) rfl rfl ?_
      | (refine g_cat hC rfl rfl (by omega) rfl rfl ?_)
      | (refine g_cat hC rfl rfl (by simp only [size_app]; omega) rfl rfl ?_)
      | (refine g_append T 105 hC (rows := bytesR (b ++ (⟨#[35]⟩ : ByteArray) ++ itoaB ((i : Int) + 1))) (rows2 := bytesR ((⟨#[32]⟩ : ByteArray) ++ ty.n ++ (⟨#[32, 123]⟩ : ByteArray))) (rows3 := bytesR (b ++ nHead i ty)) (bytes := 1) rfl rfl rfl rfl (SrcS.str (by kernel_rfl)) (app_rows hfin) rfl rfl rfl (by kernel_rfl) (by simp only [bytesR_len, size_app]; omega) (by simp only [bytesR_len, size_app]; omega) rfl rfl rfl ?_)
      | refine g_idx T hC rfl rfl rfl ht0 (map_atI hty) rfl rfl ?_
    rw [List.length_map]
    refine g_loop (fun j : Nat => j ≤ ty.f.length) (fun j => ([(2, .one (.bx 1002 0)), (3, .one (.bx 1003 0)), (6, .one (.ar 101)), (42, pS (nodesP m.n)), (43, I m.n.length), (44, I i), (10, .one (.bx 1010 0)), (71, pS (fieldsP ty.f)), (72, I ty.f.length), (73, I j)],
        [(1002, some (Res.box ((descR d).map V.p))), (1003, some (Res.box ((memR m).map V.p))), (1010, some (Res.box ((nodeR x).map V.p))), (101, some (Res.arr 1 (bytesR (b ++ nHead i ty ++ catB (((ty.f.zip x.f).map fLine).take j)))))])) (fun j => ty.f.length - j) hC
      0 (Nat.zero_le _) (mv 101 105) ⟨rfl, ⟨rfl, rfl, rfl, rfl, rfl, rfl, rfl, rfl, rfl, rfl, trivial⟩, ⟨rfl, rfl, rfl, by rw [show catB (((ty.f.zip x.f).map fLine).take 0) = (⟨#[]⟩ : ByteArray) from rfl, cat_nil]; rfl, trivial⟩, rfl, fun q hq => mv_low (by omega) hq⟩ ?_
    intro j hj
    refine g_run' T hC true 200 rfl ?_
    refine g_cond rfl (fun h => ?_) (fun h => ?_)
    · have hjl : j < ty.f.length := by simpa using h
      clear h
      obtain ⟨y, hy⟩ := exists_at (l := ty.f.zip x.f) (i := j) (by rw [List.length_zip]; omega)
      obtain ⟨hy1, hy2⟩ := zip_at hy
      obtain ⟨hyn, hyv⟩ := hs3 y (List.mem_of_getElem? hy)
      have hfs := fT_size hs3 (by rw [List.length_zip]; omega) j
      have hnh := nHead_size (k := i) (by omega) hs1
      have hstep : catB (((ty.f.zip x.f).map fLine).take (j + 1)) = catB (((ty.f.zip x.f).map fLine).take j) ++ fLine y := catB_take (by rw [List.getElem?_map, hy]; rfl)
      generalize catB (((ty.f.zip x.f).map fLine).take j) = f at hfs hstep
      have hb2 := bytesR_len (b ++ nHead i ty ++ f)
      have hss := showB_size y.1.t hyv
      have hVal := value_ok (b ++ nHead i ty ++ f ++ ((⟨#[32]⟩ : ByteArray) ++ y.1.n ++ (⟨#[32, 61, 32]⟩ : ByteArray))) y.1.t y.2 hyv (by simp only [size_app]; omega)
      have hfin2 : b ++ nHead i ty ++ f ++ ((⟨#[32]⟩ : ByteArray) ++ y.1.n ++ (⟨#[32, 61, 32]⟩ : ByteArray)) ++ showB y.1.t y.2 ++ (⟨#[59]⟩ : ByteArray) = b ++ nHead i ty ++ catB (((ty.f.zip x.f).map fLine).take (j + 1)) := by
        rw [hstep, fLine]; simp only [ByteArray.append_assoc]
      repeat' first
        | refine g_go T hC true 400 rfl rfl ?_
        | refine g_cond rfl (fun h => ?_) (fun h => ?_)
        | refine g_end T hC (by kernel_rfl) ?_
        | refine g_splitD (fun h => ?_) (fun h => ?_)
        | refine g_splitG rfl rfl rfl (fun h => ?_) (fun h => ?_)
        | refine g_splitP rfl rfl (fun h => ?_) (fun h => ?_)
        | refine g_idx T hC rfl rfl rfl (Int.natCast_nonneg _) (map_at (by assumption)) rfl rfl ?_
        | (refine g_cat hC rfl rfl (by omega) rfl rfl ?_)
        | (refine g_cat hC rfl rfl (by simp only [size_app]; omega) rfl rfl ?_)
        | (refine g_append T 106 hC (rows := bytesR (b ++ nHead i ty ++ f)) (rows2 := bytesR ((⟨#[32]⟩ : ByteArray) ++ y.1.n ++ (⟨#[32, 61, 32]⟩ : ByteArray))) (rows3 := bytesR (b ++ nHead i ty ++ f ++ ((⟨#[32]⟩ : ByteArray) ++ y.1.n ++ (⟨#[32, 61, 32]⟩ : ByteArray)))) (bytes := 1) rfl rfl rfl rfl (SrcS.str (by kernel_rfl)) (app_rows rfl) rfl rfl rfl (by kernel_rfl) (by simp only [bytesR_len, size_app]; omega) (by simp only [bytesR_len, size_app]; omega) rfl rfl rfl ?_)
        | refine g_callR hC (hVal) (nm [106, 107]) rfl rfl (LeSs.refl _) rfl rfl rfl rfl rfl rfl rfl rfl ?_
        | refine g_lit T hC rfl rfl rfl rfl rfl rfl rfl rfl rfl ?_
        | (refine g_append T 108 hC (rows := bytesR (b ++ nHead i ty ++ f ++ ((⟨#[32]⟩ : ByteArray) ++ y.1.n ++ (⟨#[32, 61, 32]⟩ : ByteArray)) ++ showB y.1.t y.2)) (rows2 := bytesR (⟨#[59]⟩ : ByteArray)) (rows3 := bytesR (b ++ nHead i ty ++ catB (((ty.f.zip x.f).map fLine).take (j + 1)))) (bytes := 1) rfl rfl rfl rfl (SrcS.sl (T.es_ok _ _ rfl)) (app_rows hfin2) rfl rfl rfl (by kernel_rfl) (by simp only [bytesR_len, size_app]; omega) (by simp only [bytesR_len, size_app]; omega) rfl rfl rfl ?_)
      rw [wrap64 (by omega)]
      exact g_round (j + 1) (by omega) (mv 101 108) (by omega) ⟨rfl, ⟨rfl, rfl, rfl, rfl, rfl, rfl, rfl, rfl, rfl, rfl, trivial⟩, ⟨rfl, rfl, rfl, rfl, trivial⟩, rfl, fun q hq => mv_low (by omega) hq⟩
    have hge : ¬ j < ty.f.length := by simpa using h
    have hF : catB (((ty.f.zip x.f).map fLine).take j) = catB ((ty.f.zip x.f).map fLine) := by
      rw [List.take_of_length_le (by rw [List.length_map, List.length_zip]; omega)]
    have hfs := fT_size hs3 (by rw [List.length_zip]; omega) j
    have hnh := nHead_size (k := i) (by omega) hs1
    rw [hF] at hfs
    rw [hF]
    clear h hge hF hj
    have hfin3 : b ++ nHead i ty ++ catB ((ty.f.zip x.f).map fLine) ++ endS = gT d m ++ nodesT d m (i + 1) := by
      rw [hns, hnt, nText, ← hB]; simp only [ByteArray.append_assoc]
    generalize catB ((ty.f.zip x.f).map fLine) = f at hfs hfin3
    have hg3 : (gT d m ++ nodesT d m (i + 1)).size ≤ 52848 := by rw [size_app]; omega
    repeat' first
      | refine g_go T hC true 400 rfl rfl ?_
      | refine g_cond rfl (fun h => ?_) (fun h => ?_)
      | refine g_end T hC (by kernel_rfl) ?_
      | refine g_splitD (fun h => ?_) (fun h => ?_)
      | refine g_splitG rfl rfl rfl (fun h => ?_) (fun h => ?_)
      | refine g_splitP rfl rfl (fun h => ?_) (fun h => ?_)
      | refine g_outE ?_
      | (refine g_append T 109 hC (rows := bytesR (b ++ nHead i ty ++ f)) (rows2 := bytesR endS) (rows3 := bytesR (gT d m ++ nodesT d m (i + 1))) (bytes := 1) rfl rfl rfl rfl (SrcS.str (by kernel_rfl)) (app_rows hfin3) rfl rfl rfl (by kernel_rfl) (by simp only [bytesR_len, size_app]; omega) (by simp only [bytesR_len, size_app]; omega) rfl rfl rfl ?_)
    · exfalso
      have := of_decide_eq_true h
      rw [bytesR_len] at this
      omega
    rw [wrap64 (by omega)]
    exact g_round (i + 1) (by omega) (mv 101 109) (by omega) ⟨rfl, ⟨rfl, rfl, rfl, rfl, rfl, rfl, trivial⟩, ⟨rfl, rfl, rfl, trivial⟩, rfl, fun q hq => mv_low (by omega) hq⟩
  have hge : ¬ i < m.n.length := by simpa using h
  have hi2 : i = m.n.length := by omega
  subst hi2
  clear h hge hi
  have hRR : gT d m ++ nodesT d m m.n.length = RES := hRES
  rw [hRR]
  repeat' first
    | refine g_go T hC true 400 rfl rfl ?_
    | refine g_cond rfl (fun h => ?_) (fun h => ?_)
    | refine g_end T hC (by kernel_rfl) ?_
    | refine g_splitD (fun h => ?_) (fun h => ?_)
    | refine g_splitG rfl rfl rfl (fun h => ?_) (fun h => ?_)
    | refine g_splitP rfl rfl (fun h => ?_) (fun h => ?_)
    | refine g_outE ?_
    | (refine g_b2s (s := RES) (e := 5) hC rfl rfl (by kernel_rfl) (by kernel_rfl) (by kernel_rfl) rfl rfl ?_)
  all_goals first
    | (exfalso; have := of_decide_eq_true h; rw [bytesR_len] at this; omega)
    | skip
  exact g_fin ⟨.inl rfl, id, _, rfl, .refl _, trivial, rfl, rfl⟩
end Hw.Z
