/- The engine, part BB: slices of strings. -/
import Derived.Test.YtmnhegkogibipaaGreatDoorC7
import Derived.Laws.Strings3
import Derived.Test.YtmnhegkogibipaaGreatDoorC16
set_option linter.unusedVariables false
set_option linter.unusedSimpArgs false
namespace Hw
open Go
section
variable {P : Program} {d : Option Nat} {ty : TypeId} {ps : String} {af : Array Edge} {g : Option (Nat × Bool)} {x y : Operand} {t : TypeId}
theorem L_slTo {a : ByteArray} {j : Int} {k : IntKind} (hx : okc x (Sr a)) (hy : okc y (Kk k j)) (ht : P.underlying t = some .string) (h0 : 0 ≤ j) (h1 : j ≤ a.size) :
    Snd P ⟨d, .slice t x none (some y) none, ty, ps, af, g⟩ (rq x (Sr a) ++ rq y (Kk k j)) [] [] (Sr (a.extract 0 j.toNat)) [] :=
  snd_quiet fun C st M ρ b w hH hs _ => by
    rw [okS_append] at hs
    have e1 := hH.k (ev_of hx hs.1)
    have e2 := hH.k (ev_of hy hs.2)
    refine ⟨.string (a.extract 0 j.toNat), ?_, by simp only [RepS, RepV, RepPV]; exact ⟨trivial, rfl⟩⟩
    simp only [execOp, e1, e2, Option.map_none, Option.map_some, Sem.run_bind, run_sliceAt_string w t _ _ _ _ ht, run_slice_string_to_if w t a k j ht, if_pos (⟨h0, h1⟩ : 0 ≤ j ∧ j ≤ (a.size : Int)), Result.andThen_ok, Sem.run_pure]
theorem L_slFrom {a : ByteArray} {j : Int} {k : IntKind} (hx : okc x (Sr a)) (hy : okc y (Kk k j)) (ht : P.underlying t = some .string) (h0 : 0 ≤ j) (h1 : j ≤ a.size) :
    Snd P ⟨d, .slice t x (some y) none none, ty, ps, af, g⟩ (rq x (Sr a) ++ rq y (Kk k j)) [] [] (Sr (a.extract j.toNat a.size)) [] :=
  snd_quiet fun C st M ρ b w hH hs _ => by
    rw [okS_append] at hs
    have e1 := hH.k (ev_of hx hs.1)
    have e2 := hH.k (ev_of hy hs.2)
    refine ⟨.string (a.extract j.toNat a.size), ?_, by simp only [RepS, RepV, RepPV]; exact ⟨trivial, rfl⟩⟩
    simp only [execOp, e1, e2, Option.map_none, Option.map_some, Sem.run_bind, run_sliceAt_string w t _ _ _ _ ht, run_slice_string_from_if w t a k j ht, if_pos (⟨h0, h1⟩ : 0 ≤ j ∧ j ≤ (a.size : Int)), Result.andThen_ok, Sem.run_pure]
end
variable {P : Program} {C : Ctx} {k : List Frm} {n : Nat} {sl : Slots} {tab : Tab} {Q : Exit → St → Prop} {all : Array Oper} {rest : List Oper}
theorem g_slTo {d : Nat} {x y : Operand} {t ty : TypeId} {ps : String} {af : Array Edge} {g0 : Option (Nat × Bool)} {gs : Slots} {md : Mode} (hC : C.low) {a : ByteArray} {j : Int} {k0 : IntKind}
    (hx : ev sl x = some (Sr a)) (hy : ev sl y = some (Kk k0 j)) (ht : P.underlying t = some .string) (h0 : 0 ≤ j) (h1 : j ≤ a.size) (hm : metL all sl g0 = some gs) (hd : Nat.blt d n = true)
    (g : Goal P C (.ops all rest (nx md ⟨some d, gs ++ (rq x (Sr a) ++ rq y (Kk k0 j)), [], [], Sr (a.extract 0 j.toNat), []⟩)) k n ((d, Sr (a.extract 0 j.toNat)) :: sl) tab Q) :
    Goal P C (.ops all (⟨some d, .slice t x none (some y) none, ty, ps, af, g0⟩ :: rest) md) k n sl tab Q := by
  have e1 := of_ev (st := ⟨n, sl, tab⟩) hx
  have e2 := of_ev (st := ⟨n, sl, tab⟩) hy
  have := metL_step hm (L_slTo (P := P) (ty := ty) (ps := ps) (af := af) (g := g0) (d := some d) (t := t) e1.1 e2.1 ht h0 h1) (n := n) (tab := tab)
  exact g_law (L := ⟨some d, gs ++ (rq x (Sr a) ++ rq y (Kk k0 j)), [], [], Sr (a.extract 0 j.toNat), []⟩) hC this.1 rfl ⟨by rw [okS_append, okS_append]; exact ⟨this.2, e1.2, e2.2⟩, trivial, rfl, hd⟩ g
theorem g_slFrom {d : Nat} {x y : Operand} {t ty : TypeId} {ps : String} {af : Array Edge} {g0 : Option (Nat × Bool)} {gs : Slots} {md : Mode} (hC : C.low) {a : ByteArray} {j : Int} {k0 : IntKind}
    (hx : ev sl x = some (Sr a)) (hy : ev sl y = some (Kk k0 j)) (ht : P.underlying t = some .string) (h0 : 0 ≤ j) (h1 : j ≤ a.size) (hm : metL all sl g0 = some gs) (hd : Nat.blt d n = true)
    (g : Goal P C (.ops all rest (nx md ⟨some d, gs ++ (rq x (Sr a) ++ rq y (Kk k0 j)), [], [], Sr (a.extract j.toNat a.size), []⟩)) k n ((d, Sr (a.extract j.toNat a.size)) :: sl) tab Q) :
    Goal P C (.ops all (⟨some d, .slice t x (some y) none none, ty, ps, af, g0⟩ :: rest) md) k n sl tab Q := by
  have e1 := of_ev (st := ⟨n, sl, tab⟩) hx
  have e2 := of_ev (st := ⟨n, sl, tab⟩) hy
  have := metL_step hm (L_slFrom (P := P) (ty := ty) (ps := ps) (af := af) (g := g0) (d := some d) (t := t) e1.1 e2.1 ht h0 h1) (n := n) (tab := tab)
  exact g_law (L := ⟨some d, gs ++ (rq x (Sr a) ++ rq y (Kk k0 j)), [], [], Sr (a.extract j.toNat a.size), []⟩) hC this.1 rfl ⟨by rw [okS_append, okS_append]; exact ⟨this.2, e1.2, e2.2⟩, trivial, rfl, hd⟩ g
end Hw
namespace Hw.Z
open Go Go.Proofs Go.Shelf Hw.M

theorem isType_size {s : Str} (h : isType s = true) : s.size ≤ 40 := by
  have e1 : ByteArray.size (⟨#[105, 110, 116]⟩ : ByteArray) = 3 := rfl
  have e2 : ByteArray.size (⟨#[98, 111, 111, 108]⟩ : ByteArray) = 4 := rfl
  unfold isType at h
  simp only [Bool.or_eq_true, decide_eq_true_eq] at h
  rcases h with (rfl | rfl) | h
  · omega
  · omega
  · exact name_le h
theorem fld_facts {l : List Fld} {m : Int} (h : fieldsOk l m = true) : (l.length : Int) ≤ m ∧ ∀ f ∈ l, f.n.size ≤ 40 ∧ f.t.size ≤ 40 := by
  unfold fieldsOk at h
  simp only [Bool.and_eq_true, decide_eq_true_eq] at h
  refine ⟨h.1, fun f hf => ?_⟩
  have := List.all_eq_true.1 h.2 f hf
  unfold fieldOk at this
  simp only [Bool.and_eq_true] at this
  exact ⟨name_le this.1, isType_size this.2⟩
theorem decls_size {l : List Fld} {sep : Str} (hs : sep.size ≤ 2) (hf : ∀ f ∈ l, f.n.size ≤ 40 ∧ f.t.size ≤ 40) : (declsT l sep).size ≤ 83 * l.length := by
  have := catB_le (k := 83) (l := (l.map declT).zipIdx.map (sepT sep)) (fun x hx => by
    obtain ⟨⟨a, n⟩, ha, rfl⟩ := List.mem_map.1 hx
    have h1 := List.fst_mem_of_mem_zipIdx ha
    obtain ⟨f, hf', rfl⟩ := List.mem_map.1 h1
    have h2 := decl_size (hf f hf')
    have e : ByteArray.size (⟨#[]⟩ : ByteArray) = 0 := rfl
    simp only [sepT, size_app]
    split <;> omega)
  rw [List.length_map, List.length_zipIdx, List.length_map] at this
  exact this
theorem tab1 : tabS 1 = tbS := nil_cat _
structure PrF (p : Pr) : Prop where
  n : p.n.size ≤ 40
  par : (p.params.length : Int) ≤ 6 ∧ ∀ f ∈ p.params, f.n.size ≤ 40 ∧ f.t.size ≤ 40
  loc : (p.locs.length : Int) ≤ 12 ∧ ∀ f ∈ p.locs, f.n.size ≤ 40 ∧ f.t.size ≤ 40
  res : p.res.size ≤ 40
  body : okSms p.body 1
theorem pr_facts {p : Pr} (h : procOk p = true) : PrF p := by
  unfold procOk at h
  simp only [Bool.and_eq_true, Bool.or_eq_true, decide_eq_true_eq] at h
  obtain ⟨⟨⟨⟨h1, h2⟩, h3⟩, h4⟩, h5⟩ := h
  have e : ByteArray.size (⟨#[]⟩ : ByteArray) = 0 := rfl
  refine ⟨name_le h1, fld_facts h2, fld_facts h3, ?_, ok_of_stL p.body 1 0 (by omega) (by omega) h5⟩
  rcases h4 with h4 | h4
  · rw [h4]; omega
  · exact isType_size h4
def locT (f : Fld) : Str := (⟨#[9, 108, 111, 99, 97, 108, 32]⟩ : Str) ++ f.n ++ (⟨#[32]⟩ : ByteArray) ++ f.t ++ scS
def resT (p : Pr) : Str := if p.res = (⟨#[]⟩ : ByteArray) then (⟨#[]⟩ : ByteArray) else p.res ++ (⟨#[32]⟩ : ByteArray)
def headT (p : Pr) : Str := (⟨#[112, 114, 111, 99, 32]⟩ : ByteArray) ++ p.n ++ (⟨#[40]⟩ : ByteArray) ++ declsT p.params (⟨#[44, 32]⟩ : ByteArray) ++ (⟨#[41, 32]⟩ : ByteArray)
theorem procT_eq (p : Pr) : procT p = headT p ++ resT p ++ (⟨#[123, 10]⟩ : Str) ++ catB (p.locs.map locT) ++ stsT p.body tbS ++ clS := rfl
theorem aproc_ok (p : Pr) (hv : procOk p = true) (s : Str) (hs : s.size + (procT p).size ≤ 6000000) :
    FnOK Tryz.prog 91 [.one (.ar 0), aggS (procR p)] (bA 0 s) (.one (.ar 1)) (bA 1 (s ++ procT p)) := by
  have F := pr_facts hv
  rw [procT_eq] at hs ⊢
  have n1 : ByteArray.size (⟨#[32, 61, 32]⟩ : ByteArray) = 3 := rfl
  have n2 : ByteArray.size scS = 2 := rfl
  have n3 : ByteArray.size (⟨#[46]⟩ : ByteArray) = 1 := rfl
  have n4 : ByteArray.size (⟨#[114, 101, 116, 117, 114, 110]⟩ : ByteArray) = 6 := rfl
  have n5 : ByteArray.size opS = 3 := rfl
  have n6 : ByteArray.size clS = 2 := rfl
  have n7 : ByteArray.size (⟨#[119, 104, 105, 108, 101, 32]⟩ : ByteArray) = 6 := rfl
  have n8 : ByteArray.size (⟨#[105, 102, 32]⟩ : ByteArray) = 3 := rfl
  have n9 : ByteArray.size elS = 9 := rfl
  have n10 : ByteArray.size tbS = 1 := rfl
  have n11 : ByteArray.size (⟨#[32]⟩ : ByteArray) = 1 := rfl
  have n12 : ByteArray.size lpS = 1 := rfl
  have n13 : ByteArray.size rpS = 1 := rfl
  have n14 : ByteArray.size (⟨#[112, 114, 111, 99, 32]⟩ : ByteArray) = 5 := rfl
  have n15 : ByteArray.size (⟨#[40]⟩ : ByteArray) = 1 := rfl
  have n16 : ByteArray.size (⟨#[41, 32]⟩ : ByteArray) = 2 := rfl
  have n17 : ByteArray.size (⟨#[123, 10]⟩ : Str) = 2 := rfl
  have n18 : ByteArray.size (⟨#[9, 108, 111, 99, 97, 108, 32]⟩ : Str) = 7 := rfl
  have n19 : ByteArray.size (⟨#[]⟩ : ByteArray) = 0 := rfl
  have n20 : ByteArray.size (⟨#[41]⟩ : ByteArray) = 1 := rfl
  have n21 : ByteArray.size (⟨#[44, 32]⟩ : ByteArray) = 2 := rfl
  have m1 : ByteArray.size (⟨#[59, 10]⟩ : Str) = 2 := rfl
  have m3 : ByteArray.size (⟨#[125, 10]⟩ : Str) = 2 := rfl
  have hdz := decls_size (l := p.params) (sep := (⟨#[44, 32]⟩ : ByteArray)) (by omega) F.par.2
  have hpl := F.par.1
  have hL := list_ok p.params (⟨#[44, 32]⟩ : ByteArray) (by omega) F.par.2 (by omega)
  have hhd : headT p = (⟨#[112, 114, 111, 99, 32]⟩ : ByteArray) ++ p.n ++ (⟨#[40]⟩ : ByteArray) ++ declsT p.params (⟨#[44, 32]⟩ : ByteArray) ++ (⟨#[41, 32]⟩ : ByteArray) := rfl
  generalize hBd : s ++ headT p ++ resT p ++ (⟨#[123, 10]⟩ : Str) = B
  have hBs : B.size = s.size + (headT p).size + (resT p).size + 2 := by rw [← hBd]; simp only [size_app]; omega
  simp only [size_app] at hs
  have hb := block_ok (SizeOf.sizeOf p.body + 1) p.body 1 (B ++ catB (p.locs.map locT)) (by omega) F.body (by omega) (by rw [tab1]; simp only [size_app]; omega)
  rw [tab1] at hb
  have hfin : B ++ catB (p.locs.map locT) ++ stsT p.body tbS ++ clS = s ++ (headT p ++ resT p ++ (⟨#[123, 10]⟩ : Str) ++ catB (p.locs.map locT) ++ stsT p.body tbS ++ clS) := by
    rw [← hBd]; simp only [ByteArray.append_assoc]
  have hloc : ∀ i x, p.locs[i]? = some x → B ++ catB ((p.locs.map locT).take i) ++ ((⟨#[9, 108, 111, 99, 97, 108, 32]⟩ : Str) ++ x.n ++ (⟨#[32]⟩ : ByteArray) ++ x.t ++ (⟨#[59, 10]⟩ : Str)) = B ++ catB ((p.locs.map locT).take (i + 1)) := fun i x hx => by
    rw [catB_take (l := p.locs.map locT) (x := locT x) (by rw [List.getElem?_map, hx]; rfl)]
    simp only [locT, ByteArray.append_assoc]
  have hll := F.loc.1
  have hpn := F.n
  have hpr := F.res
  have hhs : (headT p).size = 5 + p.n.size + 1 + (declsT p.params (⟨#[44, 32]⟩ : ByteArray)).size + 2 := by rw [hhd]; simp only [size_app]; omega
  by_cases hr : p.res = (⟨#[]⟩ : ByteArray)
  · have hB : s ++ ((⟨#[112, 114, 111, 99, 32]⟩ : ByteArray) ++ p.n ++ (⟨#[40]⟩ : ByteArray) ++ declsT p.params (⟨#[44, 32]⟩ : ByteArray) ++ (⟨#[41, 32]⟩ : ByteArray)) ++ (⟨#[123, 10]⟩ : Str) = B := by rw [← hBd, resT, if_pos hr, cat_nil]; rfl
    refine fn_ok T Tryz.func91 (by kernel_rfl) rfl rfl rfl rfl fun C hC => ?_
    repeat' first
      | refine g_go T hC true 400 rfl rfl ?_
      | refine g_cond rfl (fun h => ?_) (fun h => ?_)
      | refine g_end T hC (by kernel_rfl) ?_
      | refine g_splitD (fun h => ?_) (fun h => ?_)
      | refine g_splitG rfl rfl rfl (fun h => ?_) (fun h => ?_)
      | refine g_splitP rfl rfl (fun h => ?_) (fun h => ?_)
      | refine g_call hC (hL) rfl rfl (LeSs.refl _) rfl rfl rfl ?_
      | (refine g_cat hC rfl rfl (by (try simp only [size_app]); omega) rfl rfl ?_)
      | (refine g_append T 103 hC (rows := bytesR _) (rows2 := bytesR _) (rows3 := bytesR (_ ++ _)) (bytes := 1) rfl rfl rfl rfl (SrcS.str (by kernel_rfl)) (app_rows rfl) rfl rfl rfl (by kernel_rfl) (by (try simp only [bytesR_len, size_app]); omega) (by (try simp only [bytesR_len, size_app]); omega) rfl rfl rfl ?_)
      | (refine g_append T 105 hC (rows := bytesR _) (rows2 := bytesR _) (rows3 := bytesR (_ ++ _)) (bytes := 1) rfl rfl rfl rfl (SrcS.str (by kernel_rfl)) (app_rows rfl) rfl rfl rfl (by kernel_rfl) (by (try simp only [bytesR_len, size_app]); omega) (by (try simp only [bytesR_len, size_app]); omega) rfl rfl rfl ?_)
    all_goals first
      | (exfalso; clear hL hb; simp_all; done)
      | skip
    rw [List.length_map, hB]
    refine g_loop (fun i : Nat => i ≤ p.locs.length) (fun i => ([(0, .one (.ar 101)), (3, .one (.bx 1003 0)), (29, pS (fieldsP p.locs)), (30, I p.locs.length), (31, I i)],
        [(1003, some (Res.box ((procR p).map V.p))), (101, some (Res.arr 1 (bytesR (B ++ catB ((p.locs.map locT).take i)))))])) (fun i => p.locs.length - i) hC
      0 (Nat.zero_le _) (mvo 101 105) ⟨rfl, ⟨rfl, rfl, rfl, rfl, rfl, trivial⟩, ⟨rfl, by rw [show catB ((p.locs.map locT).take 0) = (⟨#[]⟩ : ByteArray) from rfl, cat_nil]; rfl, trivial⟩, rfl, fun q hq => mvo_low (by omega) hq⟩ ?_
    intro i hi
    refine g_run' T hC true 200 rfl ?_
    refine g_cond rfl (fun h => ?_) (fun h => ?_)
    · have hlt : i < p.locs.length := by have := of_decide_eq_true h; omega
      clear h
      obtain ⟨x, hx⟩ := exists_at hlt
      have hx2 := F.loc.2 x (List.mem_of_getElem? hx)
      have hle := catB_take_le (p.locs.map locT) i
      have hq := hloc i x hx
      generalize catB ((p.locs.map locT).take i) = f at hle hq
      repeat' first
        | refine g_go T hC true 400 rfl rfl ?_
        | refine g_cond rfl (fun h => ?_) (fun h => ?_)
        | refine g_end T hC (by kernel_rfl) ?_
        | refine g_splitD (fun h => ?_) (fun h => ?_)
        | refine g_splitG rfl rfl rfl (fun h => ?_) (fun h => ?_)
        | refine g_splitP rfl rfl (fun h => ?_) (fun h => ?_)
        | (refine g_idx T hC rfl rfl rfl (Int.natCast_nonneg _) (map_at hx) rfl rfl ?_)
        | (refine g_cat hC rfl rfl (by (try simp only [size_app]); omega) rfl rfl ?_)
        | (refine g_append T 106 hC (rows := bytesR _) (rows2 := bytesR _) (rows3 := bytesR (_ ++ _)) (bytes := 1) rfl rfl rfl rfl (SrcS.str (by kernel_rfl)) (app_rows rfl) rfl rfl rfl (by kernel_rfl) (by (try simp only [bytesR_len, size_app]); omega) (by (try simp only [bytesR_len, size_app]); omega) rfl rfl rfl ?_)
      rw [wrap64 (by omega), hq]
      exact g_round (i + 1) (by omega) (mvo 101 106) (by omega) ⟨rfl, ⟨rfl, rfl, rfl, rfl, rfl, trivial⟩, ⟨rfl, rfl, trivial⟩, rfl, fun q hq => mvo_low (by omega) hq⟩
    · have hge : ¬ i < p.locs.length := by have := of_decide_eq_false h; omega
      rw [List.take_of_length_le (by rw [List.length_map]; omega)]
      repeat' first
        | refine g_go T hC true 400 rfl rfl ?_
        | refine g_cond rfl (fun h => ?_) (fun h => ?_)
        | refine g_end T hC (by kernel_rfl) ?_
        | refine g_splitD (fun h => ?_) (fun h => ?_)
        | refine g_splitG rfl rfl rfl (fun h => ?_) (fun h => ?_)
        | refine g_splitP rfl rfl (fun h => ?_) (fun h => ?_)
        | refine g_outE ?_
        | refine g_callR hC (hb) (nm [101, 107]) rfl rfl (LeSs.refl _) rfl rfl rfl rfl rfl rfl rfl rfl ?_
        | (refine g_append T 108 hC (rows := bytesR _) (rows2 := bytesR _) (rows3 := bytesR (_ ++ _)) (bytes := 1) rfl rfl rfl rfl (SrcS.str (by kernel_rfl)) (app_rows rfl) rfl rfl rfl (by kernel_rfl) (by (try simp only [bytesR_len, size_app]); omega) (by (try simp only [bytesR_len, size_app]); omega) rfl rfl rfl ?_)
      rw [hfin]
      exact g_fin ⟨.inl rfl, nm [0, 108], _, rfl, .refl _, ⟨rfl, trivial⟩, rfl, rfl⟩
  · have hB : s ++ ((⟨#[112, 114, 111, 99, 32]⟩ : ByteArray) ++ p.n ++ (⟨#[40]⟩ : ByteArray) ++ declsT p.params (⟨#[44, 32]⟩ : ByteArray) ++ (⟨#[41, 32]⟩ : ByteArray)) ++ (p.res ++ (⟨#[32]⟩ : ByteArray)) ++ (⟨#[123, 10]⟩ : Str) = B := by rw [← hBd, resT, if_neg hr]; rfl
    refine fn_ok T Tryz.func91 (by kernel_rfl) rfl rfl rfl rfl fun C hC => ?_
    repeat' first
      | refine g_go T hC true 400 rfl rfl ?_
      | refine g_cond rfl (fun h => ?_) (fun h => ?_)
      | refine g_end T hC (by kernel_rfl) ?_
      | refine g_splitD (fun h => ?_) (fun h => ?_)
      | refine g_splitG rfl rfl rfl (fun h => ?_) (fun h => ?_)
      | refine g_splitP rfl rfl (fun h => ?_) (fun h => ?_)
      | refine g_call hC (hL) rfl rfl (LeSs.refl _) rfl rfl rfl ?_
      | (refine g_cat hC rfl rfl (by (try simp only [size_app]); omega) rfl rfl ?_)
      | (refine g_append T 103 hC (rows := bytesR _) (rows2 := bytesR _) (rows3 := bytesR (_ ++ _)) (bytes := 1) rfl rfl rfl rfl (SrcS.str (by kernel_rfl)) (app_rows rfl) rfl rfl rfl (by kernel_rfl) (by (try simp only [bytesR_len, size_app]); omega) (by (try simp only [bytesR_len, size_app]); omega) rfl rfl rfl ?_)
      | (refine g_append T 104 hC (rows := bytesR _) (rows2 := bytesR _) (rows3 := bytesR (_ ++ _)) (bytes := 1) rfl rfl rfl rfl (SrcS.str (by kernel_rfl)) (app_rows rfl) rfl rfl rfl (by kernel_rfl) (by (try simp only [bytesR_len, size_app]); omega) (by (try simp only [bytesR_len, size_app]); omega) rfl rfl rfl ?_)
      | (refine g_append T 105 hC (rows := bytesR _) (rows2 := bytesR _) (rows3 := bytesR (_ ++ _)) (bytes := 1) rfl rfl rfl rfl (SrcS.str (by kernel_rfl)) (app_rows rfl) rfl rfl rfl (by kernel_rfl) (by (try simp only [bytesR_len, size_app]); omega) (by (try simp only [bytesR_len, size_app]); omega) rfl rfl rfl ?_)
    all_goals first
      | (exfalso; clear hL hb; simp_all; done)
      | skip
    rw [List.length_map, hB]
    refine g_loop (fun i : Nat => i ≤ p.locs.length) (fun i => ([(0, .one (.ar 101)), (3, .one (.bx 1003 0)), (29, pS (fieldsP p.locs)), (30, I p.locs.length), (31, I i)],
        [(1003, some (Res.box ((procR p).map V.p))), (101, some (Res.arr 1 (bytesR (B ++ catB ((p.locs.map locT).take i)))))])) (fun i => p.locs.length - i) hC
      0 (Nat.zero_le _) (mvo 101 105) ⟨rfl, ⟨rfl, rfl, rfl, rfl, rfl, trivial⟩, ⟨rfl, by rw [show catB ((p.locs.map locT).take 0) = (⟨#[]⟩ : ByteArray) from rfl, cat_nil]; rfl, trivial⟩, rfl, fun q hq => mvo_low (by omega) hq⟩ ?_
    intro i hi
    refine g_run' T hC true 200 rfl ?_
    refine g_cond rfl (fun h => ?_) (fun h => ?_)
    · have hlt : i < p.locs.length := by have := of_decide_eq_true h; omega
      clear h
      obtain ⟨x, hx⟩ := exists_at hlt
      have hx2 := F.loc.2 x (List.mem_of_getElem? hx)
      have hle := catB_take_le (p.locs.map locT) i
      have hq := hloc i x hx
      generalize catB ((p.locs.map locT).take i) = f at hle hq
      repeat' first
        | refine g_go T hC true 400 rfl rfl ?_
        | refine g_cond rfl (fun h => ?_) (fun h => ?_)
        | refine g_end T hC (by kernel_rfl) ?_
        | refine g_splitD (fun h => ?_) (fun h => ?_)
        | refine g_splitG rfl rfl rfl (fun h => ?_) (fun h => ?_)
        | refine g_splitP rfl rfl (fun h => ?_) (fun h => ?_)
        | (refine g_idx T hC rfl rfl rfl (Int.natCast_nonneg _) (map_at hx) rfl rfl ?_)
        | (refine g_cat hC rfl rfl (by (try simp only [size_app]); omega) rfl rfl ?_)
        | (refine g_append T 106 hC (rows := bytesR _) (rows2 := bytesR _) (rows3 := bytesR (_ ++ _)) (bytes := 1) rfl rfl rfl rfl (SrcS.str (by kernel_rfl)) (app_rows rfl) rfl rfl rfl (by kernel_rfl) (by (try simp only [bytesR_len, size_app]); omega) (by (try simp only [bytesR_len, size_app]); omega) rfl rfl rfl ?_)
      rw [wrap64 (by omega), hq]
      exact g_round (i + 1) (by omega) (mvo 101 106) (by omega) ⟨rfl, ⟨rfl, rfl, rfl, rfl, rfl, trivial⟩, ⟨rfl, rfl, trivial⟩, rfl, fun q hq => mvo_low (by omega) hq⟩
    · have hge : ¬ i < p.locs.length := by have := of_decide_eq_false h; omega
      rw [List.take_of_length_le (by rw [List.length_map]; omega)]
      repeat' first
        | refine g_go T hC true 400 rfl rfl ?_
        | refine g_cond rfl (fun h => ?_) (fun h => ?_)
        | refine g_end T hC (by kernel_rfl) ?_
        | refine g_splitD (fun h => ?_) (fun h => ?_)
        | refine g_splitG rfl rfl rfl (fun h => ?_) (fun h => ?_)
        | refine g_splitP rfl rfl (fun h => ?_) (fun h => ?_)
        | refine g_outE ?_
        | refine g_callR hC (hb) (nm [101, 107]) rfl rfl (LeSs.refl _) rfl rfl rfl rfl rfl rfl rfl rfl ?_
        | (refine g_append T 108 hC (rows := bytesR _) (rows2 := bytesR _) (rows3 := bytesR (_ ++ _)) (bytes := 1) rfl rfl rfl rfl (SrcS.str (by kernel_rfl)) (app_rows rfl) rfl rfl rfl (by kernel_rfl) (by (try simp only [bytesR_len, size_app]); omega) (by (try simp only [bytesR_len, size_app]); omega) rfl rfl rfl ?_)
      rw [hfin]
      exact g_fin ⟨.inl rfl, nm [0, 108], _, rfl, .refl _, ⟨rfl, trivial⟩, rfl, rfl⟩
end Hw.Z
namespace Hw.Z
open Go Go.Proofs Go.Shelf Hw.M

/-! The size of a description's text -/
theorem thr_size {α : Type} {p : α → Int → Bool × Int} {f : α → Str} {K : Int} : ∀ (l : List α) (c : Int), (thr p l c).1 = true → (∀ x ∈ l, ∀ c, (p x c).1 = true → ((f x).size : Int) ≤ 300 * (c - (p x c).2) + K) →
    ((catB (l.map f)).size : Int) ≤ 300 * (c - (thr p l c).2) + K * l.length
  | [], c, _, _ => by
    have : ByteArray.size (⟨#[]⟩ : ByteArray) = 0 := rfl
    simp only [List.map_nil, catB, thr, List.length_nil]; omega
  | x :: r, c, h, hp => by
    simp only [thr] at h ⊢
    split at h
    · rename_i h1
      rw [if_pos h1]
      have a1 := hp x (by simp) c h1
      have a2 := thr_size r _ h fun y hy => hp y (by simp [hy])
      simp only [List.map_cons, catB, size_app, List.length_cons]
      have : K * ((r.length + 1 : Nat) : Int) = K * r.length + K := by rw [Int.natCast_add, Int.mul_add]; omega
      omega
    · cases h
theorem locs_size {l : List Fld} (hf : ∀ f ∈ l, f.n.size ≤ 40 ∧ f.t.size ≤ 40) : (catB (l.map locT)).size ≤ 90 * l.length := by
  have := catB_le (k := 90) (l := l.map locT) (fun x hx => by
    obtain ⟨f, hf', rfl⟩ := List.mem_map.1 hx
    have h2 := hf f hf'
    have e1 : ByteArray.size (⟨#[32]⟩ : ByteArray) = 1 := rfl
    have e2 : ByteArray.size (⟨#[9, 108, 111, 99, 97, 108, 32]⟩ : Str) = 7 := rfl
    have e3 : ByteArray.size scS = 2 := rfl
    simp only [locT, size_app]; omega)
  rw [List.length_map] at this
  exact this
theorem procT_size {p : Pr} (hv : procOk p = true) {c : Int} (h : (procF p c).1 = true) : ((procT p).size : Int) ≤ 300 * (c - (procF p c).2) + 300 := by
  have F := pr_facts hv
  unfold procF at h ⊢
  split at h
  · cases h
  rename_i h1
  rw [if_neg h1]
  split at h
  · cases h
  rename_i h2
  rw [if_neg h2]
  split at h
  · cases h
  rename_i h3
  rw [if_neg h3]
  have e0 : ByteArray.size tbS = 1 := rfl
  have hb := stsT_size p.body 1 tbS _ F.body (by rw [e0]; decide) h
  have e1 : ByteArray.size (⟨#[32]⟩ : ByteArray) = 1 := rfl
  have e2 : ByteArray.size (⟨#[112, 114, 111, 99, 32]⟩ : ByteArray) = 5 := rfl
  have e3 : ByteArray.size (⟨#[40]⟩ : ByteArray) = 1 := rfl
  have e4 : ByteArray.size (⟨#[41, 32]⟩ : ByteArray) = 2 := rfl
  have e5 : ByteArray.size (⟨#[123, 10]⟩ : Str) = 2 := rfl
  have e6 : ByteArray.size clS = 2 := rfl
  have e7 : ByteArray.size (⟨#[]⟩ : ByteArray) = 0 := rfl
  have e8 : ByteArray.size (⟨#[44, 32]⟩ : ByteArray) = 2 := rfl
  have hd := decls_size (l := p.params) (sep := (⟨#[44, 32]⟩ : ByteArray)) (by omega) F.par.2
  have hl := locs_size F.loc.2
  have hn := F.n
  have hr := F.res
  have hrs : (resT p).size ≤ 41 := by unfold resT; split <;> (try simp only [size_app]) <;> omega
  rw [procT_eq]
  simp only [headT, size_app]
  omega
def fld40 (f : Fld) : Prop := f.n.size ≤ 40 ∧ f.t.size ≤ 40
theorem typT_size {t : NodeT} (h : typeOk t = true) {c : Int} (hc : (smT t c).1 = true) : ((typT t).size : Int) ≤ 300 * (c - (smT t c).2) + 100 := by
  unfold typeOk at h
  simp only [Bool.and_eq_true] at h
  have F := fld_facts h.2
  have hn := name_le h.1
  unfold smT at hc ⊢
  split at hc
  · cases hc
  rename_i h1
  rw [if_neg h1]
  have e1 : ByteArray.size (⟨#[32]⟩ : ByteArray) = 1 := rfl
  have e2 : ByteArray.size (⟨#[116, 121, 112, 101, 32]⟩ : ByteArray) = 5 := rfl
  have e3 : ByteArray.size (⟨#[32, 123, 32]⟩ : ByteArray) = 3 := rfl
  have e4 : ByteArray.size clS = 2 := rfl
  have e5 : ByteArray.size (⟨#[]⟩ : ByteArray) = 0 := rfl
  have e6 : ByteArray.size (⟨#[59, 32]⟩ : ByteArray) = 2 := rfl
  have hd := decls_size (l := t.f) (sep := (⟨#[59, 32]⟩ : ByteArray)) (by omega) F.2
  unfold typT
  cases hf : t.f with
  | nil => simp only [size_app, List.length_nil]; omega
  | cons x r => rw [hf] at hd; simp only [size_app]; omega
theorem vars_size {l : List Fld} (hf : ∀ f ∈ l, f.n.size ≤ 40 ∧ f.t.size ≤ 40) : (catB (l.map varT)).size ≤ 90 * l.length := by
  have := catB_le (k := 90) (l := l.map varT) (fun x hx => by
    obtain ⟨f, hf', rfl⟩ := List.mem_map.1 hx
    have h2 := hf f hf'
    have e1 : ByteArray.size (⟨#[32]⟩ : ByteArray) = 1 := rfl
    have e2 : ByteArray.size (⟨#[118, 97, 114, 32]⟩ : ByteArray) = 4 := rfl
    have e3 : ByteArray.size nlS = 1 := rfl
    simp only [varT, size_app]; omega)
  rw [List.length_map] at this
  exact this
theorem form_size {h : Str} {e : Ex} (hv : exprOk e = true) {c : Int} (hc : (fewB e c).1 = true) (hh : h.size ≤ 190) : ((formT h e).size : Int) ≤ 300 * (c - (fewB e c).2) + 200 := by
  have h1 : countS e 1 ≤ 1000 := of_decide_eq_true hv
  have h2 := few_count e c 1 hc h1
  have h3 := wT_size e 1 h1
  have h4 := atT_size (txOf e) 1
  have h5 : (txOf e).2.size = (wT e).size := rfl
  have e1 : ByteArray.size (⟨#[32, 61, 32]⟩ : ByteArray) = 3 := rfl
  have e2 : ByteArray.size nlS = 1 := rfl
  rw [h2]
  simp only [formT, size_app]; omega
theorem measT_size {m : Ms} (h : measOk m = true) {c : Int} (hc : (smM m c).1 = true) : ((measT m).size : Int) ≤ 300 * (c - (smM m c).2) + 200 := by
  unfold measOk at h
  simp only [Bool.and_eq_true, Bool.not_eq_true', decide_eq_false_iff_not] at h
  obtain ⟨⟨⟨⟨h1, h2⟩, h3⟩, h4⟩, h5⟩ := h
  unfold smM at hc ⊢
  split at hc
  · cases hc
  rename_i hn
  rw [if_neg hn]
  have a1 := name_le h1
  have a2 := name_le h2
  have a3 := itoaB_size (n := m.z) (by omega) (by omega)
  have e1 : ByteArray.size (⟨#[109, 101, 97, 115, 117, 114, 101, 32]⟩ : ByteArray) = 8 := rfl
  have e2 : ByteArray.size (⟨#[40]⟩ : ByteArray) = 1 := rfl
  have e3 : ByteArray.size (⟨#[41, 32, 110, 105, 108, 32]⟩ : ByteArray) = 6 := rfl
  exact form_size h5 hc (by simp only [size_app]; omega)
theorem isOpen_size {s : Str} (h : isOpen s = true) : s.size ≤ 40 := by
  have e2 : ByteArray.size (⟨#[]⟩ : ByteArray) = 0 := rfl
  unfold isOpen at h
  simp only [Bool.or_eq_true, decide_eq_true_eq] at h
  rcases h with rfl | h
  · omega
  · exact name_le h
theorem invT_size {m : Iv} (h : invOk m = true) {c : Int} (hc : (smI m c).1 = true) : ((invT m).size : Int) ≤ 300 * (c - (smI m c).2) + 200 := by
  unfold invOk at h
  simp only [Bool.and_eq_true] at h
  obtain ⟨⟨h1, h2⟩, h5⟩ := h
  unfold smI at hc ⊢
  split at hc
  · cases hc
  rename_i hn
  rw [if_neg hn]
  have a1 := name_le h1
  have a2 := isOpen_size h2
  have e1 : ByteArray.size (⟨#[105, 110, 118, 97, 114, 105, 97, 110, 116, 32]⟩ : ByteArray) = 10 := rfl
  have e2 : ByteArray.size (⟨#[40]⟩ : ByteArray) = 1 := rfl
  have e3 : ByteArray.size (⟨#[41]⟩ : ByteArray) = 1 := rfl
  have e4 : ByteArray.size (⟨#[]⟩ : ByteArray) = 0 := rfl
  refine form_size h5 hc ?_
  simp only [size_app]
  split <;> (try simp only [size_app]) <;> omega
theorem potT_size {m : Pt} (h : potOk m = true) {c : Int} (hc : (smO m c).1 = true) : ((potT m).size : Int) ≤ 300 * (c - (smO m c).2) + 200 := by
  unfold potOk at h
  simp only [Bool.and_eq_true] at h
  obtain ⟨h2, h5⟩ := h
  unfold smO at hc ⊢
  split at hc
  · cases hc
  rename_i hn
  rw [if_neg hn]
  have a2 := isOpen_size h2
  have e1 : ByteArray.size (⟨#[112, 111, 116, 101, 110, 116, 105, 97, 108]⟩ : ByteArray) = 9 := rfl
  have e2 : ByteArray.size (⟨#[32]⟩ : ByteArray) = 1 := rfl
  have e4 : ByteArray.size (⟨#[]⟩ : ByteArray) = 0 := rfl
  refine form_size h5 hc ?_
  simp only [size_app]
  split <;> (try simp only [size_app]) <;> omega
theorem boundT_size {m : Bd} (h : boundOk m = true) {c : Int} (hc : (smB m c).1 = true) : ((boundT m).size : Int) ≤ 300 * (c - (smB m c).2) + 200 := by
  unfold boundOk at h
  simp only [Bool.and_eq_true] at h
  obtain ⟨h1, h5⟩ := h
  unfold smB at hc ⊢
  split at hc
  · cases hc
  rename_i hn
  rw [if_neg hn]
  have a1 := name_le h1
  have e1 : ByteArray.size (⟨#[98, 111, 117, 110, 100, 32]⟩ : ByteArray) = 6 := rfl
  exact form_size h5 hc (by simp only [size_app]; omega)
structure DcF (d : Desc) : Prop where
  n : d.n.size ≤ 40
  types : ∀ x ∈ d.types, typeOk x = true
  globals : (d.globals.length : Int) ≤ 8 ∧ ∀ f ∈ d.globals, f.n.size ≤ 40 ∧ f.t.size ≤ 40
  procs : ∀ x ∈ d.procs, procOk x = true
  meas : ∀ x ∈ d.measures, measOk x = true
  invs : ∀ x ∈ d.invs, invOk x = true
  pots : ∀ x ∈ d.pots, potOk x = true
  bounds : ∀ x ∈ d.bounds, boundOk x = true
  size : (descT d).size ≤ 2000000
theorem desc_facts {d : Desc} (hv : validD d = true) (hs : smallF d = true) : DcF d := by
  unfold validD validPre formulasOk at hv
  simp only [Bool.and_eq_true, Bool.not_eq_true', decide_eq_false_iff_not] at hv
  obtain ⟨⟨⟨⟨⟨⟨⟨⟨⟨⟨v1, v2⟩, v3⟩, v4⟩, v5⟩, v6⟩, v7⟩, v8⟩, v9⟩, v10⟩, ⟨⟨v11, v12⟩, v13⟩, v14⟩ := hv
  obtain ⟨s1, s2, s3, s4, s5, s6, s7, s8⟩ := small_facts hs
  have hn := name_le v1
  have hg := fld_facts v3
  have g0 := fieldsF_ge s2
  have t1 := List.all_eq_true.1 v9
  have t2 := List.all_eq_true.1 v10
  have t3 := List.all_eq_true.1 v11
  have t4 := List.all_eq_true.1 v12
  have t5 := List.all_eq_true.1 v13
  have t6 := List.all_eq_true.1 v14
  refine ⟨hn, t1, hg, t2, t3, t4, t5, t6, ?_⟩
  have z1 := thr_size d.types _ s3 fun x hx c hc => typT_size (t1 x hx) hc
  have z2 := thr_size d.procs _ s4 fun x hx c hc => procT_size (t2 x hx) hc
  have z3 := thr_size d.measures _ s5 fun x hx c hc => measT_size (t3 x hx) hc
  have z4 := thr_size d.invs _ s6 fun x hx c hc => invT_size (t4 x hx) hc
  have z5 := thr_size d.pots _ s7 fun x hx c hc => potT_size (t5 x hx) hc
  have z6 := thr_size d.bounds _ s8 fun x hx c hc => boundT_size (t6 x hx) hc
  have z0 := vars_size hg.2
  have b1 := thr_bound (p := smT) smT_bound d.types _ g0
  have b2 := thr_bound (p := procF) procF_bound d.procs _ (b1.2 s3)
  have b3 := thr_bound (p := smM) smM_bound d.measures _ (b2.2 s4)
  have b4 := thr_bound (p := smI) smI_bound d.invs _ (b3.2 s5)
  have b5 := thr_bound (p := smO) smO_bound d.pots _ (b4.2 s6)
  have b6 := thr_bound (p := smB) smB_bound d.bounds _ (b5.2 s7)
  have c6 := b6.2 s8
  have e1 : ByteArray.size (⟨#[100, 101, 115, 99, 32]⟩ : ByteArray) = 5 := rfl
  have e2 : ByteArray.size opS = 3 := rfl
  have e3 : ByteArray.size clS = 2 := rfl
  simp only [sm1, sm2, sm3, sm4, sm5, sm6] at *
  simp only [descT, size_app]
  omega
end Hw.Z
namespace Hw.Z
open Go Go.Proofs Go.Shelf Hw.M

/-! The reference's text: lists, numbers, statements, procedures -/
theorem rdecls_ok (l : List Fld) (sep : Str) (h : l.length ≤ 1000) (hf : ∀ f ∈ l, f.n.size ≤ 40 ∧ f.t.size ≤ 40) (hs : sep.size ≤ 2) :
    FnOK Tryz.prog 96 [pS (fieldsP l), Sr sep] [] (Sr (declsT l sep)) [] := by
  have hd := decls_size hs hf
  have n1 : ByteArray.size (⟨#[32]⟩ : ByteArray) = 1 := rfl
  unfold declsT joinT at hd ⊢
  refine fn_ok T Tryz.func96 (by kernel_rfl) rfl rfl rfl rfl fun C hC => ?_
  repeat' first
    | refine g_go T hC true 400 rfl rfl ?_
    | refine g_cond rfl (fun h => ?_) (fun h => ?_)
    | refine g_end T hC (by kernel_rfl) ?_
    | refine g_splitD (fun h => ?_) (fun h => ?_)
    | refine g_splitG rfl rfl rfl (fun h => ?_) (fun h => ?_)
    | refine g_splitP rfl rfl (fun h => ?_) (fun h => ?_)
  refine g_loop (fun i : Nat => i ≤ l.length) (fun i => ([(0, pS (fieldsP l)), (1, Sr sep), (5, Sr (catB ((((l.map declT).zipIdx).map (sepT sep)).take i))), (6, I i)], [])) (fun i => l.length - i) hC
    0 (Nat.zero_le _) id ⟨rfl, ⟨rfl, rfl, rfl, rfl, trivial⟩, trivial, rfl, fun _ _ => rfl⟩ ?_
  intro i hi
  refine g_run' T hC true 200 rfl ?_
  refine g_cond rfl (fun h => ?_) (fun h => ?_)
  · have hlt : i < l.length := by have := of_decide_eq_true h; simp only [List.length_map] at this; omega
    clear h
    obtain ⟨x, hx⟩ := exists_at hlt
    have hx2 := hf x (List.mem_of_getElem? hx)
    have hstep : catB ((((l.map declT).zipIdx).map (sepT sep)).take (i + 1)) = catB ((((l.map declT).zipIdx).map (sepT sep)).take i) ++ sepT sep (declT x, i) :=
      catB_take (by rw [List.getElem?_map, List.getElem?_zipIdx, List.getElem?_map, hx]; simp)
    have hle := catB_take_le (((l.map declT).zipIdx).map (sepT sep)) i
    generalize catB ((((l.map declT).zipIdx).map (sepT sep)).take i) = f at hstep hle
    by_cases h0 : i = 0
    · have hq : f ++ x.n ++ (⟨#[32]⟩ : ByteArray) ++ x.t = catB ((((l.map declT).zipIdx).map (sepT sep)).take (i + 1)) := by
        rw [hstep, sepT, if_pos h0, nil_cat, declT]; simp only [ByteArray.append_assoc]
      repeat' first
        | refine g_go T hC true 400 rfl rfl ?_
        | refine g_cond rfl (fun h => ?_) (fun h => ?_)
        | refine g_end T hC (by kernel_rfl) ?_
        | refine g_splitD (fun h => ?_) (fun h => ?_)
        | refine g_splitG rfl rfl rfl (fun h => ?_) (fun h => ?_)
        | refine g_splitP rfl rfl (fun h => ?_) (fun h => ?_)
        | (refine g_idx T hC rfl rfl rfl (Int.natCast_nonneg _) (map_at hx) rfl rfl ?_)
        | (refine g_cat hC rfl rfl (by (try simp only [size_app]); omega) rfl rfl ?_)
      all_goals first
        | (exfalso; have := of_decide_eq_true h; omega)
        | skip
      rw [wrap64 (by omega), hq]
      exact g_round (i + 1) (by omega) id (by omega) ⟨rfl, ⟨rfl, rfl, rfl, rfl, trivial⟩, trivial, rfl, fun _ _ => rfl⟩
    · have hq : f ++ sep ++ x.n ++ (⟨#[32]⟩ : ByteArray) ++ x.t = catB ((((l.map declT).zipIdx).map (sepT sep)).take (i + 1)) := by
        rw [hstep, sepT, if_neg h0, declT]; simp only [ByteArray.append_assoc]
      repeat' first
        | refine g_go T hC true 400 rfl rfl ?_
        | refine g_cond rfl (fun h => ?_) (fun h => ?_)
        | refine g_end T hC (by kernel_rfl) ?_
        | refine g_splitD (fun h => ?_) (fun h => ?_)
        | refine g_splitG rfl rfl rfl (fun h => ?_) (fun h => ?_)
        | refine g_splitP rfl rfl (fun h => ?_) (fun h => ?_)
        | (refine g_idx T hC rfl rfl rfl (Int.natCast_nonneg _) (map_at hx) rfl rfl ?_)
        | (refine g_cat hC rfl rfl (by (try simp only [size_app]); omega) rfl rfl ?_)
      all_goals first
        | (exfalso; have := of_decide_eq_false h; omega)
        | skip
      rw [wrap64 (by omega), hq]
      exact g_round (i + 1) (by omega) id (by omega) ⟨rfl, ⟨rfl, rfl, rfl, rfl, trivial⟩, trivial, rfl, fun _ _ => rfl⟩
  · have hge : ¬ i < l.length := by have := of_decide_eq_false h; simp only [List.length_map] at this; omega
    rw [List.take_of_length_le (by rw [List.length_map, List.length_zipIdx, List.length_map]; omega)]
    repeat' first
      | refine g_go T hC true 400 rfl rfl ?_
      | refine g_cond rfl (fun h => ?_) (fun h => ?_)
      | refine g_end T hC (by kernel_rfl) ?_
      | refine g_splitD (fun h => ?_) (fun h => ?_)
      | refine g_splitG rfl rfl rfl (fun h => ?_) (fun h => ?_)
      | refine g_splitP rfl rfl (fun h => ?_) (fun h => ?_)
      | refine g_outE ?_
    exact g_fin ⟨.inl rfl, id, _, rfl, .refl _, trivial, rfl, rfl⟩
theorem rint_ok (n : Int) (h0 : -1099511627776 ≤ n) (h1 : n ≤ 1099511627776) : FnOK Tryz.prog 98 [I n] [] (Sr (itoaB n)) [] := by
  by_cases hn : n < 0
  · have hD := dec01_ok ((0 - n).natAbs + 1) (0 - n) (by omega) (by omega) (by omega)
    have hw : IntKind.i64.wrap (0 - n) = 0 - n := wrap64 (by omega)
    have hb : (⟨#[45]⟩ : ByteArray) ++ itoaB (0 - n) = itoaB n := by
      rw [itoaB_neg hn, itoaB_nonneg (n := 0 - n) (by omega), show (0 - n).toNat = n.natAbs by omega]
    have hz := itoaB_size (n := 0 - n) (by omega) (by omega)
    have n1 : ByteArray.size (⟨#[45]⟩ : ByteArray) = 1 := rfl
    refine fn_ok T Tryz.func98 (by kernel_rfl) rfl rfl rfl rfl fun C hC => ?_
    repeat' first
      | refine g_go T hC true 400 rfl rfl ?_
      | refine g_cond rfl (fun h => ?_) (fun h => ?_)
      | refine g_end T hC (by kernel_rfl) ?_
      | refine g_splitD (fun h => ?_) (fun h => ?_)
      | refine g_splitG rfl rfl rfl (fun h => ?_) (fun h => ?_)
      | refine g_splitP rfl rfl (fun h => ?_) (fun h => ?_)
      | (refine g_neg hC rfl rfl rfl ?_)
      | rw [hw]
      | refine g_call hC (hD) rfl rfl (LeSs.refl _) rfl rfl rfl ?_
      | (refine g_cat hC rfl rfl (by (try simp only [size_app]); omega) rfl rfl ?_)
    all_goals first
      | (exfalso; have := of_decide_eq_false h; omega)
      | (rw [hb]; exact g_fin ⟨.inl rfl, id, _, rfl, .refl _, trivial, rfl, rfl⟩)
  · have hD := dec01_ok (n.natAbs + 1) n (by omega) (by omega) (by omega)
    refine fn_ok T Tryz.func98 (by kernel_rfl) rfl rfl rfl rfl fun C hC => ?_
    repeat' first
      | refine g_go T hC true 400 rfl rfl ?_
      | refine g_cond rfl (fun h => ?_) (fun h => ?_)
      | refine g_end T hC (by kernel_rfl) ?_
      | refine g_splitD (fun h => ?_) (fun h => ?_)
      | refine g_splitG rfl rfl rfl (fun h => ?_) (fun h => ?_)
      | refine g_splitP rfl rfl (fun h => ?_) (fun h => ?_)
      | refine g_call hC (hD) rfl rfl (LeSs.refl _) rfl rfl rfl ?_
    all_goals first
      | (exfalso; have := of_decide_eq_true h; omega)
      | exact g_fin ⟨.inl rfl, id, _, rfl, .refl _, trivial, rfl, rfl⟩
theorem rat_of {e : Ex} (h : exprOk e = true) (k : Int) : FnOK Tryz.prog 99 [aggS (exprC e), I k] [] (Sr (atT (txOf e) k)) [] := by
  have hc : countS e 1 ≤ 1000 := of_decide_eq_true h
  have hsz := wT_size e 1 hc
  have h4 := atT_size (txOf e) k
  have h5 : (txOf e).2.size = (wT e).size := rfl
  exact at_ok (plainT_ok (SizeOf.sizeOf e + 1) e 1 (by omega) hc) k (by omega)
theorem rpl_of {e : Ex} (h : exprOk e = true) : FnOK Tryz.prog 160 [aggS (exprC e)] [] (Sr (wT e)) [] := by
  have hc : countS e 1 ≤ 1000 := of_decide_eq_true h
  have hsz := wT_size e 1 hc
  exact plainT_ok (SizeOf.sizeOf e + 1) e 1 (by omega) hc (by omega)
theorem at_le {e : Ex} (h : exprOk e = true) (k : Int) : (atT (txOf e) k).size ≤ 60002 := by
  have hc : countS e 1 ≤ 1000 := of_decide_eq_true h
  have hsz := wT_size e 1 hc
  have h4 := atT_size (txOf e) k
  have h5 : (txOf e).2.size = (wT e).size := rfl
  omega
/-- The first three bytes. -/
theorem pre_eq (A : Str) (h : 3 < A.size) : decide (A.extract 0 3 = (⟨#[105, 102, 40]⟩ : ByteArray)) = Lib.hasPrefix A.data.toList ((⟨#[105, 102, 40]⟩ : ByteArray) : Str).data.toList := by
  have e : (A.extract 0 3).data.toList = A.data.toList.take 3 := by
    rw [ByteArray.data_extract, Array.toList_extract]; simp [List.extract]
  rw [Bool.eq_iff_iff, decide_eq_true_eq, Lib.hasPrefix, List.isPrefixOf_iff_prefix, List.prefix_iff_eq_take]
  constructor
  · intro hA
    rw [← hA, e]; simp
  · intro hA
    apply ByteArray.ext
    apply Array.toList_inj.1
    rw [e, hA]; rfl
set_option maxHeartbeats 4000000 in
theorem rbody_ok (hIF : ∀ e : Ex, exprOk e = true → Lib.hasPrefix (atT (txOf e) 8).data.toList ((⟨#[105, 102, 40]⟩ : ByteArray) : Str).data.toList = true → 3 < (atT (txOf e) 8).size) :
    ∀ (N : Nat) (l : List Sm) (d : Nat), SizeOf.sizeOf l < N → okSms l d → d ≤ 61 → (stsT l (tabS d)).size ≤ 6000000 →
    FnOK Tryz.prog 157 [pS (stmtsP l), Sr (tabS d)] [] (Sr (stsT l (tabS d))) [] := by
  intro N
  induction N with
  | zero => intro l d h; omega
  | succ N ih =>
  intro l d hN ho hd hs
  have htz := tabS_size d
  rw [stsT_cat] at hs ⊢
  have n1 : ByteArray.size (⟨#[32, 61, 32]⟩ : ByteArray) = 3 := rfl
  have n2 : ByteArray.size scS = 2 := rfl
  have n3 : ByteArray.size (⟨#[46]⟩ : ByteArray) = 1 := rfl
  have n4 : ByteArray.size (⟨#[114, 101, 116, 117, 114, 110]⟩ : ByteArray) = 6 := rfl
  have n5 : ByteArray.size opS = 3 := rfl
  have n6 : ByteArray.size clS = 2 := rfl
  have n7 : ByteArray.size (⟨#[119, 104, 105, 108, 101, 32]⟩ : ByteArray) = 6 := rfl
  have n8 : ByteArray.size (⟨#[105, 102, 32]⟩ : ByteArray) = 3 := rfl
  have n9 : ByteArray.size elS = 9 := rfl
  have n10 : ByteArray.size tbS = 1 := rfl
  have n11 : ByteArray.size (⟨#[32]⟩ : ByteArray) = 1 := rfl
  have n12 : ByteArray.size lpS = 1 := rfl
  have n13 : ByteArray.size rpS = 1 := rfl
  have n14 : ByteArray.size (⟨#[112, 114, 111, 99, 32]⟩ : ByteArray) = 5 := rfl
  have n15 : ByteArray.size (⟨#[40]⟩ : ByteArray) = 1 := rfl
  have n16 : ByteArray.size (⟨#[41, 32]⟩ : ByteArray) = 2 := rfl
  have n17 : ByteArray.size (⟨#[123, 10]⟩ : Str) = 2 := rfl
  have n18 : ByteArray.size (⟨#[9, 108, 111, 99, 97, 108, 32]⟩ : Str) = 7 := rfl
  have n19 : ByteArray.size (⟨#[]⟩ : ByteArray) = 0 := rfl
  have n20 : ByteArray.size (⟨#[41]⟩ : ByteArray) = 1 := rfl
  have n21 : ByteArray.size (⟨#[44, 32]⟩ : ByteArray) = 2 := rfl
  have m1 : ByteArray.size (⟨#[59, 10]⟩ : Str) = 2 := rfl
  have m2 : ByteArray.size (⟨#[32, 123, 10]⟩ : Str) = 3 := rfl
  have m3 : ByteArray.size (⟨#[125, 10]⟩ : Str) = 2 := rfl
  have m4 : ByteArray.size (⟨#[125]⟩ : Str) = 1 := rfl
  have m5 : ByteArray.size (⟨#[40]⟩ : Str) = 1 := rfl
  have m6 : ByteArray.size (⟨#[41]⟩ : Str) = 1 := rfl
  have m7 : ByteArray.size (⟨#[9]⟩ : Str) = 1 := rfl
  have m8 : ByteArray.size (⟨#[10]⟩ : Str) = 1 := rfl
  have m9 : ByteArray.size (⟨#[32, 101, 108, 115, 101, 32, 123, 10]⟩ : Str) = 8 := rfl
  refine fn_ok T Tryz.func157 (by kernel_rfl) rfl rfl rfl rfl fun C hC => ?_
  refine g_len 0 rfl fun hlen => ?_
  rw [List.length_map] at hlen
  repeat' first
    | refine g_go T hC true 400 rfl rfl ?_
    | refine g_cond rfl (fun h => ?_) (fun h => ?_)
    | refine g_end T hC (by kernel_rfl) ?_
    | refine g_splitD (fun h => ?_) (fun h => ?_)
    | refine g_splitG rfl rfl rfl (fun h => ?_) (fun h => ?_)
    | refine g_splitP rfl rfl (fun h => ?_) (fun h => ?_)
  refine g_loop (fun i : Nat => i ≤ l.length) (fun i => ([(0, pS (stmtsP l)), (1, Sr (tabS d)), (5, Sr (blkC d l i)), (6, I i)], [])) (fun i => l.length - i) hC
    0 (Nat.zero_le _) id ⟨rfl, ⟨rfl, rfl, rfl, rfl, trivial⟩, trivial, rfl, fun _ _ => rfl⟩ ?_
  intro i hi
  refine g_run' T hC true 200 rfl ?_
  refine g_cond rfl (fun h => ?_) (fun h => ?_)
  · have hlt : i < l.length := by have := of_decide_eq_true h; simp only [List.length_map] at this; omega
    clear h
    obtain ⟨x, hx⟩ := exists_at hlt
    have hox := okSm_mk (okSms_mem ho x (List.mem_of_getElem? hx))
    have hsz := List.sizeOf_lt_of_mem (List.mem_of_getElem? hx)
    have hstep : blkC d l (i + 1) = blkC d l i ++ stT x (tabS d) := catB_take (by rw [List.getElem?_map, hx]; rfl)
    have hle : (blkC d l (i + 1)).size ≤ (catB (l.map fun x => stT x (tabS d))).size := catB_take_le _ _
    rw [hstep, size_app] at hle
    generalize hf : blkC d l i = f at hstep hle
    have hwi : IntKind.i64.wrap ((i : Int) + 1) = ((i + 1 : Nat) : Int) := by rw [wrap64 (by omega)]; rfl
    obtain ⟨op, sn, e, ls, els⟩ := x
    have hv := viewS hox.1
    obtain ⟨_, hd60, hol, hoe⟩ := hox
    simp only [Sm.l, Sm.els] at hol hoe
    cases hv with
    | st sn y hs1 hy =>
      have hix : (l.map stmtR)[((i : Nat) : Int).toNat]? = some [ki 1, ks sn, exprsP [y], stmtsP [], stmtsP []] := map_atS hx
      have := name_le hs1
      rw [stT_1] at hstep hle
      rw [show ptAt (wLs [y]) 0 1 = atT (txOf y) 1 from rfl] at hstep hle
      simp only [size_app] at hle
      have hP := rat_of hy 1
      have hq : f ++ tabS d ++ sn ++ (⟨#[32, 61, 32]⟩ : ByteArray) ++ atT (txOf y) 1 ++ scS = blkC d l (i + 1) := by rw [hstep]; simp only [ByteArray.append_assoc]
      repeat' first
        | refine g_go T hC true 400 rfl rfl ?_
        | refine g_cond rfl (fun h => ?_) (fun h => ?_)
        | refine g_end T hC (by kernel_rfl) ?_
        | refine g_splitD (fun h => ?_) (fun h => ?_)
        | refine g_splitG rfl rfl rfl (fun h => ?_) (fun h => ?_)
        | refine g_splitP rfl rfl (fun h => ?_) (fun h => ?_)
        | (refine g_idx T hC rfl rfl rfl (Int.natCast_nonneg _) hix rfl rfl ?_)
        | (refine g_cat hC rfl rfl (by (try simp only [size_app]); omega) rfl rfl ?_)
        | (refine g_idx T hC rfl rfl rfl (by decide) (map_atE0 (l := [y]) rfl) rfl rfl ?_)
        | refine g_call hC (hP) rfl rfl (LeSs.refl _) rfl rfl rfl ?_
      all_goals first
        | (exfalso; clear hP; simp_all; done)
        | skip
      rw [hwi, hq]
      exact g_round (i + 1) (by omega) id (by omega) ⟨rfl, ⟨rfl, rfl, rfl, rfl, trivial⟩, trivial, rfl, fun _ _ => rfl⟩
    | pt sn y z hs1 hy hz =>
      have hix : (l.map stmtR)[((i : Nat) : Int).toNat]? = some [ki 2, ks sn, exprsP [y, z], stmtsP [], stmtsP []] := map_atS hx
      have := name_le hs1
      rw [stT_2] at hstep hle
      rw [show ptAt (wLs [y, z]) 1 1 = atT (txOf z) 1 from rfl] at hstep hle
      have hto : toT [y, z] = if Lib.hasPrefix (atT (txOf y) 8).data.toList ((⟨#[105, 102, 40]⟩ : ByteArray) : Str).data.toList = true then lpS ++ atT (txOf y) 8 ++ rpS else atT (txOf y) 8 := rfl
      simp only [size_app] at hle
      have hty : (atT (txOf y) 8).size ≤ (toT [y, z]).size := by rw [hto]; split <;> (try simp only [size_app]) <;> omega
      have hP := rat_of hy 8
      have hQ := rat_of hz 1
      have hq : f ++ tabS d ++ toT [y, z] ++ (⟨#[46]⟩ : ByteArray) ++ sn ++ (⟨#[32, 61, 32]⟩ : ByteArray) ++ atT (txOf z) 1 ++ scS = blkC d l (i + 1) := by rw [hstep]; simp only [ByteArray.append_assoc]
      have hif := hIF y hy
      have hpre := pre_eq (atT (txOf y) 8)
      generalize atT (txOf y) 8 = A at *
      cases hb : Lib.hasPrefix A.data.toList ((⟨#[105, 102, 40]⟩ : ByteArray) : Str).data.toList with
      | true =>
        have h3 := hif hb
        have hpre := hpre h3
        rw [hb] at hto hpre
        rw [if_pos rfl] at hto
        rw [hto] at hq hle hty
        simp only [size_app] at hle hty
        repeat' first
          | refine g_go T hC true 400 rfl rfl ?_
          | refine g_cond rfl (fun h => ?_) (fun h => ?_)
          | refine g_end T hC (by kernel_rfl) ?_
          | refine g_splitD (fun h => ?_) (fun h => ?_)
          | refine g_splitG rfl rfl rfl (fun h => ?_) (fun h => ?_)
          | refine g_splitP rfl rfl (fun h => ?_) (fun h => ?_)
          | (refine g_idx T hC rfl rfl rfl (Int.natCast_nonneg _) hix rfl rfl ?_)
          | (refine g_cat hC rfl rfl (by (try simp only [size_app]); omega) rfl rfl ?_)
          | (refine g_idx T hC rfl rfl rfl (by decide) (map_atE0 (l := [y, z]) rfl) rfl rfl ?_)
          | (refine g_idx T hC rfl rfl rfl (by decide) (map_atE (l := [y, z]) (i := 1) rfl) rfl rfl ?_)
          | refine g_call hC (hP) rfl rfl (LeSs.refl _) rfl rfl rfl ?_
          | refine g_call hC (hQ) rfl rfl (LeSs.refl _) rfl rfl rfl ?_
          | (refine g_slTo hC rfl rfl (by kernel_rfl) (by decide) (by omega) rfl rfl ?_)
        all_goals clear hP hQ
        all_goals first
          | (exfalso; simp_all; done)
          | (exfalso; have := of_decide_eq_false h; omega)
          | skip
        rw [hwi, hq]
        exact g_round (i + 1) (by omega) id (by omega) ⟨rfl, ⟨rfl, rfl, rfl, rfl, trivial⟩, trivial, rfl, fun _ _ => rfl⟩
      | false =>
        rw [hb] at hto
        rw [if_neg (by decide)] at hto
        rw [hto] at hq hle hty
        repeat' first
          | refine g_go T hC true 400 rfl rfl ?_
          | refine g_cond rfl (fun h => ?_) (fun h => ?_)
          | refine g_end T hC (by kernel_rfl) ?_
          | refine g_splitD (fun h => ?_) (fun h => ?_)
          | refine g_splitG rfl rfl rfl (fun h => ?_) (fun h => ?_)
          | refine g_splitP rfl rfl (fun h => ?_) (fun h => ?_)
          | (refine g_idx T hC rfl rfl rfl (Int.natCast_nonneg _) hix rfl rfl ?_)
          | (refine g_cat hC rfl rfl (by (try simp only [size_app]); omega) rfl rfl ?_)
          | (refine g_idx T hC rfl rfl rfl (by decide) (map_atE0 (l := [y, z]) rfl) rfl rfl ?_)
          | (refine g_idx T hC rfl rfl rfl (by decide) (map_atE (l := [y, z]) (i := 1) rfl) rfl rfl ?_)
          | refine g_call hC (hP) rfl rfl (LeSs.refl _) rfl rfl rfl ?_
          | refine g_call hC (hQ) rfl rfl (LeSs.refl _) rfl rfl rfl ?_
          | (refine g_slTo hC rfl rfl (by kernel_rfl) (by decide) (by have := of_decide_eq_true ‹decide (3 < (A.size : Int)) = true›; omega) rfl rfl ?_)
        all_goals clear hP hQ
        all_goals first
          | (exfalso; have h3 := of_decide_eq_true ‹decide (3 < (A.size : Int)) = true›; have := hpre (by omega); rw [hb] at this; simp_all; done)
          | (exfalso; simp_all; done)
          | skip
        all_goals rw [hwi, hq]
        all_goals exact g_round (i + 1) (by omega) id (by omega) ⟨rfl, ⟨rfl, rfl, rfl, rfl, trivial⟩, trivial, rfl, fun _ _ => rfl⟩
    | ca y hy ho7 =>
      have hix : (l.map stmtR)[((i : Nat) : Int).toNat]? = some [ki 6, ks (⟨#[]⟩ : ByteArray), exprsP [y], stmtsP [], stmtsP []] := map_atS hx
      rw [stT_6] at hstep hle
      have hat : ptAt (wLs [y]) 0 0 = wT y := by
        show atT (txOf y) 0 = wT y
        unfold atT txOf; exact if_neg (by have := lev_ge0 y.op; simp only; omega)
      rw [hat] at hstep hle
      simp only [size_app] at hle
      have hP := rpl_of hy
      have hq : f ++ tabS d ++ wT y ++ scS = blkC d l (i + 1) := by rw [hstep]; simp only [ByteArray.append_assoc]
      repeat' first
        | refine g_go T hC true 400 rfl rfl ?_
        | refine g_cond rfl (fun h => ?_) (fun h => ?_)
        | refine g_end T hC (by kernel_rfl) ?_
        | refine g_splitD (fun h => ?_) (fun h => ?_)
        | refine g_splitG rfl rfl rfl (fun h => ?_) (fun h => ?_)
        | refine g_splitP rfl rfl (fun h => ?_) (fun h => ?_)
        | (refine g_idx T hC rfl rfl rfl (Int.natCast_nonneg _) hix rfl rfl ?_)
        | (refine g_cat hC rfl rfl (by (try simp only [size_app]); omega) rfl rfl ?_)
        | (refine g_idx T hC rfl rfl rfl (by decide) (map_atE0 (l := [y]) rfl) rfl rfl ?_)
        | refine g_call hC (hP) rfl rfl (LeSs.refl _) rfl rfl rfl ?_
      all_goals first
        | (exfalso; clear hP; simp_all; done)
        | skip
      rw [hwi, hq]
      exact g_round (i + 1) (by omega) id (by omega) ⟨rfl, ⟨rfl, rfl, rfl, rfl, trivial⟩, trivial, rfl, fun _ _ => rfl⟩
    | r0 =>
      have hix : (l.map stmtR)[((i : Nat) : Int).toNat]? = some [ki 5, ks (⟨#[]⟩ : ByteArray), exprsP [], stmtsP [], stmtsP []] := map_atS hx
      rw [stT_5] at hstep hle
      rw [show retE [] = (⟨#[]⟩ : ByteArray) from rfl, cat_nil] at hstep hle
      simp only [size_app] at hle
      have hq : f ++ tabS d ++ (⟨#[114, 101, 116, 117, 114, 110]⟩ : ByteArray) ++ scS = blkC d l (i + 1) := by rw [hstep]; simp only [ByteArray.append_assoc]
      repeat' first
        | refine g_go T hC true 400 rfl rfl ?_
        | refine g_cond rfl (fun h => ?_) (fun h => ?_)
        | refine g_end T hC (by kernel_rfl) ?_
        | refine g_splitD (fun h => ?_) (fun h => ?_)
        | refine g_splitG rfl rfl rfl (fun h => ?_) (fun h => ?_)
        | refine g_splitP rfl rfl (fun h => ?_) (fun h => ?_)
        | (refine g_idx T hC rfl rfl rfl (Int.natCast_nonneg _) hix rfl rfl ?_)
        | (refine g_cat hC rfl rfl (by (try simp only [size_app]); omega) rfl rfl ?_)
      all_goals first
        | (exfalso; simp_all; done)
        | skip
      rw [hwi, hq]
      exact g_round (i + 1) (by omega) id (by omega) ⟨rfl, ⟨rfl, rfl, rfl, rfl, trivial⟩, trivial, rfl, fun _ _ => rfl⟩
    | r1 y hy =>
      have hix : (l.map stmtR)[((i : Nat) : Int).toNat]? = some [ki 5, ks (⟨#[]⟩ : ByteArray), exprsP [y], stmtsP [], stmtsP []] := map_atS hx
      rw [stT_5] at hstep hle
      rw [show retE [y] = (⟨#[32]⟩ : ByteArray) ++ atT (txOf y) 1 from rfl] at hstep hle
      simp only [size_app] at hle
      have hP := rat_of hy 1
      have hq : f ++ tabS d ++ (⟨#[114, 101, 116, 117, 114, 110]⟩ : ByteArray) ++ (⟨#[32]⟩ : ByteArray) ++ atT (txOf y) 1 ++ scS = blkC d l (i + 1) := by rw [hstep]; simp only [ByteArray.append_assoc]
      repeat' first
        | refine g_go T hC true 400 rfl rfl ?_
        | refine g_cond rfl (fun h => ?_) (fun h => ?_)
        | refine g_end T hC (by kernel_rfl) ?_
        | refine g_splitD (fun h => ?_) (fun h => ?_)
        | refine g_splitG rfl rfl rfl (fun h => ?_) (fun h => ?_)
        | refine g_splitP rfl rfl (fun h => ?_) (fun h => ?_)
        | (refine g_idx T hC rfl rfl rfl (Int.natCast_nonneg _) hix rfl rfl ?_)
        | (refine g_cat hC rfl rfl (by (try simp only [size_app]); omega) rfl rfl ?_)
        | (refine g_idx T hC rfl rfl rfl (by decide) (map_atE0 (l := [y]) rfl) rfl rfl ?_)
        | refine g_call hC (hP) rfl rfl (LeSs.refl _) rfl rfl rfl ?_
      all_goals first
        | (exfalso; clear hP; simp_all; done)
        | skip
      rw [hwi, hq]
      exact g_round (i + 1) (by omega) id (by omega) ⟨rfl, ⟨rfl, rfl, rfl, rfl, trivial⟩, trivial, rfl, fun _ _ => rfl⟩
    | wh y ls hy =>
      have hix : (l.map stmtR)[((i : Nat) : Int).toNat]? = some [ki 4, ks (⟨#[]⟩ : ByteArray), exprsP [y], stmtsP ls, stmtsP []] := map_atS hx
      rw [stT_4] at hstep hle
      rw [show ptAt (wLs [y]) 0 1 = atT (txOf y) 1 from rfl] at hstep hle
      rw [show tabS d ++ tbS = tabS (d + 1) from rfl] at hstep hle
      simp only [size_app] at hle
      have hP := rat_of hy 1
      have hB := ih ls (d + 1) (by simp only [Sm.mk.sizeOf_spec] at hsz; omega) (by rw [show ((d + 1 : Nat) : Int) = (d : Int) + 1 by omega]; exact hol) (by omega) (by omega)
      rw [show tabS (d + 1) = tabS d ++ (⟨#[9]⟩ : Str) from rfl] at hB hstep hle
      have hq : f ++ tabS d ++ (⟨#[119, 104, 105, 108, 101, 32]⟩ : Str) ++ atT (txOf y) 1 ++ opS ++ stsT ls (tabS d ++ (⟨#[9]⟩ : Str)) ++ tabS d ++ clS = blkC d l (i + 1) := by rw [hstep]; simp only [ByteArray.append_assoc]
      repeat' first
        | refine g_go T hC true 400 rfl rfl ?_
        | refine g_cond rfl (fun h => ?_) (fun h => ?_)
        | refine g_end T hC (by kernel_rfl) ?_
        | refine g_splitD (fun h => ?_) (fun h => ?_)
        | refine g_splitG rfl rfl rfl (fun h => ?_) (fun h => ?_)
        | refine g_splitP rfl rfl (fun h => ?_) (fun h => ?_)
        | (refine g_idx T hC rfl rfl rfl (Int.natCast_nonneg _) hix rfl rfl ?_)
        | (refine g_cat hC rfl rfl (by (try simp only [size_app]); omega) rfl rfl ?_)
        | (refine g_idx T hC rfl rfl rfl (by decide) (map_atE0 (l := [y]) rfl) rfl rfl ?_)
        | refine g_call hC (hP) rfl rfl (LeSs.refl _) rfl rfl rfl ?_
        | refine g_call hC (hB) rfl rfl (LeSs.refl _) rfl rfl rfl ?_
      all_goals first
        | (exfalso; clear hP hB; simp_all; done)
        | skip
      rw [hwi, hq]
      exact g_round (i + 1) (by omega) id (by omega) ⟨rfl, ⟨rfl, rfl, rfl, rfl, trivial⟩, trivial, rfl, fun _ _ => rfl⟩
    | fi y ls els hy =>
      cases els with
      | nil =>
        have hix : (l.map stmtR)[((i : Nat) : Int).toNat]? = some [ki 3, ks (⟨#[]⟩ : ByteArray), exprsP [y], stmtsP ls, stmtsP []] := map_atS hx
        rw [stT_3n] at hstep hle
        rw [show ptAt (wLs [y]) 0 1 = atT (txOf y) 1 from rfl] at hstep hle
        rw [show tabS d ++ tbS = tabS (d + 1) from rfl] at hstep hle
        simp only [size_app] at hle
        have hP := rat_of hy 1
        have hB := ih ls (d + 1) (by simp only [Sm.mk.sizeOf_spec] at hsz; omega) (by rw [show ((d + 1 : Nat) : Int) = (d : Int) + 1 by omega]; exact hol) (by omega) (by omega)
        rw [show tabS (d + 1) = tabS d ++ (⟨#[9]⟩ : Str) from rfl] at hB hstep hle
        have hcl : (⟨#[125]⟩ : Str) ++ (⟨#[10]⟩ : Str) = clS := by kernel_rfl
        have hq : f ++ tabS d ++ (⟨#[105, 102, 32]⟩ : ByteArray) ++ atT (txOf y) 1 ++ opS ++ stsT ls (tabS d ++ (⟨#[9]⟩ : Str)) ++ tabS d ++ (⟨#[125]⟩ : Str) ++ (⟨#[10]⟩ : Str) = blkC d l (i + 1) := by rw [hstep, ← hcl]; simp only [ByteArray.append_assoc]
        repeat' first
          | refine g_go T hC true 400 rfl rfl ?_
          | refine g_cond rfl (fun h => ?_) (fun h => ?_)
          | refine g_end T hC (by kernel_rfl) ?_
          | refine g_splitD (fun h => ?_) (fun h => ?_)
          | refine g_splitG rfl rfl rfl (fun h => ?_) (fun h => ?_)
          | refine g_splitP rfl rfl (fun h => ?_) (fun h => ?_)
          | (refine g_idx T hC rfl rfl rfl (Int.natCast_nonneg _) hix rfl rfl ?_)
          | (refine g_cat hC rfl rfl (by (try simp only [size_app]); omega) rfl rfl ?_)
          | (refine g_idx T hC rfl rfl rfl (by decide) (map_atE0 (l := [y]) rfl) rfl rfl ?_)
          | refine g_call hC (hP) rfl rfl (LeSs.refl _) rfl rfl rfl ?_
          | refine g_call hC (hB) rfl rfl (LeSs.refl _) rfl rfl rfl ?_
        all_goals first
          | (exfalso; clear hP hB; simp_all; done)
          | skip
        rw [hwi, hq]
        exact g_round (i + 1) (by omega) id (by omega) ⟨rfl, ⟨rfl, rfl, rfl, rfl, trivial⟩, trivial, rfl, fun _ _ => rfl⟩
      | cons z els =>
        have hix : (l.map stmtR)[((i : Nat) : Int).toNat]? = some [ki 3, ks (⟨#[]⟩ : ByteArray), exprsP [y], stmtsP ls, stmtsP (z :: els)] := map_atS hx
        rw [stT_3c] at hstep hle
        rw [show ptAt (wLs [y]) 0 1 = atT (txOf y) 1 from rfl] at hstep hle
        rw [show tabS d ++ tbS = tabS (d + 1) from rfl] at hstep hle
        simp only [size_app] at hle
        have hP := rat_of hy 1
        have hB := ih ls (d + 1) (by simp only [Sm.mk.sizeOf_spec] at hsz; omega) (by rw [show ((d + 1 : Nat) : Int) = (d : Int) + 1 by omega]; exact hol) (by omega) (by omega)
        rw [show tabS (d + 1) = tabS d ++ (⟨#[9]⟩ : Str) from rfl] at hB hstep hle
        have hB2 := ih (z :: els) (d + 1) (by simp only [Sm.mk.sizeOf_spec] at hsz; omega) (by rw [show ((d + 1 : Nat) : Int) = (d : Int) + 1 by omega]; exact hoe) (by omega) (by rw [show tabS (d + 1) = tabS d ++ (⟨#[9]⟩ : Str) from rfl]; omega)
        rw [show tabS (d + 1) = tabS d ++ (⟨#[9]⟩ : Str) from rfl] at hB2
        have hcl : (⟨#[125]⟩ : Str) ++ (⟨#[10]⟩ : Str) = clS := by kernel_rfl
        have hel : (⟨#[125]⟩ : Str) ++ (⟨#[32, 101, 108, 115, 101, 32, 123, 10]⟩ : Str) = elS := by kernel_rfl
        have hq : f ++ tabS d ++ (⟨#[105, 102, 32]⟩ : ByteArray) ++ atT (txOf y) 1 ++ opS ++ stsT ls (tabS d ++ (⟨#[9]⟩ : Str)) ++ tabS d ++ (⟨#[125]⟩ : Str) ++ (⟨#[32, 101, 108, 115, 101, 32, 123, 10]⟩ : Str) ++ stsT (z :: els) (tabS d ++ (⟨#[9]⟩ : Str)) ++ tabS d ++ (⟨#[125]⟩ : Str) ++ (⟨#[10]⟩ : Str) = blkC d l (i + 1) := by rw [hstep, ← hcl, ← hel]; simp only [ByteArray.append_assoc]
        repeat' first
          | refine g_go T hC true 400 rfl rfl ?_
          | refine g_cond rfl (fun h => ?_) (fun h => ?_)
          | refine g_end T hC (by kernel_rfl) ?_
          | refine g_splitD (fun h => ?_) (fun h => ?_)
          | refine g_splitG rfl rfl rfl (fun h => ?_) (fun h => ?_)
          | refine g_splitP rfl rfl (fun h => ?_) (fun h => ?_)
          | (refine g_idx T hC rfl rfl rfl (Int.natCast_nonneg _) hix rfl rfl ?_)
          | (refine g_cat hC rfl rfl (by (try simp only [size_app]); omega) rfl rfl ?_)
          | (refine g_idx T hC rfl rfl rfl (by decide) (map_atE0 (l := [y]) rfl) rfl rfl ?_)
          | refine g_call hC (hP) rfl rfl (LeSs.refl _) rfl rfl rfl ?_
          | refine g_call hC (hB) rfl rfl (LeSs.refl _) rfl rfl rfl ?_
          | refine g_call hC (hB2) rfl rfl (LeSs.refl _) rfl rfl rfl ?_
        all_goals first
          | (exfalso; clear hP hB hB2; simp_all; done)
          | (exfalso; have := of_decide_eq_false h; simp only [List.length_map, List.length_cons] at this; omega)
          | skip
        rw [hwi, hq]
        exact g_round (i + 1) (by omega) id (by omega) ⟨rfl, ⟨rfl, rfl, rfl, rfl, trivial⟩, trivial, rfl, fun _ _ => rfl⟩
  · have hge : ¬ i < l.length := by have := of_decide_eq_false h; simp only [List.length_map] at this; omega
    have hF : blkC d l i = catB (l.map fun x => stT x (tabS d)) := by unfold blkC; rw [List.take_of_length_le (by rw [List.length_map]; omega)]
    rw [hF]
    repeat' first
      | refine g_go T hC true 400 rfl rfl ?_
      | refine g_cond rfl (fun h => ?_) (fun h => ?_)
      | refine g_end T hC (by kernel_rfl) ?_
      | refine g_splitD (fun h => ?_) (fun h => ?_)
      | refine g_splitG rfl rfl rfl (fun h => ?_) (fun h => ?_)
      | refine g_splitP rfl rfl (fun h => ?_) (fun h => ?_)
      | refine g_outE ?_
    exact g_fin ⟨.inl rfl, id, _, rfl, .refl _, trivial, rfl, rfl⟩
end Hw.Z
