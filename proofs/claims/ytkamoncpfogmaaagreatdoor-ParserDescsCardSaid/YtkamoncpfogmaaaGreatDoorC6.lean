/- The engine and the contracts. -/
import Derived.Test.YtkamoncpfogmaaaGreatDoorC5
import Derived.Test.YtkamoncpfogmaaaGreatDoorC2
import Derived.Test.YtkamoncpfogmaaaGreatDoorC3
set_option linter.unusedVariables false
set_option linter.unusedSimpArgs false
namespace Hw.Pa
open Go Go.Proofs Hw.M

def D0 : Desc := ⟨(⟨#[]⟩ : ByteArray), [], [], [], [], [], [], []⟩
def topD (l : List Tok) : Desc × (Int × Int) × Int := match descA l (10 * l.length + 13) with
  | .ok x j => match l[j]? with
    | some t => if t.k = 5 then if validD x = true then (x, (0, 0), 0) else (D0, (0, 0), 4) else (D0, (t.ln, t.cl), 7)
    | none => (D0, (0, 0), 0)
  | .no j => match l[j]? with
    | some t => (D0, (t.ln, t.cl), if t.k = 5 then 8 else 7)
    | none => (D0, (0, 0), 0)
  | .out => (D0, (0, 0), 0)
def descTop (s : Str) : Desc × (Int × Int) × Int := if (tokensS s).2.2 = 0 then topD (tokensS s).1 else (D0, (tokensS s).2.1, (tokensS s).2.2)
def mv7 (i : Nat) : Nat := match Nat.ble 101 i && Nat.ble i 107 with
  | true => i + 100
  | false => i
theorem mv7_low {i : Nat} (hi : i < 100) : mv7 i = i := by
  unfold mv7
  rw [show Nat.ble 101 i = false from by rw [Bool.eq_false_iff]; intro h; have := Nat.le_of_ble_eq_true h; omega]
  rfl
def dRb (d : Desc) : RL := [(1009, .box [.p (ks d.n), .ar 101, .ar 102, .ar 103, .ar 104, .ar 105, .ar 106, .ar 107]), (101, .arr 2 (d.types.map nodeTR)), (102, .arr 2 (d.globals.map fieldR)), (103, .arr 5 (d.procs.map procR)), (104, .arr 7 (d.measures.map measureR)), (105, .arr 6 (d.invs.map invR)), (106, .arr 5 (d.pots.map potR)), (107, .arr 5 (d.bounds.map boundR))]
abbrev zD : Res := .box (zV [ZK.str, ZK.slice, ZK.slice, ZK.slice, ZK.slice, ZK.slice, ZK.slice, ZK.slice])
theorem isA_two {l : List Tok} {i : Nat} {a b : Str} (h1 : isA l i a = true) (h2 : isA l i b = true) : a = b := by
  unfold isA at h1 h2
  split at h1
  · rename_i t ht
    rw [ht] at h2
    simp only [Bool.and_eq_true, decide_eq_true_eq] at h1 h2
    rw [← h1.2, h2.2]
  · cases h1
theorem kwI_not {l : List Tok} {i : Nat} (h : kwI l i = true) : ¬ isA l i ⟨#[125]⟩ = true := by
  intro h2
  unfold kwI at h
  simp only [Bool.or_eq_true] at h
  rcases h with (((((h | h) | h) | h) | h) | h) | h
  all_goals exact absurd (isA_two h h2) (by decide)
theorem itemJ_no {l : List Tok} {f i : Nat} {d : Desc} (h : kwI l i = false) : itemJ l f i d = some (d, i, true) := by
  unfold kwI at h
  simp only [Bool.or_eq_false_iff] at h
  obtain ⟨⟨⟨⟨⟨⟨h1, h2⟩, h3⟩, h4⟩, h5⟩, h6⟩, h7⟩ := h
  unfold itemJ
  rw [h1, h2, h3, h4, h5, h6, h7]
  rfl
theorem parse_bad_le {p q e : Int} : LeS (.tup [.agg [.p (ks (⟨#[]⟩ : ByteArray)), .p (.k (.slice none 0 0)), .p (.k (.slice none 0 0)), .p (.k (.slice none 0 0)), .p (.k (.slice none 0 0)), .p (.k (.slice none 0 0)), .p (.k (.slice none 0 0)), .p (.k (.slice none 0 0))], posS (p, q), I e]) (.tup [aggS (descR D0), posS (p, q), I e]) :=
  .tup (.cons (.agg (.cons (.refl _) (.cons (.nil 2) (.cons (.nil 2) (.cons (.nil 5) (.cons (.nil 7) (.cons (.nil 6) (.cons (.nil 5) (.cons (.nil 5) .nil))))))))) (.cons (.refl _) (.cons (.refl _) .nil)))
def ansD (b : Bool) (t : Tok) (x : Desc) : Desc × (Int × Int) × Int := match b with
  | true => (D0, (t.ln, t.cl), if t.k = 5 then 8 else 7)
  | false => if t.k = 5 then if validD x = true then (x, (0, 0), 0) else (D0, (0, 0), 4) else (D0, (t.ln, t.cl), 7)
set_option maxHeartbeats 2000000 in
theorem parserParse_ok (s : Str) (hs : s.size ≤ 1000000) : FnOK Tryz.prog 9 [Sr s] [] (.tup [aggS (descR (descTop s).1), posS (descTop s).2.1, I (descTop s).2.2]) [] := by
  have hT := lexTokens_ok s hs
  unfold descTop
  rcases tokens_good s with ⟨l, he, hl, _⟩ | ⟨⟨q1, q2⟩, e, he, h74⟩
  rotate_left
  · rw [he] at hT ⊢
    simp only at hT ⊢
    have h0 : ¬ e = 0 := by omega
    rw [if_neg h0]
    refine fn_ok T Tryz.func9 (by kernel_rfl) rfl rfl rfl rfl fun C hC => ?_
    repeat' first | refine g_go T hC true 400 rfl rfl ?_ | (exfalso; exact absurd (by simpa using h) h0) | refine g_cond rfl (fun h => ?_) (fun h => ?_) | refine g_end T hC (by kernel_rfl) ?_ | refine g_splitD (fun h => ?_) (fun h => ?_) | refine g_splitG rfl rfl rfl (fun h => ?_) (fun h => ?_) | refine g_splitP rfl rfl (fun h => ?_) (fun h => ?_) | refine g_call hC (hT) rfl rfl (LeSs.refl _) rfl rfl rfl ?_ | refine g_retl T (.inl rfl) rfl ?_
    exact g_fin ⟨.inl rfl, id, _, rfl, parse_bad_le, trivial, rfl, rfl⟩
  rw [he] at hT ⊢
  simp only [if_true] at hT ⊢
  have hll := hl.len
  have h0 : 0 < l.length := by
    obtain ⟨t, ht, _⟩ := hl.fin
    have := (List.getElem?_eq_some_iff.1 ht).1
    omega
  unfold topD
  generalize hF : 10 * l.length + 13 = F
  have hout := desc_out (l := l) (f := F) (by omega)
  have hJ := er_desc (l := l) F
  cases hx : descJ l F with
  | none => rw [hx] at hJ; exact absurd hJ.symm hout
  | some q =>
  obtain ⟨xf, jf, bf⟩ := q
  obtain ⟨_, k1, b1, e1, hR1⟩ := tgo (b := false) (w := D0) (k := 0) hx () rfl
  obtain ⟨hk1, c1⟩ := one_rt hl h0 false _ _ _ _ e1
  obtain ⟨n, k2, b2, e2, hR2⟩ := tgo hR1 (⟨#[]⟩ : ByteArray) rfl
  obtain ⟨hk2, c2⟩ := name_rt hl hk1 b1 _ _ _ e2
  obtain ⟨_, k3, b3, e3, hR3⟩ := tgo hR2 () rfl
  obtain ⟨hk3, c3⟩ := one_rt hl hk2 b2 _ _ _ _ e3
  have hjf : jf < l.length := by
    cases b3 with
    | true => cases hR3; exact hk3
    | false => exact items_rg hl F _ _ _ hk3 _ _ _ hR3
  obtain ⟨t, ht⟩ := exists_at hjf
  have hEnd := pend_ok hl ht bf
  rw [hx] at hJ
  clear e1 e2 e3 hR1 hR2 hx
  have hA : (match descA l F with
      | .ok x j => match l[j]? with
        | some t => if t.k = 5 then if validD x = true then (x, (0, 0), 0) else (D0, (0, 0), 4) else (D0, (t.ln, t.cl), 7)
        | none => (D0, (0, 0), 0)
      | .no j => match l[j]? with
        | some t => (D0, (t.ln, t.cl), if t.k = 5 then 8 else 7)
        | none => (D0, (0, 0), 0)
      | .out => (D0, (0, 0), 0)) = ansD bf t xf := by
    rw [← hJ]
    cases bf with
    | true => simp only [PJ.er, ht]; rfl
    | false => simp only [PJ.er, ht]; rfl
  rw [hA]
  clear hA hJ hout
  refine fn_ok T Tryz.func9 (by kernel_rfl) rfl rfl rfl rfl fun C hC => ?_
  repeat' first | refine g_go T hC true 400 rfl rfl ?_ | (exfalso; simp at h; done) | refine g_cond rfl (fun h => ?_) (fun h => ?_) | refine g_end T hC (by kernel_rfl) ?_ | refine g_splitD (fun h => ?_) (fun h => ?_) | refine g_splitG rfl rfl rfl (fun h => ?_) (fun h => ?_) | refine g_splitP rfl rfl (fun h => ?_) (fun h => ?_) | refine g_call hC (hT) rfl rfl (LeSs.refl _) rfl rfl rfl ?_ | refine g_callR hC (c1) (nm [1025]) rfl rfl (LeSs.refl _) rfl rfl rfl rfl rfl rfl rfl rfl ?_ | refine g_callR hC (c2) (nm [1025]) rfl rfl (LeSs.refl _) rfl rfl rfl rfl rfl rfl rfl rfl ?_ | refine g_callR hC (c3) (nm [1025]) rfl rfl (LeSs.refl _) rfl rfl rfl rfl rfl rfl rfl rfl ?_
  refine g_adopt hC rfl 101 2 rfl [] trivial [(1009, [.p (ks n), .ar 101, .p (.k (.slice none 0 0)), .p (.k (.slice none 0 0)), .p (.k (.slice none 0 0)), .p (.k (.slice none 0 0)), .p (.k (.slice none 0 0)), .p (.k (.slice none 0 0))])] ⟨⟨_, rfl, by decide, .cons (.refl _) (.cons (.nil) (.cons (.refl _) (.cons (.refl _) (.cons (.refl _) (.cons (.refl _) (.cons (.refl _) (.cons (.refl _) .nil)))))))⟩, trivial⟩ ?_
  refine g_adopt hC rfl 102 2 rfl [] trivial [(1009, [.p (ks n), .ar 101, .ar 102, .p (.k (.slice none 0 0)), .p (.k (.slice none 0 0)), .p (.k (.slice none 0 0)), .p (.k (.slice none 0 0)), .p (.k (.slice none 0 0))])] ⟨⟨_, rfl, by decide, .cons (.refl _) (.cons (.refl _) (.cons (.nil) (.cons (.refl _) (.cons (.refl _) (.cons (.refl _) (.cons (.refl _) (.cons (.refl _) .nil)))))))⟩, trivial⟩ ?_
  refine g_adopt hC rfl 103 5 rfl [] trivial [(1009, [.p (ks n), .ar 101, .ar 102, .ar 103, .p (.k (.slice none 0 0)), .p (.k (.slice none 0 0)), .p (.k (.slice none 0 0)), .p (.k (.slice none 0 0))])] ⟨⟨_, rfl, by decide, .cons (.refl _) (.cons (.refl _) (.cons (.refl _) (.cons (.nil) (.cons (.refl _) (.cons (.refl _) (.cons (.refl _) (.cons (.refl _) .nil)))))))⟩, trivial⟩ ?_
  refine g_adopt hC rfl 104 7 rfl [] trivial [(1009, [.p (ks n), .ar 101, .ar 102, .ar 103, .ar 104, .p (.k (.slice none 0 0)), .p (.k (.slice none 0 0)), .p (.k (.slice none 0 0))])] ⟨⟨_, rfl, by decide, .cons (.refl _) (.cons (.refl _) (.cons (.refl _) (.cons (.refl _) (.cons (.nil) (.cons (.refl _) (.cons (.refl _) (.cons (.refl _) .nil)))))))⟩, trivial⟩ ?_
  refine g_adopt hC rfl 105 6 rfl [] trivial [(1009, [.p (ks n), .ar 101, .ar 102, .ar 103, .ar 104, .ar 105, .p (.k (.slice none 0 0)), .p (.k (.slice none 0 0))])] ⟨⟨_, rfl, by decide, .cons (.refl _) (.cons (.refl _) (.cons (.refl _) (.cons (.refl _) (.cons (.refl _) (.cons (.nil) (.cons (.refl _) (.cons (.refl _) .nil)))))))⟩, trivial⟩ ?_
  refine g_adopt hC rfl 106 5 rfl [] trivial [(1009, [.p (ks n), .ar 101, .ar 102, .ar 103, .ar 104, .ar 105, .ar 106, .p (.k (.slice none 0 0))])] ⟨⟨_, rfl, by decide, .cons (.refl _) (.cons (.refl _) (.cons (.refl _) (.cons (.refl _) (.cons (.refl _) (.cons (.refl _) (.cons (.nil) (.cons (.refl _) .nil)))))))⟩, trivial⟩ ?_
  refine g_adopt hC rfl 107 5 rfl [] trivial [(1009, [.p (ks n), .ar 101, .ar 102, .ar 103, .ar 104, .ar 105, .ar 106, .ar 107])] ⟨⟨_, rfl, by decide, .cons (.refl _) (.cons (.refl _) (.cons (.refl _) (.cons (.refl _) (.cons (.refl _) (.cons (.refl _) (.cons (.refl _) (.cons (.nil) .nil)))))))⟩, trivial⟩ ?_
  refine g_loop (fun q : Desc × Nat × Bool × Nat => q.2.1 < l.length ∧ cntD q.1 + q.2.2.2 ≤ F ∧ tJ q.2.2.1 q.1 q.2.1 (itemsJ l F q.2.2.2 q.2.1 q.1) = some (xf, jf, bf))
    (fun q => ([(2, .one (.bx 1002 0)), (3, .one (.bx 1003 0)), (8, .one (.bx 1025 0)), (9, .one (.bx 1009 0))], (1002, some zD) :: (1003, some (Res.box (zV [ZK.int .i64, ZK.int .i64]))) :: (1025, some (rdR l q.2.1 q.2.2.1)) :: tb (dRb q.1))) (fun q => q.2.2.2) hC
    (⟨n, [], [], [], [], [], [], []⟩, k3, b3, F) ⟨hk3, Nat.le_of_eq (Nat.zero_add _), hR3⟩ id ⟨rfl, ⟨rfl, rfl, rfl, rfl, trivial⟩, ⟨rfl, rfl, rfl, rfl, rfl, rfl, rfl, rfl, rfl, rfl, rfl, trivial⟩, rfl, fun _ _ => rfl⟩ ?_
  clear hR3 hk3 c1 c2 c3 hT
  rintro ⟨d, k, b, g⟩ ⟨hk, hcd, hd⟩
  simp only at hk hcd hd
  by_cases hkw : b = false ∧ kwI l k = true
  · obtain ⟨rfl, hkw⟩ := hkw
    cases g with
    | zero => simp only [tJ, itemsJ] at hd; cases hd
    | succ g =>
      have hnb := kwI_not hkw
      simp only [tJ, itemsJ] at hd
      rw [if_neg hnb] at hd
      obtain ⟨d2, j2, b2, e4, hd2⟩ := tgo (b := false) (w := d) (k := k) hd d rfl
      obtain ⟨hj2, hc2, hI⟩ := pitem_ok hl F k d hk (by omega) e4 hkw
      repeat' first | refine g_go T hC true 400 rfl rfl ?_ | (exfalso; simp at h; done) | refine g_cond rfl (fun h => ?_) (fun h => ?_) | refine g_end T hC (by kernel_rfl) ?_ | refine g_splitD (fun h => ?_) (fun h => ?_) | refine g_splitG rfl rfl rfl (fun h => ?_) (fun h => ?_) | refine g_splitP rfl rfl (fun h => ?_) (fun h => ?_) | refine g_callR hC (hI) (nm [1025, 1009, 101, 102, 103, 104, 105, 106, 107, 201, 202, 203, 204, 205, 206, 207]) rfl rfl (LeSs.refl _) rfl rfl rfl rfl rfl rfl rfl rfl ?_
      exact g_round (d2, j2, b2, g) ⟨hj2, by simp only; omega, hd2⟩ mv7 (Nat.lt_succ_self _) ⟨rfl, ⟨rfl, rfl, rfl, rfl, trivial⟩, ⟨rfl, rfl, rfl, rfl, rfl, rfl, rfl, rfl, rfl, rfl, rfl, trivial⟩, rfl, fun i hi => mv7_low hi⟩
  · cases b with
    | true =>
      have hfin : xf = d ∧ jf = k ∧ bf = true := by cases hd; exact ⟨rfl, rfl, rfl⟩
      obtain ⟨rfl, rfl, rfl⟩ := hfin
      clear hd
      have hTk := ptake_bad hl jf hk ⟨#[125]⟩
      have hV := astValid_ok xf
      by_cases h5 : t.k = 5
      · simp only [ansD, h5, if_true, Bool.true_eq_false, reduceCtorEq, false_and, if_false] at hEnd ⊢
        repeat' first | refine g_go T hC true 400 rfl rfl ?_ | (exfalso; simp at h; done) | refine g_cond rfl (fun h => ?_) (fun h => ?_) | refine g_end T hC (by kernel_rfl) ?_ | refine g_splitD (fun h => ?_) (fun h => ?_) | refine g_splitG rfl rfl rfl (fun h => ?_) (fun h => ?_) | refine g_splitP rfl rfl (fun h => ?_) (fun h => ?_) | refine g_outE ?_ | refine g_callR hC (hTk) (nm [1025]) rfl rfl (LeSs.refl _) rfl rfl rfl rfl rfl rfl rfl rfl ?_
        refine g_freeze rfl (id := 101) (e := 2) (rows := xf.types.map nodeTR) rfl [] trivial [(1009, [.p (ks xf.n), .p (.sl 2 (xf.types.map nodeTR)), .ar 102, .ar 103, .ar 104, .ar 105, .ar 106, .ar 107])] ⟨⟨_, rfl, by decide, .cons (.refl _) (.cons (.ar) (.cons (.refl _) (.cons (.refl _) (.cons (.refl _) (.cons (.refl _) (.cons (.refl _) (.cons (.refl _) .nil)))))))⟩, trivial⟩ ?_
        refine g_freeze rfl (id := 102) (e := 2) (rows := xf.globals.map fieldR) rfl [] trivial [(1009, [.p (ks xf.n), .p (.sl 2 (xf.types.map nodeTR)), .p (.sl 2 (xf.globals.map fieldR)), .ar 103, .ar 104, .ar 105, .ar 106, .ar 107])] ⟨⟨_, rfl, by decide, .cons (.refl _) (.cons (.refl _) (.cons (.ar) (.cons (.refl _) (.cons (.refl _) (.cons (.refl _) (.cons (.refl _) (.cons (.refl _) .nil)))))))⟩, trivial⟩ ?_
        refine g_freeze rfl (id := 103) (e := 5) (rows := xf.procs.map procR) rfl [] trivial [(1009, [.p (ks xf.n), .p (.sl 2 (xf.types.map nodeTR)), .p (.sl 2 (xf.globals.map fieldR)), .p (.sl 5 (xf.procs.map procR)), .ar 104, .ar 105, .ar 106, .ar 107])] ⟨⟨_, rfl, by decide, .cons (.refl _) (.cons (.refl _) (.cons (.refl _) (.cons (.ar) (.cons (.refl _) (.cons (.refl _) (.cons (.refl _) (.cons (.refl _) .nil)))))))⟩, trivial⟩ ?_
        refine g_freeze rfl (id := 104) (e := 7) (rows := xf.measures.map measureR) rfl [] trivial [(1009, [.p (ks xf.n), .p (.sl 2 (xf.types.map nodeTR)), .p (.sl 2 (xf.globals.map fieldR)), .p (.sl 5 (xf.procs.map procR)), .p (.sl 7 (xf.measures.map measureR)), .ar 105, .ar 106, .ar 107])] ⟨⟨_, rfl, by decide, .cons (.refl _) (.cons (.refl _) (.cons (.refl _) (.cons (.refl _) (.cons (.ar) (.cons (.refl _) (.cons (.refl _) (.cons (.refl _) .nil)))))))⟩, trivial⟩ ?_
        refine g_freeze rfl (id := 105) (e := 6) (rows := xf.invs.map invR) rfl [] trivial [(1009, [.p (ks xf.n), .p (.sl 2 (xf.types.map nodeTR)), .p (.sl 2 (xf.globals.map fieldR)), .p (.sl 5 (xf.procs.map procR)), .p (.sl 7 (xf.measures.map measureR)), .p (.sl 6 (xf.invs.map invR)), .ar 106, .ar 107])] ⟨⟨_, rfl, by decide, .cons (.refl _) (.cons (.refl _) (.cons (.refl _) (.cons (.refl _) (.cons (.refl _) (.cons (.ar) (.cons (.refl _) (.cons (.refl _) .nil)))))))⟩, trivial⟩ ?_
        refine g_freeze rfl (id := 106) (e := 5) (rows := xf.pots.map potR) rfl [] trivial [(1009, [.p (ks xf.n), .p (.sl 2 (xf.types.map nodeTR)), .p (.sl 2 (xf.globals.map fieldR)), .p (.sl 5 (xf.procs.map procR)), .p (.sl 7 (xf.measures.map measureR)), .p (.sl 6 (xf.invs.map invR)), .p (.sl 5 (xf.pots.map potR)), .ar 107])] ⟨⟨_, rfl, by decide, .cons (.refl _) (.cons (.refl _) (.cons (.refl _) (.cons (.refl _) (.cons (.refl _) (.cons (.refl _) (.cons (.ar) (.cons (.refl _) .nil)))))))⟩, trivial⟩ ?_
        refine g_freeze rfl (id := 107) (e := 5) (rows := xf.bounds.map boundR) rfl [] trivial [(1009, [.p (ks xf.n), .p (.sl 2 (xf.types.map nodeTR)), .p (.sl 2 (xf.globals.map fieldR)), .p (.sl 5 (xf.procs.map procR)), .p (.sl 7 (xf.measures.map measureR)), .p (.sl 6 (xf.invs.map invR)), .p (.sl 5 (xf.pots.map potR)), .p (.sl 5 (xf.bounds.map boundR))])] ⟨⟨_, rfl, by decide, .cons (.refl _) (.cons (.refl _) (.cons (.refl _) (.cons (.refl _) (.cons (.refl _) (.cons (.refl _) (.cons (.refl _) (.cons (.ar) .nil)))))))⟩, trivial⟩ ?_
        repeat' first | refine g_go T hC true 400 rfl rfl ?_ | (exfalso; simp at h; done) | refine g_cond rfl (fun h => ?_) (fun h => ?_) | refine g_end T hC (by kernel_rfl) ?_ | refine g_splitD (fun h => ?_) (fun h => ?_) | refine g_splitG rfl rfl rfl (fun h => ?_) (fun h => ?_) | refine g_splitP rfl rfl (fun h => ?_) (fun h => ?_) | refine g_callR hC (hEnd) (nm [1025]) rfl rfl (LeSs.refl _) rfl rfl rfl rfl rfl rfl rfl rfl ?_ | refine g_call hC (hV) rfl rfl (LeSs.refl _) rfl rfl rfl ?_ | refine g_retl T (.inl rfl) rfl ?_
        exact g_fin ⟨.inl rfl, id, _, rfl, parse_bad_le, trivial, rfl, rfl⟩
      · simp only [ansD, h5, if_true, reduceCtorEq, false_and, if_false] at hEnd ⊢
        repeat' first | refine g_go T hC true 400 rfl rfl ?_ | (exfalso; simp at h; done) | refine g_cond rfl (fun h => ?_) (fun h => ?_) | refine g_end T hC (by kernel_rfl) ?_ | refine g_splitD (fun h => ?_) (fun h => ?_) | refine g_splitG rfl rfl rfl (fun h => ?_) (fun h => ?_) | refine g_splitP rfl rfl (fun h => ?_) (fun h => ?_) | refine g_outE ?_ | refine g_callR hC (hTk) (nm [1025]) rfl rfl (LeSs.refl _) rfl rfl rfl rfl rfl rfl rfl rfl ?_
        refine g_freeze rfl (id := 101) (e := 2) (rows := xf.types.map nodeTR) rfl [] trivial [(1009, [.p (ks xf.n), .p (.sl 2 (xf.types.map nodeTR)), .ar 102, .ar 103, .ar 104, .ar 105, .ar 106, .ar 107])] ⟨⟨_, rfl, by decide, .cons (.refl _) (.cons (.ar) (.cons (.refl _) (.cons (.refl _) (.cons (.refl _) (.cons (.refl _) (.cons (.refl _) (.cons (.refl _) .nil)))))))⟩, trivial⟩ ?_
        refine g_freeze rfl (id := 102) (e := 2) (rows := xf.globals.map fieldR) rfl [] trivial [(1009, [.p (ks xf.n), .p (.sl 2 (xf.types.map nodeTR)), .p (.sl 2 (xf.globals.map fieldR)), .ar 103, .ar 104, .ar 105, .ar 106, .ar 107])] ⟨⟨_, rfl, by decide, .cons (.refl _) (.cons (.refl _) (.cons (.ar) (.cons (.refl _) (.cons (.refl _) (.cons (.refl _) (.cons (.refl _) (.cons (.refl _) .nil)))))))⟩, trivial⟩ ?_
        refine g_freeze rfl (id := 103) (e := 5) (rows := xf.procs.map procR) rfl [] trivial [(1009, [.p (ks xf.n), .p (.sl 2 (xf.types.map nodeTR)), .p (.sl 2 (xf.globals.map fieldR)), .p (.sl 5 (xf.procs.map procR)), .ar 104, .ar 105, .ar 106, .ar 107])] ⟨⟨_, rfl, by decide, .cons (.refl _) (.cons (.refl _) (.cons (.refl _) (.cons (.ar) (.cons (.refl _) (.cons (.refl _) (.cons (.refl _) (.cons (.refl _) .nil)))))))⟩, trivial⟩ ?_
        refine g_freeze rfl (id := 104) (e := 7) (rows := xf.measures.map measureR) rfl [] trivial [(1009, [.p (ks xf.n), .p (.sl 2 (xf.types.map nodeTR)), .p (.sl 2 (xf.globals.map fieldR)), .p (.sl 5 (xf.procs.map procR)), .p (.sl 7 (xf.measures.map measureR)), .ar 105, .ar 106, .ar 107])] ⟨⟨_, rfl, by decide, .cons (.refl _) (.cons (.refl _) (.cons (.refl _) (.cons (.refl _) (.cons (.ar) (.cons (.refl _) (.cons (.refl _) (.cons (.refl _) .nil)))))))⟩, trivial⟩ ?_
        refine g_freeze rfl (id := 105) (e := 6) (rows := xf.invs.map invR) rfl [] trivial [(1009, [.p (ks xf.n), .p (.sl 2 (xf.types.map nodeTR)), .p (.sl 2 (xf.globals.map fieldR)), .p (.sl 5 (xf.procs.map procR)), .p (.sl 7 (xf.measures.map measureR)), .p (.sl 6 (xf.invs.map invR)), .ar 106, .ar 107])] ⟨⟨_, rfl, by decide, .cons (.refl _) (.cons (.refl _) (.cons (.refl _) (.cons (.refl _) (.cons (.refl _) (.cons (.ar) (.cons (.refl _) (.cons (.refl _) .nil)))))))⟩, trivial⟩ ?_
        refine g_freeze rfl (id := 106) (e := 5) (rows := xf.pots.map potR) rfl [] trivial [(1009, [.p (ks xf.n), .p (.sl 2 (xf.types.map nodeTR)), .p (.sl 2 (xf.globals.map fieldR)), .p (.sl 5 (xf.procs.map procR)), .p (.sl 7 (xf.measures.map measureR)), .p (.sl 6 (xf.invs.map invR)), .p (.sl 5 (xf.pots.map potR)), .ar 107])] ⟨⟨_, rfl, by decide, .cons (.refl _) (.cons (.refl _) (.cons (.refl _) (.cons (.refl _) (.cons (.refl _) (.cons (.refl _) (.cons (.ar) (.cons (.refl _) .nil)))))))⟩, trivial⟩ ?_
        refine g_freeze rfl (id := 107) (e := 5) (rows := xf.bounds.map boundR) rfl [] trivial [(1009, [.p (ks xf.n), .p (.sl 2 (xf.types.map nodeTR)), .p (.sl 2 (xf.globals.map fieldR)), .p (.sl 5 (xf.procs.map procR)), .p (.sl 7 (xf.measures.map measureR)), .p (.sl 6 (xf.invs.map invR)), .p (.sl 5 (xf.pots.map potR)), .p (.sl 5 (xf.bounds.map boundR))])] ⟨⟨_, rfl, by decide, .cons (.refl _) (.cons (.refl _) (.cons (.refl _) (.cons (.refl _) (.cons (.refl _) (.cons (.refl _) (.cons (.refl _) (.cons (.ar) .nil)))))))⟩, trivial⟩ ?_
        repeat' first | refine g_go T hC true 400 rfl rfl ?_ | (exfalso; simp at h; done) | refine g_cond rfl (fun h => ?_) (fun h => ?_) | refine g_end T hC (by kernel_rfl) ?_ | refine g_splitD (fun h => ?_) (fun h => ?_) | refine g_splitG rfl rfl rfl (fun h => ?_) (fun h => ?_) | refine g_splitP rfl rfl (fun h => ?_) (fun h => ?_) | refine g_callR hC (hEnd) (nm [1025]) rfl rfl (LeSs.refl _) rfl rfl rfl rfl rfl rfl rfl rfl ?_ | refine g_call hC (hV) rfl rfl (LeSs.refl _) rfl rfl rfl ?_ | refine g_retl T (.inl rfl) rfl ?_
        exact g_fin ⟨.inl rfl, id, _, rfl, parse_bad_le, trivial, rfl, rfl⟩
    | false =>
      have hkw' : kwI l k = false := by rw [← Bool.not_eq_true]; exact fun h => hkw ⟨rfl, h⟩
      have hfin : oneJ l ⟨#[125]⟩ k = some ((), jf, bf) ∧ xf = d := by
        cases g with
        | zero => simp only [tJ, itemsJ] at hd; cases hd
        | succ g =>
          simp only [tJ, itemsJ] at hd
          unfold oneJ
          by_cases hq : isA l k ⟨#[125]⟩ = true
          · rw [if_pos hq] at hd ⊢; cases hd; exact ⟨rfl, rfl⟩
          · rw [if_neg hq, itemJ_no hkw'] at hd
            rw [if_neg hq]
            cases hd; exact ⟨rfl, rfl⟩
      obtain ⟨ho, rfl⟩ := hfin
      obtain ⟨_, hTk⟩ := ptake_ok hl k hk _ _ _ _ ho
      clear hd ho hkw
      have hV := astValid_ok xf
      cases bf with
      | true =>
        by_cases h5 : t.k = 5
        · simp only [ansD, h5, if_true, Bool.true_eq_false, reduceCtorEq, false_and, if_false] at hEnd ⊢
          repeat' first | refine g_go T hC true 400 rfl rfl ?_ | (exfalso; simp at h; done) | refine g_cond rfl (fun h => ?_) (fun h => ?_) | refine g_end T hC (by kernel_rfl) ?_ | refine g_splitD (fun h => ?_) (fun h => ?_) | refine g_splitG rfl rfl rfl (fun h => ?_) (fun h => ?_) | refine g_splitP rfl rfl (fun h => ?_) (fun h => ?_) | refine g_callR hC ((pitem_no hl 0 _ _ hk (by assumption))) (nm [1025, 1009, 101, 102, 103, 104, 105, 106, 107]) rfl rfl (LeSs.refl _) rfl rfl rfl rfl rfl rfl rfl rfl ?_ | refine g_outE ?_ | refine g_callR hC (hTk) (nm [1025]) rfl rfl (LeSs.refl _) rfl rfl rfl rfl rfl rfl rfl rfl ?_
          refine g_freeze rfl (id := 101) (e := 2) (rows := xf.types.map nodeTR) rfl [] trivial [(1009, [.p (ks xf.n), .p (.sl 2 (xf.types.map nodeTR)), .ar 102, .ar 103, .ar 104, .ar 105, .ar 106, .ar 107])] ⟨⟨_, rfl, by decide, .cons (.refl _) (.cons (.ar) (.cons (.refl _) (.cons (.refl _) (.cons (.refl _) (.cons (.refl _) (.cons (.refl _) (.cons (.refl _) .nil)))))))⟩, trivial⟩ ?_
          refine g_freeze rfl (id := 102) (e := 2) (rows := xf.globals.map fieldR) rfl [] trivial [(1009, [.p (ks xf.n), .p (.sl 2 (xf.types.map nodeTR)), .p (.sl 2 (xf.globals.map fieldR)), .ar 103, .ar 104, .ar 105, .ar 106, .ar 107])] ⟨⟨_, rfl, by decide, .cons (.refl _) (.cons (.refl _) (.cons (.ar) (.cons (.refl _) (.cons (.refl _) (.cons (.refl _) (.cons (.refl _) (.cons (.refl _) .nil)))))))⟩, trivial⟩ ?_
          refine g_freeze rfl (id := 103) (e := 5) (rows := xf.procs.map procR) rfl [] trivial [(1009, [.p (ks xf.n), .p (.sl 2 (xf.types.map nodeTR)), .p (.sl 2 (xf.globals.map fieldR)), .p (.sl 5 (xf.procs.map procR)), .ar 104, .ar 105, .ar 106, .ar 107])] ⟨⟨_, rfl, by decide, .cons (.refl _) (.cons (.refl _) (.cons (.refl _) (.cons (.ar) (.cons (.refl _) (.cons (.refl _) (.cons (.refl _) (.cons (.refl _) .nil)))))))⟩, trivial⟩ ?_
          refine g_freeze rfl (id := 104) (e := 7) (rows := xf.measures.map measureR) rfl [] trivial [(1009, [.p (ks xf.n), .p (.sl 2 (xf.types.map nodeTR)), .p (.sl 2 (xf.globals.map fieldR)), .p (.sl 5 (xf.procs.map procR)), .p (.sl 7 (xf.measures.map measureR)), .ar 105, .ar 106, .ar 107])] ⟨⟨_, rfl, by decide, .cons (.refl _) (.cons (.refl _) (.cons (.refl _) (.cons (.refl _) (.cons (.ar) (.cons (.refl _) (.cons (.refl _) (.cons (.refl _) .nil)))))))⟩, trivial⟩ ?_
          refine g_freeze rfl (id := 105) (e := 6) (rows := xf.invs.map invR) rfl [] trivial [(1009, [.p (ks xf.n), .p (.sl 2 (xf.types.map nodeTR)), .p (.sl 2 (xf.globals.map fieldR)), .p (.sl 5 (xf.procs.map procR)), .p (.sl 7 (xf.measures.map measureR)), .p (.sl 6 (xf.invs.map invR)), .ar 106, .ar 107])] ⟨⟨_, rfl, by decide, .cons (.refl _) (.cons (.refl _) (.cons (.refl _) (.cons (.refl _) (.cons (.refl _) (.cons (.ar) (.cons (.refl _) (.cons (.refl _) .nil)))))))⟩, trivial⟩ ?_
          refine g_freeze rfl (id := 106) (e := 5) (rows := xf.pots.map potR) rfl [] trivial [(1009, [.p (ks xf.n), .p (.sl 2 (xf.types.map nodeTR)), .p (.sl 2 (xf.globals.map fieldR)), .p (.sl 5 (xf.procs.map procR)), .p (.sl 7 (xf.measures.map measureR)), .p (.sl 6 (xf.invs.map invR)), .p (.sl 5 (xf.pots.map potR)), .ar 107])] ⟨⟨_, rfl, by decide, .cons (.refl _) (.cons (.refl _) (.cons (.refl _) (.cons (.refl _) (.cons (.refl _) (.cons (.refl _) (.cons (.ar) (.cons (.refl _) .nil)))))))⟩, trivial⟩ ?_
          refine g_freeze rfl (id := 107) (e := 5) (rows := xf.bounds.map boundR) rfl [] trivial [(1009, [.p (ks xf.n), .p (.sl 2 (xf.types.map nodeTR)), .p (.sl 2 (xf.globals.map fieldR)), .p (.sl 5 (xf.procs.map procR)), .p (.sl 7 (xf.measures.map measureR)), .p (.sl 6 (xf.invs.map invR)), .p (.sl 5 (xf.pots.map potR)), .p (.sl 5 (xf.bounds.map boundR))])] ⟨⟨_, rfl, by decide, .cons (.refl _) (.cons (.refl _) (.cons (.refl _) (.cons (.refl _) (.cons (.refl _) (.cons (.refl _) (.cons (.refl _) (.cons (.ar) .nil)))))))⟩, trivial⟩ ?_
          repeat' first | refine g_go T hC true 400 rfl rfl ?_ | (exfalso; simp at h; done) | refine g_cond rfl (fun h => ?_) (fun h => ?_) | refine g_end T hC (by kernel_rfl) ?_ | refine g_splitD (fun h => ?_) (fun h => ?_) | refine g_splitG rfl rfl rfl (fun h => ?_) (fun h => ?_) | refine g_splitP rfl rfl (fun h => ?_) (fun h => ?_) | refine g_callR hC (hEnd) (nm [1025]) rfl rfl (LeSs.refl _) rfl rfl rfl rfl rfl rfl rfl rfl ?_ | refine g_call hC (hV) rfl rfl (LeSs.refl _) rfl rfl rfl ?_ | refine g_retl T (.inl rfl) rfl ?_
          exact g_fin ⟨.inl rfl, id, _, rfl, parse_bad_le, trivial, rfl, rfl⟩
        · simp only [ansD, h5, if_true, reduceCtorEq, false_and, if_false] at hEnd ⊢
          repeat' first | refine g_go T hC true 400 rfl rfl ?_ | (exfalso; simp at h; done) | refine g_cond rfl (fun h => ?_) (fun h => ?_) | refine g_end T hC (by kernel_rfl) ?_ | refine g_splitD (fun h => ?_) (fun h => ?_) | refine g_splitG rfl rfl rfl (fun h => ?_) (fun h => ?_) | refine g_splitP rfl rfl (fun h => ?_) (fun h => ?_) | refine g_callR hC ((pitem_no hl 0 _ _ hk (by assumption))) (nm [1025, 1009, 101, 102, 103, 104, 105, 106, 107]) rfl rfl (LeSs.refl _) rfl rfl rfl rfl rfl rfl rfl rfl ?_ | refine g_outE ?_ | refine g_callR hC (hTk) (nm [1025]) rfl rfl (LeSs.refl _) rfl rfl rfl rfl rfl rfl rfl rfl ?_
          refine g_freeze rfl (id := 101) (e := 2) (rows := xf.types.map nodeTR) rfl [] trivial [(1009, [.p (ks xf.n), .p (.sl 2 (xf.types.map nodeTR)), .ar 102, .ar 103, .ar 104, .ar 105, .ar 106, .ar 107])] ⟨⟨_, rfl, by decide, .cons (.refl _) (.cons (.ar) (.cons (.refl _) (.cons (.refl _) (.cons (.refl _) (.cons (.refl _) (.cons (.refl _) (.cons (.refl _) .nil)))))))⟩, trivial⟩ ?_
          refine g_freeze rfl (id := 102) (e := 2) (rows := xf.globals.map fieldR) rfl [] trivial [(1009, [.p (ks xf.n), .p (.sl 2 (xf.types.map nodeTR)), .p (.sl 2 (xf.globals.map fieldR)), .ar 103, .ar 104, .ar 105, .ar 106, .ar 107])] ⟨⟨_, rfl, by decide, .cons (.refl _) (.cons (.refl _) (.cons (.ar) (.cons (.refl _) (.cons (.refl _) (.cons (.refl _) (.cons (.refl _) (.cons (.refl _) .nil)))))))⟩, trivial⟩ ?_
          refine g_freeze rfl (id := 103) (e := 5) (rows := xf.procs.map procR) rfl [] trivial [(1009, [.p (ks xf.n), .p (.sl 2 (xf.types.map nodeTR)), .p (.sl 2 (xf.globals.map fieldR)), .p (.sl 5 (xf.procs.map procR)), .ar 104, .ar 105, .ar 106, .ar 107])] ⟨⟨_, rfl, by decide, .cons (.refl _) (.cons (.refl _) (.cons (.refl _) (.cons (.ar) (.cons (.refl _) (.cons (.refl _) (.cons (.refl _) (.cons (.refl _) .nil)))))))⟩, trivial⟩ ?_
          refine g_freeze rfl (id := 104) (e := 7) (rows := xf.measures.map measureR) rfl [] trivial [(1009, [.p (ks xf.n), .p (.sl 2 (xf.types.map nodeTR)), .p (.sl 2 (xf.globals.map fieldR)), .p (.sl 5 (xf.procs.map procR)), .p (.sl 7 (xf.measures.map measureR)), .ar 105, .ar 106, .ar 107])] ⟨⟨_, rfl, by decide, .cons (.refl _) (.cons (.refl _) (.cons (.refl _) (.cons (.refl _) (.cons (.ar) (.cons (.refl _) (.cons (.refl _) (.cons (.refl _) .nil)))))))⟩, trivial⟩ ?_
          refine g_freeze rfl (id := 105) (e := 6) (rows := xf.invs.map invR) rfl [] trivial [(1009, [.p (ks xf.n), .p (.sl 2 (xf.types.map nodeTR)), .p (.sl 2 (xf.globals.map fieldR)), .p (.sl 5 (xf.procs.map procR)), .p (.sl 7 (xf.measures.map measureR)), .p (.sl 6 (xf.invs.map invR)), .ar 106, .ar 107])] ⟨⟨_, rfl, by decide, .cons (.refl _) (.cons (.refl _) (.cons (.refl _) (.cons (.refl _) (.cons (.refl _) (.cons (.ar) (.cons (.refl _) (.cons (.refl _) .nil)))))))⟩, trivial⟩ ?_
          refine g_freeze rfl (id := 106) (e := 5) (rows := xf.pots.map potR) rfl [] trivial [(1009, [.p (ks xf.n), .p (.sl 2 (xf.types.map nodeTR)), .p (.sl 2 (xf.globals.map fieldR)), .p (.sl 5 (xf.procs.map procR)), .p (.sl 7 (xf.measures.map measureR)), .p (.sl 6 (xf.invs.map invR)), .p (.sl 5 (xf.pots.map potR)), .ar 107])] ⟨⟨_, rfl, by decide, .cons (.refl _) (.cons (.refl _) (.cons (.refl _) (.cons (.refl _) (.cons (.refl _) (.cons (.refl _) (.cons (.ar) (.cons (.refl _) .nil)))))))⟩, trivial⟩ ?_
          refine g_freeze rfl (id := 107) (e := 5) (rows := xf.bounds.map boundR) rfl [] trivial [(1009, [.p (ks xf.n), .p (.sl 2 (xf.types.map nodeTR)), .p (.sl 2 (xf.globals.map fieldR)), .p (.sl 5 (xf.procs.map procR)), .p (.sl 7 (xf.measures.map measureR)), .p (.sl 6 (xf.invs.map invR)), .p (.sl 5 (xf.pots.map potR)), .p (.sl 5 (xf.bounds.map boundR))])] ⟨⟨_, rfl, by decide, .cons (.refl _) (.cons (.refl _) (.cons (.refl _) (.cons (.refl _) (.cons (.refl _) (.cons (.refl _) (.cons (.refl _) (.cons (.ar) .nil)))))))⟩, trivial⟩ ?_
          repeat' first | refine g_go T hC true 400 rfl rfl ?_ | (exfalso; simp at h; done) | refine g_cond rfl (fun h => ?_) (fun h => ?_) | refine g_end T hC (by kernel_rfl) ?_ | refine g_splitD (fun h => ?_) (fun h => ?_) | refine g_splitG rfl rfl rfl (fun h => ?_) (fun h => ?_) | refine g_splitP rfl rfl (fun h => ?_) (fun h => ?_) | refine g_callR hC (hEnd) (nm [1025]) rfl rfl (LeSs.refl _) rfl rfl rfl rfl rfl rfl rfl rfl ?_ | refine g_call hC (hV) rfl rfl (LeSs.refl _) rfl rfl rfl ?_ | refine g_retl T (.inl rfl) rfl ?_
          exact g_fin ⟨.inl rfl, id, _, rfl, parse_bad_le, trivial, rfl, rfl⟩
      | false =>
        by_cases h5 : t.k = 5
        · simp only [ansD, h5, and_self, if_true, Bool.false_eq_true, if_false] at hEnd ⊢
          by_cases hv : validD xf = true
          · rw [if_pos hv]
            rw [hv] at hV
            repeat' first | refine g_go T hC true 400 rfl rfl ?_ | (exfalso; simp at h; done) | refine g_cond rfl (fun h => ?_) (fun h => ?_) | refine g_end T hC (by kernel_rfl) ?_ | refine g_splitD (fun h => ?_) (fun h => ?_) | refine g_splitG rfl rfl rfl (fun h => ?_) (fun h => ?_) | refine g_splitP rfl rfl (fun h => ?_) (fun h => ?_) | refine g_callR hC ((pitem_no hl 0 _ _ hk (by assumption))) (nm [1025, 1009, 101, 102, 103, 104, 105, 106, 107]) rfl rfl (LeSs.refl _) rfl rfl rfl rfl rfl rfl rfl rfl ?_ | refine g_outE ?_ | refine g_callR hC (hTk) (nm [1025]) rfl rfl (LeSs.refl _) rfl rfl rfl rfl rfl rfl rfl rfl ?_
            refine g_freeze rfl (id := 101) (e := 2) (rows := xf.types.map nodeTR) rfl [] trivial [(1009, [.p (ks xf.n), .p (.sl 2 (xf.types.map nodeTR)), .ar 102, .ar 103, .ar 104, .ar 105, .ar 106, .ar 107])] ⟨⟨_, rfl, by decide, .cons (.refl _) (.cons (.ar) (.cons (.refl _) (.cons (.refl _) (.cons (.refl _) (.cons (.refl _) (.cons (.refl _) (.cons (.refl _) .nil)))))))⟩, trivial⟩ ?_
            refine g_freeze rfl (id := 102) (e := 2) (rows := xf.globals.map fieldR) rfl [] trivial [(1009, [.p (ks xf.n), .p (.sl 2 (xf.types.map nodeTR)), .p (.sl 2 (xf.globals.map fieldR)), .ar 103, .ar 104, .ar 105, .ar 106, .ar 107])] ⟨⟨_, rfl, by decide, .cons (.refl _) (.cons (.refl _) (.cons (.ar) (.cons (.refl _) (.cons (.refl _) (.cons (.refl _) (.cons (.refl _) (.cons (.refl _) .nil)))))))⟩, trivial⟩ ?_
            refine g_freeze rfl (id := 103) (e := 5) (rows := xf.procs.map procR) rfl [] trivial [(1009, [.p (ks xf.n), .p (.sl 2 (xf.types.map nodeTR)), .p (.sl 2 (xf.globals.map fieldR)), .p (.sl 5 (xf.procs.map procR)), .ar 104, .ar 105, .ar 106, .ar 107])] ⟨⟨_, rfl, by decide, .cons (.refl _) (.cons (.refl _) (.cons (.refl _) (.cons (.ar) (.cons (.refl _) (.cons (.refl _) (.cons (.refl _) (.cons (.refl _) .nil)))))))⟩, trivial⟩ ?_
            refine g_freeze rfl (id := 104) (e := 7) (rows := xf.measures.map measureR) rfl [] trivial [(1009, [.p (ks xf.n), .p (.sl 2 (xf.types.map nodeTR)), .p (.sl 2 (xf.globals.map fieldR)), .p (.sl 5 (xf.procs.map procR)), .p (.sl 7 (xf.measures.map measureR)), .ar 105, .ar 106, .ar 107])] ⟨⟨_, rfl, by decide, .cons (.refl _) (.cons (.refl _) (.cons (.refl _) (.cons (.refl _) (.cons (.ar) (.cons (.refl _) (.cons (.refl _) (.cons (.refl _) .nil)))))))⟩, trivial⟩ ?_
            refine g_freeze rfl (id := 105) (e := 6) (rows := xf.invs.map invR) rfl [] trivial [(1009, [.p (ks xf.n), .p (.sl 2 (xf.types.map nodeTR)), .p (.sl 2 (xf.globals.map fieldR)), .p (.sl 5 (xf.procs.map procR)), .p (.sl 7 (xf.measures.map measureR)), .p (.sl 6 (xf.invs.map invR)), .ar 106, .ar 107])] ⟨⟨_, rfl, by decide, .cons (.refl _) (.cons (.refl _) (.cons (.refl _) (.cons (.refl _) (.cons (.refl _) (.cons (.ar) (.cons (.refl _) (.cons (.refl _) .nil)))))))⟩, trivial⟩ ?_
            refine g_freeze rfl (id := 106) (e := 5) (rows := xf.pots.map potR) rfl [] trivial [(1009, [.p (ks xf.n), .p (.sl 2 (xf.types.map nodeTR)), .p (.sl 2 (xf.globals.map fieldR)), .p (.sl 5 (xf.procs.map procR)), .p (.sl 7 (xf.measures.map measureR)), .p (.sl 6 (xf.invs.map invR)), .p (.sl 5 (xf.pots.map potR)), .ar 107])] ⟨⟨_, rfl, by decide, .cons (.refl _) (.cons (.refl _) (.cons (.refl _) (.cons (.refl _) (.cons (.refl _) (.cons (.refl _) (.cons (.ar) (.cons (.refl _) .nil)))))))⟩, trivial⟩ ?_
            refine g_freeze rfl (id := 107) (e := 5) (rows := xf.bounds.map boundR) rfl [] trivial [(1009, [.p (ks xf.n), .p (.sl 2 (xf.types.map nodeTR)), .p (.sl 2 (xf.globals.map fieldR)), .p (.sl 5 (xf.procs.map procR)), .p (.sl 7 (xf.measures.map measureR)), .p (.sl 6 (xf.invs.map invR)), .p (.sl 5 (xf.pots.map potR)), .p (.sl 5 (xf.bounds.map boundR))])] ⟨⟨_, rfl, by decide, .cons (.refl _) (.cons (.refl _) (.cons (.refl _) (.cons (.refl _) (.cons (.refl _) (.cons (.refl _) (.cons (.refl _) (.cons (.ar) .nil)))))))⟩, trivial⟩ ?_
            repeat' first | refine g_go T hC true 400 rfl rfl ?_ | (exfalso; simp at h; done) | refine g_cond rfl (fun h => ?_) (fun h => ?_) | refine g_end T hC (by kernel_rfl) ?_ | refine g_splitD (fun h => ?_) (fun h => ?_) | refine g_splitG rfl rfl rfl (fun h => ?_) (fun h => ?_) | refine g_splitP rfl rfl (fun h => ?_) (fun h => ?_) | refine g_callR hC (hEnd) (nm [1025]) rfl rfl (LeSs.refl _) rfl rfl rfl rfl rfl rfl rfl rfl ?_ | refine g_call hC (hV) rfl rfl (LeSs.refl _) rfl rfl rfl ?_ | refine g_retl T (.inl rfl) rfl ?_
            exact g_fin ⟨.inl rfl, id, _, rfl, .refl _, trivial, rfl, rfl⟩
          · rw [if_neg hv]
            rw [Bool.not_eq_true] at hv
            rw [hv] at hV
            repeat' first | refine g_go T hC true 400 rfl rfl ?_ | (exfalso; simp at h; done) | refine g_cond rfl (fun h => ?_) (fun h => ?_) | refine g_end T hC (by kernel_rfl) ?_ | refine g_splitD (fun h => ?_) (fun h => ?_) | refine g_splitG rfl rfl rfl (fun h => ?_) (fun h => ?_) | refine g_splitP rfl rfl (fun h => ?_) (fun h => ?_) | refine g_callR hC ((pitem_no hl 0 _ _ hk (by assumption))) (nm [1025, 1009, 101, 102, 103, 104, 105, 106, 107]) rfl rfl (LeSs.refl _) rfl rfl rfl rfl rfl rfl rfl rfl ?_ | refine g_outE ?_ | refine g_callR hC (hTk) (nm [1025]) rfl rfl (LeSs.refl _) rfl rfl rfl rfl rfl rfl rfl rfl ?_
            refine g_freeze rfl (id := 101) (e := 2) (rows := xf.types.map nodeTR) rfl [] trivial [(1009, [.p (ks xf.n), .p (.sl 2 (xf.types.map nodeTR)), .ar 102, .ar 103, .ar 104, .ar 105, .ar 106, .ar 107])] ⟨⟨_, rfl, by decide, .cons (.refl _) (.cons (.ar) (.cons (.refl _) (.cons (.refl _) (.cons (.refl _) (.cons (.refl _) (.cons (.refl _) (.cons (.refl _) .nil)))))))⟩, trivial⟩ ?_
            refine g_freeze rfl (id := 102) (e := 2) (rows := xf.globals.map fieldR) rfl [] trivial [(1009, [.p (ks xf.n), .p (.sl 2 (xf.types.map nodeTR)), .p (.sl 2 (xf.globals.map fieldR)), .ar 103, .ar 104, .ar 105, .ar 106, .ar 107])] ⟨⟨_, rfl, by decide, .cons (.refl _) (.cons (.refl _) (.cons (.ar) (.cons (.refl _) (.cons (.refl _) (.cons (.refl _) (.cons (.refl _) (.cons (.refl _) .nil)))))))⟩, trivial⟩ ?_
            refine g_freeze rfl (id := 103) (e := 5) (rows := xf.procs.map procR) rfl [] trivial [(1009, [.p (ks xf.n), .p (.sl 2 (xf.types.map nodeTR)), .p (.sl 2 (xf.globals.map fieldR)), .p (.sl 5 (xf.procs.map procR)), .ar 104, .ar 105, .ar 106, .ar 107])] ⟨⟨_, rfl, by decide, .cons (.refl _) (.cons (.refl _) (.cons (.refl _) (.cons (.ar) (.cons (.refl _) (.cons (.refl _) (.cons (.refl _) (.cons (.refl _) .nil)))))))⟩, trivial⟩ ?_
            refine g_freeze rfl (id := 104) (e := 7) (rows := xf.measures.map measureR) rfl [] trivial [(1009, [.p (ks xf.n), .p (.sl 2 (xf.types.map nodeTR)), .p (.sl 2 (xf.globals.map fieldR)), .p (.sl 5 (xf.procs.map procR)), .p (.sl 7 (xf.measures.map measureR)), .ar 105, .ar 106, .ar 107])] ⟨⟨_, rfl, by decide, .cons (.refl _) (.cons (.refl _) (.cons (.refl _) (.cons (.refl _) (.cons (.ar) (.cons (.refl _) (.cons (.refl _) (.cons (.refl _) .nil)))))))⟩, trivial⟩ ?_
            refine g_freeze rfl (id := 105) (e := 6) (rows := xf.invs.map invR) rfl [] trivial [(1009, [.p (ks xf.n), .p (.sl 2 (xf.types.map nodeTR)), .p (.sl 2 (xf.globals.map fieldR)), .p (.sl 5 (xf.procs.map procR)), .p (.sl 7 (xf.measures.map measureR)), .p (.sl 6 (xf.invs.map invR)), .ar 106, .ar 107])] ⟨⟨_, rfl, by decide, .cons (.refl _) (.cons (.refl _) (.cons (.refl _) (.cons (.refl _) (.cons (.refl _) (.cons (.ar) (.cons (.refl _) (.cons (.refl _) .nil)))))))⟩, trivial⟩ ?_
            refine g_freeze rfl (id := 106) (e := 5) (rows := xf.pots.map potR) rfl [] trivial [(1009, [.p (ks xf.n), .p (.sl 2 (xf.types.map nodeTR)), .p (.sl 2 (xf.globals.map fieldR)), .p (.sl 5 (xf.procs.map procR)), .p (.sl 7 (xf.measures.map measureR)), .p (.sl 6 (xf.invs.map invR)), .p (.sl 5 (xf.pots.map potR)), .ar 107])] ⟨⟨_, rfl, by decide, .cons (.refl _) (.cons (.refl _) (.cons (.refl _) (.cons (.refl _) (.cons (.refl _) (.cons (.refl _) (.cons (.ar) (.cons (.refl _) .nil)))))))⟩, trivial⟩ ?_
            refine g_freeze rfl (id := 107) (e := 5) (rows := xf.bounds.map boundR) rfl [] trivial [(1009, [.p (ks xf.n), .p (.sl 2 (xf.types.map nodeTR)), .p (.sl 2 (xf.globals.map fieldR)), .p (.sl 5 (xf.procs.map procR)), .p (.sl 7 (xf.measures.map measureR)), .p (.sl 6 (xf.invs.map invR)), .p (.sl 5 (xf.pots.map potR)), .p (.sl 5 (xf.bounds.map boundR))])] ⟨⟨_, rfl, by decide, .cons (.refl _) (.cons (.refl _) (.cons (.refl _) (.cons (.refl _) (.cons (.refl _) (.cons (.refl _) (.cons (.refl _) (.cons (.ar) .nil)))))))⟩, trivial⟩ ?_
            repeat' first | refine g_go T hC true 400 rfl rfl ?_ | (exfalso; simp at h; done) | refine g_cond rfl (fun h => ?_) (fun h => ?_) | refine g_end T hC (by kernel_rfl) ?_ | refine g_splitD (fun h => ?_) (fun h => ?_) | refine g_splitG rfl rfl rfl (fun h => ?_) (fun h => ?_) | refine g_splitP rfl rfl (fun h => ?_) (fun h => ?_) | refine g_callR hC (hEnd) (nm [1025]) rfl rfl (LeSs.refl _) rfl rfl rfl rfl rfl rfl rfl rfl ?_ | refine g_call hC (hV) rfl rfl (LeSs.refl _) rfl rfl rfl ?_ | refine g_retl T (.inl rfl) rfl ?_
            exact g_fin ⟨.inl rfl, id, _, rfl, parse_bad_le, trivial, rfl, rfl⟩
        · simp only [ansD, h5, and_false, if_false] at hEnd ⊢
          repeat' first | refine g_go T hC true 400 rfl rfl ?_ | (exfalso; simp at h; done) | refine g_cond rfl (fun h => ?_) (fun h => ?_) | refine g_end T hC (by kernel_rfl) ?_ | refine g_splitD (fun h => ?_) (fun h => ?_) | refine g_splitG rfl rfl rfl (fun h => ?_) (fun h => ?_) | refine g_splitP rfl rfl (fun h => ?_) (fun h => ?_) | refine g_callR hC ((pitem_no hl 0 _ _ hk (by assumption))) (nm [1025, 1009, 101, 102, 103, 104, 105, 106, 107]) rfl rfl (LeSs.refl _) rfl rfl rfl rfl rfl rfl rfl rfl ?_ | refine g_outE ?_ | refine g_callR hC (hTk) (nm [1025]) rfl rfl (LeSs.refl _) rfl rfl rfl rfl rfl rfl rfl rfl ?_
          refine g_freeze rfl (id := 101) (e := 2) (rows := xf.types.map nodeTR) rfl [] trivial [(1009, [.p (ks xf.n), .p (.sl 2 (xf.types.map nodeTR)), .ar 102, .ar 103, .ar 104, .ar 105, .ar 106, .ar 107])] ⟨⟨_, rfl, by decide, .cons (.refl _) (.cons (.ar) (.cons (.refl _) (.cons (.refl _) (.cons (.refl _) (.cons (.refl _) (.cons (.refl _) (.cons (.refl _) .nil)))))))⟩, trivial⟩ ?_
          refine g_freeze rfl (id := 102) (e := 2) (rows := xf.globals.map fieldR) rfl [] trivial [(1009, [.p (ks xf.n), .p (.sl 2 (xf.types.map nodeTR)), .p (.sl 2 (xf.globals.map fieldR)), .ar 103, .ar 104, .ar 105, .ar 106, .ar 107])] ⟨⟨_, rfl, by decide, .cons (.refl _) (.cons (.refl _) (.cons (.ar) (.cons (.refl _) (.cons (.refl _) (.cons (.refl _) (.cons (.refl _) (.cons (.refl _) .nil)))))))⟩, trivial⟩ ?_
          refine g_freeze rfl (id := 103) (e := 5) (rows := xf.procs.map procR) rfl [] trivial [(1009, [.p (ks xf.n), .p (.sl 2 (xf.types.map nodeTR)), .p (.sl 2 (xf.globals.map fieldR)), .p (.sl 5 (xf.procs.map procR)), .ar 104, .ar 105, .ar 106, .ar 107])] ⟨⟨_, rfl, by decide, .cons (.refl _) (.cons (.refl _) (.cons (.refl _) (.cons (.ar) (.cons (.refl _) (.cons (.refl _) (.cons (.refl _) (.cons (.refl _) .nil)))))))⟩, trivial⟩ ?_
          refine g_freeze rfl (id := 104) (e := 7) (rows := xf.measures.map measureR) rfl [] trivial [(1009, [.p (ks xf.n), .p (.sl 2 (xf.types.map nodeTR)), .p (.sl 2 (xf.globals.map fieldR)), .p (.sl 5 (xf.procs.map procR)), .p (.sl 7 (xf.measures.map measureR)), .ar 105, .ar 106, .ar 107])] ⟨⟨_, rfl, by decide, .cons (.refl _) (.cons (.refl _) (.cons (.refl _) (.cons (.refl _) (.cons (.ar) (.cons (.refl _) (.cons (.refl _) (.cons (.refl _) .nil)))))))⟩, trivial⟩ ?_
          refine g_freeze rfl (id := 105) (e := 6) (rows := xf.invs.map invR) rfl [] trivial [(1009, [.p (ks xf.n), .p (.sl 2 (xf.types.map nodeTR)), .p (.sl 2 (xf.globals.map fieldR)), .p (.sl 5 (xf.procs.map procR)), .p (.sl 7 (xf.measures.map measureR)), .p (.sl 6 (xf.invs.map invR)), .ar 106, .ar 107])] ⟨⟨_, rfl, by decide, .cons (.refl _) (.cons (.refl _) (.cons (.refl _) (.cons (.refl _) (.cons (.refl _) (.cons (.ar) (.cons (.refl _) (.cons (.refl _) .nil)))))))⟩, trivial⟩ ?_
          refine g_freeze rfl (id := 106) (e := 5) (rows := xf.pots.map potR) rfl [] trivial [(1009, [.p (ks xf.n), .p (.sl 2 (xf.types.map nodeTR)), .p (.sl 2 (xf.globals.map fieldR)), .p (.sl 5 (xf.procs.map procR)), .p (.sl 7 (xf.measures.map measureR)), .p (.sl 6 (xf.invs.map invR)), .p (.sl 5 (xf.pots.map potR)), .ar 107])] ⟨⟨_, rfl, by decide, .cons (.refl _) (.cons (.refl _) (.cons (.refl _) (.cons (.refl _) (.cons (.refl _) (.cons (.refl _) (.cons (.ar) (.cons (.refl _) .nil)))))))⟩, trivial⟩ ?_
          refine g_freeze rfl (id := 107) (e := 5) (rows := xf.bounds.map boundR) rfl [] trivial [(1009, [.p (ks xf.n), .p (.sl 2 (xf.types.map nodeTR)), .p (.sl 2 (xf.globals.map fieldR)), .p (.sl 5 (xf.procs.map procR)), .p (.sl 7 (xf.measures.map measureR)), .p (.sl 6 (xf.invs.map invR)), .p (.sl 5 (xf.pots.map potR)), .p (.sl 5 (xf.bounds.map boundR))])] ⟨⟨_, rfl, by decide, .cons (.refl _) (.cons (.refl _) (.cons (.refl _) (.cons (.refl _) (.cons (.refl _) (.cons (.refl _) (.cons (.refl _) (.cons (.ar) .nil)))))))⟩, trivial⟩ ?_
          repeat' first | refine g_go T hC true 400 rfl rfl ?_ | (exfalso; simp at h; done) | refine g_cond rfl (fun h => ?_) (fun h => ?_) | refine g_end T hC (by kernel_rfl) ?_ | refine g_splitD (fun h => ?_) (fun h => ?_) | refine g_splitG rfl rfl rfl (fun h => ?_) (fun h => ?_) | refine g_splitP rfl rfl (fun h => ?_) (fun h => ?_) | refine g_callR hC (hEnd) (nm [1025]) rfl rfl (LeSs.refl _) rfl rfl rfl rfl rfl rfl rfl rfl ?_ | refine g_call hC (hV) rfl rfl (LeSs.refl _) rfl rfl rfl ?_ | refine g_retl T (.inl rfl) rfl ?_
          exact g_fin ⟨.inl rfl, id, _, rfl, parse_bad_le, trivial, rfl, rfl⟩
end Hw.Pa
namespace Hw.Pa
open Go Go.Proofs Hw.M

def eqL {α : Type} (p : α → α → Bool) : List α → List α → Bool
  | [], [] => true
  | x :: a, y :: b => p x y && eqL p a b
  | [], _ :: _ => false
  | _ :: _, [] => false
theorem eqL_len {α : Type} {p : α → α → Bool} : ∀ {a b : List α}, a.length ≠ b.length → eqL p a b = false
  | [], [], h => absurd rfl h
  | x :: a, y :: b, h => by rw [eqL, eqL_len (fun e => h (by rw [List.length_cons, List.length_cons, e])), Bool.and_false]
  | [], _ :: _, _ => rfl
  | _ :: _, [], _ => rfl
theorem eqL_refl {α : Type} {p : α → α → Bool} : ∀ {a : List α}, (∀ x ∈ a, p x x = true) → eqL p a a = true
  | [], _ => rfl
  | x :: a, h => by rw [eqL, h x (by simp), eqL_refl fun y hy => h y (by simp [hy])]; rfl
mutual
def sameE : Ex → Ex → Bool
  | .mk o n s l, .mk o' n' s' l' => decide (o = o') && decide (n = n') && decide (s = s') && sameLs l l'
def sameLs : List Ex → List Ex → Bool
  | [], [] => true
  | x :: a, y :: b => sameE x y && sameLs a b
  | [], _ :: _ => false
  | _ :: _, [] => false
end
theorem sameLs_eq : ∀ a b : List Ex, sameLs a b = eqL sameE a b
  | [], [] => by simp only [sameLs, eqL]
  | x :: a, y :: b => by simp only [sameLs, eqL, sameLs_eq a b]
  | [], _ :: _ => by simp only [sameLs, eqL]
  | _ :: _, [] => by simp only [sameLs, eqL]
theorem sameE_eq (a b : Ex) : sameE a b = (decide (a.op = b.op) && decide (a.n = b.n) && decide (a.s = b.s) && eqL sameE a.l b.l) := by
  cases a; cases b; simp only [sameE, sameLs_eq, Ex.op, Ex.n, Ex.s, Ex.l]; rfl
theorem sameE_refl : ∀ (k : Nat) (a : Ex), sizeOf a < k → sameE a a = true := by
  intro k
  induction k with
  | zero => intro a h; omega
  | succ k ih =>
    intro a h
    rw [sameE_eq, decide_eq_true rfl, decide_eq_true rfl, decide_eq_true rfl, eqL_refl fun x hx => ih x (by have := List.sizeOf_lt_of_mem hx; have := sizeE_sub a; omega)]
    rfl
theorem rsameExpr_ok : ∀ (N : Nat) (a b : Ex), sizeOf a < N → FnOK Tryz.prog 16 [aggS (exprC a), aggS (exprC b)] [] (.bq (sameE a b)) [] := by
  intro N
  induction N with
  | zero => intro a b h; omega
  | succ N ih =>
    intro a b hN
    have no : (decide (a.op = b.op) && decide (a.n = b.n) && decide (a.s = b.s) && decide ((a.l.length : Int) = b.l.length)) = false → sameE a b = false := fun h => by
      rw [sameE_eq]
      by_cases hl : a.l.length = b.l.length
      · rw [decide_eq_true (show (a.l.length : Int) = b.l.length by rw [hl]), Bool.and_true] at h
        rw [h]; rfl
      · rw [eqL_len hl, Bool.and_false]
    have yes : (decide (a.op = b.op) && decide (a.n = b.n) && decide (a.s = b.s) && decide ((a.l.length : Int) = b.l.length)) = true → sameE a b = eqL sameE a.l b.l := fun h => by
      rw [sameE_eq]
      simp only [Bool.and_eq_true] at h
      rw [h.1.1.1, h.1.1.2, h.1.2]; rfl
    refine fn_ok T Tryz.func16 (by kernel_rfl) rfl rfl rfl rfl fun C hC => ?_
    refine g_lenA rfl 0 3 rfl rfl fun hlen => ?_
    rw [List.length_map] at hlen
    repeat' first | refine g_go T hC true 400 rfl rfl ?_ | refine g_cond rfl (fun h => ?_) (fun h => ?_) | refine g_end T hC (by kernel_rfl) ?_ | refine g_splitD (fun h => ?_) (fun h => ?_) | refine g_splitG rfl rfl rfl (fun h => ?_) (fun h => ?_) | refine g_splitP rfl rfl (fun h => ?_) (fun h => ?_) | refine g_retl T (.inl rfl) rfl ?_
    all_goals (try simp only [List.length_map] at *)
    all_goals first
      | (refine (no ?_).symm; clear no yes ih; simp_all; done)
      | (have hy : (decide (a.op = b.op) && decide (a.n = b.n) && decide (a.s = b.s) && decide ((a.l.length : Int) = b.l.length)) = true := by clear no yes ih; simp_all
         rw [yes hy]
         have hab : a.l.length = b.l.length := by simp only [Bool.and_eq_true, decide_eq_true_eq] at hy; omega
         clear no yes hy
         refine g_loop (fun i : Nat => i ≤ a.l.length ∧ eqL sameE (a.l.drop i) (b.l.drop i) = eqL sameE a.l b.l) (fun i => ([(2, .one (.bx 1002 0)), (3, .one (.bx 1003 0)), (5, I i)], [(1002, some (.box ((exprC a).map V.p))), (1003, some (.box ((exprC b).map V.p)))])) (fun i => a.l.length - i) hC
           0 ⟨Nat.zero_le _, rfl⟩ id ⟨rfl, ⟨rfl, rfl, rfl, trivial⟩, ⟨rfl, rfl, trivial⟩, rfl, fun _ _ => rfl⟩ ?_
         rintro i ⟨hi, hn⟩
         refine g_run' T hC true 200 rfl ?_
         refine g_cond rfl (fun h => ?_) (fun h => ?_)
         · have hlt : i < a.l.length := by have := of_decide_eq_true h; rw [List.length_map] at this; omega
           clear h
           obtain ⟨x, hx⟩ := exists_at hlt
           obtain ⟨y, hy⟩ := exists_at (hab ▸ hlt)
           have hS := ih x y (by have := List.sizeOf_lt_of_mem (List.mem_of_getElem? hx); have := sizeE_sub a; omega)
           rw [drop_at hx, drop_at hy, eqL] at hn
           repeat' first | refine g_go T hC true 400 rfl rfl ?_ | refine g_cond rfl (fun h => ?_) (fun h => ?_) | refine g_end T hC (by kernel_rfl) ?_ | refine g_splitD (fun h => ?_) (fun h => ?_) | refine g_splitG rfl rfl rfl (fun h => ?_) (fun h => ?_) | refine g_splitP rfl rfl (fun h => ?_) (fun h => ?_) | refine g_idx T hC rfl rfl rfl (Int.natCast_nonneg _) (map_atE hx) rfl rfl ?_ | refine g_idx T hC rfl rfl rfl (Int.natCast_nonneg _) (map_atE hy) rfl rfl ?_ | refine g_call hC (hS) rfl rfl (LeSs.refl _) rfl rfl rfl ?_ | refine g_outR ?_ | refine g_retl T (.inl rfl) rfl ?_
           · have hxy : sameE x y = false := by simpa using h
             rw [hxy] at hn; exact hn
           · have hxy : sameE x y = true := by simpa using h
             rw [hxy, Bool.true_and] at hn
             rw [wrap64 (by omega)]
             exact g_round (i + 1) ⟨by omega, hn⟩ id (by omega) ⟨rfl, ⟨rfl, rfl, rfl, trivial⟩, ⟨rfl, rfl, trivial⟩, rfl, fun _ _ => rfl⟩
         · have hge : ¬ i < a.l.length := by have := of_decide_eq_false h; rw [List.length_map] at this; omega
           repeat' first | refine g_go T hC true 400 rfl rfl ?_ | refine g_cond rfl (fun h => ?_) (fun h => ?_) | refine g_end T hC (by kernel_rfl) ?_ | refine g_splitD (fun h => ?_) (fun h => ?_) | refine g_splitG rfl rfl rfl (fun h => ?_) (fun h => ?_) | refine g_splitP rfl rfl (fun h => ?_) (fun h => ?_) | refine g_outE ?_ | refine g_retl T (.inl rfl) rfl ?_
           rw [List.drop_eq_nil_of_le (by omega), List.drop_eq_nil_of_le (by omega)] at hn
           exact hn)
end Hw.Pa
namespace Hw.Pa
open Go Go.Proofs Hw.M

def ax1 : Str := (⟨#[97, 32, 45, 32, 98, 32, 45, 32, 99]⟩ : ByteArray)
def ax2 : Str := (⟨#[110, 111, 116, 32, 97, 32, 61, 61, 32, 98]⟩ : ByteArray)
def ax3 : Str := (⟨#[97, 32, 60, 32, 98, 32, 60, 32, 99]⟩ : ByteArray)
def nmE (s : Str) : Ex := .mk 4 0 s []
def twE (op : Int) (a b : Ex) : Ex := .mk op 0 (⟨#[]⟩ : ByteArray) [a, b]
def awX : Ex := twE 10 (twE 10 (nmE (⟨#[97]⟩ : ByteArray)) (nmE (⟨#[98]⟩ : ByteArray))) (nmE (⟨#[99]⟩ : ByteArray))
def awY : Ex := .mk 18 0 (⟨#[]⟩ : ByteArray) [twE 14 (nmE (⟨#[97]⟩ : ByteArray)) (nmE (⟨#[98]⟩ : ByteArray))]
theorem ax1_eq : exprTop ax1 = (awX, (0, 0), 0) := by kernel_rfl
theorem ax2_eq : exprTop ax2 = (awY, (0, 0), 0) := by kernel_rfl
theorem ax3_eq : exprTop ax3 = (E0, (1, 7), 7) := by kernel_rfl
def ax4 : Str := ⟨#[100, 101, 115, 99, 32, 100, 32, 123, 32, 116, 121, 112, 101, 32, 84, 32, 123, 32, 102, 32, 105, 110, 116, 32, 125, 32, 112, 114, 111, 99, 32, 112, 40, 120, 32, 84, 41, 32, 123, 32, 120, 46, 102, 32, 61, 32, 49, 59, 32, 125, 32, 125]⟩
def ax5 : Str := ⟨#[100, 101, 115, 99, 32, 100, 32, 123, 32, 112, 114, 111, 99, 32, 112, 40, 41, 32, 123, 32, 102, 40, 120, 41, 32, 61, 32, 49, 59, 32, 125, 32, 125]⟩
def awD : Desc := ⟨(⟨#[100]⟩ : ByteArray), [⟨(⟨#[84]⟩ : ByteArray), [⟨(⟨#[102]⟩ : ByteArray), (⟨#[105, 110, 116]⟩ : ByteArray)⟩]⟩], [], [⟨(⟨#[112]⟩ : ByteArray), [⟨(⟨#[120]⟩ : ByteArray), (⟨#[84]⟩ : ByteArray)⟩], (⟨#[]⟩ : ByteArray), [], [.mk 2 (⟨#[102]⟩ : ByteArray) [nmE (⟨#[120]⟩ : ByteArray), .mk 1 1 (⟨#[]⟩ : ByteArray) []] [] []]⟩], [], [], [], []⟩
theorem ax4_eq : descTop ax4 = (awD, (0, 0), 0) := by kernel_rfl
theorem ax5_eq : descTop ax5 = (D0, (1, 26), 7) := by kernel_rfl
theorem aw_v (s : Str) : FnOK Tryz.prog 24 [Sr s] [] (enE (nmE s)) [] := by
  refine fn_ok T Tryz.func24 (by kernel_rfl) rfl rfl rfl rfl fun C hC => ?_
  repeat' first | refine g_go T hC true 400 rfl rfl ?_ | refine g_cond rfl (fun h => ?_) (fun h => ?_) | refine g_retl T (.inl rfl) rfl ?_
  exact g_fin ⟨.inl rfl, id, _, rfl, le_ex0 _ _ _, trivial, rfl, rfl⟩
theorem aw_two (op : Int) (a b : Ex) : FnOK Tryz.prog 25 [I op, enE a, enE b] [] (enE (twE op a b)) [] := by
  refine fn_ok T Tryz.func25 (by kernel_rfl) rfl rfl rfl rfl fun C hC => ?_
  repeat' first | refine g_go T hC true 400 rfl rfl ?_ | refine g_cond rfl (fun h => ?_) (fun h => ?_) | refine g_lit T hC (rows := [exprR a, exprR b]) rfl rfl rfl (by simp only [exprR_eq]; rfl) rfl rfl rfl rfl rfl ?_ | refine g_retl T (.inl rfl) rfl ?_
  exact g_fin ⟨.inl rfl, id, _, rfl, .refl _, trivial, rfl, rfl⟩
theorem aw_same (x : Ex) (h : sameE x x = true) : FnOK Tryz.prog 16 [enE x, enE x] [] (Bo true) [] := fnSub (rsameExpr_ok (sizeOf x + 1) x x (Nat.lt_succ_self _)) (.bq h)
theorem awake10_ok : FnOK Tryz.prog 7 [] [] (.bq true) [] := by
  have h1 := parserExpr_ok ax1 (by decide)
  have h2 := parserExpr_ok ax2 (by decide)
  have h3 := parserExpr_ok ax3 (by decide)
  have h4 := parserParse_ok ax4 (by decide)
  have h5 := parserParse_ok ax5 (by decide)
  rw [ax1_eq] at h1
  rw [ax2_eq] at h2
  rw [ax3_eq] at h3
  rw [ax4_eq] at h4
  rw [ax5_eq] at h5
  unfold ax1 at h1
  unfold ax2 at h2
  unfold ax3 at h3
  unfold ax4 at h4
  unfold ax5 at h5
  refine fn_ok T Tryz.func7 (by kernel_rfl) rfl rfl rfl rfl fun C hC => ?_
  have s1 := aw_same awX (by decide +kernel)
  have s2 := aw_same awY (by decide +kernel)
  repeat' first | refine g_go T hC true 400 rfl rfl ?_ | (exfalso; revert h; decide) | refine g_cond rfl (fun h => ?_) (fun h => ?_) | refine g_end T hC (by kernel_rfl) ?_ | refine g_splitD (fun h => ?_) (fun h => ?_) | refine g_call hC (h1) rfl rfl (LeSs.refl _) rfl rfl rfl ?_ | refine g_call hC (h2) rfl rfl (LeSs.refl _) rfl rfl rfl ?_ | refine g_call hC (h3) rfl rfl (LeSs.refl _) rfl rfl rfl ?_ | refine g_call hC (h4) rfl rfl (LeSs.refl _) rfl rfl rfl ?_ | refine g_call hC (h5) rfl rfl (LeSs.refl _) rfl rfl rfl ?_ | refine g_call hC ((aw_v _)) rfl rfl (LeSs.refl _) rfl rfl rfl ?_ | refine g_call hC ((aw_two _ _ _)) rfl rfl (LeSs.refl _) rfl rfl rfl ?_ | refine g_call hC (s1) rfl rfl (LeSs.refl _) rfl rfl rfl ?_ | refine g_call hC (s2) rfl rfl (LeSs.refl _) rfl rfl rfl ?_ | refine g_lit T hC (rows := [exprR (twE 14 (nmE (⟨#[97]⟩ : ByteArray)) (nmE (⟨#[98]⟩ : ByteArray)))]) rfl rfl rfl (by simp only [exprR_eq]; rfl) rfl rfl rfl rfl rfl ?_ | (refine g_eqF hC [.i .i64, .i .i64] [.i .i64 1, .i .i64 7] [.i .i64 1, .i .i64 7] rfl rfl (by kernel_rfl) (by kernel_rfl) rfl rfl (by kernel_rfl) rfl rfl ?_) | (refine g_eqF hC [.i .i64, .i .i64] [.i .i64 1, .i .i64 26] [.i .i64 1, .i .i64 26] rfl rfl (by kernel_rfl) (by kernel_rfl) rfl rfl (by kernel_rfl) rfl rfl ?_) | refine g_idx T hC rfl rfl rfl (Int.le_refl _) (show _ = some (procR _) from rfl) rfl rfl ?_ | refine g_idx T hC (row := stmtC (.mk 2 (⟨#[102]⟩ : ByteArray) [nmE (⟨#[120]⟩ : ByteArray), .mk 1 1 (⟨#[]⟩ : ByteArray) []] [] [])) rfl rfl rfl (Int.le_refl _) (map_atS (l := [.mk 2 (⟨#[102]⟩ : ByteArray) [nmE (⟨#[120]⟩ : ByteArray), .mk 1 1 (⟨#[]⟩ : ByteArray) []] [] []]) (i := 0) rfl) rfl rfl ?_ | refine g_retl T (.inl rfl) rfl ?_ | refine g_retq T (.inl rfl) rfl ?_
  all_goals exact decide_eq_true rfl
end Hw.Pa
namespace Hw.Pa
open Go Go.Proofs Hw.M

theorem long_ok (s : Str) : FnOK Tryz.prog 8 [Sr s] [] (.bq ((decide (2000 < (s.size : Int)) && decide ((s.size : Int) ≤ 65536)) || decide (70000 < (s.size : Int)))) [] := by
  refine fn_ok T Tryz.func8 (by kernel_rfl) rfl rfl rfl rfl fun C hC => ?_
  repeat' first | refine g_go T hC true 400 rfl rfl ?_ | refine g_cond rfl (fun h => ?_) (fun h => ?_) | refine g_splitG rfl rfl rfl (fun h => ?_) (fun h => ?_) | refine g_splitP rfl rfl (fun h => ?_) (fun h => ?_) | refine g_retq T (.inl rfl) rfl ?_ | refine g_retl T (.inl rfl) rfl ?_
  all_goals (simp_all <;> omega)
end Hw.Pa
namespace Hw.Pa
open Go Go.Proofs Hw.M

def sumB {α : Type} (f : α → Nat) : List α → Nat
  | [] => 0
  | x :: r => f x + sumB f r
theorem sumB_app {α : Type} (f : α → Nat) (a b : List α) : sumB f (a ++ b) = sumB f a + sumB f b := by
  induction a with
  | nil => simp [sumB]
  | cons x a ih => simp only [List.cons_append, sumB, ih]; omega
theorem sumB_take {α : Type} (f : α → Nat) {l : List α} {i : Nat} {x : α} (hx : l[i]? = some x) : sumB f (l.take (i + 1)) = sumB f (l.take i) + f x := by
  rw [List.take_add_one, hx, sumB_app]; simp [sumB]
theorem sumB_le {α : Type} (f : α → Nat) (l : List α) (i : Nat) : sumB f (l.take i) ≤ sumB f l := by
  conv => rhs; rw [← List.take_append_drop i l]
  rw [sumB_app]; omega
def wdF (l : List Fld) : Bool := decide (40 < (l.length : Int)) || l.any fun f => decide (100 < (f.n.size : Int)) || decide (100 < (f.t.size : Int))
def totD (d : Desc) : Nat := sumB (fun p => cntSs p.body) d.procs + sumB (fun m => cntE m.x) d.measures + sumB (fun m => cntE m.x) d.invs + sumB (fun m => cntE m.x) d.pots + sumB (fun m => cntE m.x) d.bounds
structure BG (d : Desc) : Prop where
  nm : (d.n.size : Int) ≤ 100
  tl : (d.types.length : Int) ≤ 30
  gl : (d.globals.length : Int) ≤ 30
  pl : (d.procs.length : Int) ≤ 60
  ml : (d.measures.length : Int) ≤ 30
  il : (d.invs.length : Int) ≤ 30
  ul : (d.pots.length : Int) ≤ 30
  bl : (d.bounds.length : Int) ≤ 30
  gw : wdF d.globals = false
  tw : (d.types.any fun t => decide (100 < (t.n.size : Int)) || wdF t.f) = false
  pw : ∀ p ∈ d.procs, (p.n.size : Int) ≤ 100 ∧ (p.res.size : Int) ≤ 100 ∧ wdF p.params = false ∧ wdF p.locs = false ∧ okSs p.body 1 = true
  mw : ∀ m ∈ d.measures, (m.n.size : Int) ≤ 100 ∧ (m.t.size : Int) ≤ 100 ∧ okE m.x 1 = true
  iw : ∀ m ∈ d.invs, (m.n.size : Int) ≤ 100 ∧ (m.t.size : Int) ≤ 100 ∧ okE m.x 1 = true
  uw : ∀ m ∈ d.pots, (m.t.size : Int) ≤ 100 ∧ okE m.x 1 = true
  bw : ∀ m ∈ d.bounds, (m.p.size : Int) ≤ 100 ∧ okE m.x 1 = true
  cnt : totD d ≤ 3000
theorem big11_ok (f : Fld) : FnOK Tryz.prog 37 [aggS (fieldR f)] [] (.bq (decide (100 < (f.n.size : Int)) || decide (100 < (f.t.size : Int)))) [] := by
  refine fn_ok T Tryz.func37 (by kernel_rfl) rfl rfl rfl rfl fun C hC => ?_
  repeat' first | refine g_go T hC true 400 rfl rfl ?_ | refine g_cond rfl (fun h => ?_) (fun h => ?_) | refine g_splitG rfl rfl rfl (fun h => ?_) (fun h => ?_) | refine g_splitP rfl rfl (fun h => ?_) (fun h => ?_) | refine g_retq T (.inl rfl) rfl ?_ | refine g_retl T (.inl rfl) rfl ?_
  all_goals (simp_all <;> (intros; omega))
theorem big1_ok (l : List Fld) : FnOK Tryz.prog 35 [pS (fieldsP l)] [] (.bq (wdF l)) [] := by
  have hA := fieldN_any 37 l _ (fun x _ => big11_ok x)
  refine fn_ok T Tryz.func35 (by kernel_rfl) rfl rfl rfl rfl fun C hC => ?_
  repeat' first | refine g_go T hC true 400 rfl rfl ?_ | refine g_cond rfl (fun h => ?_) (fun h => ?_) | refine g_splitG rfl rfl rfl (fun h => ?_) (fun h => ?_) | refine g_splitP rfl rfl (fun h => ?_) (fun h => ?_) | refine g_call hC (hA) rfl rfl (LeSs.refl _) rfl rfl rfl ?_ | refine g_retq T (.inl rfl) rfl ?_ | refine g_retl T (.inl rfl) rfl ?_
  all_goals (simp only [List.length_map] at *)
  all_goals (simp_all [wdF] <;> (intros; omega))
abbrev wdR : RL := [(0, .box [.cl 35 [] []])]
theorem big2_ok (t : NodeT) : FnOK Tryz.prog 39 [aggS (nodeTR t), .one (.bx 0 0)] wdR (.bq (decide (100 < (t.n.size : Int)) || wdF t.f)) wdR := by
  refine fn_ok T Tryz.func39 (by kernel_rfl) rfl rfl rfl rfl fun C hC => ?_
  repeat' first | refine g_go T hC true 400 rfl rfl ?_ | refine g_cond rfl (fun h => ?_) (fun h => ?_) | refine g_splitG rfl rfl rfl (fun h => ?_) (fun h => ?_) | refine g_splitP rfl rfl (fun h => ?_) (fun h => ?_) | refine g_call hC ((big1_ok t.f)) rfl rfl (LeSs.refl _) rfl rfl rfl ?_
  all_goals first
    | exact g_fin ⟨.inl rfl, id, _, rfl, .qb (by simp_all <;> (intros; omega)), ⟨rfl, trivial⟩, rfl, rfl⟩
    | exact g_fin ⟨.inl rfl, id, _, rfl, .qq (by simp_all <;> (intros; omega)), ⟨rfl, trivial⟩, rfl, rfl⟩
theorem typeW_idx (f : FuncId)  (l : List NodeT) (p : NodeT → Unit → Bool) (nx : NodeT → Unit → Unit) (inv : Unit → Prop)
    (hf : ∀ x ∈ l, ∀ s : Unit, inv s → FnOK Tryz.prog f [aggS (nodeTR x), .one (.bx 0 0)] [(0, .box [.cl 35 [] []])] (.bq (p x s)) ((fun s : Unit => [(0, .box [.cl 35 [] []])]) (nx x s)) ∧ (p x s = false → inv (nx x s))) (s : Unit) (hs : inv s) :
    FnOK Tryz.prog 89 [pS (.sl 2 (l.map nodeTR)), .one (.cl f [] [.bx 0 0])] [(0, .box [.cl 35 [] []])] (I (idxR p nx l 0 s).1) ((fun s : Unit => [(0, .box [.cl 35 [] []])]) (idxR p nx l 0 s).2) := by
  refine fn_ok T Tryz.func89 (by kernel_rfl) rfl rfl rfl rfl fun C hC => ?_
  have hs0 := hs
  refine g_len 0 rfl fun hl => ?_
  rw [List.length_map] at hl
  repeat' first | refine g_go T hC true 400 rfl rfl ?_ | refine g_cond rfl (fun h => ?_) (fun h => ?_)
  rw [List.length_map]
  refine g_loop (fun q : Nat × Unit => q.1 ≤ l.length ∧ inv q.2 ∧ idxR p nx (l.drop q.1) q.1 q.2 = idxR p nx l 0 s) (fun q => (fun s : Unit => ([(0, pS (.sl 2 (l.map nodeTR))), (1, .one (.cl f [] [.bx 0 0])), (7, I l.length), (8, I q.1)], [(0, some (.box [.cl 35 [] []]))])) q.2) (fun q => l.length - q.1) hC
    (0, s) ⟨Nat.zero_le _, hs, rfl⟩ id ⟨rfl, ⟨rfl, rfl, rfl, rfl, trivial⟩, ⟨rfl, trivial⟩, rfl, fun _ _ => rfl⟩ ?_
  generalize idxR p nx l 0 s = res
  clear hs hs0
  rintro ⟨i, s⟩ ⟨hi, hv, hn⟩
  simp only at hi hv hn
  refine g_run' T hC true 200 rfl ?_
  refine g_cond rfl (fun hh => ?_) (fun hh => ?_)
  · have hlt : i < l.length := by simpa using hh
    clear hh
    obtain ⟨x, hx⟩ := exists_at hlt
    rw [drop_at hx] at hn
    simp only [idxR] at hn
    have hv2 := (hf x (List.mem_of_getElem? hx) s hv).2
    repeat' first | refine g_go T hC true 400 rfl rfl ?_ | refine g_cond rfl (fun h => ?_) (fun h => ?_) | refine g_idx T hC rfl rfl rfl (Int.natCast_nonneg _) (map_at hx) rfl rfl ?_ | refine g_callR hC (hf x (List.mem_of_getElem? hx) s hv).1 id rfl rfl (LeSs.refl _) rfl rfl rfl rfl rfl rfl rfl rfl ?_ | refine g_outR ?_
    · rw [if_pos (by assumption)] at hn
      subst hn
      exact g_fin ⟨.inl rfl, id, _, rfl, .refl _, ⟨rfl, trivial⟩, rfl, rfl⟩
    · have hpf : p x s = false := by assumption
      rw [hpf] at hn
      simp only [Bool.false_eq_true, if_false] at hn
      rw [wrap64 (by omega)]
      exact g_round (i + 1, nx x s) ⟨by simp only; omega, hv2 hpf, hn⟩ id (by simp only; omega) ⟨rfl, ⟨rfl, rfl, rfl, rfl, trivial⟩, ⟨rfl, trivial⟩, rfl, fun _ _ => rfl⟩
  · have hge : ¬ i < l.length := by simpa using hh
    rw [List.drop_eq_nil_of_le (by omega)] at hn
    simp only [idxR] at hn
    subst hn
    repeat' first | refine g_go T hC true 400 rfl rfl ?_ | refine g_cond rfl (fun h => ?_) (fun h => ?_) | refine g_outE ?_
    exact g_fin ⟨.inl rfl, id, _, rfl, .refl _, ⟨rfl, trivial⟩, rfl, rfl⟩
theorem typeW_has (f : FuncId)  (l : List NodeT) (p : NodeT → Unit → Bool) (nx : NodeT → Unit → Unit) (inv : Unit → Prop)
    (hf : ∀ x ∈ l, ∀ s : Unit, inv s → FnOK Tryz.prog f [aggS (nodeTR x), .one (.bx 0 0)] [(0, .box [.cl 35 [] []])] (.bq (p x s)) ((fun s : Unit => [(0, .box [.cl 35 [] []])]) (nx x s)) ∧ (p x s = false → inv (nx x s))) (s : Unit) (hs : inv s) :
    FnOK Tryz.prog 38 [pS (.sl 2 (l.map nodeTR)), .one (.cl f [] [.bx 0 0])] [(0, .box [.cl 35 [] []])] (.bq (anyR p nx l s).1) ((fun s : Unit => [(0, .box [.cl 35 [] []])]) (anyR p nx l s).2) := by
  refine fn_ok T Tryz.func38 (by kernel_rfl) rfl rfl rfl rfl fun C hC => ?_
  repeat' first | refine g_go T hC true 400 rfl rfl ?_ | refine g_cond rfl (fun h => ?_) (fun h => ?_) | refine g_callR hC (typeW_idx f  l p nx inv hf s hs) (nm [0]) rfl rfl (LeSs.refl _) rfl rfl rfl rfl rfl rfl rfl rfl ?_
  exact g_fin ⟨.inl rfl, id, _, rfl, .qq (anyR_1 p nx l 0 s), by rw [← anyR_2 p nx l 0 s]; exact ⟨rfl, trivial⟩, rfl, rfl⟩

theorem typeW_any (l : List NodeT) : FnOK Tryz.prog 38 [pS (.sl 2 (l.map nodeTR)), .one (.cl 39 [] [.bx 0 0])] wdR (.bq (l.any fun t => decide (100 < (t.n.size : Int)) || wdF t.f)) wdR := by
  have := typeW_has 39 l (fun t _ => decide (100 < (t.n.size : Int)) || wdF t.f) (fun _ s => s) (fun _ => True) (fun x _ s _ => ⟨big2_ok x, fun _ => trivial⟩) () trivial
  rw [anyR_no] at this
  exact this
set_option maxHeartbeats 2000000 in
theorem big_ok (d : Desc) (hB : BG d) : FnOK Tryz.prog 11 [aggS (descR d)] [] (.bq false) [] := by
  obtain ⟨hnm, htl, hgl, hpl, hml, hil, hul, hbl, hgw, htw, hpw, hmw, hiw, huw, hbw, hcnt⟩ := hB
  unfold totD at hcnt
  have cG := big1_ok d.globals
  rw [hgw] at cG
  have cT := typeW_any d.types
  rw [htw] at cT
  refine fn_ok T Tryz.func11 (by kernel_rfl) rfl rfl rfl rfl fun C hC => ?_
  repeat' first | refine g_go T hC true 400 rfl rfl ?_ | (exfalso; simp at h; done) | (exfalso; have h' := of_decide_eq_true h; (try simp only [List.length_map] at h'); omega) | refine g_cond rfl (fun h => ?_) (fun h => ?_) | refine g_splitG rfl rfl rfl (fun h => ?_) (fun h => ?_) | refine g_splitP rfl rfl (fun h => ?_) (fun h => ?_) | refine g_call hC (cG) rfl rfl (LeSs.refl _) rfl rfl rfl ?_ | refine g_callR hC (cT) (nm [1004]) rfl rfl (LeSs.refl _) rfl rfl rfl rfl rfl rfl rfl rfl ?_
  refine g_loop (fun i : Nat => i ≤ d.procs.length) (fun i => ([(1, .one (.bx 1001 0)), (3, .one (.bx 1003 0)), (4, .one (.bx 1004 0)), (72, pS (.sl 5 (d.procs.map procR))), (73, I ((d.procs.map procR).length : Nat)), (74, I (i : Nat))], [(1001, some (Res.box ((descR d).map V.p))), (1003, some (Res.box [.p (ki ((3000 - sumB (fun p : Pr => cntSs p.body) (d.procs.take i) : Nat)))])), (1004, some (Res.box [.cl 35 [] []]))])) (fun i => d.procs.length - i) hC
    0 (Nat.zero_le _) id ⟨rfl, ⟨rfl, rfl, rfl, rfl, rfl, rfl, trivial⟩, ⟨rfl, rfl, rfl, trivial⟩, rfl, fun _ _ => rfl⟩ ?_
  · intro i hi
    have hle := sumB_le (fun p : Pr => cntSs p.body) d.procs i
    by_cases hlt : i < d.procs.length
    · obtain ⟨x, hx⟩ := exists_at hlt
      have htk := sumB_take (fun p : Pr => cntSs p.body) hx
      have hle2 := sumB_le (fun p : Pr => cntSs p.body) d.procs (i + 1)
      obtain ⟨p1, p2, p3, p4, p5⟩ := hpw x (List.mem_of_getElem? hx)
      have w1 := big1_ok x.params
      rw [p3] at w1
      have w2 := big1_ok x.locs
      rw [p4] at w2
      have hR : FnOK Tryz.prog 40 [pS (stmtsP x.body), I 1, .one (.bx 0 0)] [(0, .box [.p (ki ((3000 - sumB (fun p : Pr => cntSs p.body) (d.procs.take i) : Nat)))])] (.tup []) [(0, .box [.p (ki ((3000 - sumB (fun p : Pr => cntSs p.body) (d.procs.take i) - cntSs x.body : Nat)))])] :=
        rows_ok (sizeOf x.body + 1) x.body 1 _ (Nat.lt_succ_self _) p5 (by omega) (by omega)
      repeat' first | refine g_go T hC true 400 rfl rfl ?_ | (exfalso; simp at h; done) | (exfalso; have h' := of_decide_eq_false h; (try simp only [List.length_map] at h'); omega) | (exfalso; have h' := of_decide_eq_true h; (try simp only [List.length_map] at h'); omega) | refine g_cond rfl (fun h => ?_) (fun h => ?_) | refine g_splitG rfl rfl rfl (fun h => ?_) (fun h => ?_) | refine g_splitP rfl rfl (fun h => ?_) (fun h => ?_) | refine g_idx T hC rfl rfl rfl (Int.natCast_nonneg _) (map_at hx) rfl rfl ?_ | refine g_call hC (w1) rfl rfl (LeSs.refl _) rfl rfl rfl ?_ | refine g_call hC (w2) rfl rfl (LeSs.refl _) rfl rfl rfl ?_ | refine g_callR hC (hR) (nm [1003]) rfl rfl (LeSs.refl _) rfl rfl rfl rfl rfl rfl rfl rfl ?_
      rw [wrapS (i := i) (by omega)]
      rw [show 3000 - sumB (fun p : Pr => cntSs p.body) (d.procs.take i) - cntSs x.body = 3000 - sumB (fun p : Pr => cntSs p.body) (d.procs.take (i + 1)) by omega]
      exact g_round (i + 1) hlt id (by omega) ⟨rfl, ⟨rfl, rfl, rfl, rfl, rfl, rfl, trivial⟩, ⟨rfl, rfl, rfl, trivial⟩, rfl, fun _ _ => rfl⟩
    · repeat' first | refine g_go T hC true 400 rfl rfl ?_ | (exfalso; have h' := of_decide_eq_true h; (try simp only [List.length_map] at h'); omega) | refine g_cond rfl (fun h => ?_) (fun h => ?_) | refine g_splitG rfl rfl rfl (fun h => ?_) (fun h => ?_) | refine g_splitP rfl rfl (fun h => ?_) (fun h => ?_) | refine g_outE ?_
      rw [List.take_of_length_le (show d.procs.length ≤ i by omega)]
      refine g_loop (fun i : Nat => i ≤ d.measures.length) (fun i => ([(1, .one (.bx 1001 0)), (3, .one (.bx 1003 0)), (4, .one (.bx 1004 0)), (105, pS (.sl 7 (d.measures.map measureR))), (106, I ((d.measures.map measureR).length : Nat)), (107, I (i : Nat))], [(1001, some (Res.box ((descR d).map V.p))), (1003, some (Res.box [.p (ki ((3000 - sumB (fun p : Pr => cntSs p.body) d.procs - sumB (fun m : Ms => cntE m.x) (d.measures.take i) : Nat)))])), (1004, some (Res.box [.cl 35 [] []]))])) (fun i => d.measures.length - i) hC
        0 (Nat.zero_le _) id ⟨rfl, ⟨rfl, rfl, rfl, rfl, rfl, rfl, trivial⟩, ⟨rfl, rfl, rfl, trivial⟩, rfl, fun _ _ => rfl⟩ ?_
      · intro i hi
        have hle := sumB_le (fun m : Ms => cntE m.x) d.measures i
        by_cases hlt : i < d.measures.length
        · obtain ⟨x, hx⟩ := exists_at hlt
          have htk := sumB_take (fun m : Ms => cntE m.x) hx
          have hle2 := sumB_le (fun m : Ms => cntE m.x) d.measures (i + 1)
          obtain ⟨p1, p2, p3⟩ := hmw x (List.mem_of_getElem? hx)
          have hR : FnOK Tryz.prog 41 [aggS (exprC x.x), I 1, .one (.bx 0 0)] [(0, .box [.p (ki ((3000 - sumB (fun p : Pr => cntSs p.body) d.procs - sumB (fun m : Ms => cntE m.x) (d.measures.take i) : Nat)))])] (.tup []) [(0, .box [.p (ki ((3000 - sumB (fun p : Pr => cntSs p.body) d.procs - sumB (fun m : Ms => cntE m.x) (d.measures.take i) - cntE x.x : Nat)))])] :=
            nodes_ok (sizeOf x.x + 1) x.x 1 _ (Nat.lt_succ_self _) p3 (by omega) (by omega)
          repeat' first | refine g_go T hC true 400 rfl rfl ?_ | (exfalso; simp at h; done) | (exfalso; have h' := of_decide_eq_false h; (try simp only [List.length_map] at h'); omega) | (exfalso; have h' := of_decide_eq_true h; (try simp only [List.length_map] at h'); omega) | refine g_cond rfl (fun h => ?_) (fun h => ?_) | refine g_splitG rfl rfl rfl (fun h => ?_) (fun h => ?_) | refine g_splitP rfl rfl (fun h => ?_) (fun h => ?_) | refine g_idx T hC rfl rfl rfl (Int.natCast_nonneg _) (map_at hx) rfl rfl ?_ | refine g_callR hC (hR) (nm [1003]) rfl rfl (LeSs.refl _) rfl rfl rfl rfl rfl rfl rfl rfl ?_
          rw [wrapS (i := i) (by omega)]
          rw [show 3000 - sumB (fun p : Pr => cntSs p.body) d.procs - sumB (fun m : Ms => cntE m.x) (d.measures.take i) - cntE x.x = 3000 - sumB (fun p : Pr => cntSs p.body) d.procs - sumB (fun m : Ms => cntE m.x) (d.measures.take (i + 1)) by omega]
          exact g_round (i + 1) hlt id (by omega) ⟨rfl, ⟨rfl, rfl, rfl, rfl, rfl, rfl, trivial⟩, ⟨rfl, rfl, rfl, trivial⟩, rfl, fun _ _ => rfl⟩
        · repeat' first | refine g_go T hC true 400 rfl rfl ?_ | (exfalso; have h' := of_decide_eq_true h; (try simp only [List.length_map] at h'); omega) | refine g_cond rfl (fun h => ?_) (fun h => ?_) | refine g_splitG rfl rfl rfl (fun h => ?_) (fun h => ?_) | refine g_splitP rfl rfl (fun h => ?_) (fun h => ?_) | refine g_outE ?_
          rw [List.take_of_length_le (show d.measures.length ≤ i by omega)]
          refine g_loop (fun i : Nat => i ≤ d.invs.length) (fun i => ([(1, .one (.bx 1001 0)), (3, .one (.bx 1003 0)), (4, .one (.bx 1004 0)), (126, pS (.sl 6 (d.invs.map invR))), (127, I ((d.invs.map invR).length : Nat)), (128, I (i : Nat))], [(1001, some (Res.box ((descR d).map V.p))), (1003, some (Res.box [.p (ki ((3000 - sumB (fun p : Pr => cntSs p.body) d.procs - sumB (fun m : Ms => cntE m.x) d.measures - sumB (fun m : Iv => cntE m.x) (d.invs.take i) : Nat)))])), (1004, some (Res.box [.cl 35 [] []]))])) (fun i => d.invs.length - i) hC
            0 (Nat.zero_le _) id ⟨rfl, ⟨rfl, rfl, rfl, rfl, rfl, rfl, trivial⟩, ⟨rfl, rfl, rfl, trivial⟩, rfl, fun _ _ => rfl⟩ ?_
          · intro i hi
            have hle := sumB_le (fun m : Iv => cntE m.x) d.invs i
            by_cases hlt : i < d.invs.length
            · obtain ⟨x, hx⟩ := exists_at hlt
              have htk := sumB_take (fun m : Iv => cntE m.x) hx
              have hle2 := sumB_le (fun m : Iv => cntE m.x) d.invs (i + 1)
              obtain ⟨p1, p2, p3⟩ := hiw x (List.mem_of_getElem? hx)
              have hR : FnOK Tryz.prog 41 [aggS (exprC x.x), I 1, .one (.bx 0 0)] [(0, .box [.p (ki ((3000 - sumB (fun p : Pr => cntSs p.body) d.procs - sumB (fun m : Ms => cntE m.x) d.measures - sumB (fun m : Iv => cntE m.x) (d.invs.take i) : Nat)))])] (.tup []) [(0, .box [.p (ki ((3000 - sumB (fun p : Pr => cntSs p.body) d.procs - sumB (fun m : Ms => cntE m.x) d.measures - sumB (fun m : Iv => cntE m.x) (d.invs.take i) - cntE x.x : Nat)))])] :=
                nodes_ok (sizeOf x.x + 1) x.x 1 _ (Nat.lt_succ_self _) p3 (by omega) (by omega)
              repeat' first | refine g_go T hC true 400 rfl rfl ?_ | (exfalso; simp at h; done) | (exfalso; have h' := of_decide_eq_false h; (try simp only [List.length_map] at h'); omega) | (exfalso; have h' := of_decide_eq_true h; (try simp only [List.length_map] at h'); omega) | refine g_cond rfl (fun h => ?_) (fun h => ?_) | refine g_splitG rfl rfl rfl (fun h => ?_) (fun h => ?_) | refine g_splitP rfl rfl (fun h => ?_) (fun h => ?_) | refine g_idx T hC rfl rfl rfl (Int.natCast_nonneg _) (map_at hx) rfl rfl ?_ | refine g_callR hC (hR) (nm [1003]) rfl rfl (LeSs.refl _) rfl rfl rfl rfl rfl rfl rfl rfl ?_
              rw [wrapS (i := i) (by omega)]
              rw [show 3000 - sumB (fun p : Pr => cntSs p.body) d.procs - sumB (fun m : Ms => cntE m.x) d.measures - sumB (fun m : Iv => cntE m.x) (d.invs.take i) - cntE x.x = 3000 - sumB (fun p : Pr => cntSs p.body) d.procs - sumB (fun m : Ms => cntE m.x) d.measures - sumB (fun m : Iv => cntE m.x) (d.invs.take (i + 1)) by omega]
              exact g_round (i + 1) hlt id (by omega) ⟨rfl, ⟨rfl, rfl, rfl, rfl, rfl, rfl, trivial⟩, ⟨rfl, rfl, rfl, trivial⟩, rfl, fun _ _ => rfl⟩
            · repeat' first | refine g_go T hC true 400 rfl rfl ?_ | (exfalso; have h' := of_decide_eq_true h; (try simp only [List.length_map] at h'); omega) | refine g_cond rfl (fun h => ?_) (fun h => ?_) | refine g_splitG rfl rfl rfl (fun h => ?_) (fun h => ?_) | refine g_splitP rfl rfl (fun h => ?_) (fun h => ?_) | refine g_outE ?_
              rw [List.take_of_length_le (show d.invs.length ≤ i by omega)]
              refine g_loop (fun i : Nat => i ≤ d.pots.length) (fun i => ([(1, .one (.bx 1001 0)), (3, .one (.bx 1003 0)), (4, .one (.bx 1004 0)), (147, pS (.sl 5 (d.pots.map potR))), (148, I ((d.pots.map potR).length : Nat)), (149, I (i : Nat))], [(1001, some (Res.box ((descR d).map V.p))), (1003, some (Res.box [.p (ki ((3000 - sumB (fun p : Pr => cntSs p.body) d.procs - sumB (fun m : Ms => cntE m.x) d.measures - sumB (fun m : Iv => cntE m.x) d.invs - sumB (fun m : Pt => cntE m.x) (d.pots.take i) : Nat)))])), (1004, some (Res.box [.cl 35 [] []]))])) (fun i => d.pots.length - i) hC
                0 (Nat.zero_le _) id ⟨rfl, ⟨rfl, rfl, rfl, rfl, rfl, rfl, trivial⟩, ⟨rfl, rfl, rfl, trivial⟩, rfl, fun _ _ => rfl⟩ ?_
              · intro i hi
                have hle := sumB_le (fun m : Pt => cntE m.x) d.pots i
                by_cases hlt : i < d.pots.length
                · obtain ⟨x, hx⟩ := exists_at hlt
                  have htk := sumB_take (fun m : Pt => cntE m.x) hx
                  have hle2 := sumB_le (fun m : Pt => cntE m.x) d.pots (i + 1)
                  obtain ⟨p1, p2⟩ := huw x (List.mem_of_getElem? hx)
                  have hR : FnOK Tryz.prog 41 [aggS (exprC x.x), I 1, .one (.bx 0 0)] [(0, .box [.p (ki ((3000 - sumB (fun p : Pr => cntSs p.body) d.procs - sumB (fun m : Ms => cntE m.x) d.measures - sumB (fun m : Iv => cntE m.x) d.invs - sumB (fun m : Pt => cntE m.x) (d.pots.take i) : Nat)))])] (.tup []) [(0, .box [.p (ki ((3000 - sumB (fun p : Pr => cntSs p.body) d.procs - sumB (fun m : Ms => cntE m.x) d.measures - sumB (fun m : Iv => cntE m.x) d.invs - sumB (fun m : Pt => cntE m.x) (d.pots.take i) - cntE x.x : Nat)))])] :=
                    nodes_ok (sizeOf x.x + 1) x.x 1 _ (Nat.lt_succ_self _) p2 (by omega) (by omega)
                  repeat' first | refine g_go T hC true 400 rfl rfl ?_ | (exfalso; simp at h; done) | (exfalso; have h' := of_decide_eq_false h; (try simp only [List.length_map] at h'); omega) | (exfalso; have h' := of_decide_eq_true h; (try simp only [List.length_map] at h'); omega) | refine g_cond rfl (fun h => ?_) (fun h => ?_) | refine g_splitG rfl rfl rfl (fun h => ?_) (fun h => ?_) | refine g_splitP rfl rfl (fun h => ?_) (fun h => ?_) | refine g_idx T hC rfl rfl rfl (Int.natCast_nonneg _) (map_at hx) rfl rfl ?_ | refine g_callR hC (hR) (nm [1003]) rfl rfl (LeSs.refl _) rfl rfl rfl rfl rfl rfl rfl rfl ?_
                  rw [wrapS (i := i) (by omega)]
                  rw [show 3000 - sumB (fun p : Pr => cntSs p.body) d.procs - sumB (fun m : Ms => cntE m.x) d.measures - sumB (fun m : Iv => cntE m.x) d.invs - sumB (fun m : Pt => cntE m.x) (d.pots.take i) - cntE x.x = 3000 - sumB (fun p : Pr => cntSs p.body) d.procs - sumB (fun m : Ms => cntE m.x) d.measures - sumB (fun m : Iv => cntE m.x) d.invs - sumB (fun m : Pt => cntE m.x) (d.pots.take (i + 1)) by omega]
                  exact g_round (i + 1) hlt id (by omega) ⟨rfl, ⟨rfl, rfl, rfl, rfl, rfl, rfl, trivial⟩, ⟨rfl, rfl, rfl, trivial⟩, rfl, fun _ _ => rfl⟩
                · repeat' first | refine g_go T hC true 400 rfl rfl ?_ | (exfalso; have h' := of_decide_eq_true h; (try simp only [List.length_map] at h'); omega) | refine g_cond rfl (fun h => ?_) (fun h => ?_) | refine g_splitG rfl rfl rfl (fun h => ?_) (fun h => ?_) | refine g_splitP rfl rfl (fun h => ?_) (fun h => ?_) | refine g_outE ?_
                  rw [List.take_of_length_le (show d.pots.length ≤ i by omega)]
                  refine g_loop (fun i : Nat => i ≤ d.bounds.length) (fun i => ([(1, .one (.bx 1001 0)), (3, .one (.bx 1003 0)), (4, .one (.bx 1004 0)), (162, pS (.sl 5 (d.bounds.map boundR))), (163, I ((d.bounds.map boundR).length : Nat)), (164, I (i : Nat))], [(1001, some (Res.box ((descR d).map V.p))), (1003, some (Res.box [.p (ki ((3000 - sumB (fun p : Pr => cntSs p.body) d.procs - sumB (fun m : Ms => cntE m.x) d.measures - sumB (fun m : Iv => cntE m.x) d.invs - sumB (fun m : Pt => cntE m.x) d.pots - sumB (fun m : Bd => cntE m.x) (d.bounds.take i) : Nat)))])), (1004, some (Res.box [.cl 35 [] []]))])) (fun i => d.bounds.length - i) hC
                    0 (Nat.zero_le _) id ⟨rfl, ⟨rfl, rfl, rfl, rfl, rfl, rfl, trivial⟩, ⟨rfl, rfl, rfl, trivial⟩, rfl, fun _ _ => rfl⟩ ?_
                  · intro i hi
                    have hle := sumB_le (fun m : Bd => cntE m.x) d.bounds i
                    by_cases hlt : i < d.bounds.length
                    · obtain ⟨x, hx⟩ := exists_at hlt
                      have htk := sumB_take (fun m : Bd => cntE m.x) hx
                      have hle2 := sumB_le (fun m : Bd => cntE m.x) d.bounds (i + 1)
                      obtain ⟨p1, p2⟩ := hbw x (List.mem_of_getElem? hx)
                      have hR : FnOK Tryz.prog 41 [aggS (exprC x.x), I 1, .one (.bx 0 0)] [(0, .box [.p (ki ((3000 - sumB (fun p : Pr => cntSs p.body) d.procs - sumB (fun m : Ms => cntE m.x) d.measures - sumB (fun m : Iv => cntE m.x) d.invs - sumB (fun m : Pt => cntE m.x) d.pots - sumB (fun m : Bd => cntE m.x) (d.bounds.take i) : Nat)))])] (.tup []) [(0, .box [.p (ki ((3000 - sumB (fun p : Pr => cntSs p.body) d.procs - sumB (fun m : Ms => cntE m.x) d.measures - sumB (fun m : Iv => cntE m.x) d.invs - sumB (fun m : Pt => cntE m.x) d.pots - sumB (fun m : Bd => cntE m.x) (d.bounds.take i) - cntE x.x : Nat)))])] :=
                        nodes_ok (sizeOf x.x + 1) x.x 1 _ (Nat.lt_succ_self _) p2 (by omega) (by omega)
                      repeat' first | refine g_go T hC true 400 rfl rfl ?_ | (exfalso; simp at h; done) | (exfalso; have h' := of_decide_eq_false h; (try simp only [List.length_map] at h'); omega) | (exfalso; have h' := of_decide_eq_true h; (try simp only [List.length_map] at h'); omega) | refine g_cond rfl (fun h => ?_) (fun h => ?_) | refine g_splitG rfl rfl rfl (fun h => ?_) (fun h => ?_) | refine g_splitP rfl rfl (fun h => ?_) (fun h => ?_) | refine g_idx T hC rfl rfl rfl (Int.natCast_nonneg _) (map_at hx) rfl rfl ?_ | refine g_callR hC (hR) (nm [1003]) rfl rfl (LeSs.refl _) rfl rfl rfl rfl rfl rfl rfl rfl ?_
                      rw [wrapS (i := i) (by omega)]
                      rw [show 3000 - sumB (fun p : Pr => cntSs p.body) d.procs - sumB (fun m : Ms => cntE m.x) d.measures - sumB (fun m : Iv => cntE m.x) d.invs - sumB (fun m : Pt => cntE m.x) d.pots - sumB (fun m : Bd => cntE m.x) (d.bounds.take i) - cntE x.x = 3000 - sumB (fun p : Pr => cntSs p.body) d.procs - sumB (fun m : Ms => cntE m.x) d.measures - sumB (fun m : Iv => cntE m.x) d.invs - sumB (fun m : Pt => cntE m.x) d.pots - sumB (fun m : Bd => cntE m.x) (d.bounds.take (i + 1)) by omega]
                      exact g_round (i + 1) hlt id (by omega) ⟨rfl, ⟨rfl, rfl, rfl, rfl, rfl, rfl, trivial⟩, ⟨rfl, rfl, rfl, trivial⟩, rfl, fun _ _ => rfl⟩
                    · repeat' first | refine g_go T hC true 400 rfl rfl ?_ | (exfalso; have h' := of_decide_eq_true h; (try simp only [List.length_map] at h'); omega) | refine g_cond rfl (fun h => ?_) (fun h => ?_) | refine g_splitG rfl rfl rfl (fun h => ?_) (fun h => ?_) | refine g_splitP rfl rfl (fun h => ?_) (fun h => ?_) | refine g_outE ?_ | refine g_retq T (.inl rfl) rfl ?_
                      exact decide_eq_false (by omega)
end Hw.Pa
namespace Hw.Pa
open Go Go.Proofs Hw.M

theorem RK.mkd {α : Type} {f : FuncId} {args : List S} {enc : α → S} {r : PA α} (z : α) (h : ∀ (b : Bool) (x : α) (j : Nat), r = pab x j b → ∃ y, (b = true → y = x) ∧ FnOK Tryz.prog f args [] (.tup [enc y, I (j : Nat), Bo b]) []) : RK f args enc r :=
  ⟨fun x j e => by obtain ⟨y, h1, h2⟩ := h true x j e; rw [h1 rfl] at h2; exact h2, fun j e => by obtain ⟨y, _, h2⟩ := h false z j e; exact ⟨y, h2⟩⟩
abbrev S0 : Sm := .mk 0 (⟨#[]⟩ : ByteArray) [] [] []
abbrev enS (s : Sm) : S := aggS (stmtC s)
structure SR (l : List Tok) (f : Nat) : Prop where
  blk : ∀ i, i < l.length → RK0 150 [pS (toksP l), I (i : Nat)] (fun a => pS (stmtsP a)) [] (stmtsA l f i [])
  brc : ∀ i, i < l.length → RK0 186 [pS (toksP l), I (i : Nat)] (fun a => pS (stmtsP a)) [] (blockA l f i)
  stm : ∀ i, i < l.length → RK 167 [pS (toksP l), I (i : Nat)] enS (stmtA l f i)
section
variable {l : List Tok} (hl : GoodL l)
include hl
theorem blockA_rg (f i : Nat) (hi : i < l.length) : RA l (blockA l f i) := by rw [← (er_stmt f).2.1]; exact .er ((stmt_rg hl f).2.1 i hi)
theorem stmtA_rg (f i : Nat) (hi : i < l.length) : RA l (stmtA l f i) := by rw [← (er_stmt f).2.2]; exact .er ((stmt_rg hl f).2.2 i hi)
theorem rended_y (a b c d e : PV) {k : Nat} (h : isA l k (⟨#[59]⟩ : ByteArray) = true) : FnOK Tryz.prog 187 [pS (toksP l), aggS [a, b, c, d, e], I (k : Nat), Bo true] [] (.tup [aggS [a, b, c, d, e], I ((k + 1 : Nat)), Bo true]) [] := by
  refine fn_ok T Tryz.func187 (by kernel_rfl) rfl rfl rfl rfl fun C hC => ?_
  repeat' first | refine g_go T hC true 400 rfl rfl ?_ | (exfalso; simp at h; done) | refine g_cond rfl (fun h => ?_) (fun h => ?_) | refine g_call hC ((rone_y hl h)) rfl rfl (LeSs.refl _) rfl rfl rfl ?_ | refine g_retl T (.inl rfl) rfl ?_
  exact g_fin ⟨.inl rfl, id, _, rfl, .refl _, trivial, rfl, rfl⟩
theorem rended_n (a b c d e : PV) {k : Nat} (hk : k < l.length) (h : ¬ isA l k (⟨#[59]⟩ : ByteArray) = true) : FnOK Tryz.prog 187 [pS (toksP l), aggS [a, b, c, d, e], I (k : Nat), Bo true] [] (.tup [aggS [a, b, c, d, e], I (k : Nat), Bo false]) [] := by
  refine fn_ok T Tryz.func187 (by kernel_rfl) rfl rfl rfl rfl fun C hC => ?_
  repeat' first | refine g_go T hC true 400 rfl rfl ?_ | (exfalso; simp at h; done) | refine g_cond rfl (fun h => ?_) (fun h => ?_) | refine g_call hC ((rone_n hl hk h)) rfl rfl (LeSs.refl _) rfl rfl rfl ?_ | refine g_retl T (.inl rfl) rfl ?_
  exact g_fin ⟨.inl rfl, id, _, rfl, .refl _, trivial, rfl, rfl⟩
theorem rended_b (a b c d e : PV) (k : Nat) : FnOK Tryz.prog 187 [pS (toksP l), aggS [a, b, c, d, e], I (k : Nat), Bo false] [] (.tup [enS S0, I (k : Nat), Bo false]) [] := by
  have _ := hl
  refine fn_ok T Tryz.func187 (by kernel_rfl) rfl rfl rfl rfl fun C hC => ?_
  repeat' first | refine g_go T hC true 400 rfl rfl ?_ | (exfalso; simp at h; done) | refine g_cond rfl (fun h => ?_) (fun h => ?_) | refine g_retl T (.inl rfl) rfl ?_
  exact g_fin ⟨.inl rfl, id, _, rfl, .tup (.cons (.agg (.cons (.refl _) (.cons (.refl _) (.cons (.nil 4) (.cons (.nil 5) (.cons (.nil 5) .nil)))))) (.cons (.refl _) (.cons (.refl _) .nil))), trivial, rfl, rfl⟩
theorem rblock_step (f : Nat) (ih : ∀ g, g ≤ f → SR l g) (i : Nat) (hi : i < l.length) : RK0 150 [pS (toksP l), I (i : Nat)] (fun a => pS (stmtsP a)) [] (stmtsA l (f + 1) i []) := by
  refine .mk fun xf jf bf hR hz => ?_
  have hll := hl.len
  refine fn_ok T Tryz.func150 (by kernel_rfl) rfl rfl rfl rfl fun C hC => ?_
  repeat' first | refine g_go T hC true 400 rfl rfl ?_ | refine g_cond rfl (fun h => ?_) (fun h => ?_)
  refine g_adopt hC rfl 101 5 rfl [(7, .one (.ar 101))] ⟨⟨_, rfl, AdS.nil⟩, trivial⟩ [] trivial ?_
  refine g_loop (fun q : List Sm × Nat × Nat => q.2.1 < l.length ∧ q.2.2 ≤ f + 1 ∧ q.1.length ≤ q.2.1 ∧ stmtsA l q.2.2 q.2.1 q.1 = pab xf jf bf)
    (fun q => ([(0, pS (toksP l)), (1, I (q.2.1 : Nat)), (7, .one (.ar 101))], [(101, some (Res.arr 5 (q.1.map stmtR)))])) (fun q => q.2.2) hC
    ([], i, f + 1) ⟨hi, Nat.le_refl _, Nat.zero_le _, hR⟩ id ⟨rfl, ⟨rfl, rfl, rfl, trivial⟩, ⟨rfl, trivial⟩, rfl, fun _ _ => rfl⟩ ?_
  clear hR hi
  rintro ⟨acc, k, g⟩ ⟨hk, hgf, hak, hd⟩
  simp only at hk hgf hak hd
  have hal : (acc.map stmtR).length = acc.length := List.length_map _
  obtain ⟨t, ht⟩ := exists_at hk
  cases g with
  | zero => simp only [stmtsA] at hd; exact (pab_out hd).elim
  | succ g =>
    simp only [stmtsA] at hd
    by_cases hs : isA l k ⟨#[125]⟩ = true
    · rw [if_pos hs] at hd
      obtain ⟨rfl, rfl, rfl⟩ := pab_ok hd
      repeat' first | refine g_go T hC true 400 rfl rfl ?_ | (exfalso; simp at h; done) | refine g_cond rfl (fun h => ?_) (fun h => ?_) | refine g_idx T hC rfl rfl rfl (Int.natCast_nonneg _) (map_at ht) rfl rfl ?_ | refine g_call hC ((rIs_y ht hs)) rfl rfl (LeSs.refl _) rfl rfl rfl ?_ | refine g_outE ?_ | refine g_retl T (.inl rfl) rfl ?_
      rw [wrapS (i := k) (by omega)]
      refine g_freeze rfl (id := 101) (e := 5) (rows := xf.map stmtR) rfl [(4, pS (stmtsP xf))] ⟨⟨_, rfl, FrS.ar⟩, trivial⟩ [] trivial ?_
      exact g_fin ⟨.inl rfl, id, _, rfl, .refl _, trivial, rfl, rfl⟩
    · rw [if_neg hs] at hd
      rcases RK.at ((ih g (by omega)).stm k hk) hd with ⟨y, k2, hy, hd2, hE⟩ | ⟨_, rfl, z, hE⟩
      · have hk2 := (stmtA_rg hl g k hk).1 _ _ hy
        have hkk := ((stmt_fwd g).2.2 _ _ _ hy).1
        have hal' : (acc ++ [y]).length = acc.length + 1 := by simp
        repeat' first | refine g_go T hC true 400 rfl rfl ?_ | (exfalso; simp at h; done) | refine g_cond rfl (fun h => ?_) (fun h => ?_) | refine g_idx T hC rfl rfl rfl (Int.natCast_nonneg _) (map_at ht) rfl rfl ?_ | refine g_call hC ((rIs_n ht hs)) rfl rfl (LeSs.refl _) rfl rfl rfl ?_ | refine g_call hC (hE) rfl rfl (LeSs.refl _) rfl rfl rfl ?_ | refine g_lit T hC (rows := [stmtR y]) rfl rfl rfl (by simp only [stmtR_eq]; rfl) rfl rfl rfl rfl rfl ?_ | (refine g_append T 102 hC (rows := acc.map stmtR) (rows2 := [stmtR y]) (rows3 := (acc ++ [y]).map stmtR) (bytes := 96) rfl rfl rfl rfl (SrcS.sl (T.es_ok _ _ rfl)) (by rw [List.map_append]; rfl) rfl rfl rfl (by kernel_rfl) (by rw [hal, List.length_singleton]; omega) (by rw [hal, List.length_singleton]; omega) rfl rfl rfl ?_)
        exact g_round (acc ++ [y], k2, g) ⟨hk2, by simp only; omega, by simp only; omega, hd2⟩ (mvP 101 102) (Nat.lt_succ_self _) ⟨rfl, ⟨rfl, rfl, rfl, trivial⟩, ⟨rfl, trivial⟩, rfl, fun i hi => mvP_low (by omega) hi⟩
      · rw [hz rfl]
        repeat' first | refine g_go T hC true 400 rfl rfl ?_ | (exfalso; simp at h; done) | refine g_cond rfl (fun h => ?_) (fun h => ?_) | refine g_idx T hC rfl rfl rfl (Int.natCast_nonneg _) (map_at ht) rfl rfl ?_ | refine g_call hC ((rIs_n ht hs)) rfl rfl (LeSs.refl _) rfl rfl rfl ?_ | refine g_call hC (hE) rfl rfl (LeSs.refl _) rfl rfl rfl ?_ | refine g_retl T (.inl rfl) rfl ?_ | refine g_outR ?_
        exact g_fin ⟨.inl rfl, id, _, rfl, .tup (.cons (.one (.nil 5)) (.cons (.refl _) (.cons (.refl _) .nil))), trivial, rfl, rfl⟩
theorem rbraced_step (f : Nat) (ih : ∀ g, g ≤ f → SR l g) (i : Nat) (hi : i < l.length) : RK0 186 [pS (toksP l), I (i : Nat)] (fun a => pS (stmtsP a)) [] (blockA l (f + 1) i) := by
  refine .mk fun xf jf bf hR hz => ?_
  simp only [blockA] at hR
  unfold oneA at hR
  by_cases hs : isA l i ⟨#[123]⟩ = true
  · rw [if_pos hs] at hR
    have hB := ((ih f (Nat.le_refl _)).blk (i + 1) (isA_next hl hs)).fin hR hz
    refine fn_ok T Tryz.func186 (by kernel_rfl) rfl rfl rfl rfl fun C hC => ?_
    repeat' first | refine g_go T hC true 400 rfl rfl ?_ | (exfalso; simp at h; done) | refine g_cond rfl (fun h => ?_) (fun h => ?_) | refine g_call hC ((rone_y hl hs)) rfl rfl (LeSs.refl _) rfl rfl rfl ?_ | refine g_call hC (hB) rfl rfl (LeSs.refl _) rfl rfl rfl ?_ | refine g_retl T (.inl rfl) rfl ?_
    exact g_fin ⟨.inl rfl, id, _, rfl, .refl _, trivial, rfl, rfl⟩
  · rw [if_neg hs] at hR
    obtain ⟨rfl, rfl⟩ := pab_no hR
    rw [hz rfl]
    refine fn_ok T Tryz.func186 (by kernel_rfl) rfl rfl rfl rfl fun C hC => ?_
    repeat' first | refine g_go T hC true 400 rfl rfl ?_ | (exfalso; simp at h; done) | refine g_cond rfl (fun h => ?_) (fun h => ?_) | refine g_call hC ((rone_n hl hi hs)) rfl rfl (LeSs.refl _) rfl rfl rfl ?_ | refine g_retl T (.inl rfl) rfl ?_
    exact g_fin ⟨.inl rfl, id, _, rfl, .tup (.cons (.one (.nil 5)) (.cons (.refl _) (.cons (.refl _) .nil))), trivial, rfl, rfl⟩
set_option maxHeartbeats 1000000 in
theorem rstmt_step (f : Nat) (ih : ∀ g, g ≤ f → SR l g) (i : Nat) (hi : i < l.length) : RK 167 [pS (toksP l), I (i : Nat)] enS (stmtA l (f + 1) i) := by
  refine .mkd S0 fun bf xf jf hR => ?_
  have hll := hl.len
  have hS := ih f (Nat.le_refl _)
  obtain ⟨t, ht⟩ := exists_at hi
  simp only [stmtA] at hR
  by_cases h1 : isA l i (⟨#[105, 102]⟩ : ByteArray) = true
  · rw [if_pos h1] at hR
    have hNW : ¬ isA l i (⟨#[119, 104, 105, 108, 101]⟩ : ByteArray) = true := fun h => absurd (isA_two h1 h) (by decide)
    have hi1 := isA_next hl h1
    have hw : IntKind.i64.wrap ((i : Int) + 1) = ((i + 1 : Nat) : Int) := wrapS (by omega)
    have hX := rExpr_ok hl (er_all hl f) (i + 1) hi1
    rw [← hw] at hX
    rcases RK0.at hX hR with ⟨x, k, hx, hd, hE⟩ | ⟨_, rfl, hE⟩
    rotate_left
    · refine ⟨S0, (fun h => by cases h), ?_⟩
      refine fn_ok T Tryz.func167 (by kernel_rfl) rfl rfl rfl rfl fun C hC => ?_
      repeat' first | refine g_go T hC true 400 rfl rfl ?_ | (exfalso; simp at h; done) | refine g_cond rfl (fun h => ?_) (fun h => ?_) | refine g_end T hC (by kernel_rfl) ?_ | refine g_splitD (fun h => ?_) (fun h => ?_) | refine g_splitG rfl rfl rfl (fun h => ?_) (fun h => ?_) | refine g_splitP rfl rfl (fun h => ?_) (fun h => ?_) | refine g_idx T hC rfl rfl rfl (Int.natCast_nonneg _) (map_at ht) rfl rfl ?_ | refine g_call hC ((rIs_y ht h1)) rfl rfl (LeSs.refl _) rfl rfl rfl ?_ | refine g_call hC ((rIs_n ht hNW)) rfl rfl (LeSs.refl _) rfl rfl rfl ?_ | refine g_call hC (hE) rfl rfl (LeSs.refl _) rfl rfl rfl ?_ | refine g_retl T (.inl rfl) rfl ?_
      exact g_fin ⟨.inl rfl, id, _, rfl, .tup (.cons (.agg (.cons (.refl _) (.cons (.refl _) (.cons (.nil 4) (.cons (.nil 5) (.cons (.nil 5) .nil)))))) (.cons (.refl _) (.cons (.refl _) .nil))), trivial, rfl, rfl⟩
    have hk := (exprA_rg hl f 0 (i + 1) hi1).1 _ _ hx
    rcases RK0.at (hS.brc k hk) hd with ⟨a, k2, ha, hd2, hB⟩ | ⟨_, rfl, hB⟩
    rotate_left
    · refine ⟨S0, (fun h => by cases h), ?_⟩
      refine fn_ok T Tryz.func167 (by kernel_rfl) rfl rfl rfl rfl fun C hC => ?_
      repeat' first | refine g_go T hC true 400 rfl rfl ?_ | (exfalso; simp at h; done) | refine g_cond rfl (fun h => ?_) (fun h => ?_) | refine g_end T hC (by kernel_rfl) ?_ | refine g_splitD (fun h => ?_) (fun h => ?_) | refine g_splitG rfl rfl rfl (fun h => ?_) (fun h => ?_) | refine g_splitP rfl rfl (fun h => ?_) (fun h => ?_) | refine g_idx T hC rfl rfl rfl (Int.natCast_nonneg _) (map_at ht) rfl rfl ?_ | refine g_call hC ((rIs_y ht h1)) rfl rfl (LeSs.refl _) rfl rfl rfl ?_ | refine g_call hC ((rIs_n ht hNW)) rfl rfl (LeSs.refl _) rfl rfl rfl ?_ | refine g_call hC (hE) rfl rfl (LeSs.refl _) rfl rfl rfl ?_ | refine g_lit T hC (rows := [exprR x]) rfl rfl rfl (by simp only [exprR_eq]; rfl) rfl rfl rfl rfl rfl ?_ | refine g_call hC (hB) rfl rfl (LeSs.refl _) rfl rfl rfl ?_ | refine g_retl T (.inl rfl) rfl ?_
      exact g_fin ⟨.inl rfl, id, _, rfl, .tup (.cons (.agg (.cons (.refl _) (.cons (.refl _) (.cons (.nil 4) (.cons (.nil 5) (.cons (.nil 5) .nil)))))) (.cons (.refl _) (.cons (.refl _) .nil))), trivial, rfl, rfl⟩
    have hk2 := (blockA_rg hl f k hk).1 _ _ ha
    obtain ⟨u, hu⟩ := exists_at hk2
    by_cases hs : isA l k2 (⟨#[101, 108, 115, 101]⟩ : ByteArray) = true
    · rw [if_pos hs] at hd2
      have hk3 := isA_next hl hs
      have hB2 := hS.brc (k2 + 1) hk3
      rw [← wrapS (i := k2) (by omega)] at hB2
      rcases RK0.at hB2 hd2 with ⟨c, k4, hc, hd3, hB3⟩ | ⟨_, rfl, hB3⟩
      · obtain ⟨rfl, rfl, rfl⟩ := pab_ok hd3
        refine ⟨_, fun _ => rfl, ?_⟩
        refine fn_ok T Tryz.func167 (by kernel_rfl) rfl rfl rfl rfl fun C hC => ?_
        repeat' first | refine g_go T hC true 400 rfl rfl ?_ | (exfalso; simp at h; done) | refine g_cond rfl (fun h => ?_) (fun h => ?_) | refine g_end T hC (by kernel_rfl) ?_ | refine g_splitD (fun h => ?_) (fun h => ?_) | refine g_splitG rfl rfl rfl (fun h => ?_) (fun h => ?_) | refine g_splitP rfl rfl (fun h => ?_) (fun h => ?_) | refine g_idx T hC rfl rfl rfl (Int.natCast_nonneg _) (map_at ht) rfl rfl ?_ | refine g_call hC ((rIs_y ht h1)) rfl rfl (LeSs.refl _) rfl rfl rfl ?_ | refine g_call hC ((rIs_n ht hNW)) rfl rfl (LeSs.refl _) rfl rfl rfl ?_ | refine g_call hC (hE) rfl rfl (LeSs.refl _) rfl rfl rfl ?_ | refine g_lit T hC (rows := [exprR x]) rfl rfl rfl (by simp only [exprR_eq]; rfl) rfl rfl rfl rfl rfl ?_ | refine g_call hC (hB) rfl rfl (LeSs.refl _) rfl rfl rfl ?_ | refine g_idx T hC rfl rfl rfl (Int.natCast_nonneg _) (map_at hu) rfl rfl ?_ | refine g_call hC ((rIs_y hu hs)) rfl rfl (LeSs.refl _) rfl rfl rfl ?_ | refine g_call hC (hB3) rfl rfl (LeSs.refl _) rfl rfl rfl ?_ | refine g_retl T (.inl rfl) rfl ?_
        exact g_fin ⟨.inl rfl, id, _, rfl, .tup (.cons (.agg (.cons (.refl _) (.cons (.refl _) (.cons (.refl _) (.cons (.refl _) (.cons (.refl _) .nil)))))) (.cons (.refl _) (.cons (.refl _) .nil))), trivial, rfl, rfl⟩
      · refine ⟨.mk 3 (⟨#[]⟩ : ByteArray) [x] a [], (fun h => by cases h), ?_⟩
        refine fn_ok T Tryz.func167 (by kernel_rfl) rfl rfl rfl rfl fun C hC => ?_
        repeat' first | refine g_go T hC true 400 rfl rfl ?_ | (exfalso; simp at h; done) | refine g_cond rfl (fun h => ?_) (fun h => ?_) | refine g_end T hC (by kernel_rfl) ?_ | refine g_splitD (fun h => ?_) (fun h => ?_) | refine g_splitG rfl rfl rfl (fun h => ?_) (fun h => ?_) | refine g_splitP rfl rfl (fun h => ?_) (fun h => ?_) | refine g_idx T hC rfl rfl rfl (Int.natCast_nonneg _) (map_at ht) rfl rfl ?_ | refine g_call hC ((rIs_y ht h1)) rfl rfl (LeSs.refl _) rfl rfl rfl ?_ | refine g_call hC ((rIs_n ht hNW)) rfl rfl (LeSs.refl _) rfl rfl rfl ?_ | refine g_call hC (hE) rfl rfl (LeSs.refl _) rfl rfl rfl ?_ | refine g_lit T hC (rows := [exprR x]) rfl rfl rfl (by simp only [exprR_eq]; rfl) rfl rfl rfl rfl rfl ?_ | refine g_call hC (hB) rfl rfl (LeSs.refl _) rfl rfl rfl ?_ | refine g_idx T hC rfl rfl rfl (Int.natCast_nonneg _) (map_at hu) rfl rfl ?_ | refine g_call hC ((rIs_y hu hs)) rfl rfl (LeSs.refl _) rfl rfl rfl ?_ | refine g_call hC (hB3) rfl rfl (LeSs.refl _) rfl rfl rfl ?_ | refine g_retl T (.inl rfl) rfl ?_
        exact g_fin ⟨.inl rfl, id, _, rfl, .tup (.cons (.agg (.cons (.refl _) (.cons (.refl _) (.cons (.refl _) (.cons (.refl _) (.cons (.refl _) .nil)))))) (.cons (.refl _) (.cons (.refl _) .nil))), trivial, rfl, rfl⟩
    · rw [if_neg hs] at hd2
      obtain ⟨rfl, rfl, rfl⟩ := pab_ok hd2
      refine ⟨_, fun _ => rfl, ?_⟩
      refine fn_ok T Tryz.func167 (by kernel_rfl) rfl rfl rfl rfl fun C hC => ?_
      repeat' first | refine g_go T hC true 400 rfl rfl ?_ | (exfalso; simp at h; done) | refine g_cond rfl (fun h => ?_) (fun h => ?_) | refine g_end T hC (by kernel_rfl) ?_ | refine g_splitD (fun h => ?_) (fun h => ?_) | refine g_splitG rfl rfl rfl (fun h => ?_) (fun h => ?_) | refine g_splitP rfl rfl (fun h => ?_) (fun h => ?_) | refine g_idx T hC rfl rfl rfl (Int.natCast_nonneg _) (map_at ht) rfl rfl ?_ | refine g_call hC ((rIs_y ht h1)) rfl rfl (LeSs.refl _) rfl rfl rfl ?_ | refine g_call hC ((rIs_n ht hNW)) rfl rfl (LeSs.refl _) rfl rfl rfl ?_ | refine g_call hC (hE) rfl rfl (LeSs.refl _) rfl rfl rfl ?_ | refine g_lit T hC (rows := [exprR x]) rfl rfl rfl (by simp only [exprR_eq]; rfl) rfl rfl rfl rfl rfl ?_ | refine g_call hC (hB) rfl rfl (LeSs.refl _) rfl rfl rfl ?_ | refine g_idx T hC rfl rfl rfl (Int.natCast_nonneg _) (map_at hu) rfl rfl ?_ | refine g_call hC ((rIs_n hu hs)) rfl rfl (LeSs.refl _) rfl rfl rfl ?_ | refine g_retl T (.inl rfl) rfl ?_
      exact g_fin ⟨.inl rfl, id, _, rfl, .tup (.cons (.agg (.cons (.refl _) (.cons (.refl _) (.cons (.refl _) (.cons (.refl _) (.cons (.nil 5) .nil)))))) (.cons (.refl _) (.cons (.refl _) .nil))), trivial, rfl, rfl⟩
  rw [if_neg h1] at hR
  by_cases h1w : isA l i (⟨#[119, 104, 105, 108, 101]⟩ : ByteArray) = true
  · rw [if_pos h1w] at hR
    have hi1 := isA_next hl h1w
    have hw : IntKind.i64.wrap ((i : Int) + 1) = ((i + 1 : Nat) : Int) := wrapS (by omega)
    have hX := rExpr_ok hl (er_all hl f) (i + 1) hi1
    rw [← hw] at hX
    rcases RK0.at hX hR with ⟨x, k, hx, hd, hE⟩ | ⟨_, rfl, hE⟩
    rotate_left
    · refine ⟨S0, (fun h => by cases h), ?_⟩
      refine fn_ok T Tryz.func167 (by kernel_rfl) rfl rfl rfl rfl fun C hC => ?_
      repeat' first | refine g_go T hC true 400 rfl rfl ?_ | (exfalso; simp at h; done) | refine g_cond rfl (fun h => ?_) (fun h => ?_) | refine g_end T hC (by kernel_rfl) ?_ | refine g_splitD (fun h => ?_) (fun h => ?_) | refine g_splitG rfl rfl rfl (fun h => ?_) (fun h => ?_) | refine g_splitP rfl rfl (fun h => ?_) (fun h => ?_) | refine g_idx T hC rfl rfl rfl (Int.natCast_nonneg _) (map_at ht) rfl rfl ?_ | refine g_call hC ((rIs_n ht h1)) rfl rfl (LeSs.refl _) rfl rfl rfl ?_ | refine g_call hC ((rIs_y ht h1w)) rfl rfl (LeSs.refl _) rfl rfl rfl ?_ | refine g_call hC (hE) rfl rfl (LeSs.refl _) rfl rfl rfl ?_ | refine g_retl T (.inl rfl) rfl ?_
      exact g_fin ⟨.inl rfl, id, _, rfl, .tup (.cons (.agg (.cons (.refl _) (.cons (.refl _) (.cons (.nil 4) (.cons (.nil 5) (.cons (.nil 5) .nil)))))) (.cons (.refl _) (.cons (.refl _) .nil))), trivial, rfl, rfl⟩
    have hk := (exprA_rg hl f 0 (i + 1) hi1).1 _ _ hx
    rcases RK0.at (hS.brc k hk) hd with ⟨a, k2, ha, hd2, hB⟩ | ⟨_, rfl, hB⟩
    rotate_left
    · refine ⟨S0, (fun h => by cases h), ?_⟩
      refine fn_ok T Tryz.func167 (by kernel_rfl) rfl rfl rfl rfl fun C hC => ?_
      repeat' first | refine g_go T hC true 400 rfl rfl ?_ | (exfalso; simp at h; done) | refine g_cond rfl (fun h => ?_) (fun h => ?_) | refine g_end T hC (by kernel_rfl) ?_ | refine g_splitD (fun h => ?_) (fun h => ?_) | refine g_splitG rfl rfl rfl (fun h => ?_) (fun h => ?_) | refine g_splitP rfl rfl (fun h => ?_) (fun h => ?_) | refine g_idx T hC rfl rfl rfl (Int.natCast_nonneg _) (map_at ht) rfl rfl ?_ | refine g_call hC ((rIs_n ht h1)) rfl rfl (LeSs.refl _) rfl rfl rfl ?_ | refine g_call hC ((rIs_y ht h1w)) rfl rfl (LeSs.refl _) rfl rfl rfl ?_ | refine g_call hC (hE) rfl rfl (LeSs.refl _) rfl rfl rfl ?_ | refine g_lit T hC (rows := [exprR x]) rfl rfl rfl (by simp only [exprR_eq]; rfl) rfl rfl rfl rfl rfl ?_ | refine g_call hC (hB) rfl rfl (LeSs.refl _) rfl rfl rfl ?_ | refine g_retl T (.inl rfl) rfl ?_
      exact g_fin ⟨.inl rfl, id, _, rfl, .tup (.cons (.agg (.cons (.refl _) (.cons (.refl _) (.cons (.nil 4) (.cons (.nil 5) (.cons (.nil 5) .nil)))))) (.cons (.refl _) (.cons (.refl _) .nil))), trivial, rfl, rfl⟩
    have hk2 := (blockA_rg hl f k hk).1 _ _ ha
    obtain ⟨rfl, rfl, rfl⟩ := pab_ok hd2
    refine ⟨_, fun _ => rfl, ?_⟩
    refine fn_ok T Tryz.func167 (by kernel_rfl) rfl rfl rfl rfl fun C hC => ?_
    repeat' first | refine g_go T hC true 400 rfl rfl ?_ | (exfalso; simp at h; done) | refine g_cond rfl (fun h => ?_) (fun h => ?_) | refine g_end T hC (by kernel_rfl) ?_ | refine g_splitD (fun h => ?_) (fun h => ?_) | refine g_splitG rfl rfl rfl (fun h => ?_) (fun h => ?_) | refine g_splitP rfl rfl (fun h => ?_) (fun h => ?_) | refine g_idx T hC rfl rfl rfl (Int.natCast_nonneg _) (map_at ht) rfl rfl ?_ | refine g_call hC ((rIs_n ht h1)) rfl rfl (LeSs.refl _) rfl rfl rfl ?_ | refine g_call hC ((rIs_y ht h1w)) rfl rfl (LeSs.refl _) rfl rfl rfl ?_ | refine g_call hC (hE) rfl rfl (LeSs.refl _) rfl rfl rfl ?_ | refine g_lit T hC (rows := [exprR x]) rfl rfl rfl (by simp only [exprR_eq]; rfl) rfl rfl rfl rfl rfl ?_ | refine g_call hC (hB) rfl rfl (LeSs.refl _) rfl rfl rfl ?_ | refine g_retl T (.inl rfl) rfl ?_
    exact g_fin ⟨.inl rfl, id, _, rfl, .tup (.cons (.agg (.cons (.refl _) (.cons (.refl _) (.cons (.refl _) (.cons (.refl _) (.cons (.nil 5) .nil)))))) (.cons (.refl _) (.cons (.refl _) .nil))), trivial, rfl, rfl⟩
  rw [if_neg h1w] at hR
  by_cases h3 : isA l i (⟨#[114, 101, 116, 117, 114, 110]⟩ : ByteArray) = true
  · rw [if_pos h3] at hR
    have hi1 := isA_next hl h3
    have hw : IntKind.i64.wrap ((i : Int) + 1) = ((i + 1 : Nat) : Int) := wrapS (by omega)
    obtain ⟨u1, hu1⟩ := exists_at hi1
    by_cases hs : isA l (i + 1) (⟨#[59]⟩ : ByteArray) = true
    · rw [if_pos hs] at hR
      obtain ⟨rfl, rfl, rfl⟩ := pab_ok hR
      have hw2 : IntKind.i64.wrap ((i : Int) + 2) = ((i + 2 : Nat) : Int) := by rw [show (i : Int) + 2 = ((i + 1 : Nat) : Int) + 1 by omega]; exact wrapS (by omega)
      refine ⟨_, fun _ => rfl, ?_⟩
      refine fn_ok T Tryz.func167 (by kernel_rfl) rfl rfl rfl rfl fun C hC => ?_
      repeat' first | refine g_go T hC true 400 rfl rfl ?_ | (exfalso; simp at h; done) | refine g_cond rfl (fun h => ?_) (fun h => ?_) | refine g_end T hC (by kernel_rfl) ?_ | refine g_splitD (fun h => ?_) (fun h => ?_) | refine g_splitG rfl rfl rfl (fun h => ?_) (fun h => ?_) | refine g_splitP rfl rfl (fun h => ?_) (fun h => ?_) | refine g_idx T hC rfl rfl rfl (Int.natCast_nonneg _) (map_at ht) rfl rfl ?_ | refine g_call hC ((rIs_n ht h1)) rfl rfl (LeSs.refl _) rfl rfl rfl ?_ | refine g_call hC ((rIs_n ht h1w)) rfl rfl (LeSs.refl _) rfl rfl rfl ?_ | refine g_call hC ((rIs_y ht h3)) rfl rfl (LeSs.refl _) rfl rfl rfl ?_ | refine g_idx T hC (i := IntKind.i64.wrap ((i : Int) + 1)) rfl rfl rfl (by rw [hw]; exact Int.natCast_nonneg _) (by rw [hw]; exact map_at hu1) rfl rfl ?_ | refine g_call hC ((rIs_y hu1 hs)) rfl rfl (LeSs.refl _) rfl rfl rfl ?_ | refine g_retl T (.inl rfl) rfl ?_
      rw [hw2]
      exact g_fin ⟨.inl rfl, id, _, rfl, .tup (.cons (.agg (.cons (.refl _) (.cons (.refl _) (.cons (.nil 4) (.cons (.nil 5) (.cons (.nil 5) .nil)))))) (.cons (.refl _) (.cons (.refl _) .nil))), trivial, rfl, rfl⟩
    · rw [if_neg hs] at hR
      have hX := rExpr_ok hl (er_all hl f) (i + 1) hi1
      rw [← hw] at hX
      rcases RK0.at hX hR with ⟨x, k, hx, hd, hE⟩ | ⟨_, rfl, hE⟩
      rotate_left
      · refine ⟨S0, (fun h => by cases h), ?_⟩
        refine fn_ok T Tryz.func167 (by kernel_rfl) rfl rfl rfl rfl fun C hC => ?_
        repeat' first | refine g_go T hC true 400 rfl rfl ?_ | (exfalso; simp at h; done) | refine g_cond rfl (fun h => ?_) (fun h => ?_) | refine g_end T hC (by kernel_rfl) ?_ | refine g_splitD (fun h => ?_) (fun h => ?_) | refine g_splitG rfl rfl rfl (fun h => ?_) (fun h => ?_) | refine g_splitP rfl rfl (fun h => ?_) (fun h => ?_) | refine g_idx T hC rfl rfl rfl (Int.natCast_nonneg _) (map_at ht) rfl rfl ?_ | refine g_call hC ((rIs_n ht h1)) rfl rfl (LeSs.refl _) rfl rfl rfl ?_ | refine g_call hC ((rIs_n ht h1w)) rfl rfl (LeSs.refl _) rfl rfl rfl ?_ | refine g_call hC ((rIs_y ht h3)) rfl rfl (LeSs.refl _) rfl rfl rfl ?_ | refine g_idx T hC (i := IntKind.i64.wrap ((i : Int) + 1)) rfl rfl rfl (by rw [hw]; exact Int.natCast_nonneg _) (by rw [hw]; exact map_at hu1) rfl rfl ?_ | refine g_call hC ((rIs_n hu1 hs)) rfl rfl (LeSs.refl _) rfl rfl rfl ?_ | refine g_call hC (hE) rfl rfl (LeSs.refl _) rfl rfl rfl ?_ | refine g_lit T hC (rows := [exprR E0]) rfl rfl rfl (by simp only [exprR_eq]; rfl) rfl rfl rfl rfl rfl ?_ | refine g_call hC ((rended_b hl _ _ _ _ _ _)) rfl rfl (LeSs.refl _) rfl rfl rfl ?_ | refine g_retl T (.inl rfl) rfl ?_
        exact g_fin ⟨.inl rfl, id, _, rfl, .refl _, trivial, rfl, rfl⟩
      have hk := (exprA_rg hl f 0 (i + 1) hi1).1 _ _ hx
      unfold oneA at hd
      by_cases hq : isA l k (⟨#[59]⟩ : ByteArray) = true
      · rw [if_pos hq] at hd
        obtain ⟨rfl, rfl, rfl⟩ := pab_ok hd
        refine ⟨_, fun _ => rfl, ?_⟩
        refine fn_ok T Tryz.func167 (by kernel_rfl) rfl rfl rfl rfl fun C hC => ?_
        repeat' first | refine g_go T hC true 400 rfl rfl ?_ | (exfalso; simp at h; done) | refine g_cond rfl (fun h => ?_) (fun h => ?_) | refine g_end T hC (by kernel_rfl) ?_ | refine g_splitD (fun h => ?_) (fun h => ?_) | refine g_splitG rfl rfl rfl (fun h => ?_) (fun h => ?_) | refine g_splitP rfl rfl (fun h => ?_) (fun h => ?_) | refine g_idx T hC rfl rfl rfl (Int.natCast_nonneg _) (map_at ht) rfl rfl ?_ | refine g_call hC ((rIs_n ht h1)) rfl rfl (LeSs.refl _) rfl rfl rfl ?_ | refine g_call hC ((rIs_n ht h1w)) rfl rfl (LeSs.refl _) rfl rfl rfl ?_ | refine g_call hC ((rIs_y ht h3)) rfl rfl (LeSs.refl _) rfl rfl rfl ?_ | refine g_idx T hC (i := IntKind.i64.wrap ((i : Int) + 1)) rfl rfl rfl (by rw [hw]; exact Int.natCast_nonneg _) (by rw [hw]; exact map_at hu1) rfl rfl ?_ | refine g_call hC ((rIs_n hu1 hs)) rfl rfl (LeSs.refl _) rfl rfl rfl ?_ | refine g_call hC (hE) rfl rfl (LeSs.refl _) rfl rfl rfl ?_ | refine g_lit T hC (rows := [exprR x]) rfl rfl rfl (by simp only [exprR_eq]; rfl) rfl rfl rfl rfl rfl ?_ | refine g_call hC ((rended_y hl _ _ _ _ _ hq)) rfl rfl (LeSs.refl _) rfl rfl rfl ?_ | refine g_retl T (.inl rfl) rfl ?_
        exact g_fin ⟨.inl rfl, id, _, rfl, .tup (.cons (.agg (.cons (.refl _) (.cons (.refl _) (.cons (.refl _) (.cons (.nil 5) (.cons (.nil 5) .nil)))))) (.cons (.refl _) (.cons (.refl _) .nil))), trivial, rfl, rfl⟩
      · rw [if_neg hq] at hd
        obtain ⟨rfl, rfl⟩ := pab_no hd
        refine ⟨.mk 5 (⟨#[]⟩ : ByteArray) [x] [] [], (fun h => by cases h), ?_⟩
        refine fn_ok T Tryz.func167 (by kernel_rfl) rfl rfl rfl rfl fun C hC => ?_
        repeat' first | refine g_go T hC true 400 rfl rfl ?_ | (exfalso; simp at h; done) | refine g_cond rfl (fun h => ?_) (fun h => ?_) | refine g_end T hC (by kernel_rfl) ?_ | refine g_splitD (fun h => ?_) (fun h => ?_) | refine g_splitG rfl rfl rfl (fun h => ?_) (fun h => ?_) | refine g_splitP rfl rfl (fun h => ?_) (fun h => ?_) | refine g_idx T hC rfl rfl rfl (Int.natCast_nonneg _) (map_at ht) rfl rfl ?_ | refine g_call hC ((rIs_n ht h1)) rfl rfl (LeSs.refl _) rfl rfl rfl ?_ | refine g_call hC ((rIs_n ht h1w)) rfl rfl (LeSs.refl _) rfl rfl rfl ?_ | refine g_call hC ((rIs_y ht h3)) rfl rfl (LeSs.refl _) rfl rfl rfl ?_ | refine g_idx T hC (i := IntKind.i64.wrap ((i : Int) + 1)) rfl rfl rfl (by rw [hw]; exact Int.natCast_nonneg _) (by rw [hw]; exact map_at hu1) rfl rfl ?_ | refine g_call hC ((rIs_n hu1 hs)) rfl rfl (LeSs.refl _) rfl rfl rfl ?_ | refine g_call hC (hE) rfl rfl (LeSs.refl _) rfl rfl rfl ?_ | refine g_lit T hC (rows := [exprR x]) rfl rfl rfl (by simp only [exprR_eq]; rfl) rfl rfl rfl rfl rfl ?_ | refine g_call hC ((rended_n hl _ _ _ _ _ hk hq)) rfl rfl (LeSs.refl _) rfl rfl rfl ?_ | refine g_retl T (.inl rfl) rfl ?_
        exact g_fin ⟨.inl rfl, id, _, rfl, .tup (.cons (.agg (.cons (.refl _) (.cons (.refl _) (.cons (.refl _) (.cons (.nil 5) (.cons (.nil 5) .nil)))))) (.cons (.refl _) (.cons (.refl _) .nil))), trivial, rfl, rfl⟩
  rw [if_neg h3] at hR
  have hPo := (er_all hl f).post i hi
  rcases RK0.at hPo hR with ⟨x, k, hx, hd, hP⟩ | ⟨_, rfl, hP⟩
  rotate_left
  · refine ⟨S0, (fun h => by cases h), ?_⟩
    refine fn_ok T Tryz.func167 (by kernel_rfl) rfl rfl rfl rfl fun C hC => ?_
    repeat' first | refine g_go T hC true 400 rfl rfl ?_ | (exfalso; simp at h; done) | refine g_cond rfl (fun h => ?_) (fun h => ?_) | refine g_end T hC (by kernel_rfl) ?_ | refine g_splitD (fun h => ?_) (fun h => ?_) | refine g_splitG rfl rfl rfl (fun h => ?_) (fun h => ?_) | refine g_splitP rfl rfl (fun h => ?_) (fun h => ?_) | refine g_idx T hC rfl rfl rfl (Int.natCast_nonneg _) (map_at ht) rfl rfl ?_ | refine g_call hC ((rIs_n ht h1)) rfl rfl (LeSs.refl _) rfl rfl rfl ?_ | refine g_call hC ((rIs_n ht h1w)) rfl rfl (LeSs.refl _) rfl rfl rfl ?_ | refine g_call hC ((rIs_n ht h3)) rfl rfl (LeSs.refl _) rfl rfl rfl ?_ | refine g_call hC (hP) rfl rfl (LeSs.refl _) rfl rfl rfl ?_ | refine g_retl T (.inl rfl) rfl ?_
    exact g_fin ⟨.inl rfl, id, _, rfl, .tup (.cons (.agg (.cons (.refl _) (.cons (.refl _) (.cons (.nil 4) (.cons (.nil 5) (.cons (.nil 5) .nil)))))) (.cons (.refl _) (.cons (.refl _) .nil))), trivial, rfl, rfl⟩
  have hk := (postA_rg hl f i hi).1 _ _ hx
  have h5 := (five f).2.2.1 _ _ _ hx
  obtain ⟨u, hu⟩ := exists_at hk
  clear hR hx hPo
  obtain ⟨op, n, s, L⟩ := x
  simp only [Ex.op, Ex.s, Ex.l] at hd
  simp only [F5, Ex.op, Ex.l] at h5
  by_cases h4 : op = 4
  · subst h4
    simp only [true_and, reduceCtorEq, and_false, if_false, show ¬ ((4 : Int) = 5) by decide, show ¬ ((4 : Int) = 7) by decide] at hd
    by_cases ht4 : s = (⟨#[116, 104, 105, 115]⟩ : ByteArray)
    · simp only [ht4, ne_eq, not_true_eq_false, and_false, if_false] at hd
      subst ht4
      by_cases hs : isA l k (⟨#[61]⟩ : ByteArray) = true
      · obtain ⟨rfl, rfl⟩ := pab_no hd
        refine ⟨S0, (fun h => by cases h), ?_⟩
        refine fn_ok T Tryz.func167 (by kernel_rfl) rfl rfl rfl rfl fun C hC => ?_
        repeat' first | refine g_go T hC true 400 rfl rfl ?_ | (exfalso; simp at h; done) | (exfalso; simp [Ex.op, Ex.s] at h; done) | refine g_cond rfl (fun h => ?_) (fun h => ?_) | refine g_end T hC (by kernel_rfl) ?_ | refine g_splitD (fun h => ?_) (fun h => ?_) | refine g_splitG rfl rfl rfl (fun h => ?_) (fun h => ?_) | refine g_splitP rfl rfl (fun h => ?_) (fun h => ?_) | refine g_idx T hC rfl rfl rfl (Int.natCast_nonneg _) (map_at ht) rfl rfl ?_ | refine g_call hC ((rIs_n ht h1)) rfl rfl (LeSs.refl _) rfl rfl rfl ?_ | refine g_call hC ((rIs_n ht h1w)) rfl rfl (LeSs.refl _) rfl rfl rfl ?_ | refine g_call hC ((rIs_n ht h3)) rfl rfl (LeSs.refl _) rfl rfl rfl ?_ | refine g_call hC (hP) rfl rfl (LeSs.refl _) rfl rfl rfl ?_ | refine g_idx T hC rfl rfl rfl (Int.natCast_nonneg _) (map_at hu) rfl rfl ?_ | refine g_call hC ((rIs_y hu hs)) rfl rfl (LeSs.refl _) rfl rfl rfl ?_ | refine g_retl T (.inl rfl) rfl ?_
        exact g_fin ⟨.inl rfl, id, _, rfl, .tup (.cons (.agg (.cons (.refl _) (.cons (.refl _) (.cons (.nil 4) (.cons (.nil 5) (.cons (.nil 5) .nil)))))) (.cons (.refl _) (.cons (.refl _) .nil))), trivial, rfl, rfl⟩
      · obtain ⟨rfl, rfl⟩ := pab_no hd
        refine ⟨S0, (fun h => by cases h), ?_⟩
        refine fn_ok T Tryz.func167 (by kernel_rfl) rfl rfl rfl rfl fun C hC => ?_
        repeat' first | refine g_go T hC true 400 rfl rfl ?_ | (exfalso; simp at h; done) | (exfalso; simp [Ex.op, Ex.s] at h; done) | refine g_cond rfl (fun h => ?_) (fun h => ?_) | refine g_end T hC (by kernel_rfl) ?_ | refine g_splitD (fun h => ?_) (fun h => ?_) | refine g_splitG rfl rfl rfl (fun h => ?_) (fun h => ?_) | refine g_splitP rfl rfl (fun h => ?_) (fun h => ?_) | refine g_idx T hC rfl rfl rfl (Int.natCast_nonneg _) (map_at ht) rfl rfl ?_ | refine g_call hC ((rIs_n ht h1)) rfl rfl (LeSs.refl _) rfl rfl rfl ?_ | refine g_call hC ((rIs_n ht h1w)) rfl rfl (LeSs.refl _) rfl rfl rfl ?_ | refine g_call hC ((rIs_n ht h3)) rfl rfl (LeSs.refl _) rfl rfl rfl ?_ | refine g_call hC (hP) rfl rfl (LeSs.refl _) rfl rfl rfl ?_ | refine g_idx T hC rfl rfl rfl (Int.natCast_nonneg _) (map_at hu) rfl rfl ?_ | refine g_call hC ((rIs_n hu hs)) rfl rfl (LeSs.refl _) rfl rfl rfl ?_ | refine g_retl T (.inl rfl) rfl ?_
        exact g_fin ⟨.inl rfl, id, _, rfl, .tup (.cons (.agg (.cons (.refl _) (.cons (.refl _) (.cons (.nil 4) (.cons (.nil 5) (.cons (.nil 5) .nil)))))) (.cons (.refl _) (.cons (.refl _) .nil))), trivial, rfl, rfl⟩
    · by_cases hs : isA l k (⟨#[61]⟩ : ByteArray) = true
      · rw [if_pos ⟨hs, ht4⟩] at hd
        have hk1 := isA_next hl hs
        have hX := rExpr_ok hl (er_all hl f) (k + 1) hk1
        rw [← wrapS (i := k) (by omega)] at hX
        rcases RK0.at hX hd with ⟨y, k2, hy, hd2, hE⟩ | ⟨_, rfl, hE⟩
        rotate_left
        · refine ⟨S0, (fun h => by cases h), ?_⟩
          refine fn_ok T Tryz.func167 (by kernel_rfl) rfl rfl rfl rfl fun C hC => ?_
          repeat' first | refine g_go T hC true 400 rfl rfl ?_ | (exfalso; simp at h; done) | (exfalso; simp [Ex.op, Ex.s, ht4] at h; done) | refine g_cond rfl (fun h => ?_) (fun h => ?_) | refine g_end T hC (by kernel_rfl) ?_ | refine g_splitD (fun h => ?_) (fun h => ?_) | refine g_splitG rfl rfl rfl (fun h => ?_) (fun h => ?_) | refine g_splitP rfl rfl (fun h => ?_) (fun h => ?_) | refine g_idx T hC rfl rfl rfl (Int.natCast_nonneg _) (map_at ht) rfl rfl ?_ | refine g_call hC ((rIs_n ht h1)) rfl rfl (LeSs.refl _) rfl rfl rfl ?_ | refine g_call hC ((rIs_n ht h1w)) rfl rfl (LeSs.refl _) rfl rfl rfl ?_ | refine g_call hC ((rIs_n ht h3)) rfl rfl (LeSs.refl _) rfl rfl rfl ?_ | refine g_call hC (hP) rfl rfl (LeSs.refl _) rfl rfl rfl ?_ | refine g_idx T hC rfl rfl rfl (Int.natCast_nonneg _) (map_at hu) rfl rfl ?_ | refine g_call hC ((rIs_y hu hs)) rfl rfl (LeSs.refl _) rfl rfl rfl ?_ | refine g_call hC (hE) rfl rfl (LeSs.refl _) rfl rfl rfl ?_ | refine g_lit T hC (rows := [exprR E0]) rfl rfl rfl (by simp only [exprR_eq]; rfl) rfl rfl rfl rfl rfl ?_ | refine g_call hC ((rended_b hl _ _ _ _ _ _)) rfl rfl (LeSs.refl _) rfl rfl rfl ?_ | refine g_retl T (.inl rfl) rfl ?_
          exact g_fin ⟨.inl rfl, id, _, rfl, .refl _, trivial, rfl, rfl⟩
        have hk2 := (exprA_rg hl f 0 (k + 1) hk1).1 _ _ hy
        unfold oneA at hd2
        by_cases hq : isA l k2 (⟨#[59]⟩ : ByteArray) = true
        · rw [if_pos hq] at hd2
          obtain ⟨rfl, rfl, rfl⟩ := pab_ok hd2
          refine ⟨_, fun _ => rfl, ?_⟩
          refine fn_ok T Tryz.func167 (by kernel_rfl) rfl rfl rfl rfl fun C hC => ?_
          repeat' first | refine g_go T hC true 400 rfl rfl ?_ | (exfalso; simp at h; done) | (exfalso; simp [Ex.op, Ex.s, ht4] at h; done) | refine g_cond rfl (fun h => ?_) (fun h => ?_) | refine g_end T hC (by kernel_rfl) ?_ | refine g_splitD (fun h => ?_) (fun h => ?_) | refine g_splitG rfl rfl rfl (fun h => ?_) (fun h => ?_) | refine g_splitP rfl rfl (fun h => ?_) (fun h => ?_) | refine g_idx T hC rfl rfl rfl (Int.natCast_nonneg _) (map_at ht) rfl rfl ?_ | refine g_call hC ((rIs_n ht h1)) rfl rfl (LeSs.refl _) rfl rfl rfl ?_ | refine g_call hC ((rIs_n ht h1w)) rfl rfl (LeSs.refl _) rfl rfl rfl ?_ | refine g_call hC ((rIs_n ht h3)) rfl rfl (LeSs.refl _) rfl rfl rfl ?_ | refine g_call hC (hP) rfl rfl (LeSs.refl _) rfl rfl rfl ?_ | refine g_idx T hC rfl rfl rfl (Int.natCast_nonneg _) (map_at hu) rfl rfl ?_ | refine g_call hC ((rIs_y hu hs)) rfl rfl (LeSs.refl _) rfl rfl rfl ?_ | refine g_call hC (hE) rfl rfl (LeSs.refl _) rfl rfl rfl ?_ | refine g_lit T hC (rows := [exprR y]) rfl rfl rfl (by simp only [exprR_eq]; rfl) rfl rfl rfl rfl rfl ?_ | refine g_call hC ((rended_y hl _ _ _ _ _ hq)) rfl rfl (LeSs.refl _) rfl rfl rfl ?_ | refine g_retl T (.inl rfl) rfl ?_
          exact g_fin ⟨.inl rfl, id, _, rfl, .tup (.cons (.agg (.cons (.refl _) (.cons (.refl _) (.cons (.refl _) (.cons (.nil 5) (.cons (.nil 5) .nil)))))) (.cons (.refl _) (.cons (.refl _) .nil))), trivial, rfl, rfl⟩
        · rw [if_neg hq] at hd2
          obtain ⟨rfl, rfl⟩ := pab_no hd2
          refine ⟨.mk 1 s [y] [] [], (fun h => by cases h), ?_⟩
          refine fn_ok T Tryz.func167 (by kernel_rfl) rfl rfl rfl rfl fun C hC => ?_
          repeat' first | refine g_go T hC true 400 rfl rfl ?_ | (exfalso; simp at h; done) | (exfalso; simp [Ex.op, Ex.s, ht4] at h; done) | refine g_cond rfl (fun h => ?_) (fun h => ?_) | refine g_end T hC (by kernel_rfl) ?_ | refine g_splitD (fun h => ?_) (fun h => ?_) | refine g_splitG rfl rfl rfl (fun h => ?_) (fun h => ?_) | refine g_splitP rfl rfl (fun h => ?_) (fun h => ?_) | refine g_idx T hC rfl rfl rfl (Int.natCast_nonneg _) (map_at ht) rfl rfl ?_ | refine g_call hC ((rIs_n ht h1)) rfl rfl (LeSs.refl _) rfl rfl rfl ?_ | refine g_call hC ((rIs_n ht h1w)) rfl rfl (LeSs.refl _) rfl rfl rfl ?_ | refine g_call hC ((rIs_n ht h3)) rfl rfl (LeSs.refl _) rfl rfl rfl ?_ | refine g_call hC (hP) rfl rfl (LeSs.refl _) rfl rfl rfl ?_ | refine g_idx T hC rfl rfl rfl (Int.natCast_nonneg _) (map_at hu) rfl rfl ?_ | refine g_call hC ((rIs_y hu hs)) rfl rfl (LeSs.refl _) rfl rfl rfl ?_ | refine g_call hC (hE) rfl rfl (LeSs.refl _) rfl rfl rfl ?_ | refine g_lit T hC (rows := [exprR y]) rfl rfl rfl (by simp only [exprR_eq]; rfl) rfl rfl rfl rfl rfl ?_ | refine g_call hC ((rended_n hl _ _ _ _ _ hk2 hq)) rfl rfl (LeSs.refl _) rfl rfl rfl ?_ | refine g_retl T (.inl rfl) rfl ?_
          exact g_fin ⟨.inl rfl, id, _, rfl, .tup (.cons (.agg (.cons (.refl _) (.cons (.refl _) (.cons (.refl _) (.cons (.nil 5) (.cons (.nil 5) .nil)))))) (.cons (.refl _) (.cons (.refl _) .nil))), trivial, rfl, rfl⟩
      · simp only [hs, false_and, if_false] at hd
        obtain ⟨rfl, rfl⟩ := pab_no hd
        refine ⟨S0, (fun h => by cases h), ?_⟩
        refine fn_ok T Tryz.func167 (by kernel_rfl) rfl rfl rfl rfl fun C hC => ?_
        repeat' first | refine g_go T hC true 400 rfl rfl ?_ | (exfalso; simp at h; done) | (exfalso; simp [Ex.op, Ex.s, ht4] at h; done) | refine g_cond rfl (fun h => ?_) (fun h => ?_) | refine g_end T hC (by kernel_rfl) ?_ | refine g_splitD (fun h => ?_) (fun h => ?_) | refine g_splitG rfl rfl rfl (fun h => ?_) (fun h => ?_) | refine g_splitP rfl rfl (fun h => ?_) (fun h => ?_) | refine g_idx T hC rfl rfl rfl (Int.natCast_nonneg _) (map_at ht) rfl rfl ?_ | refine g_call hC ((rIs_n ht h1)) rfl rfl (LeSs.refl _) rfl rfl rfl ?_ | refine g_call hC ((rIs_n ht h1w)) rfl rfl (LeSs.refl _) rfl rfl rfl ?_ | refine g_call hC ((rIs_n ht h3)) rfl rfl (LeSs.refl _) rfl rfl rfl ?_ | refine g_call hC (hP) rfl rfl (LeSs.refl _) rfl rfl rfl ?_ | refine g_idx T hC rfl rfl rfl (Int.natCast_nonneg _) (map_at hu) rfl rfl ?_ | refine g_call hC ((rIs_n hu hs)) rfl rfl (LeSs.refl _) rfl rfl rfl ?_ | refine g_retl T (.inl rfl) rfl ?_
        exact g_fin ⟨.inl rfl, id, _, rfl, .tup (.cons (.agg (.cons (.refl _) (.cons (.refl _) (.cons (.nil 4) (.cons (.nil 5) (.cons (.nil 5) .nil)))))) (.cons (.refl _) (.cons (.refl _) .nil))), trivial, rfl, rfl⟩
  simp only [h4, false_and, and_false, if_false] at hd
  by_cases h55 : op = 5
  · subst h55
    obtain ⟨y0, rfl⟩ := h5 rfl
    simp only [and_true, show ¬ ((5 : Int) = 7) by decide, if_false] at hd
    by_cases hs : isA l k (⟨#[61]⟩ : ByteArray) = true
    · rw [if_pos hs] at hd
      have hk1 := isA_next hl hs
      have hX := rExpr_ok hl (er_all hl f) (k + 1) hk1
      rw [← wrapS (i := k) (by omega)] at hX
      rcases RK0.at hX hd with ⟨y, k2, hy, hd2, hE⟩ | ⟨_, rfl, hE⟩
      rotate_left
      · refine ⟨S0, (fun h => by cases h), ?_⟩
        refine fn_ok T Tryz.func167 (by kernel_rfl) rfl rfl rfl rfl fun C hC => ?_
        repeat' first | refine g_go T hC true 400 rfl rfl ?_ | (exfalso; simp at h; done) | (exfalso; simp [Ex.op, Ex.s] at h; done) | refine g_cond rfl (fun h => ?_) (fun h => ?_) | refine g_end T hC (by kernel_rfl) ?_ | refine g_splitD (fun h => ?_) (fun h => ?_) | refine g_splitG rfl rfl rfl (fun h => ?_) (fun h => ?_) | refine g_splitP rfl rfl (fun h => ?_) (fun h => ?_) | refine g_idx T hC rfl rfl rfl (Int.natCast_nonneg _) (map_at ht) rfl rfl ?_ | refine g_call hC ((rIs_n ht h1)) rfl rfl (LeSs.refl _) rfl rfl rfl ?_ | refine g_call hC ((rIs_n ht h1w)) rfl rfl (LeSs.refl _) rfl rfl rfl ?_ | refine g_call hC ((rIs_n ht h3)) rfl rfl (LeSs.refl _) rfl rfl rfl ?_ | refine g_call hC (hP) rfl rfl (LeSs.refl _) rfl rfl rfl ?_ | refine g_idx T hC rfl rfl rfl (Int.natCast_nonneg _) (map_at hu) rfl rfl ?_ | refine g_call hC ((rIs_y hu hs)) rfl rfl (LeSs.refl _) rfl rfl rfl ?_ | refine g_call hC (hE) rfl rfl (LeSs.refl _) rfl rfl rfl ?_ | refine g_lit T hC (rows := [exprR E0]) rfl rfl rfl (by simp only [exprR_eq]; rfl) rfl rfl rfl rfl rfl ?_ | refine g_idx T hC (row := exprC y0) rfl rfl rfl (Int.le_refl _) (map_atE (l := [y0]) (i := 0) rfl) rfl rfl ?_ | refine g_lit T hC (rows := [exprR y0, exprR E0]) rfl rfl rfl (by simp only [exprR_eq]; rfl) rfl rfl rfl rfl rfl ?_ | refine g_call hC ((rended_b hl _ _ _ _ _ _)) rfl rfl (LeSs.refl _) rfl rfl rfl ?_ | refine g_retl T (.inl rfl) rfl ?_
        exact g_fin ⟨.inl rfl, id, _, rfl, .refl _, trivial, rfl, rfl⟩
      have hk2 := (exprA_rg hl f 0 (k + 1) hk1).1 _ _ hy
      unfold oneA at hd2
      by_cases hq : isA l k2 (⟨#[59]⟩ : ByteArray) = true
      · rw [if_pos hq] at hd2
        obtain ⟨rfl, rfl, rfl⟩ := pab_ok hd2
        refine ⟨_, fun _ => rfl, ?_⟩
        refine fn_ok T Tryz.func167 (by kernel_rfl) rfl rfl rfl rfl fun C hC => ?_
        repeat' first | refine g_go T hC true 400 rfl rfl ?_ | (exfalso; simp at h; done) | (exfalso; simp [Ex.op, Ex.s] at h; done) | refine g_cond rfl (fun h => ?_) (fun h => ?_) | refine g_end T hC (by kernel_rfl) ?_ | refine g_splitD (fun h => ?_) (fun h => ?_) | refine g_splitG rfl rfl rfl (fun h => ?_) (fun h => ?_) | refine g_splitP rfl rfl (fun h => ?_) (fun h => ?_) | refine g_idx T hC rfl rfl rfl (Int.natCast_nonneg _) (map_at ht) rfl rfl ?_ | refine g_call hC ((rIs_n ht h1)) rfl rfl (LeSs.refl _) rfl rfl rfl ?_ | refine g_call hC ((rIs_n ht h1w)) rfl rfl (LeSs.refl _) rfl rfl rfl ?_ | refine g_call hC ((rIs_n ht h3)) rfl rfl (LeSs.refl _) rfl rfl rfl ?_ | refine g_call hC (hP) rfl rfl (LeSs.refl _) rfl rfl rfl ?_ | refine g_idx T hC rfl rfl rfl (Int.natCast_nonneg _) (map_at hu) rfl rfl ?_ | refine g_call hC ((rIs_y hu hs)) rfl rfl (LeSs.refl _) rfl rfl rfl ?_ | refine g_call hC (hE) rfl rfl (LeSs.refl _) rfl rfl rfl ?_ | refine g_lit T hC (rows := [exprR y]) rfl rfl rfl (by simp only [exprR_eq]; rfl) rfl rfl rfl rfl rfl ?_ | refine g_lit T hC (rows := [exprR E0]) rfl rfl rfl (by simp only [exprR_eq]; rfl) rfl rfl rfl rfl rfl ?_ | refine g_idx T hC (row := exprC y0) rfl rfl rfl (Int.le_refl _) (map_atE (l := [y0]) (i := 0) rfl) rfl rfl ?_ | refine g_lit T hC (rows := [exprR y0, exprR y]) rfl rfl rfl (by simp only [exprR_eq]; rfl) rfl rfl rfl rfl rfl ?_ | refine g_call hC ((rended_y hl _ _ _ _ _ hq)) rfl rfl (LeSs.refl _) rfl rfl rfl ?_ | refine g_retl T (.inl rfl) rfl ?_
        exact g_fin ⟨.inl rfl, id, _, rfl, .tup (.cons (.agg (.cons (.refl _) (.cons (.refl _) (.cons (.refl _) (.cons (.nil 5) (.cons (.nil 5) .nil)))))) (.cons (.refl _) (.cons (.refl _) .nil))), trivial, rfl, rfl⟩
      · rw [if_neg hq] at hd2
        obtain ⟨rfl, rfl⟩ := pab_no hd2
        refine ⟨.mk 2 s [y0, y] [] [], (fun h => by cases h), ?_⟩
        refine fn_ok T Tryz.func167 (by kernel_rfl) rfl rfl rfl rfl fun C hC => ?_
        repeat' first | refine g_go T hC true 400 rfl rfl ?_ | (exfalso; simp at h; done) | (exfalso; simp [Ex.op, Ex.s] at h; done) | refine g_cond rfl (fun h => ?_) (fun h => ?_) | refine g_end T hC (by kernel_rfl) ?_ | refine g_splitD (fun h => ?_) (fun h => ?_) | refine g_splitG rfl rfl rfl (fun h => ?_) (fun h => ?_) | refine g_splitP rfl rfl (fun h => ?_) (fun h => ?_) | refine g_idx T hC rfl rfl rfl (Int.natCast_nonneg _) (map_at ht) rfl rfl ?_ | refine g_call hC ((rIs_n ht h1)) rfl rfl (LeSs.refl _) rfl rfl rfl ?_ | refine g_call hC ((rIs_n ht h1w)) rfl rfl (LeSs.refl _) rfl rfl rfl ?_ | refine g_call hC ((rIs_n ht h3)) rfl rfl (LeSs.refl _) rfl rfl rfl ?_ | refine g_call hC (hP) rfl rfl (LeSs.refl _) rfl rfl rfl ?_ | refine g_idx T hC rfl rfl rfl (Int.natCast_nonneg _) (map_at hu) rfl rfl ?_ | refine g_call hC ((rIs_y hu hs)) rfl rfl (LeSs.refl _) rfl rfl rfl ?_ | refine g_call hC (hE) rfl rfl (LeSs.refl _) rfl rfl rfl ?_ | refine g_lit T hC (rows := [exprR y]) rfl rfl rfl (by simp only [exprR_eq]; rfl) rfl rfl rfl rfl rfl ?_ | refine g_lit T hC (rows := [exprR E0]) rfl rfl rfl (by simp only [exprR_eq]; rfl) rfl rfl rfl rfl rfl ?_ | refine g_idx T hC (row := exprC y0) rfl rfl rfl (Int.le_refl _) (map_atE (l := [y0]) (i := 0) rfl) rfl rfl ?_ | refine g_lit T hC (rows := [exprR y0, exprR y]) rfl rfl rfl (by simp only [exprR_eq]; rfl) rfl rfl rfl rfl rfl ?_ | refine g_call hC ((rended_n hl _ _ _ _ _ hk2 hq)) rfl rfl (LeSs.refl _) rfl rfl rfl ?_ | refine g_retl T (.inl rfl) rfl ?_
        exact g_fin ⟨.inl rfl, id, _, rfl, .tup (.cons (.agg (.cons (.refl _) (.cons (.refl _) (.cons (.refl _) (.cons (.nil 5) (.cons (.nil 5) .nil)))))) (.cons (.refl _) (.cons (.refl _) .nil))), trivial, rfl, rfl⟩
    · rw [if_neg hs] at hd
      obtain ⟨rfl, rfl⟩ := pab_no hd
      refine ⟨S0, (fun h => by cases h), ?_⟩
      refine fn_ok T Tryz.func167 (by kernel_rfl) rfl rfl rfl rfl fun C hC => ?_
      repeat' first | refine g_go T hC true 400 rfl rfl ?_ | (exfalso; simp at h; done) | (exfalso; simp [Ex.op, Ex.s] at h; done) | refine g_cond rfl (fun h => ?_) (fun h => ?_) | refine g_end T hC (by kernel_rfl) ?_ | refine g_splitD (fun h => ?_) (fun h => ?_) | refine g_splitG rfl rfl rfl (fun h => ?_) (fun h => ?_) | refine g_splitP rfl rfl (fun h => ?_) (fun h => ?_) | refine g_idx T hC rfl rfl rfl (Int.natCast_nonneg _) (map_at ht) rfl rfl ?_ | refine g_call hC ((rIs_n ht h1)) rfl rfl (LeSs.refl _) rfl rfl rfl ?_ | refine g_call hC ((rIs_n ht h1w)) rfl rfl (LeSs.refl _) rfl rfl rfl ?_ | refine g_call hC ((rIs_n ht h3)) rfl rfl (LeSs.refl _) rfl rfl rfl ?_ | refine g_call hC (hP) rfl rfl (LeSs.refl _) rfl rfl rfl ?_ | refine g_idx T hC rfl rfl rfl (Int.natCast_nonneg _) (map_at hu) rfl rfl ?_ | refine g_call hC ((rIs_n hu hs)) rfl rfl (LeSs.refl _) rfl rfl rfl ?_ | refine g_retl T (.inl rfl) rfl ?_
      exact g_fin ⟨.inl rfl, id, _, rfl, .tup (.cons (.agg (.cons (.refl _) (.cons (.refl _) (.cons (.nil 4) (.cons (.nil 5) (.cons (.nil 5) .nil)))))) (.cons (.refl _) (.cons (.refl _) .nil))), trivial, rfl, rfl⟩
  simp only [h55, and_false, if_false] at hd
  by_cases h7 : op = 7
  · subst h7
    simp only [eq_self, if_true] at hd
    unfold oneA at hd
    by_cases hq : isA l k (⟨#[59]⟩ : ByteArray) = true
    · rw [if_pos hq] at hd
      obtain ⟨rfl, rfl, rfl⟩ := pab_ok hd
      have hs : ¬ isA l k (⟨#[61]⟩ : ByteArray) = true := fun h => absurd (isA_two h hq) (by decide)
      refine ⟨_, fun _ => rfl, ?_⟩
      refine fn_ok T Tryz.func167 (by kernel_rfl) rfl rfl rfl rfl fun C hC => ?_
      repeat' first | refine g_go T hC true 400 rfl rfl ?_ | (exfalso; simp at h; done) | (exfalso; simp [Ex.op, Ex.s] at h; done) | refine g_cond rfl (fun h => ?_) (fun h => ?_) | refine g_end T hC (by kernel_rfl) ?_ | refine g_splitD (fun h => ?_) (fun h => ?_) | refine g_splitG rfl rfl rfl (fun h => ?_) (fun h => ?_) | refine g_splitP rfl rfl (fun h => ?_) (fun h => ?_) | refine g_idx T hC rfl rfl rfl (Int.natCast_nonneg _) (map_at ht) rfl rfl ?_ | refine g_call hC ((rIs_n ht h1)) rfl rfl (LeSs.refl _) rfl rfl rfl ?_ | refine g_call hC ((rIs_n ht h1w)) rfl rfl (LeSs.refl _) rfl rfl rfl ?_ | refine g_call hC ((rIs_n ht h3)) rfl rfl (LeSs.refl _) rfl rfl rfl ?_ | refine g_call hC (hP) rfl rfl (LeSs.refl _) rfl rfl rfl ?_ | refine g_idx T hC rfl rfl rfl (Int.natCast_nonneg _) (map_at hu) rfl rfl ?_ | refine g_call hC ((rIs_n hu hs)) rfl rfl (LeSs.refl _) rfl rfl rfl ?_ | refine g_lit T hC (rows := [exprR (.mk 7 n s L)]) rfl rfl rfl (by simp only [exprR_eq]; rfl) rfl rfl rfl rfl rfl ?_ | refine g_call hC ((rended_y hl _ _ _ _ _ hq)) rfl rfl (LeSs.refl _) rfl rfl rfl ?_ | refine g_retl T (.inl rfl) rfl ?_
      exact g_fin ⟨.inl rfl, id, _, rfl, .tup (.cons (.agg (.cons (.refl _) (.cons (.refl _) (.cons (.refl _) (.cons (.nil 5) (.cons (.nil 5) .nil)))))) (.cons (.refl _) (.cons (.refl _) .nil))), trivial, rfl, rfl⟩
    · rw [if_neg hq] at hd
      obtain ⟨rfl, rfl⟩ := pab_no hd
      refine ⟨.mk 6 (⟨#[]⟩ : ByteArray) [.mk 7 n s L] [] [], (fun h => by cases h), ?_⟩
      by_cases hs : isA l jf (⟨#[61]⟩ : ByteArray) = true
      · refine fn_ok T Tryz.func167 (by kernel_rfl) rfl rfl rfl rfl fun C hC => ?_
        repeat' first | refine g_go T hC true 400 rfl rfl ?_ | (exfalso; simp at h; done) | (exfalso; simp [Ex.op, Ex.s] at h; done) | refine g_cond rfl (fun h => ?_) (fun h => ?_) | refine g_end T hC (by kernel_rfl) ?_ | refine g_splitD (fun h => ?_) (fun h => ?_) | refine g_splitG rfl rfl rfl (fun h => ?_) (fun h => ?_) | refine g_splitP rfl rfl (fun h => ?_) (fun h => ?_) | refine g_idx T hC rfl rfl rfl (Int.natCast_nonneg _) (map_at ht) rfl rfl ?_ | refine g_call hC ((rIs_n ht h1)) rfl rfl (LeSs.refl _) rfl rfl rfl ?_ | refine g_call hC ((rIs_n ht h1w)) rfl rfl (LeSs.refl _) rfl rfl rfl ?_ | refine g_call hC ((rIs_n ht h3)) rfl rfl (LeSs.refl _) rfl rfl rfl ?_ | refine g_call hC (hP) rfl rfl (LeSs.refl _) rfl rfl rfl ?_ | refine g_idx T hC rfl rfl rfl (Int.natCast_nonneg _) (map_at hu) rfl rfl ?_ | refine g_call hC ((rIs_y hu hs)) rfl rfl (LeSs.refl _) rfl rfl rfl ?_ | refine g_lit T hC (rows := [exprR (.mk 7 n s L)]) rfl rfl rfl (by simp only [exprR_eq]; rfl) rfl rfl rfl rfl rfl ?_ | refine g_call hC ((rended_n hl _ _ _ _ _ hk hq)) rfl rfl (LeSs.refl _) rfl rfl rfl ?_ | refine g_retl T (.inl rfl) rfl ?_
        exact g_fin ⟨.inl rfl, id, _, rfl, .tup (.cons (.agg (.cons (.refl _) (.cons (.refl _) (.cons (.refl _) (.cons (.nil 5) (.cons (.nil 5) .nil)))))) (.cons (.refl _) (.cons (.refl _) .nil))), trivial, rfl, rfl⟩
      · refine fn_ok T Tryz.func167 (by kernel_rfl) rfl rfl rfl rfl fun C hC => ?_
        repeat' first | refine g_go T hC true 400 rfl rfl ?_ | (exfalso; simp at h; done) | (exfalso; simp [Ex.op, Ex.s] at h; done) | refine g_cond rfl (fun h => ?_) (fun h => ?_) | refine g_end T hC (by kernel_rfl) ?_ | refine g_splitD (fun h => ?_) (fun h => ?_) | refine g_splitG rfl rfl rfl (fun h => ?_) (fun h => ?_) | refine g_splitP rfl rfl (fun h => ?_) (fun h => ?_) | refine g_idx T hC rfl rfl rfl (Int.natCast_nonneg _) (map_at ht) rfl rfl ?_ | refine g_call hC ((rIs_n ht h1)) rfl rfl (LeSs.refl _) rfl rfl rfl ?_ | refine g_call hC ((rIs_n ht h1w)) rfl rfl (LeSs.refl _) rfl rfl rfl ?_ | refine g_call hC ((rIs_n ht h3)) rfl rfl (LeSs.refl _) rfl rfl rfl ?_ | refine g_call hC (hP) rfl rfl (LeSs.refl _) rfl rfl rfl ?_ | refine g_idx T hC rfl rfl rfl (Int.natCast_nonneg _) (map_at hu) rfl rfl ?_ | refine g_call hC ((rIs_n hu hs)) rfl rfl (LeSs.refl _) rfl rfl rfl ?_ | refine g_lit T hC (rows := [exprR (.mk 7 n s L)]) rfl rfl rfl (by simp only [exprR_eq]; rfl) rfl rfl rfl rfl rfl ?_ | refine g_call hC ((rended_n hl _ _ _ _ _ hk hq)) rfl rfl (LeSs.refl _) rfl rfl rfl ?_ | refine g_retl T (.inl rfl) rfl ?_
        exact g_fin ⟨.inl rfl, id, _, rfl, .tup (.cons (.agg (.cons (.refl _) (.cons (.refl _) (.cons (.refl _) (.cons (.nil 5) (.cons (.nil 5) .nil)))))) (.cons (.refl _) (.cons (.refl _) .nil))), trivial, rfl, rfl⟩
  simp only [h7, if_false] at hd
  by_cases hs : isA l k (⟨#[61]⟩ : ByteArray) = true
  · obtain ⟨rfl, rfl⟩ := pab_no hd
    refine ⟨S0, (fun h => by cases h), ?_⟩
    refine fn_ok T Tryz.func167 (by kernel_rfl) rfl rfl rfl rfl fun C hC => ?_
    repeat' first | refine g_go T hC true 400 rfl rfl ?_ | (exfalso; simp at h; done) | (exfalso; simp [Ex.op, Ex.s, h4, h55, h7] at h; done) | refine g_cond rfl (fun h => ?_) (fun h => ?_) | refine g_end T hC (by kernel_rfl) ?_ | refine g_splitD (fun h => ?_) (fun h => ?_) | refine g_splitG rfl rfl rfl (fun h => ?_) (fun h => ?_) | refine g_splitP rfl rfl (fun h => ?_) (fun h => ?_) | refine g_idx T hC rfl rfl rfl (Int.natCast_nonneg _) (map_at ht) rfl rfl ?_ | refine g_call hC ((rIs_n ht h1)) rfl rfl (LeSs.refl _) rfl rfl rfl ?_ | refine g_call hC ((rIs_n ht h1w)) rfl rfl (LeSs.refl _) rfl rfl rfl ?_ | refine g_call hC ((rIs_n ht h3)) rfl rfl (LeSs.refl _) rfl rfl rfl ?_ | refine g_call hC (hP) rfl rfl (LeSs.refl _) rfl rfl rfl ?_ | refine g_idx T hC rfl rfl rfl (Int.natCast_nonneg _) (map_at hu) rfl rfl ?_ | refine g_call hC ((rIs_y hu hs)) rfl rfl (LeSs.refl _) rfl rfl rfl ?_ | refine g_retl T (.inl rfl) rfl ?_
    exact g_fin ⟨.inl rfl, id, _, rfl, .tup (.cons (.agg (.cons (.refl _) (.cons (.refl _) (.cons (.nil 4) (.cons (.nil 5) (.cons (.nil 5) .nil)))))) (.cons (.refl _) (.cons (.refl _) .nil))), trivial, rfl, rfl⟩
  · obtain ⟨rfl, rfl⟩ := pab_no hd
    refine ⟨S0, (fun h => by cases h), ?_⟩
    refine fn_ok T Tryz.func167 (by kernel_rfl) rfl rfl rfl rfl fun C hC => ?_
    repeat' first | refine g_go T hC true 400 rfl rfl ?_ | (exfalso; simp at h; done) | (exfalso; simp [Ex.op, Ex.s, h4, h55, h7] at h; done) | refine g_cond rfl (fun h => ?_) (fun h => ?_) | refine g_end T hC (by kernel_rfl) ?_ | refine g_splitD (fun h => ?_) (fun h => ?_) | refine g_splitG rfl rfl rfl (fun h => ?_) (fun h => ?_) | refine g_splitP rfl rfl (fun h => ?_) (fun h => ?_) | refine g_idx T hC rfl rfl rfl (Int.natCast_nonneg _) (map_at ht) rfl rfl ?_ | refine g_call hC ((rIs_n ht h1)) rfl rfl (LeSs.refl _) rfl rfl rfl ?_ | refine g_call hC ((rIs_n ht h1w)) rfl rfl (LeSs.refl _) rfl rfl rfl ?_ | refine g_call hC ((rIs_n ht h3)) rfl rfl (LeSs.refl _) rfl rfl rfl ?_ | refine g_call hC (hP) rfl rfl (LeSs.refl _) rfl rfl rfl ?_ | refine g_idx T hC rfl rfl rfl (Int.natCast_nonneg _) (map_at hu) rfl rfl ?_ | refine g_call hC ((rIs_n hu hs)) rfl rfl (LeSs.refl _) rfl rfl rfl ?_ | refine g_retl T (.inl rfl) rfl ?_
    exact g_fin ⟨.inl rfl, id, _, rfl, .tup (.cons (.agg (.cons (.refl _) (.cons (.refl _) (.cons (.nil 4) (.cons (.nil 5) (.cons (.nil 5) .nil)))))) (.cons (.refl _) (.cons (.refl _) .nil))), trivial, rfl, rfl⟩
theorem sr_all : ∀ f : Nat, SR l f := by
  intro f
  induction f using Nat.strongRecOn with
  | _ f ih =>
    cases f with
    | zero => exact ⟨(fun _ _ => ⟨(fun _ _ h => by simp only [stmtsA] at h; cases h), fun _ h => by simp only [stmtsA] at h; cases h⟩), (fun _ _ => ⟨(fun _ _ h => by simp only [blockA] at h; cases h), fun _ h => by simp only [blockA] at h; cases h⟩), (fun _ _ => ⟨(fun _ _ h => by simp only [stmtA] at h; cases h), fun _ h => by simp only [stmtA] at h; cases h⟩)⟩
    | succ f =>
      have ih' : ∀ g, g ≤ f → SR l g := fun g hg => ih g (by omega)
      exact ⟨fun i hi => rblock_step hl f ih' i hi, fun i hi => rbraced_step hl f ih' i hi, fun i hi => rstmt_step hl f ih' i hi⟩
end
end Hw.Pa
namespace Hw.Pa
open Go Go.Proofs Hw.M

theorem okB {α β : Type} {x : α} {i : Nat} {f : α → Nat → PA β} : (PA.ok x i).bind f = f x i := rfl
theorem noB {α β : Type} {i : Nat} {f : α → Nat → PA β} : (PA.no i : PA α).bind f = .no i := rfl
section
variable {l : List Tok} (hl : GoodL l)
include hl
set_option maxHeartbeats 1000000 in
theorem rmeasure_ok (f i : Nat) (hi : i < l.length) : RK 119 [pS (toksP l), I (i : Nat)] (fun m => aggS (measureR m)) (measureA l f i) := by
  refine .mkd ⟨(⟨#[]⟩ : ByteArray), (⟨#[]⟩ : ByteArray), 0, E0⟩ fun bf xf jf hR => ?_
  have hll := hl.len
  unfold measureA at hR
  rcases RK.at (rname_ok hl i hi) hR with ⟨n, k1, h1, hd1, c1⟩ | ⟨_, rfl, z, c1⟩
  rotate_left
  · skip
    refine ⟨⟨(⟨#[]⟩ : ByteArray), (⟨#[]⟩ : ByteArray), 0, E0⟩, (fun h => by cases h), ?_⟩
    refine fn_ok T Tryz.func119 (by kernel_rfl) rfl rfl rfl rfl fun C hC => ?_
    repeat' first | refine g_go T hC true 400 rfl rfl ?_ | (exfalso; simp at h; done) | refine g_cond rfl (fun h => ?_) (fun h => ?_) | refine g_call hC (c1) rfl rfl (LeSs.refl _) rfl rfl rfl ?_ | refine g_retl T (.inl rfl) rfl ?_
    exact g_fin ⟨.inl rfl, id, _, rfl, .tup (.cons (.agg (.cons (.refl _) (.cons (.refl _) (.cons (.refl _) (.cons (.refl _) (.cons (.refl _) (.cons (.refl _) (.cons (.nil 4) .nil)))))))) (.cons (.refl _) (.cons (.refl _) .nil))), trivial, rfl, rfl⟩
  have hk1 := name_lt2 hl h1
  by_cases q1 : isA l k1 (⟨#[40]⟩ : ByteArray) = true
  rotate_left
  · unfold oneA at hd1
    rw [if_neg q1] at hd1
    obtain ⟨rfl, rfl⟩ := pab_no hd1
    refine ⟨⟨n, (⟨#[]⟩ : ByteArray), 0, E0⟩, (fun h => by cases h), ?_⟩
    refine fn_ok T Tryz.func119 (by kernel_rfl) rfl rfl rfl rfl fun C hC => ?_
    repeat' first | refine g_go T hC true 400 rfl rfl ?_ | (exfalso; simp at h; done) | refine g_cond rfl (fun h => ?_) (fun h => ?_) | refine g_call hC (c1) rfl rfl (LeSs.refl _) rfl rfl rfl ?_ | refine g_call hC ((rone_n hl hk1 q1)) rfl rfl (LeSs.refl _) rfl rfl rfl ?_ | refine g_retl T (.inl rfl) rfl ?_
    exact g_fin ⟨.inl rfl, id, _, rfl, .tup (.cons (.agg (.cons (.refl _) (.cons (.refl _) (.cons (.refl _) (.cons (.refl _) (.cons (.refl _) (.cons (.refl _) (.cons (.nil 4) .nil)))))))) (.cons (.refl _) (.cons (.refl _) .nil))), trivial, rfl, rfl⟩
  rw [show oneA l (⟨#[40]⟩ : ByteArray) k1 = .ok () (k1 + 1) from if_pos q1, okB] at hd1
  rcases RK.at (rname_ok hl (k1 + 1) (isA_next hl q1)) hd1 with ⟨ty, k3, h3, hd3, c3⟩ | ⟨_, rfl, z, c3⟩
  rotate_left
  · skip
    refine ⟨⟨n, z, 0, E0⟩, (fun h => by cases h), ?_⟩
    refine fn_ok T Tryz.func119 (by kernel_rfl) rfl rfl rfl rfl fun C hC => ?_
    repeat' first | refine g_go T hC true 400 rfl rfl ?_ | (exfalso; simp at h; done) | refine g_cond rfl (fun h => ?_) (fun h => ?_) | refine g_call hC (c1) rfl rfl (LeSs.refl _) rfl rfl rfl ?_ | refine g_call hC ((rone_y hl q1)) rfl rfl (LeSs.refl _) rfl rfl rfl ?_ | refine g_call hC (c3) rfl rfl (LeSs.refl _) rfl rfl rfl ?_ | refine g_retl T (.inl rfl) rfl ?_
    exact g_fin ⟨.inl rfl, id, _, rfl, .tup (.cons (.agg (.cons (.refl _) (.cons (.refl _) (.cons (.refl _) (.cons (.refl _) (.cons (.refl _) (.cons (.refl _) (.cons (.nil 4) .nil)))))))) (.cons (.refl _) (.cons (.refl _) .nil))), trivial, rfl, rfl⟩
  have hk3 := name_lt2 hl h3
  have hTk := rtake_ok hl [(⟨#[41]⟩ : ByteArray), (⟨#[110, 105, 108]⟩ : ByteArray)] (by simp) k3 hk3
  by_cases q3 : isA l k3 (⟨#[41]⟩ : ByteArray) = true
  rotate_left
  · rw [show oneA l (⟨#[41]⟩ : ByteArray) k3 = .no k3 from if_neg q3, noB] at hd3
    obtain ⟨rfl, rfl⟩ := pab_no hd3
    have cT := hTk.2 jf (by simp only [allA, oneA, if_neg q3, PA.bind])
    refine ⟨⟨n, ty, 0, E0⟩, (fun h => by cases h), ?_⟩
    refine fn_ok T Tryz.func119 (by kernel_rfl) rfl rfl rfl rfl fun C hC => ?_
    repeat' first | refine g_go T hC true 400 rfl rfl ?_ | (exfalso; simp at h; done) | refine g_cond rfl (fun h => ?_) (fun h => ?_) | refine g_call hC (c1) rfl rfl (LeSs.refl _) rfl rfl rfl ?_ | refine g_call hC ((rone_y hl q1)) rfl rfl (LeSs.refl _) rfl rfl rfl ?_ | refine g_call hC (c3) rfl rfl (LeSs.refl _) rfl rfl rfl ?_ | refine g_lit T hC rfl rfl rfl rfl rfl rfl rfl rfl rfl ?_ | refine g_call hC (cT) rfl rfl (LeSs.refl _) rfl rfl rfl ?_ | refine g_retl T (.inl rfl) rfl ?_
    exact g_fin ⟨.inl rfl, id, _, rfl, .tup (.cons (.agg (.cons (.refl _) (.cons (.refl _) (.cons (.refl _) (.cons (.refl _) (.cons (.refl _) (.cons (.refl _) (.cons (.nil 4) .nil)))))))) (.cons (.refl _) (.cons (.refl _) .nil))), trivial, rfl, rfl⟩
  rw [show oneA l (⟨#[41]⟩ : ByteArray) k3 = .ok () (k3 + 1) from if_pos q3, okB] at hd3
  have hk4 := isA_next hl q3
  by_cases q4 : isA l (k3 + 1) (⟨#[110, 105, 108]⟩ : ByteArray) = true
  rotate_left
  · rw [show oneA l (⟨#[110, 105, 108]⟩ : ByteArray) (k3 + 1) = .no (k3 + 1) from if_neg q4, noB] at hd3
    obtain ⟨rfl, rfl⟩ := pab_no hd3
    have cT := hTk.2 (k3 + 1) (by simp only [allA, oneA, if_pos q3, if_neg q4, PA.bind])
    refine ⟨⟨n, ty, 0, E0⟩, (fun h => by cases h), ?_⟩
    refine fn_ok T Tryz.func119 (by kernel_rfl) rfl rfl rfl rfl fun C hC => ?_
    repeat' first | refine g_go T hC true 400 rfl rfl ?_ | (exfalso; simp at h; done) | refine g_cond rfl (fun h => ?_) (fun h => ?_) | refine g_call hC (c1) rfl rfl (LeSs.refl _) rfl rfl rfl ?_ | refine g_call hC ((rone_y hl q1)) rfl rfl (LeSs.refl _) rfl rfl rfl ?_ | refine g_call hC (c3) rfl rfl (LeSs.refl _) rfl rfl rfl ?_ | refine g_lit T hC rfl rfl rfl rfl rfl rfl rfl rfl rfl ?_ | refine g_call hC (cT) rfl rfl (LeSs.refl _) rfl rfl rfl ?_ | refine g_retl T (.inl rfl) rfl ?_
    exact g_fin ⟨.inl rfl, id, _, rfl, .tup (.cons (.agg (.cons (.refl _) (.cons (.refl _) (.cons (.refl _) (.cons (.refl _) (.cons (.refl _) (.cons (.refl _) (.cons (.nil 4) .nil)))))))) (.cons (.refl _) (.cons (.refl _) .nil))), trivial, rfl, rfl⟩
  rw [show oneA l (⟨#[110, 105, 108]⟩ : ByteArray) (k3 + 1) = .ok () (k3 + 1 + 1) from if_pos q4, okB] at hd3
  have cT := hTk.1 () (k3 + 1 + 1) (by simp only [allA, oneA, if_pos q3, if_pos q4, PA.bind])
  have hk5 := isA_next hl q4
  clear hTk hR
  generalize k3 + 1 + 1 = k5 at hd3 cT hk5
  have hd := hd3
  clear hd3
  obtain ⟨u, hu⟩ := exists_at hk5
  have hw5 : IntKind.i64.wrap ((k5 : Int) + 1) = ((k5 + 1 : Nat) : Int) := wrapS (by omega)
  have hw6 : k5 + 1 < l.length → IntKind.i64.wrap (IntKind.i64.wrap ((k5 : Int) + 1) + 1) = ((k5 + 1 + 1 : Nat) : Int) := fun _ => by rw [hw5]; exact wrapS (by omega)
  by_cases q6 : isA l k5 (⟨#[45]⟩ : ByteArray) = true
  · have hk6 := isA_next hl q6
    rw [if_pos q6] at hd
    obtain ⟨⟨tk, ts, tn, tl, tc⟩, ht6⟩ := exists_at hk6
    unfold intA at hd
    rw [ht6] at hd
    simp only at hd
    by_cases h2 : tk = 2
    rotate_left
    · rw [if_neg h2, noB] at hd
      obtain ⟨rfl, rfl⟩ := pab_no hd
      refine ⟨⟨n, ty, 0, E0⟩, (fun h => by cases h), ?_⟩
      refine fn_ok T Tryz.func119 (by kernel_rfl) rfl rfl rfl rfl fun C hC => ?_
      repeat' first | refine g_go T hC true 400 rfl rfl ?_ | (exfalso; simp at h; contradiction) | (exfalso; simp at h; done) | refine g_cond rfl (fun h => ?_) (fun h => ?_) | refine g_call hC (c1) rfl rfl (LeSs.refl _) rfl rfl rfl ?_ | refine g_call hC ((rone_y hl q1)) rfl rfl (LeSs.refl _) rfl rfl rfl ?_ | refine g_call hC (c3) rfl rfl (LeSs.refl _) rfl rfl rfl ?_ | refine g_lit T hC rfl rfl rfl rfl rfl rfl rfl rfl rfl ?_ | refine g_call hC (cT) rfl rfl (LeSs.refl _) rfl rfl rfl ?_ | refine g_idx T hC rfl rfl rfl (Int.natCast_nonneg _) (map_at hu) rfl rfl ?_ | refine g_call hC ((rIs_y hu q6)) rfl rfl (LeSs.refl _) rfl rfl rfl ?_ | refine g_idx T hC (i := IntKind.i64.wrap ((k5 : Int) + 1)) rfl rfl rfl (by rw [hw5]; exact Int.natCast_nonneg _) (by rw [hw5]; exact map_at ht6) rfl rfl ?_ | refine g_retl T (.inl rfl) rfl ?_
      rw [hw5]
      exact g_fin ⟨.inl rfl, id, _, rfl, .tup (.cons (.agg (.cons (.refl _) (.cons (.refl _) (.cons (.refl _) (.cons (.refl _) (.cons (.refl _) (.cons (.refl _) (.cons (.nil 4) .nil)))))))) (.cons (.refl _) (.cons (.refl _) .nil))), trivial, rfl, rfl⟩
    subst h2
    rw [if_pos rfl] at hd
    have hk7 : k5 + 1 + 1 < l.length := hl.next ht6 (by show (2 : Int) ≠ 5; decide)
    have hz := hl.num _ (List.mem_of_getElem? ht6)
    simp only at hz
    have hmul : IntKind.i64.wrap (-1 * tn) = -tn := by rw [wrap64 (by omega)]; omega
    rw [okB] at hd
    unfold formulaA oneA at hd
    by_cases q7 : isA l (k5 + 1 + 1) (⟨#[61]⟩ : ByteArray) = true
    rotate_left
    · rw [if_neg q7, noB, noB] at hd
      obtain ⟨rfl, rfl⟩ := pab_no hd
      have cO := rone_n hl hk7 q7
      rw [← hw6 hk6] at cO
      refine ⟨⟨n, ty, -tn, E0⟩, (fun h => by cases h), ?_⟩
      refine fn_ok T Tryz.func119 (by kernel_rfl) rfl rfl rfl rfl fun C hC => ?_
      repeat' first | refine g_go T hC true 400 rfl rfl ?_ | (exfalso; simp at h; done) | refine g_cond rfl (fun h => ?_) (fun h => ?_) | refine g_call hC (c1) rfl rfl (LeSs.refl _) rfl rfl rfl ?_ | refine g_call hC ((rone_y hl q1)) rfl rfl (LeSs.refl _) rfl rfl rfl ?_ | refine g_call hC (c3) rfl rfl (LeSs.refl _) rfl rfl rfl ?_ | refine g_lit T hC rfl rfl rfl rfl rfl rfl rfl rfl rfl ?_ | refine g_call hC (cT) rfl rfl (LeSs.refl _) rfl rfl rfl ?_ | refine g_idx T hC rfl rfl rfl (Int.natCast_nonneg _) (map_at hu) rfl rfl ?_ | refine g_call hC ((rIs_y hu q6)) rfl rfl (LeSs.refl _) rfl rfl rfl ?_ | refine g_idx T hC (i := IntKind.i64.wrap ((k5 : Int) + 1)) rfl rfl rfl (by rw [hw5]; exact Int.natCast_nonneg _) (by rw [hw5]; exact map_at ht6) rfl rfl ?_ | refine g_call hC (cO) rfl rfl (LeSs.refl _) rfl rfl rfl ?_ | refine g_retl T (.inl rfl) rfl ?_
      rw [hmul, hw6 hk6]
      exact g_fin ⟨.inl rfl, id, _, rfl, .tup (.cons (.agg (.cons (.refl _) (.cons (.refl _) (.cons (.refl _) (.cons (.refl _) (.cons (.refl _) (.cons (.refl _) (.cons (.nil 4) .nil)))))))) (.cons (.refl _) (.cons (.refl _) .nil))), trivial, rfl, rfl⟩
    rw [if_pos q7, okB] at hd
    have cO := rone_y hl q7
    rw [← hw6 hk6] at cO
    rcases RK0.at (rExpr_ok hl (er_all hl f) (k5 + 1 + 1 + 1) (isA_next hl q7)) (β := Ms) (g := fun x j => .ok ⟨n, ty, -tn, x⟩ j) (x := xf) (j := jf) (b := bf) (by rw [← hd]; cases exprA l f 0 (k5 + 1 + 1 + 1) <;> simp only [if_pos q6] <;> rfl) with ⟨x, k8, h8, hd8, cE⟩ | ⟨_, rfl, cE⟩
    · obtain ⟨rfl, rfl, rfl⟩ := pab_ok hd8
      refine ⟨_, fun _ => rfl, ?_⟩
      refine fn_ok T Tryz.func119 (by kernel_rfl) rfl rfl rfl rfl fun C hC => ?_
      repeat' first | refine g_go T hC true 400 rfl rfl ?_ | (exfalso; simp at h; done) | refine g_cond rfl (fun h => ?_) (fun h => ?_) | refine g_call hC (c1) rfl rfl (LeSs.refl _) rfl rfl rfl ?_ | refine g_call hC ((rone_y hl q1)) rfl rfl (LeSs.refl _) rfl rfl rfl ?_ | refine g_call hC (c3) rfl rfl (LeSs.refl _) rfl rfl rfl ?_ | refine g_lit T hC rfl rfl rfl rfl rfl rfl rfl rfl rfl ?_ | refine g_call hC (cT) rfl rfl (LeSs.refl _) rfl rfl rfl ?_ | refine g_idx T hC rfl rfl rfl (Int.natCast_nonneg _) (map_at hu) rfl rfl ?_ | refine g_call hC ((rIs_y hu q6)) rfl rfl (LeSs.refl _) rfl rfl rfl ?_ | refine g_idx T hC (i := IntKind.i64.wrap ((k5 : Int) + 1)) rfl rfl rfl (by rw [hw5]; exact Int.natCast_nonneg _) (by rw [hw5]; exact map_at ht6) rfl rfl ?_ | refine g_call hC (cO) rfl rfl (LeSs.refl _) rfl rfl rfl ?_ | refine g_call hC (cE) rfl rfl (LeSs.refl _) rfl rfl rfl ?_ | refine g_retl T (.inl rfl) rfl ?_
      rw [hmul]
      exact g_fin ⟨.inl rfl, id, _, rfl, .refl _, trivial, rfl, rfl⟩
    · refine ⟨⟨n, ty, -tn, E0⟩, (fun h => by cases h), ?_⟩
      refine fn_ok T Tryz.func119 (by kernel_rfl) rfl rfl rfl rfl fun C hC => ?_
      repeat' first | refine g_go T hC true 400 rfl rfl ?_ | (exfalso; simp at h; done) | refine g_cond rfl (fun h => ?_) (fun h => ?_) | refine g_call hC (c1) rfl rfl (LeSs.refl _) rfl rfl rfl ?_ | refine g_call hC ((rone_y hl q1)) rfl rfl (LeSs.refl _) rfl rfl rfl ?_ | refine g_call hC (c3) rfl rfl (LeSs.refl _) rfl rfl rfl ?_ | refine g_lit T hC rfl rfl rfl rfl rfl rfl rfl rfl rfl ?_ | refine g_call hC (cT) rfl rfl (LeSs.refl _) rfl rfl rfl ?_ | refine g_idx T hC rfl rfl rfl (Int.natCast_nonneg _) (map_at hu) rfl rfl ?_ | refine g_call hC ((rIs_y hu q6)) rfl rfl (LeSs.refl _) rfl rfl rfl ?_ | refine g_idx T hC (i := IntKind.i64.wrap ((k5 : Int) + 1)) rfl rfl rfl (by rw [hw5]; exact Int.natCast_nonneg _) (by rw [hw5]; exact map_at ht6) rfl rfl ?_ | refine g_call hC (cO) rfl rfl (LeSs.refl _) rfl rfl rfl ?_ | refine g_call hC (cE) rfl rfl (LeSs.refl _) rfl rfl rfl ?_ | refine g_retl T (.inl rfl) rfl ?_
      rw [hmul]
      exact g_fin ⟨.inl rfl, id, _, rfl, .refl _, trivial, rfl, rfl⟩
  · have hk6 := hk5
    rw [if_neg q6] at hd
    obtain ⟨tk, ts, tn, tl, tc⟩ := u
    have ht6 := hu
    unfold intA at hd
    rw [ht6] at hd
    simp only at hd
    by_cases h2 : tk = 2
    rotate_left
    · rw [if_neg h2, noB] at hd
      obtain ⟨rfl, rfl⟩ := pab_no hd
      refine ⟨⟨n, ty, 0, E0⟩, (fun h => by cases h), ?_⟩
      refine fn_ok T Tryz.func119 (by kernel_rfl) rfl rfl rfl rfl fun C hC => ?_
      repeat' first | refine g_go T hC true 400 rfl rfl ?_ | (exfalso; simp at h; contradiction) | (exfalso; simp at h; done) | refine g_cond rfl (fun h => ?_) (fun h => ?_) | refine g_call hC (c1) rfl rfl (LeSs.refl _) rfl rfl rfl ?_ | refine g_call hC ((rone_y hl q1)) rfl rfl (LeSs.refl _) rfl rfl rfl ?_ | refine g_call hC (c3) rfl rfl (LeSs.refl _) rfl rfl rfl ?_ | refine g_lit T hC rfl rfl rfl rfl rfl rfl rfl rfl rfl ?_ | refine g_call hC (cT) rfl rfl (LeSs.refl _) rfl rfl rfl ?_ | refine g_idx T hC rfl rfl rfl (Int.natCast_nonneg _) (map_at hu) rfl rfl ?_ | refine g_call hC ((rIs_n hu q6)) rfl rfl (LeSs.refl _) rfl rfl rfl ?_ | refine g_retl T (.inl rfl) rfl ?_
      skip
      exact g_fin ⟨.inl rfl, id, _, rfl, .tup (.cons (.agg (.cons (.refl _) (.cons (.refl _) (.cons (.refl _) (.cons (.refl _) (.cons (.refl _) (.cons (.refl _) (.cons (.nil 4) .nil)))))))) (.cons (.refl _) (.cons (.refl _) .nil))), trivial, rfl, rfl⟩
    subst h2
    rw [if_pos rfl] at hd
    have hk7 : k5 + 1 < l.length := hl.next ht6 (by show (2 : Int) ≠ 5; decide)
    have hz := hl.num _ (List.mem_of_getElem? ht6)
    simp only at hz
    have hmul : IntKind.i64.wrap (1 * tn) = tn := by rw [wrap64 (by omega)]; omega
    rw [okB] at hd
    unfold formulaA oneA at hd
    by_cases q7 : isA l (k5 + 1) (⟨#[61]⟩ : ByteArray) = true
    rotate_left
    · rw [if_neg q7, noB, noB] at hd
      obtain ⟨rfl, rfl⟩ := pab_no hd
      have cO := rone_n hl hk7 q7
      rw [← hw5] at cO
      refine ⟨⟨n, ty, tn, E0⟩, (fun h => by cases h), ?_⟩
      refine fn_ok T Tryz.func119 (by kernel_rfl) rfl rfl rfl rfl fun C hC => ?_
      repeat' first | refine g_go T hC true 400 rfl rfl ?_ | (exfalso; simp at h; done) | refine g_cond rfl (fun h => ?_) (fun h => ?_) | refine g_call hC (c1) rfl rfl (LeSs.refl _) rfl rfl rfl ?_ | refine g_call hC ((rone_y hl q1)) rfl rfl (LeSs.refl _) rfl rfl rfl ?_ | refine g_call hC (c3) rfl rfl (LeSs.refl _) rfl rfl rfl ?_ | refine g_lit T hC rfl rfl rfl rfl rfl rfl rfl rfl rfl ?_ | refine g_call hC (cT) rfl rfl (LeSs.refl _) rfl rfl rfl ?_ | refine g_idx T hC rfl rfl rfl (Int.natCast_nonneg _) (map_at hu) rfl rfl ?_ | refine g_call hC ((rIs_n hu q6)) rfl rfl (LeSs.refl _) rfl rfl rfl ?_ | refine g_call hC (cO) rfl rfl (LeSs.refl _) rfl rfl rfl ?_ | refine g_retl T (.inl rfl) rfl ?_
      rw [hmul, hw5]
      exact g_fin ⟨.inl rfl, id, _, rfl, .tup (.cons (.agg (.cons (.refl _) (.cons (.refl _) (.cons (.refl _) (.cons (.refl _) (.cons (.refl _) (.cons (.refl _) (.cons (.nil 4) .nil)))))))) (.cons (.refl _) (.cons (.refl _) .nil))), trivial, rfl, rfl⟩
    rw [if_pos q7, okB] at hd
    have cO := rone_y hl q7
    rw [← hw5] at cO
    rcases RK0.at (rExpr_ok hl (er_all hl f) (k5 + 1 + 1) (isA_next hl q7)) (β := Ms) (g := fun x j => .ok ⟨n, ty, tn, x⟩ j) (x := xf) (j := jf) (b := bf) (by rw [← hd]; cases exprA l f 0 (k5 + 1 + 1) <;> simp only [if_neg q6] <;> rfl) with ⟨x, k8, h8, hd8, cE⟩ | ⟨_, rfl, cE⟩
    · obtain ⟨rfl, rfl, rfl⟩ := pab_ok hd8
      refine ⟨_, fun _ => rfl, ?_⟩
      refine fn_ok T Tryz.func119 (by kernel_rfl) rfl rfl rfl rfl fun C hC => ?_
      repeat' first | refine g_go T hC true 400 rfl rfl ?_ | (exfalso; simp at h; done) | refine g_cond rfl (fun h => ?_) (fun h => ?_) | refine g_call hC (c1) rfl rfl (LeSs.refl _) rfl rfl rfl ?_ | refine g_call hC ((rone_y hl q1)) rfl rfl (LeSs.refl _) rfl rfl rfl ?_ | refine g_call hC (c3) rfl rfl (LeSs.refl _) rfl rfl rfl ?_ | refine g_lit T hC rfl rfl rfl rfl rfl rfl rfl rfl rfl ?_ | refine g_call hC (cT) rfl rfl (LeSs.refl _) rfl rfl rfl ?_ | refine g_idx T hC rfl rfl rfl (Int.natCast_nonneg _) (map_at hu) rfl rfl ?_ | refine g_call hC ((rIs_n hu q6)) rfl rfl (LeSs.refl _) rfl rfl rfl ?_ | refine g_call hC (cO) rfl rfl (LeSs.refl _) rfl rfl rfl ?_ | refine g_call hC (cE) rfl rfl (LeSs.refl _) rfl rfl rfl ?_ | refine g_retl T (.inl rfl) rfl ?_
      rw [hmul]
      exact g_fin ⟨.inl rfl, id, _, rfl, .refl _, trivial, rfl, rfl⟩
    · refine ⟨⟨n, ty, tn, E0⟩, (fun h => by cases h), ?_⟩
      refine fn_ok T Tryz.func119 (by kernel_rfl) rfl rfl rfl rfl fun C hC => ?_
      repeat' first | refine g_go T hC true 400 rfl rfl ?_ | (exfalso; simp at h; done) | refine g_cond rfl (fun h => ?_) (fun h => ?_) | refine g_call hC (c1) rfl rfl (LeSs.refl _) rfl rfl rfl ?_ | refine g_call hC ((rone_y hl q1)) rfl rfl (LeSs.refl _) rfl rfl rfl ?_ | refine g_call hC (c3) rfl rfl (LeSs.refl _) rfl rfl rfl ?_ | refine g_lit T hC rfl rfl rfl rfl rfl rfl rfl rfl rfl ?_ | refine g_call hC (cT) rfl rfl (LeSs.refl _) rfl rfl rfl ?_ | refine g_idx T hC rfl rfl rfl (Int.natCast_nonneg _) (map_at hu) rfl rfl ?_ | refine g_call hC ((rIs_n hu q6)) rfl rfl (LeSs.refl _) rfl rfl rfl ?_ | refine g_call hC (cO) rfl rfl (LeSs.refl _) rfl rfl rfl ?_ | refine g_call hC (cE) rfl rfl (LeSs.refl _) rfl rfl rfl ?_ | refine g_retl T (.inl rfl) rfl ?_
      rw [hmul]
      exact g_fin ⟨.inl rfl, id, _, rfl, .refl _, trivial, rfl, rfl⟩
end
end Hw.Pa
