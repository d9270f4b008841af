/- The engine and the contracts. -/
import Derived.Test.YtnijeifpjjeccaaGreatDoorC12
set_option linter.unusedVariables false
set_option linter.unusedSimpArgs false
namespace Hw.Mq
open Go Go.Proofs Go.Shelf Hw.M

/-! models: partitions, texts, all kinds -/
theorem op4 {o : OpT} (h : okOp 4 o = true) : o = ⟨1, []⟩ ∨ (∃ x y, (o = ⟨2, [x, y]⟩ ∨ o = ⟨3, [x, y]⟩) ∧ numB x = true ∧ numB y = true) ∨ (∃ x, o = ⟨4, [x]⟩ ∧ numB x = true) ∨ o = ⟨5, []⟩ := by
  obtain ⟨w, h1, h2, hw, h3, -⟩ := okOp_word h
  obtain ⟨c, l⟩ := o
  have hc : c = 1 ∨ c = 2 ∨ c = 3 ∨ c = 4 ∨ c = 5 := by
    have : (wordsL 4).length = 5 := rfl
    simp only at h1 h2; omega
  rcases hc with rfl | rfl | rfl | rfl | rfl <;> (obtain rfl := Option.some.inj hw; obtain ⟨hl, hn⟩ := h3 (by decide); simp only at hl hn)
  · obtain rfl := len0 (l := l) (by omega)
    exact .inl rfl
  iterate 2
    · obtain ⟨a, b, rfl⟩ := len2 (l := l) (by omega)
      exact .inr (.inl ⟨a, b, by simp, hn a (by simp), hn b (by simp)⟩)
  · obtain ⟨a, rfl⟩ := len1 (l := l) (by omega)
    exact .inr (.inr (.inl ⟨a, rfl, hn a (by simp)⟩))
  · obtain rfl := len0 (l := l) (by omega)
    exact .inr (.inr (.inr rfl))
theorem op6 {o : OpT} (h : okOp 6 o = true) : (∃ p : List Int, (o = ⟨1, p⟩ ∨ o = ⟨2, p⟩ ∨ o = ⟨3, p⟩) ∧ (1 ≤ p.length ∧ p.length ≤ 64) ∧ ∀ x ∈ p, chrB x = true) ∨ o = ⟨4, []⟩ := by
  obtain ⟨w, h1, h2, hw, h3, h4⟩ := okOp_word h
  obtain ⟨c, l⟩ := o
  have hc : c = 1 ∨ c = 2 ∨ c = 3 ∨ c = 4 := by
    have : (wordsL 6).length = 4 := rfl
    simp only at h1 h2; omega
  rcases hc with rfl | rfl | rfl | rfl <;> obtain rfl := Option.some.inj hw
  iterate 3
    · obtain ⟨hl, hl2, hn⟩ := h4 (by decide)
      exact .inl ⟨l, by simp, ⟨hl, hl2⟩, hn⟩
  · obtain ⟨hl, hn⟩ := h3 (by decide)
    simp only at hl
    obtain rfl := len0 (l := l) (by omega)
    exact .inr rfl
theorem SetsOk.rowLen {R : Rws} (h : SetsOk R) {i : Nat} {A : Rw} (ha : R[i]? = some A) : A.length ≤ 500 := by
  have := h.tot
  have h2 := flat_take ha
  have h3 := flat_take_le R (i + 1)
  omega
theorem SetsOk.dis {R : Rws} (h : SetsOk R) {a b : Nat} {A B : Rw} (ha : R[a]? = some A) (hb : R[b]? = some B) (hab : a < b) : ∀ x ∈ A, x ∉ B := fun x hx hy => by
  obtain ⟨Pr, Qr, Sr, e1, _⟩ := two_split ha hb hab
  have := h.nd
  rw [e1] at this
  simp only [List.flatten_append, List.flatten_cons] at this
  have h1 := (List.nodup_append.1 this).2.1
  exact (List.nodup_append.1 h1).2.2 x hx x (by simp [hy]) rfl
theorem merge_sort {A B : List Int} (ha : A.Pairwise (· < ·)) (hb : B.Pairwise (· < ·)) (hd : ∀ x ∈ A, x ∉ B) : sortI (A ++ B) = mergeI A B :=
  asc_uniq ((sortI_perm _).trans (mergeI_perm _ A B (Nat.le_refl _)).symm) (sortI_asc _) (pw_le (mergeI_asc _ A B (Nat.le_refl _) ha hb hd))
theorem sets_ok (R : Rws) (o : OpT) (hv : validS 4 R = true) (ho : okOp 4 o = true) :
    FnOK Tryz.prog 58 [.one (.ar 0), aggS (opR o)] [(0, vg 1 R.length), (1, bg R)] (.tup [.one (.ar 2), aggS (rsR (setsS R o).2)]) [(2, vg 3 (setsS R o).1.length), (3, bg (setsS R o).1)] := by
  obtain ⟨hR, hT⟩ := valid4 hv
  have htot := hT.tot
  rcases op4 ho with rfl | ⟨x, y, hc, hx, hy⟩ | ⟨x, rfl, hx⟩ | rfl
  · by_cases h5 : R.flatten.length = 500
    · have e : setsS R ⟨1, []⟩ = (R, erR 4) := by simp only [setsS]; rw [if_neg (by decide), if_pos trivial]; exact if_pos h5
      rw [e]; exact set1f R hR h5
    · have e : setsS R ⟨1, []⟩ = (R ++ [[(R.flatten.length : Int)]], okR R.flatten.length) := by simp only [setsS]; rw [if_neg (by decide), if_pos trivial]; exact if_neg h5
      rw [e]
      simp only [List.length_append, List.length_singleton]
      exact set1 R hR (by omega)
  · have hA := class_ok R x
    have hB := class_ok R y
    have rd : ∀ (a : Int), (clsI a R 0 = -1) ∨ ∃ (i : Nat) (r : Rw), clsI a R 0 = (i : Int) ∧ R[i]? = some r := fun a => by
      rcases clsI_spec a R 0 with ⟨h, _⟩ | ⟨i, r, h, h2, _⟩
      · exact .inl h
      · exact .inr ⟨i, r, by rw [h, Nat.zero_add], h2⟩
    by_cases hz : clsI x R 0 < 0 ∨ clsI y R 0 < 0
    · rcases hc with rfl | rfl
      · have e : setsS R ⟨2, [x, y]⟩ = (R, erR 12) := by simp only [setsS]; rw [if_neg (by decide), if_neg (by decide), if_neg (by decide)]; exact if_pos hz
        rw [e]; exact set2n R hR x y _ _ hA hB hz
      · have e : setsS R ⟨3, [x, y]⟩ = (R, erR 12) := by simp only [setsS]; rw [if_neg (by decide), if_neg (by decide), if_neg (by decide)]; exact if_pos hz
        rw [e]; exact set3n R hR x y _ _ hA hB hz
    · rcases hc with rfl | rfl
      · obtain ⟨a, A, h1, h2⟩ := (rd x).resolve_left (by omega)
        obtain ⟨b, B, h3, h4⟩ := (rd y).resolve_left (by omega)
        have e0 : setsS R ⟨2, [x, y]⟩ = if clsI x R 0 = clsI y R 0 then (R, okR 0) else ((R.set (min (clsI x R 0) (clsI y R 0)).toNat (mergeI (rowA R (clsI x R 0).toNat) (rowA R (clsI y R 0).toNat))).eraseIdx (max (clsI x R 0) (clsI y R 0)).toNat, okR 1) := by
          simp only [setsS]; rw [if_neg (by decide), if_neg (by decide), if_neg (by decide)]; exact (if_neg hz).trans (if_neg (by decide))
        rw [e0, h1, h3]
        rw [h1] at hA
        rw [h3] at hB
        have hla := hT.rowLen h2
        have hlb := hT.rowLen h4
        rcases Nat.lt_trichotomy a b with hab | rfl | hab
        · have hbl : b < R.length := (List.getElem?_eq_some_iff.1 h4).1
          rw [if_neg (by omega), Int.min_eq_left (by omega), Int.max_eq_right (by omega), Int.toNat_natCast, Int.toNat_natCast, rowA_of h2, rowA_of h4, ← merge_sort (hT.asc _ (List.mem_of_getElem? h2)) (hT.asc _ (List.mem_of_getElem? h4)) (hT.dis h2 h4 hab)]
          simp only [List.length_eraseIdx_of_lt (show b < (R.set a (sortI (A ++ B))).length by rw [List.length_set]; exact hbl), List.length_set]
          exact set2l R hR x y a b A B h2 h4 hab (by omega) hA hB
        · rw [if_pos rfl]
          exact set2s R hR x y _ hA hB (by omega)
        · have hal : a < R.length := (List.getElem?_eq_some_iff.1 h2).1
          have hm : mergeI A B = sortI (B ++ A) := by
            have h5 := merge_sort (hT.asc _ (List.mem_of_getElem? h2)) (hT.asc _ (List.mem_of_getElem? h4)) fun x hx hy => hT.dis h4 h2 hab x hy hx
            rw [← h5]
            exact asc_uniq ((sortI_perm _).trans (List.perm_append_comm.trans (sortI_perm _).symm)) (sortI_asc _) (sortI_asc _)
          rw [if_neg (by omega), Int.min_eq_right (by omega), Int.max_eq_left (by omega), Int.toNat_natCast, Int.toNat_natCast, rowA_of h2, rowA_of h4, hm]
          simp only [List.length_eraseIdx_of_lt (show a < (R.set b (sortI (B ++ A))).length by rw [List.length_set]; exact hal), List.length_set]
          exact set2g R hR x y b a B A h4 h2 hab (by omega) hA hB
      · have e : setsS R ⟨3, [x, y]⟩ = (R, okR (if clsI x R 0 = clsI y R 0 then 1 else 0)) := by simp only [setsS]; rw [if_neg (by decide), if_neg (by decide), if_neg (by decide)]; exact (if_neg hz).trans (if_pos trivial)
        rw [e]; exact set3 R hR x y _ _ hA hB (by omega) (by omega)
  · have hA := class_ok R x
    rcases clsI_spec x R 0 with ⟨h, _⟩ | ⟨i, r, h, h2, _⟩
    · have e : setsS R ⟨4, [x]⟩ = (R, erR 12) := by simp only [setsS]; rw [if_neg (by decide), if_neg (by decide), if_pos trivial]; exact if_pos (by rw [show at0 [x] 0 = x from rfl, h]; decide)
      rw [e]; exact set4n R hR x _ hA (by rw [h]; decide)
    · rw [Nat.zero_add] at h
      have e : setsS R ⟨4, [x]⟩ = (R, okR r.length) := by
        simp only [setsS]; rw [if_neg (by decide), if_neg (by decide), if_pos trivial, show at0 [x] 0 = x from rfl, h, Int.toNat_natCast, rowA_of h2]; exact if_neg (by omega)
      rw [e]
      rw [h] at hA
      exact set4 R hR x i r h2 (List.getElem?_eq_some_iff.1 h2).1 hA
  · exact set5 R hR
theorem occs_nil (p : List Int) : occs [] p = [] := rfl
theorem text_ok (R : Rws) (o : OpT) (hv : validS 6 R = true) (ho : okOp 6 o = true) :
    FnOK Tryz.prog 60 [.one (.ar 0), aggS (opR o)] [(0, vg 1 R.length), (1, bg R)] (.tup [.one (.ar 2), aggS (rsR (textS R o).2)]) [(2, vg 3 (textS R o).1.length), (3, bg (textS R o).1)] := by
  rcases op6 ho with ⟨p, hc, hp, hn⟩ | rfl
  · rcases valid6 hv with rfl | ⟨r, rfl, h1, h2, _⟩
    · rcases hc with rfl | rfl | rfl
      · have e : textS [] ⟨1, p⟩ = ([p], okR 0) := by simp only [textS]; rw [if_neg (by decide), if_pos trivial, if_neg (by simp [rowA]; omega)]; rfl
        rw [e]; exact text1n p hp
      · exact text2n p hp
      · exact text3n p hp
    · rcases hc with rfl | rfl | rfl
      · by_cases h5 : 500 < r.length + p.length
        · have e : textS [r] ⟨1, p⟩ = ([r], erR 4) := by simp only [textS]; rw [if_neg (by decide), if_pos trivial]; exact if_pos h5
          rw [e]; exact text1f r ⟨h1, h2⟩ p hp h5
        · have e : textS [r] ⟨1, p⟩ = ([r ++ p], okR 0) := by simp only [textS]; rw [if_neg (by decide), if_pos trivial]; exact if_neg h5
          rw [e]; exact text1 r ⟨h1, h2⟩ p hp (by omega)
      · exact text2 r ⟨h1, h2⟩ p hp
      · have e0 : textS [r] ⟨3, p⟩ = match (occs r p).head? with | some i => ([r], okR i) | none => ([r], erR 12) := rfl
        by_cases h0 : occs r p = []
        · have e : textS [r] ⟨3, p⟩ = ([r], erR 12) := by rw [e0, h0]; rfl
          rw [e]; exact text3m r ⟨h1, h2⟩ p hp h0
        · have e : textS [r] ⟨3, p⟩ = ([r], okR (hdI (occs r p))) := by
            rw [e0]
            cases hh : occs r p with
            | nil => exact absurd hh h0
            | cons a l => rfl
          rw [e]; exact text3 r ⟨h1, h2⟩ p hp h0
  · rcases valid6 hv with rfl | ⟨r, rfl, h1, h2, _⟩
    · exact text4n
    · exact text4 r ⟨h1, h2⟩
theorem valid_kind {k : Int} {R : Rws} (h : validS k R = true) : R.length ≤ 500 ∧ (k = 1 ∨ k = 2 ∨ k = 3 ∨ k = 4 ∨ k = 5 ∨ k = 6) := by
  unfold validS at h
  simp only [Bool.and_eq_true, decide_eq_true_eq] at h
  refine ⟨h.1, ?_⟩
  have h2 := h.2
  split at h2; · omega
  split at h2; · omega
  split at h2; · omega
  split at h2; · omega
  split at h2; · omega
  split at h2; · omega
  cases h2
theorem apply_ok (k : Int) (R : Rws) (o : OpT) (hv : validS k R = true) (ho : okOp k o = true) :
    FnOK Tryz.prog 42 [I k, .one (.ar 0), aggS (opR o)] [(0, vg 1 R.length), (1, bg R)] (.tup [.one (.ar 2), aggS (rsR (stepS k R o).2)]) [(2, vg 3 (stepS k R o).1.length), (3, bg (stepS k R o).1)] := by
  obtain ⟨hR, hk⟩ := valid_kind hv
  rcases hk with rfl | rfl | rfl | rfl | rfl | rfl
  · have hF := dict_ok R o hv ho
    have e : stepS 1 R o = dictS R o := rfl
    rw [e]
    generalize dictS R o = z at hF ⊢
    refine fn_ok T Tryz.func42 (by kernel_rfl) rfl rfl rfl rfl fun C hC => ?_
    repeat' first
      | refine g_go T hC true 400 rfl rfl ?_
      | (exfalso; first | (simp only [decide_eq_true_eq, decide_eq_false_iff_not, List.length_map, Bool.not_eq_true', Bool.not_eq_false'] at *; omega) | (simp at h; done))
      | refine g_cond rfl (fun h => ?_) (fun h => ?_)
      | refine g_end T hC (by kernel_rfl) ?_
      | refine g_splitD (fun h => ?_) (fun h => ?_)
      | refine g_splitG rfl rfl rfl (fun h => ?_) (fun h => ?_)
      | refine g_splitP rfl rfl (fun h => ?_) (fun h => ?_)
      | refine g_callR hC (hF) (nm [0, 1, 102, 103]) rfl rfl (LeSs.refl _) rfl rfl rfl rfl rfl rfl rfl rfl ?_
    exact g_fin ⟨.inl rfl, nm [0, 1, 102, 103], _, rfl, .refl _, ⟨rfl, rfl, trivial⟩, rfl, rfl⟩
  · have hF := heap_ok R o hv ho
    have e : stepS 2 R o = heapS R o := rfl
    rw [e]
    generalize heapS R o = z at hF ⊢
    refine fn_ok T Tryz.func42 (by kernel_rfl) rfl rfl rfl rfl fun C hC => ?_
    repeat' first
      | refine g_go T hC true 400 rfl rfl ?_
      | (exfalso; first | (simp only [decide_eq_true_eq, decide_eq_false_iff_not, List.length_map, Bool.not_eq_true', Bool.not_eq_false'] at *; omega) | (simp at h; done))
      | refine g_cond rfl (fun h => ?_) (fun h => ?_)
      | refine g_end T hC (by kernel_rfl) ?_
      | refine g_splitD (fun h => ?_) (fun h => ?_)
      | refine g_splitG rfl rfl rfl (fun h => ?_) (fun h => ?_)
      | refine g_splitP rfl rfl (fun h => ?_) (fun h => ?_)
      | refine g_callR hC (hF) (nm [0, 1, 102, 103]) rfl rfl (LeSs.refl _) rfl rfl rfl rfl rfl rfl rfl rfl ?_
    exact g_fin ⟨.inl rfl, nm [0, 1, 102, 103], _, rfl, .refl _, ⟨rfl, rfl, trivial⟩, rfl, rfl⟩
  · have hF := seq_ok R o hv ho
    have e : stepS 3 R o = seqS R o := rfl
    rw [e]
    generalize seqS R o = z at hF ⊢
    refine fn_ok T Tryz.func42 (by kernel_rfl) rfl rfl rfl rfl fun C hC => ?_
    repeat' first
      | refine g_go T hC true 400 rfl rfl ?_
      | (exfalso; first | (simp only [decide_eq_true_eq, decide_eq_false_iff_not, List.length_map, Bool.not_eq_true', Bool.not_eq_false'] at *; omega) | (simp at h; done))
      | refine g_cond rfl (fun h => ?_) (fun h => ?_)
      | refine g_end T hC (by kernel_rfl) ?_
      | refine g_splitD (fun h => ?_) (fun h => ?_)
      | refine g_splitG rfl rfl rfl (fun h => ?_) (fun h => ?_)
      | refine g_splitP rfl rfl (fun h => ?_) (fun h => ?_)
      | refine g_callR hC (hF) (nm [0, 1, 102, 103]) rfl rfl (LeSs.refl _) rfl rfl rfl rfl rfl rfl rfl rfl ?_
    exact g_fin ⟨.inl rfl, nm [0, 1, 102, 103], _, rfl, .refl _, ⟨rfl, rfl, trivial⟩, rfl, rfl⟩
  · have hF := sets_ok R o hv ho
    have e : stepS 4 R o = setsS R o := rfl
    rw [e]
    generalize setsS R o = z at hF ⊢
    refine fn_ok T Tryz.func42 (by kernel_rfl) rfl rfl rfl rfl fun C hC => ?_
    repeat' first
      | refine g_go T hC true 400 rfl rfl ?_
      | (exfalso; first | (simp only [decide_eq_true_eq, decide_eq_false_iff_not, List.length_map, Bool.not_eq_true', Bool.not_eq_false'] at *; omega) | (simp at h; done))
      | refine g_cond rfl (fun h => ?_) (fun h => ?_)
      | refine g_end T hC (by kernel_rfl) ?_
      | refine g_splitD (fun h => ?_) (fun h => ?_)
      | refine g_splitG rfl rfl rfl (fun h => ?_) (fun h => ?_)
      | refine g_splitP rfl rfl (fun h => ?_) (fun h => ?_)
      | refine g_callR hC (hF) (nm [0, 1, 102, 103]) rfl rfl (LeSs.refl _) rfl rfl rfl rfl rfl rfl rfl rfl ?_
    exact g_fin ⟨.inl rfl, nm [0, 1, 102, 103], _, rfl, .refl _, ⟨rfl, rfl, trivial⟩, rfl, rfl⟩
  · have hF := points_ok R o hv ho
    have e : stepS 5 R o = pointsS R o := rfl
    rw [e]
    generalize pointsS R o = z at hF ⊢
    refine fn_ok T Tryz.func42 (by kernel_rfl) rfl rfl rfl rfl fun C hC => ?_
    repeat' first
      | refine g_go T hC true 400 rfl rfl ?_
      | (exfalso; first | (simp only [decide_eq_true_eq, decide_eq_false_iff_not, List.length_map, Bool.not_eq_true', Bool.not_eq_false'] at *; omega) | (simp at h; done))
      | refine g_cond rfl (fun h => ?_) (fun h => ?_)
      | refine g_end T hC (by kernel_rfl) ?_
      | refine g_splitD (fun h => ?_) (fun h => ?_)
      | refine g_splitG rfl rfl rfl (fun h => ?_) (fun h => ?_)
      | refine g_splitP rfl rfl (fun h => ?_) (fun h => ?_)
      | refine g_callR hC (hF) (nm [0, 1, 102, 103]) rfl rfl (LeSs.refl _) rfl rfl rfl rfl rfl rfl rfl rfl ?_
    exact g_fin ⟨.inl rfl, nm [0, 1, 102, 103], _, rfl, .refl _, ⟨rfl, rfl, trivial⟩, rfl, rfl⟩
  · have hF := text_ok R o hv ho
    have e : stepS 6 R o = textS R o := rfl
    rw [e]
    generalize textS R o = z at hF ⊢
    refine fn_ok T Tryz.func42 (by kernel_rfl) rfl rfl rfl rfl fun C hC => ?_
    repeat' first
      | refine g_go T hC true 400 rfl rfl ?_
      | (exfalso; first | (simp only [decide_eq_true_eq, decide_eq_false_iff_not, List.length_map, Bool.not_eq_true', Bool.not_eq_false'] at *; omega) | (simp at h; done))
      | refine g_cond rfl (fun h => ?_) (fun h => ?_)
      | refine g_end T hC (by kernel_rfl) ?_
      | refine g_splitD (fun h => ?_) (fun h => ?_)
      | refine g_splitG rfl rfl rfl (fun h => ?_) (fun h => ?_)
      | refine g_splitP rfl rfl (fun h => ?_) (fun h => ?_)
      | refine g_callR hC (hF) (nm [0, 1, 102, 103]) rfl rfl (LeSs.refl _) rfl rfl rfl rfl rfl rfl rfl rfl ?_
    exact g_fin ⟨.inl rfl, nm [0, 1, 102, 103], _, rfl, .refl _, ⟨rfl, rfl, trivial⟩, rfl, rfl⟩
end Hw.Mq
namespace Hw.Mq
open Go Go.Proofs Go.Shelf Hw.M

/-! models: Apply -/
theorem valid_lens {k : Int} {R : Rws} (h : validS k R = true) : R.length ≤ 500 ∧ ∀ r ∈ R, r.length ≤ 500 := by
  obtain ⟨hR, hk⟩ := valid_kind h
  refine ⟨hR, fun r hr => ?_⟩
  rcases hk with rfl | rfl | rfl | rfl | rfl | rfl
  · rw [(valid1 h).2.wide r hr]; decide
  · rw [(valid2 h).2.wide r hr]; decide
  · rw [(valid3 h).2.wide r hr]; decide
  · obtain ⟨i, hi⟩ := List.mem_iff_getElem?.1 hr
    exact (valid4 h).2.rowLen hi
  · rw [(valid5 h).2.wide r hr]; decide
  · rcases valid6 h with rfl | ⟨s, rfl, _, h2, _⟩
    · cases hr
    · simp only [List.mem_singleton] at hr; rw [hr]; exact h2
theorem lend2' (o id : Nat) (R : Rws) : LnV [(o, vg id R.length), (id, bg R)] (.ar o) (.p (rowsP R)) := lend2 o id R
end Hw.Mq
namespace Hw.Mq
open Go Go.Proofs Go.Shelf Hw.M

/-! models: what is left is valid -/
theorem TabOk.put {w : Nat} {p : Rw → Rw → Bool} {R : Rws} (h : TabOk w p R) {i : Nat} {r r' : Rw} (hi : R[i]? = some r) (hl : r'.length = w) (hn : ∀ x ∈ r', numB x = true) (h1 : ∀ a, p a r' = p a r) (h2 : ∀ a, p r' a = p r a) : TabOk w p (R.set i r') := by
  have hil := (List.getElem?_eq_some_iff.1 hi).1
  have hm : ∀ x ∈ R.set i r', x ∈ R ∨ x = r' := fun x hx => List.mem_or_eq_of_mem_set hx
  refine ⟨fun x hx => ?_, fun x hx => ?_, ?_⟩
  · rcases hm x hx with h3 | rfl
    · exact h.wide x h3
    · exact hl
  · rcases hm x hx with h3 | rfl
    · exact h.nums x h3
    · exact hn
  · have := h.asc
    rw [List.pairwise_iff_getElem] at this ⊢
    intro a b ha hb hab
    rw [List.length_set] at ha hb
    have h3 := this a b ha hb hab
    have hri : R[i] = r := (List.getElem?_eq_some_iff.1 hi).2
    rw [List.getElem_set, List.getElem_set]
    split
    · rename_i e; subst e
      rw [if_neg (by omega), h2]
      rw [hri] at h3
      exact h3
    · split
      · rename_i e; subst e
        rw [h1]
        rw [hri] at h3
        exact h3
      · exact h3
theorem ltC_fst {c : Nat} {a b : Rw} (h : a.take c = b.take c) (ha : c ≤ a.length) (hb : c ≤ b.length) (d : Rw) : ltC c a d = ltC c b d := ltC_take c a b d h ha hb
theorem ltC_snd {c : Nat} {a b : Rw} (h : a.take c = b.take c) (d : Rw) : ltC c d a = ltC c d b := by rw [← ltC_key c d a, h, ltC_key]
theorem TabOk.insLt {c w : Nat} {R : Rws} (h : TabOk w (ltC c) R) (hcw : c ≤ w) {x : Rw} (hx : x.length = w) (hn : ∀ y ∈ x, numB y = true) (hq : hasC c R x = false) : TabOk w (ltC c) (insR R (posC c R x) x) :=
  h.ins hx hn (posC_spec h pos_lt x).1 (posC_gt h hcw (by omega) hq)
theorem TabOk.insLe {R : Rws} (h : TabOk 1 (fun a b => !ltC 1 b a) R) {x : Rw} (hx : x.length = 1) (hn : ∀ y ∈ x, numB y = true) : TabOk 1 (fun a b => !ltC 1 b a) (insR R (posC 1 R x) x) :=
  h.ins hx hn (fun r hr => by rw [ltC_asym 1 ((posC_spec h pos_le x).1 r hr)]; rfl) (fun r hr => by rw [(posC_spec h pos_le x).2 r hr]; rfl)
theorem TabOk.any {w : Nat} {R R' : Rws} (h : TabOk w (fun _ _ => true) R) (hm : ∀ r ∈ R', r ∈ R ∨ (r.length = w ∧ ∀ x ∈ r, numB x = true)) : TabOk w (fun _ _ => true) R' :=
  ⟨fun r hr => (hm r hr).elim (h.wide r) fun e => e.1, fun r hr => (hm r hr).elim (h.nums r) fun e => e.2, List.pairwise_of_forall fun _ _ => rfl⟩
theorem insR_mem {R : Rws} {i : Nat} {x r : Rw} (h : r ∈ insR R i x) : r ∈ R ∨ r = x := by
  simp only [insR, List.mem_append, List.mem_cons] at h
  rcases h with h | rfl | h
  · exact .inl (List.mem_of_mem_take h)
  · exact .inr rfl
  · exact .inl (List.mem_of_mem_drop h)
theorem mk1 {R : Rws} (hR : R.length ≤ 500) (h : TabOk 2 (ltC 1) R) : validS 1 R = true := by
  have h2 := (table_iff (tr_lt 1 2)).2 h
  simp only [validS, if_pos, h2, Bool.and_true, decide_eq_true_eq]; exact hR
theorem mk2 {R : Rws} (hR : R.length ≤ 500) (h : TabOk 1 (fun a b => !ltC 1 b a) R) : validS 2 R = true := by
  show (decide (R.length ≤ 500) && tableB 1 (fun a b => !ltC 1 b a) R) = true
  rw [(table_iff tr_le).2 h, Bool.and_true]; exact decide_eq_true hR
theorem mk3 {R : Rws} (hR : R.length ≤ 500) (h : TabOk 1 (fun _ _ => true) R) : validS 3 R = true := by
  show (decide (R.length ≤ 500) && tableB 1 (fun _ _ => true) R) = true
  rw [(table_iff (tr_all 1)).2 h, Bool.and_true]; exact decide_eq_true hR
theorem mk4 {R : Rws} (h : SetsOk R) : validS 4 R = true := by
  show (decide (R.length ≤ 500) && setsB R) = true
  rw [sets_iff.2 h, Bool.and_true]; exact decide_eq_true (SetsOk.len h)
theorem mk5 {R : Rws} (hR : R.length ≤ 500) (h : TabOk 3 (ltC 2) R) : validS 5 R = true := by
  show (decide (R.length ≤ 500) && tableB 3 (ltC 2) R) = true
  rw [(table_iff (tr_lt 2 3)).2 h, Bool.and_true]; exact decide_eq_true hR
theorem mk6 {r : Rw} (h1 : 1 ≤ r.length) (h2 : r.length ≤ 500) (h3 : ∀ x ∈ r, chrB x = true) : validS 6 [r] = true := by
  show (decide ([r].length ≤ 500) && textB [r]) = true
  simp only [textB, List.length_singleton, Bool.and_eq_true, decide_eq_true_eq, List.all_eq_true]
  exact ⟨by decide, ⟨h1, h2⟩, h3⟩
theorem erase_le {R : Rws} (i : Nat) (h : R.length ≤ 500) : (R.eraseIdx i).length ≤ 500 := Nat.le_trans (List.eraseIdx_sublist ..).length_le h
theorem erase_le' {α : Type} (l : List α) (i : Nat) : (l.eraseIdx i).length ≤ l.length := (List.eraseIdx_sublist ..).length_le
theorem insR_le {R : Rws} {i : Nat} (x : Rw) (hR : R.length ≤ 500) (h5 : ¬ R.length = 500) (hi : i ≤ R.length) : (insR R i x).length ≤ 500 := by rw [insR_len hi]; omega
theorem dict_valid {R : Rws} {o : OpT} (hv : validS 1 R = true) (ho : okOp 1 o = true) : validS 1 (dictS R o).1 = true := by
  obtain ⟨hR, hT⟩ := valid1 hv
  unfold dictS
  simp only
  split; · exact hv
  split; · split <;> exact hv
  split
  · rename_i h8 h7 h1
    rcases op1 ho with rfl | ⟨a, hc, ha⟩ | ⟨a, b, rfl, ha, hb⟩
    · exact absurd rfl h8
    · rcases hc with rfl | rfl | rfl | rfl | rfl | rfl <;> simp at h1
    · split
      · rename_i hq
        obtain ⟨r, hr, hlt, _⟩ := hasC_yes hq
        have hl := hT.wide r (List.mem_of_getElem? hr)
        obtain ⟨x, y, rfl⟩ := len2 hl
        have hn := hT.nums _ (List.mem_of_getElem? hr)
        refine mk1 (by simpa using hR) (hT.put hr ?_ ?_ ?_ ?_)
        · rw [rowA_of hr]; rfl
        · rw [rowA_of hr]
          intro z hz
          have : z = x ∨ z = b := by simpa [at0] using hz
          rcases this with rfl | rfl
          · exact hn z (by simp)
          · exact hb
        · intro d; rw [rowA_of hr]; exact ltC_snd (c := 1) (a := [x, b]) (b := [x, y]) rfl d
        · intro d; rw [rowA_of hr]; exact ltC_fst (c := 1) (a := [x, b]) (b := [x, y]) rfl (by simp) (by simp) d
      · rename_i hq
        split
        · exact hv
        · rename_i h5
          exact mk1 (insR_le _ hR h5 (posC_le _ _ _)) (hT.insLt (by decide) rfl (fun z hz => by
            have : z = a ∨ z = b := by simpa using hz
            rcases this with rfl | rfl
            · exact ha
            · exact hb) (by simpa using hq))
  · split; · exact hv
    split; · split; · exact hv
             split <;> exact hv
    split; · split <;> exact hv
    split
    · simp only
      split
      · exact mk1 (erase_le _ hR) (hT.sub (List.eraseIdx_sublist ..))
      · exact hv
    · exact hv
theorem heap_valid {R : Rws} {o : OpT} (hv : validS 2 R = true) (ho : okOp 2 o = true) : validS 2 (heapS R o).1 = true := by
  obtain ⟨hR, hT⟩ := valid2 hv
  unfold heapS
  split; · exact hv
  split
  · rename_i h4 h1
    rcases op2 ho with ⟨a, rfl, ha⟩ | rfl | rfl | rfl
    · split
      · exact hv
      · rename_i h5
        exact mk2 (insR_le _ hR h5 (posC_le _ _ _)) (hT.insLe rfl fun z hz => by
          have : z = a := by simpa using hz
          rw [this]; exact ha)
    all_goals simp at h1 h4
  · split
    · exact hv
    · simp only
      split
      · exact mk2 (erase_le _ hR) (hT.sub (List.eraseIdx_sublist ..))
      · exact hv
theorem seq_valid {R : Rws} {o : OpT} (hv : validS 3 R = true) (ho : okOp 3 o = true) : validS 3 (seqS R o).1 = true := by
  obtain ⟨hR, hT⟩ := valid3 hv
  unfold seqS
  simp only
  split; · exact hv
  split
  · split
    · exact hv
    · split
      · refine mk3 ?_ (hT.any fun r hr => .inl ?_)
        · simp only [revR, List.length_append, List.length_reverse, List.length_take, List.length_drop]; omega
        · simp only [revR, List.mem_append, List.mem_reverse] at hr
          rcases hr with (hr | hr) | hr
          · exact List.mem_of_mem_take hr
          · exact List.mem_of_mem_take (List.mem_of_mem_drop hr)
          · exact List.mem_of_mem_drop hr
      · exact hv
  split
  · rename_i h7 h56 h1
    rcases op3 ho with ⟨a, b, hc, ha, hb⟩ | ⟨a, hc, ha⟩ | rfl
    · split
      · exact hv
      · rename_i h0
        split
        · exact hv
        · rename_i h5
          rcases hc with rfl | rfl | rfl | rfl
          · refine mk3 (insR_le _ hR h5 ?_) (hT.any fun r hr => ?_)
            · simp [at0] at h0 ⊢; omega
            · rcases insR_mem hr with h | rfl
              · exact .inl h
              · exact .inr ⟨rfl, fun z hz => by simp [at0] at hz; rw [hz]; exact hb⟩
          all_goals simp at h1
    · rcases hc with rfl | rfl <;> simp at h1
    · simp at h1
  · split
    · exact hv
    · rename_i h0
      simp only
      split
      · exact mk3 (erase_le _ hR) (hT.sub (List.eraseIdx_sublist ..))
      · split
        · rename_i h4
          rcases op3 ho with ⟨a, b, hc, ha, hb⟩ | ⟨a, hc, ha⟩ | rfl
          · rcases hc with rfl | rfl | rfl | rfl
            · simp at h4
            · have hlt : (at0 [a, b] 0).toNat < R.length := by simp [at0] at h0 ⊢; omega
              obtain ⟨z, hz⟩ := len1 (hT.wide _ (List.mem_of_getElem? (rowA_lt hlt)))
              refine mk3 (by simpa using hR) (hT.any fun r hr => ?_)
              rcases List.mem_or_eq_of_mem_set hr with h | rfl
              · exact .inl h
              · refine .inr ⟨?_, fun y hy => ?_⟩
                · show ((rowA R (at0 [a, b] 0).toNat).set 0 _).length = 1
                  rw [hz]; rfl
                · have hy' : y ∈ (rowA R (at0 [a, b] 0).toNat).set 0 (at0 [a, b] 1) := hy
                  rw [hz] at hy'
                  simp [at0] at hy'
                  rw [hy']; exact hb
            · simp at h4
            · simp at h4
          · rcases hc with rfl | rfl <;> simp at h4
          · simp at h4
        · exact hv
theorem points_valid {R : Rws} {o : OpT} (hv : validS 5 R = true) (ho : okOp 5 o = true) : validS 5 (pointsS R o).1 = true := by
  obtain ⟨hR, hT⟩ := valid5 hv
  unfold pointsS
  simp only
  split; · exact hv
  split; · exact hv
  split; · exact hv
  split
  · rename_i h5' h3' h4' h1
    rcases op5 ho with ⟨a, b, w, rfl, ha, hb, hw⟩ | ⟨a, b, rfl, ha, hb⟩ | ⟨a, b, c, d, hc, ha, hb, hc2, hd⟩ | rfl
    · split
      · exact hv
      · rename_i hq
        split
        · exact hv
        · rename_i h5
          exact mk5 (insR_le _ hR h5 (posC_le _ _ _)) (hT.insLt (by decide) rfl (fun z hz => by
            have : z = a ∨ z = b ∨ z = w := by simpa using hz
            rcases this with rfl | rfl | rfl
            · exact ha
            · exact hb
            · exact hw) (by simpa using hq))
    · simp at h1
    · rcases hc with rfl | rfl <;> simp at h1
    · simp at h1
  · split
    · exact mk5 (erase_le _ hR) (hT.sub (List.eraseIdx_sublist ..))
    · exact hv
theorem cls_some {R : Rws} {a : Int} (h : ¬ clsI a R 0 < 0) : ∃ (i : Nat) (r : Rw), clsI a R 0 = (i : Int) ∧ R[i]? = some r ∧ a ∈ r := by
  rcases clsI_spec a R 0 with ⟨h1, _⟩ | ⟨i, r, h1, h2, h3, _⟩
  · omega
  · exact ⟨i, r, by rw [h1, Nat.zero_add], h2, h3⟩
theorem mergeI_comm {A B : List Int} (ha : A.Pairwise (· < ·)) (hb : B.Pairwise (· < ·)) (hd : ∀ x ∈ A, x ∉ B) : mergeI A B = mergeI B A := by
  rw [← merge_sort ha hb hd, ← merge_sort hb ha fun x hx hy => hd x hy hx]
  exact asc_uniq ((sortI_perm _).trans (List.perm_append_comm.trans (sortI_perm _).symm)) (sortI_asc _) (sortI_asc _)
theorem sets_valid {R : Rws} {o : OpT} (hv : validS 4 R = true) : validS 4 (setsS R o).1 = true := by
  obtain ⟨hR, hT⟩ := valid4 hv
  unfold setsS
  simp only
  split; · exact hv
  split
  · split
    · exact hv
    · rename_i h5; exact mk4 (hT.make h5)
  split
  · split <;> exact hv
  split
  · exact hv
  rename_i hz
  split
  · exact hv
  split
  · exact hv
  rename_i h3 hab
  obtain ⟨a, A, h1, h2, _⟩ := cls_some (R := R) (a := at0 o.args 0) (by omega)
  obtain ⟨b, B, h4, h5, _⟩ := cls_some (R := R) (a := at0 o.args 1) (by omega)
  rw [h1, h4] at hab ⊢
  rcases Nat.lt_or_ge a b with hlt | hge
  · rw [Int.min_eq_left (by omega), Int.max_eq_right (by omega), Int.toNat_natCast, Int.toNat_natCast, rowA_of h2, rowA_of h5]
    exact mk4 (hT.union h2 h5 hlt)
  · rw [Int.min_eq_right (by omega), Int.max_eq_left (by omega), Int.toNat_natCast, Int.toNat_natCast, rowA_of h2, rowA_of h5, mergeI_comm (hT.asc _ (List.mem_of_getElem? h2)) (hT.asc _ (List.mem_of_getElem? h5)) fun x hx hy => hT.dis h5 h2 (by omega) x hy hx]
    exact mk4 (hT.union h5 h2 (by omega))
theorem text_valid {R : Rws} {o : OpT} (hv : validS 6 R = true) (ho : okOp 6 o = true) : validS 6 (textS R o).1 = true := by
  unfold textS
  simp only
  split; · exact hv
  split
  · rename_i h4 h1
    split
    · exact hv
    · rename_i h5
      rcases op6 ho with ⟨p, hc, hp, hn⟩ | rfl
      · have hpa : o.args = p := by rcases hc with rfl | rfl | rfl <;> rfl
        rw [hpa] at h5 ⊢
        refine mk6 (by rw [List.length_append]; omega) (by rw [List.length_append]; omega) fun x hx => ?_
        rcases List.mem_append.1 hx with hx | hx
        · rcases valid6 hv with rfl | ⟨r, rfl, _, _, h3⟩
          · cases hx
          · exact h3 x hx
        · exact hn x hx
      · simp at h1
  split; · exact hv
  split <;> exact hv
theorem step_valid {k : Int} {R : Rws} {o : OpT} (hv : validS k R = true) (ho : okOp k o = true) : validS k (stepS k R o).1 = true := by
  rcases (valid_kind hv).2 with rfl | rfl | rfl | rfl | rfl | rfl
  · exact dict_valid hv ho
  · exact heap_valid hv ho
  · exact seq_valid hv ho
  · exact sets_valid hv
  · exact points_valid hv ho
  · exact text_valid hv ho
end Hw.Mq
namespace Hw.Mq
open Go Go.Proofs Go.Shelf Hw.M

/-! models: Run -/
theorem run_snoc (k : Int) : ∀ (R : Rws) (l : List OpT) (o : OpT), runS k R (l ++ [o]) = ((stepS k (runS k R l).1 o).1, (runS k R l).2 ++ [(stepS k (runS k R l).1 o).2])
  | R, [], o => rfl
  | R, a :: l, o => by simp only [List.cons_append, runS, run_snoc k (stepS k R a).1 l o]
theorem run_len (k : Int) : ∀ (R : Rws) (l : List OpT), (runS k R l).2.length = l.length
  | R, [] => rfl
  | R, a :: l => by simp only [runS, List.length_cons, run_len k _ l]
theorem run_valid {k : Int} : ∀ {R : Rws} {l : List OpT}, validS k R = true → (∀ o ∈ l, okOp k o = true) → validS k (runS k R l).1 = true
  | R, [], hv, _ => hv
  | R, a :: l, hv, h => run_valid (R := (stepS k R a).1) (l := l) (step_valid hv (h a (List.mem_cons_self ..))) fun o ho => h o (List.mem_cons_of_mem _ ho)
theorem run1_ok (k : Int) (R : Rws) (o : OpT) : FnOK Tryz.prog 40 [aggS (opR o), .one (.bx 0 0)] [(0, .box [.p (ki k), .p (rowsP R)])] (.bq (!okOp k o)) [(0, .box [.p (ki k), .p (rowsP R)])] := by
  have hO := validOp_ok k o
  generalize okOp k o = q at hO ⊢
  refine fn_ok T Tryz.func40 (by kernel_rfl) rfl rfl rfl rfl fun C hC => ?_
  repeat' first
    | refine g_go T hC true 400 rfl rfl ?_
    | refine g_cond rfl (fun h => ?_) (fun h => ?_)
    | refine g_end T hC (by kernel_rfl) ?_
    | refine g_splitD (fun h => ?_) (fun h => ?_)
    | refine g_splitG rfl rfl rfl (fun h => ?_) (fun h => ?_)
    | refine g_splitP rfl rfl (fun h => ?_) (fun h => ?_)
    | refine g_call hC (hO) rfl rfl (LeSs.refl _) rfl rfl rfl ?_
  all_goals exact g_fin ⟨.inl rfl, id, _, rfl, by first | exact .refl _ | (subst h; exact LeS.qb rfl), ⟨rfl, trivial⟩, rfl, rfl⟩
theorem runN_idx (f : FuncId) (kx : Int) (RX : Rws) (l : List OpT) (p : OpT → Unit → Bool) (nx : OpT → Unit → Unit) (inv : Unit → Prop)
    (hf : ∀ x ∈ l, ∀ s : Unit, inv s → FnOK Tryz.prog f [aggS (opR x), .one (.bx 0 0)] [(0, .box [.p (ki kx), .p (rowsP RX)])] (.bq (p x s)) ((fun s : Unit => [(0, .box [.p (ki kx), .p (rowsP RX)])]) (nx x s)) ∧ (p x s = false → inv (nx x s))) (s : Unit) (hs : inv s) :
    FnOK Tryz.prog 44 [pS (.sl 2 (l.map opR)), .one (.cl f [] [.bx 0 0])] [(0, .box [.p (ki kx), .p (rowsP RX)])] (I (idxR p nx l 0 s).1) ((fun s : Unit => [(0, .box [.p (ki kx), .p (rowsP RX)])]) (idxR p nx l 0 s).2) := by
  refine fn_ok T Tryz.func44 (by kernel_rfl) rfl rfl rfl rfl fun C hC => ?_
  have hs0 := hs
  refine g_len 0 rfl fun hl => ?_
  rw [List.length_map] at hl
  repeat' first
    | refine g_go T hC true 400 rfl rfl ?_
    | refine g_cond rfl (fun h => ?_) (fun h => ?_)
    | refine g_end T hC (by kernel_rfl) ?_
    | refine g_splitD (fun h => ?_) (fun h => ?_)
    | refine g_splitG rfl rfl rfl (fun h => ?_) (fun h => ?_)
    | refine g_splitP rfl rfl (fun h => ?_) (fun h => ?_)
  rw [List.length_map]
  refine g_loop (fun q : Nat × Unit => q.1 ≤ l.length ∧ inv q.2 ∧ idxR p nx (l.drop q.1) q.1 q.2 = idxR p nx l 0 s) (fun q => (fun s : Unit => ([(0, pS (.sl 2 (l.map opR))), (1, .one (.cl f [] [.bx 0 0])), (7, I l.length), (8, I q.1)], [(0, some (.box [.p (ki kx), .p (rowsP RX)]))])) q.2) (fun q => l.length - q.1) hC
    (0, s) ⟨Nat.zero_le _, hs, rfl⟩ id ⟨rfl, ⟨rfl, rfl, rfl, rfl, trivial⟩, ⟨rfl, trivial⟩, rfl, fun _ _ => rfl⟩ ?_
  generalize idxR p nx l 0 s = res
  clear hs hs0
  rintro ⟨i, s⟩ ⟨hi, hv, hn⟩
  simp only at hi hv hn
  refine g_run' T hC true 200 rfl ?_
  refine g_cond rfl (fun hh => ?_) (fun hh => ?_)
  · have hlt : i < l.length := by simpa using hh
    clear hh
    obtain ⟨x, hx⟩ := exists_at hlt
    rw [drop_at hx] at hn
    simp only [idxR] at hn
    have hv2 := (hf x (List.mem_of_getElem? hx) s hv).2
    repeat' first
      | refine g_go T hC true 400 rfl rfl ?_
      | refine g_cond rfl (fun h => ?_) (fun h => ?_)
      | refine g_end T hC (by kernel_rfl) ?_
      | refine g_splitD (fun h => ?_) (fun h => ?_)
      | refine g_splitG rfl rfl rfl (fun h => ?_) (fun h => ?_)
      | refine g_splitP rfl rfl (fun h => ?_) (fun h => ?_)
      | refine g_idx T hC rfl rfl rfl (Int.natCast_nonneg _) (map_at hx) rfl rfl ?_
      | refine g_callR hC (hf x (List.mem_of_getElem? hx) s hv).1 id rfl rfl (LeSs.refl _) rfl rfl rfl rfl rfl rfl rfl rfl ?_
      | refine g_outR ?_
    · rw [if_pos (by assumption)] at hn
      subst hn
      exact g_fin ⟨.inl rfl, id, _, rfl, .refl _, ⟨rfl, trivial⟩, rfl, rfl⟩
    · have hpf : p x s = false := by assumption
      rw [hpf] at hn
      simp only [Bool.false_eq_true, if_false] at hn
      rw [wrap64 (by omega)]
      exact g_round (i + 1, nx x s) ⟨by simp only; omega, hv2 hpf, hn⟩ id (by simp only; omega) ⟨rfl, ⟨rfl, rfl, rfl, rfl, trivial⟩, ⟨rfl, trivial⟩, rfl, fun _ _ => rfl⟩
  · have hge : ¬ i < l.length := by simpa using hh
    rw [List.drop_eq_nil_of_le (by omega)] at hn
    simp only [idxR] at hn
    subst hn
    repeat' first
      | refine g_go T hC true 400 rfl rfl ?_
      | refine g_cond rfl (fun h => ?_) (fun h => ?_)
      | refine g_end T hC (by kernel_rfl) ?_
      | refine g_splitD (fun h => ?_) (fun h => ?_)
      | refine g_splitG rfl rfl rfl (fun h => ?_) (fun h => ?_)
      | refine g_splitP rfl rfl (fun h => ?_) (fun h => ?_)
      | refine g_outE ?_
    exact g_fin ⟨.inl rfl, id, _, rfl, .refl _, ⟨rfl, trivial⟩, rfl, rfl⟩
theorem runN_has (f : FuncId) (kx : Int) (RX : Rws) (l : List OpT) (p : OpT → Unit → Bool) (nx : OpT → Unit → Unit) (inv : Unit → Prop)
    (hf : ∀ x ∈ l, ∀ s : Unit, inv s → FnOK Tryz.prog f [aggS (opR x), .one (.bx 0 0)] [(0, .box [.p (ki kx), .p (rowsP RX)])] (.bq (p x s)) ((fun s : Unit => [(0, .box [.p (ki kx), .p (rowsP RX)])]) (nx x s)) ∧ (p x s = false → inv (nx x s))) (s : Unit) (hs : inv s) :
    FnOK Tryz.prog 19 [pS (.sl 2 (l.map opR)), .one (.cl f [] [.bx 0 0])] [(0, .box [.p (ki kx), .p (rowsP RX)])] (.bq (anyR p nx l s).1) ((fun s : Unit => [(0, .box [.p (ki kx), .p (rowsP RX)])]) (anyR p nx l s).2) := by
  refine fn_ok T Tryz.func19 (by kernel_rfl) rfl rfl rfl rfl fun C hC => ?_
  repeat' first
    | refine g_go T hC true 400 rfl rfl ?_
    | refine g_cond rfl (fun h => ?_) (fun h => ?_)
    | refine g_end T hC (by kernel_rfl) ?_
    | refine g_splitD (fun h => ?_) (fun h => ?_)
    | refine g_splitG rfl rfl rfl (fun h => ?_) (fun h => ?_)
    | refine g_splitP rfl rfl (fun h => ?_) (fun h => ?_)
    | refine g_callR hC (runN_idx f kx RX l p nx inv hf s hs) (nm [0]) rfl rfl (LeSs.refl _) rfl rfl rfl rfl rfl rfl rfl rfl ?_
  exact g_fin ⟨.inl rfl, id, _, rfl, .qq (anyR_1 p nx l 0 s), by rw [← anyR_2 p nx l 0 s]; exact ⟨rfl, trivial⟩, rfl, rfl⟩

theorem anyR_unit {α : Type} (p : α → Bool) : ∀ l : List α, (anyR (fun (x : α) (_ : Unit) => p x) (fun _ s => s) l ()).1 = l.any p
  | [] => rfl
  | x :: l => by
    simp only [anyR, List.any_cons]
    cases p x with
    | true => rfl
    | false => simp [anyR_unit p l]
theorem runAny_ok (k : Int) (R : Rws) (l : List OpT) : FnOK Tryz.prog 19 [pS (opsP l), .one (.cl 40 [] [.bx 0 0])] [(0, .box [.p (ki k), .p (rowsP R)])] (.bq (l.any fun o => !okOp k o)) [(0, .box [.p (ki k), .p (rowsP R)])] := by
  have := runN_has 40 k R l (fun o _ => !okOp k o) (fun _ s => s) (fun _ => True) (fun o _ _ _ => ⟨run1_ok k R o, fun _ => trivial⟩) () trivial
  rw [anyR_unit (fun o => !okOp k o) l] at this
  exact this
def mv3 (a b c d e f i : Nat) : Nat := match Nat.beq i a with
  | true => b
  | false => match Nat.beq i c with
    | true => d
    | false => match Nat.beq i e with
      | true => f
      | false => i
theorem mv3_low {a b c d e f i : Nat} (ha : 100 ≤ a) (hc : 100 ≤ c) (he : 100 ≤ e) (hi : i < 100) : mv3 a b c d e f i = i := by
  unfold mv3; rw [beq_ne (by omega), beq_ne (by omega), beq_ne (by omega)]
theorem mRun_no (k : Int) (R : Rws) (l : List OpT) (hw : ∀ r ∈ R, r.length ≤ 1000000) (hR : R.length ≤ 1000000) (h0 : validS k R = false ∨ (l.any fun o => !okOp k o) = true) :
    FnOK Tryz.prog 15 [aggS (stR k R), pS (opsP l)] [] (.tup [aggS (stR 0 []), pS (rssP []), I 1]) [] := by
  have hV := mValid_ok k R hw hR
  have hO := runAny_ok k R l
  cases hv : validS k R with
  | false =>
    rw [hv] at hV
    refine fn_ok T Tryz.func15 (by kernel_rfl) rfl rfl rfl rfl fun C hC => ?_
    repeat' first
      | refine g_go T hC true 400 rfl rfl ?_
      | (exfalso; simp at h; done)
      | refine g_cond rfl (fun h => ?_) (fun h => ?_)
      | refine g_end T hC (by kernel_rfl) ?_
      | refine g_splitD (fun h => ?_) (fun h => ?_)
      | refine g_splitG rfl rfl rfl (fun h => ?_) (fun h => ?_)
      | refine g_splitP rfl rfl (fun h => ?_) (fun h => ?_)
      | refine g_call hC (hV) rfl rfl (LeSs.refl _) rfl rfl rfl ?_
      | refine g_callR hC (hO) (nm [1002]) rfl rfl (LeSs.refl _) rfl rfl rfl rfl rfl rfl rfl rfl ?_
    exact g_fin ⟨.inl rfl, id, _, rfl, LeS.tup (.cons (LeS.emp 0) (.cons (LeS.one (.nil 3)) (.cons (.refl _) .nil))), trivial, rfl, rfl⟩
  | true =>
    rw [hv] at hV
    rw [h0.resolve_left (by rw [hv]; decide)] at hO
    refine fn_ok T Tryz.func15 (by kernel_rfl) rfl rfl rfl rfl fun C hC => ?_
    repeat' first
      | refine g_go T hC true 400 rfl rfl ?_
      | (exfalso; simp at h; done)
      | refine g_cond rfl (fun h => ?_) (fun h => ?_)
      | refine g_end T hC (by kernel_rfl) ?_
      | refine g_splitD (fun h => ?_) (fun h => ?_)
      | refine g_splitG rfl rfl rfl (fun h => ?_) (fun h => ?_)
      | refine g_splitP rfl rfl (fun h => ?_) (fun h => ?_)
      | refine g_call hC (hV) rfl rfl (LeSs.refl _) rfl rfl rfl ?_
      | refine g_callR hC (hO) (nm [1002]) rfl rfl (LeSs.refl _) rfl rfl rfl rfl rfl rfl rfl rfl ?_
    exact g_fin ⟨.inl rfl, id, _, rfl, LeS.tup (.cons (LeS.emp 0) (.cons (LeS.one (.nil 3)) (.cons (.refl _) .nil))), trivial, rfl, rfl⟩
theorem mRun_full (k : Int) (R : Rws) (l : List OpT) (hv : validS k R = true) (hl : (l.any fun o => !okOp k o) = false) (h5 : 2000 < l.length) :
    FnOK Tryz.prog 15 [aggS (stR k R), pS (opsP l)] [] (.tup [aggS (stR 0 []), pS (rssP []), I 4]) [] := by
  obtain ⟨hR, hw⟩ := valid_lens hv
  have hV := mValid_ok k R (fun r hr => by have := hw r hr; omega) (by omega)
  have hO := runAny_ok k R l
  rw [hv] at hV
  rw [hl] at hO
  refine fn_ok T Tryz.func15 (by kernel_rfl) rfl rfl rfl rfl fun C hC => ?_
  repeat' first
    | refine g_go T hC true 400 rfl rfl ?_
    | (exfalso; first | (simp only [decide_eq_true_eq, decide_eq_false_iff_not, List.length_map, Bool.not_eq_true', Bool.not_eq_false'] at *; omega) | (simp at h; done))
    | (exfalso; simp at h; done)
    | refine g_cond rfl (fun h => ?_) (fun h => ?_)
    | refine g_end T hC (by kernel_rfl) ?_
    | refine g_splitD (fun h => ?_) (fun h => ?_)
    | refine g_splitG rfl rfl rfl (fun h => ?_) (fun h => ?_)
    | refine g_splitP rfl rfl (fun h => ?_) (fun h => ?_)
    | refine g_call hC (hV) rfl rfl (LeSs.refl _) rfl rfl rfl ?_
    | refine g_callR hC (hO) (nm [1002]) rfl rfl (LeSs.refl _) rfl rfl rfl rfl rfl rfl rfl rfl ?_
  exact g_fin ⟨.inl rfl, id, _, rfl, LeS.tup (.cons (LeS.emp 0) (.cons (LeS.one (.nil 3)) (.cons (.refl _) .nil))), trivial, rfl, rfl⟩
theorem mRun_yes (k : Int) (R : Rws) (l : List OpT) (hv : validS k R = true) (hl : (l.any fun o => !okOp k o) = false) (h5 : l.length ≤ 2000) :
    FnOK Tryz.prog 15 [aggS (stR k R), pS (opsP l)] [] (.tup [aggS (stR k (runS k R l).1), pS (rssP (runS k R l).2), I 0]) [] := by
  obtain ⟨hR, hw⟩ := valid_lens hv
  have hV := mValid_ok k R (fun r hr => by have := hw r hr; omega) (by omega)
  have hO := runAny_ok k R l
  have hall : ∀ o ∈ l, okOp k o = true := fun o ho => by
    rw [List.any_eq_false] at hl
    simpa using hl o ho
  have hCp := copied_ok R (by omega) (fun r hr => by have := hw r hr; omega)
  rw [hv] at hV
  rw [hl] at hO
  refine fn_ok T Tryz.func15 (by kernel_rfl) rfl rfl rfl rfl fun C hC => ?_
  repeat' first
    | refine g_go T hC true 400 rfl rfl ?_
    | (exfalso; first | (simp only [decide_eq_true_eq, decide_eq_false_iff_not, List.length_map, Bool.not_eq_true', Bool.not_eq_false'] at *; omega) | (simp at h; done))
    | (exfalso; simp at h; done)
    | refine g_cond rfl (fun h => ?_) (fun h => ?_)
    | refine g_end T hC (by kernel_rfl) ?_
    | refine g_splitD (fun h => ?_) (fun h => ?_)
    | refine g_splitG rfl rfl rfl (fun h => ?_) (fun h => ?_)
    | refine g_splitP rfl rfl (fun h => ?_) (fun h => ?_)
    | refine g_call hC (hV) rfl rfl (LeSs.refl _) rfl rfl rfl ?_
    | refine g_callR hC (hO) (nm [1002]) rfl rfl (LeSs.refl _) rfl rfl rfl rfl rfl rfl rfl rfl ?_
    | refine g_callR hC (hCp) (nm [101, 102]) rfl rfl (LeSs.refl _) rfl rfl rfl rfl rfl rfl rfl rfl ?_
  rw [List.length_map]
  refine g_adopt hC rfl 103 3 rfl [(8, .one (.ar 103))] ⟨⟨_, rfl, AdS.nil⟩, trivial⟩ [] trivial ?_
  refine g_loop (fun i : Nat => i ≤ l.length) (fun i => ([(2, .one (.bx 1002 0)), (4, .one (.bx 1004 0)), (7, .one (.ar 101)), (8, .one (.ar 103)), (29, pS (opsP l)), (30, I l.length), (31, I i)], [(101, some (vg 102 (runS k R (l.take i)).1.length)), (102, some (bg (runS k R (l.take i)).1)), (103, some (.arr 3 ((runS k R (l.take i)).2.map rsR))), (1002, some (.box [.p (ki k), .p (rowsP R)])), (1004, some (.box [.p (ki 0), .p (.k (.slice none 0 0))]))])) (fun i => l.length - i) hC
    0 (Nat.zero_le _) id ⟨rfl, ⟨rfl, rfl, rfl, rfl, rfl, rfl, rfl, trivial⟩, ⟨rfl, rfl, rfl, rfl, rfl, trivial⟩, rfl, fun _ _ => rfl⟩ ?_
  intro i hi
  refine g_run' T hC true 200 rfl ?_
  refine g_cond rfl (fun h => ?_) (fun h => ?_)
  · have hlt : i < l.length := by simpa using h
    clear h
    obtain ⟨o, ho⟩ := exists_at hlt
    have hvi := run_valid (k := k) (R := R) (l := l.take i) hv fun o ho => hall o (List.mem_of_mem_take ho)
    have hA := apply_ok k (runS k R (l.take i)).1 o hvi (hall o (List.mem_of_getElem? ho))
    have hsn := run_snoc k R (l.take i) o
    rw [← take_snoc ho] at hsn
    have hrl := run_len k R (l.take i)
    rw [List.length_take] at hrl
    generalize runS k R (l.take i) = z at hA hsn hrl
    obtain ⟨Ri, xs⟩ := z
    simp only at hA hsn hrl
    generalize stepS k Ri o = z2 at hA hsn
    obtain ⟨Rn, x⟩ := z2
    simp only at hA hsn
    have hxl : (xs.map rsR).length = xs.length := List.length_map _
    repeat' first
      | refine g_go T hC true 400 rfl rfl ?_
      | refine g_cond rfl (fun h => ?_) (fun h => ?_)
      | refine g_end T hC (by kernel_rfl) ?_
      | refine g_splitD (fun h => ?_) (fun h => ?_)
      | refine g_splitG rfl rfl rfl (fun h => ?_) (fun h => ?_)
      | refine g_splitP rfl rfl (fun h => ?_) (fun h => ?_)
      | refine g_idx T hC rfl rfl rfl (Int.natCast_nonneg _) (map_at ho) rfl rfl ?_
      | refine g_callR hC (hA) (nm [101, 102, 104, 105]) rfl rfl (LeSs.refl _) rfl rfl rfl rfl rfl rfl rfl rfl ?_
      | refine g_lit T hC rfl rfl rfl rfl rfl rfl rfl rfl rfl ?_
      | refine g_append T 106 hC (id := 103) (rows := xs.map rsR) (rows2 := [rsR x]) (rows3 := (xs ++ [x]).map rsR) (bytes := 40) rfl rfl rfl rfl (SrcS.sl (T.es_ok _ _ rfl)) (by rw [List.map_append]; rfl) rfl rfl rfl (by kernel_rfl) (by simp only [hxl, List.length_singleton]; omega) (by simp only [hxl, List.length_singleton]; omega) rfl rfl rfl ?_
    rw [wrapS (by omega)]
    refine g_round (i + 1) (by omega) (mv3 101 104 102 105 103 106) (by omega) ?_
    simp only [hsn]
    exact ⟨rfl, ⟨rfl, rfl, rfl, rfl, rfl, rfl, rfl, trivial⟩, ⟨rfl, rfl, rfl, rfl, rfl, trivial⟩, rfl, fun i hi => mv3_low (by omega) (by omega) (by omega) hi⟩
  · have hge : ¬ i < l.length := by simpa using h
    have e : l.take i = l := List.take_of_length_le (by omega)
    rw [e]
    generalize runS k R l = z
    obtain ⟨Rn, xs⟩ := z
    repeat' first
      | refine g_go T hC true 400 rfl rfl ?_
      | refine g_cond rfl (fun h => ?_) (fun h => ?_)
      | refine g_end T hC (by kernel_rfl) ?_
      | refine g_splitD (fun h => ?_) (fun h => ?_)
      | refine g_splitG rfl rfl rfl (fun h => ?_) (fun h => ?_)
      | refine g_splitP rfl rfl (fun h => ?_) (fun h => ?_)
      | refine g_outE ?_
    refine g_freezeN rfl [(101, vg 102 Rn.length), (102, bg Rn), (103, .arr 3 (xs.map rsR))] rfl [(5, pS (rssP xs))] ⟨⟨_, rfl, LnS.one (LnV.ar (.tail _ (.tail _ (.head _))))⟩, trivial⟩ [(1004, .box [.p (ki k), .p (rowsP Rn)])] ⟨⟨_, rfl, rfl, LnR.box (.cons (.refl _) (.cons (lend_g (id := 102) (.head _) (.tail _ (.head _))) .nil))⟩, trivial⟩ ?_
    exact g_fin ⟨.inl rfl, id, _, rfl, .refl _, trivial, rfl, rfl⟩
end Hw.Mq
