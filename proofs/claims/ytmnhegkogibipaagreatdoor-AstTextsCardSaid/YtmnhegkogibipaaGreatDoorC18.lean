/- The engine and the contracts. -/
import Derived.Test.YtmnhegkogibipaaGreatDoorC17
import Derived.Test.YtmnhegkogibipaaGreatDoorC12
import Derived.Test.YtmnhegkogibipaaGreatDoorC11
import Derived.Test.YtmnhegkogibipaaGreatDoorC14
set_option linter.unusedVariables false
set_option linter.unusedSimpArgs false
namespace Hw.Z
open Go Go.Proofs Hw.M

/-! Different expressions have different texts -/
abbrev By := List UInt8
def lb (s : Str) : By := s.data.toList
theorem lb_app (a b : Str) : lb (a ++ b) = lb a ++ lb b := by simp only [lb, ByteArray.data_append, Array.toList_append]
theorem lb_inj {a b : Str} (h : lb a = lb b) : a = b := by
  apply ByteArray.ext
  exact Array.toList_inj.1 h
def wd (c : UInt8) : Bool := isWord (c.toNat : Int)
def dgt (c : UInt8) : Bool := isDigit (c.toNat : Int)
/-- Ends that do not go on with a run of p. -/
def Nx (p : UInt8 → Bool) (l : By) : Prop := ∀ c t, l = c :: t → p c = false
theorem nx_nil (p : UInt8 → Bool) : Nx p [] := fun _ _ h => by cases h
theorem nx_cons {p : UInt8 → Bool} {c : UInt8} {t : By} (h : p c = false) : Nx p (c :: t) := fun _ _ e => by cases e; exact h
theorem run_split {p : UInt8 → Bool} : ∀ {u v t t' : By}, u.all p = true → v.all p = true → Nx p t → Nx p t' → u ++ t = v ++ t' → u = v ∧ t = t'
  | [], [], t, t', _, _, _, _, h => ⟨rfl, h⟩
  | [], c :: v, t, t', _, hv, ht, _, h => by
    exfalso
    simp only [List.nil_append, List.cons_append] at h
    simp only [List.all_cons, Bool.and_eq_true] at hv
    have := ht _ _ h
    rw [hv.1] at this; cases this
  | c :: u, [], t, t', hu, _, _, ht', h => by
    exfalso
    simp only [List.nil_append, List.cons_append] at h
    simp only [List.all_cons, Bool.and_eq_true] at hu
    have := ht' _ _ h.symm
    rw [hu.1] at this; cases this
  | c :: u, d :: v, t, t', hu, hv, ht, ht', h => by
    simp only [List.cons_append, List.cons.injEq] at h
    simp only [List.all_cons, Bool.and_eq_true] at hu hv
    obtain ⟨e1, e2⟩ := run_split hu.2 hv.2 ht ht' h.2
    exact ⟨by rw [h.1, e1], e2⟩

/-! Numerals -/
theorem dig_toNat {i : Nat} (h : i < 10) : (UInt8.ofNat (48 + i)).toNat = 48 + i := by
  rw [UInt8.toNat_ofNat']; omega
theorem dec_ne : ∀ (k u : Nat), u < k → Lib.decDigits u ≠ [] := by
  intro k u _ h
  rw [Lib.decDigits] at h
  split at h
  · cases h
  · simp at h
theorem dec_inj : ∀ (k u v : Nat), u < k → Lib.decDigits u = Lib.decDigits v → u = v := by
  intro k
  induction k with
  | zero => intro u v h; omega
  | succ k ih =>
    intro u v hk h
    conv at h => lhs; rw [Lib.decDigits]
    conv at h => rhs; rw [Lib.decDigits]
    split at h <;> split at h
    · rename_i h1 h2
      have := congrArg UInt8.toNat (List.cons.inj h).1
      rw [dig_toNat h1, dig_toNat h2] at this; omega
    · exfalso
      have hl := congrArg List.length h
      have := dec_ne (v / 10 + 1) (v / 10) (by omega)
      simp only [List.length_cons, List.length_nil, List.length_append] at hl
      exact this (List.eq_nil_of_length_eq_zero (by omega))
    · exfalso
      have hl := congrArg List.length h
      have := dec_ne (u / 10 + 1) (u / 10) (by omega)
      simp only [List.length_cons, List.length_nil, List.length_append] at hl
      exact this (List.eq_nil_of_length_eq_zero (by omega))
    · rename_i h1 h2
      obtain ⟨e1, e2⟩ := List.append_inj' h rfl
      have e3 := ih (u / 10) (v / 10) (by omega) e1
      have := congrArg UInt8.toNat (List.cons.inj e2).1
      rw [dig_toNat (by omega), dig_toNat (by omega)] at this; omega
theorem dec_dgt : ∀ (k u : Nat), u < k → (Lib.decDigits u).all dgt = true := by
  intro k
  induction k with
  | zero => intro u h; omega
  | succ k ih =>
    intro u hk
    rw [Lib.decDigits]
    split
    · rename_i h1
      simp only [List.all_cons, List.all_nil, Bool.and_true, dgt, isDigit, dig_toNat h1, Bool.and_eq_true, decide_eq_true_eq]; omega
    · rename_i h1
      rw [List.all_append, ih _ (by omega)]
      simp only [List.all_cons, List.all_nil, Bool.and_true, dgt, isDigit, dig_toNat (show u % 10 < 10 by omega), Bool.true_and, Bool.and_eq_true, decide_eq_true_eq]; omega
theorem dgt_wd {c : UInt8} (h : dgt c = true) : wd c = true := by
  unfold dgt at h; simp only [wd, isWord, h, Bool.or_true, Bool.true_or]

/-! Names -/
theorem name_wd {s : Str} (h : isName s = true) : (lb s).all wd = true ∧ isKeyword s = false ∧ ∃ c t, lb s = c :: t ∧ dgt c = false := by
  unfold isName at h
  simp only [Bool.and_eq_true, Bool.not_eq_true'] at h
  obtain ⟨⟨⟨_, h1⟩, h2⟩, h3⟩ := h
  refine ⟨?_, h3, ?_⟩
  · rw [List.all_eq_true] at h2 ⊢
    intro x hx
    exact h2 _ (List.mem_map.2 ⟨x, hx, rfl⟩)
  · unfold bytes at h1
    unfold lb
    cases hd : s.data.toList with
    | nil => rw [hd] at h1; cases h1
    | cons c t =>
      rw [hd] at h1
      simp only [List.map_cons] at h1
      refine ⟨c, t, rfl, ?_⟩
      simp only [isLetter, Bool.or_eq_true, Bool.and_eq_true, decide_eq_true_eq] at h1
      simp only [dgt, isDigit, Bool.and_eq_false_iff, decide_eq_false_iff_not]; omega
theorem not_kw {s k : Str} (h : isKeyword s = false) (hk : k ∈ keywords) : lb s ≠ lb k := by
  intro e
  have e' := lb_inj e
  unfold isKeyword at h
  rw [List.any_eq_false] at h
  have := h k hk
  rw [e', decide_eq_true rfl] at this
  exact this rfl

/-! The texts of the parts -/
def tl (e : Ex) : By := lb (wT e)
def tk (k : Int) (e : Ex) : By := if levS e.op < k then 40 :: (tl e ++ [41]) else tl e
theorem lb_lp : lb lpS = [40] := rfl
theorem lb_rp : lb rpS = [41] := rfl
theorem lb_atT (e : Ex) (k : Int) : lb (atT (txOf e) k) = tk k e := by
  unfold atT tk txOf tl
  simp only
  split
  · rw [lb_app, lb_app, lb_lp, lb_rp]; rfl
  · rfl
def okE (e : Ex) : Prop := ∃ d, countS e d ≤ 1000
theorem okE_node {e : Ex} (h : okE e) : nodeS e = true ∧ ∀ x ∈ e.l, okE x := by
  obtain ⟨d, h⟩ := h
  obtain ⟨_, h1, h2⟩ := good_parts h
  refine ⟨h1, fun x hx => ⟨d + 1, ?_⟩⟩
  have := good_list (n := 1) (by rw [h2]; exact h) x hx
  omega
def flatC (l : List Ex) : By := l.flatMap fun a => 44 :: 32 :: tk 1 a
def sepL : List Ex → By
  | [] => []
  | a :: l => tk 1 a ++ flatC l
theorem lb_cm : ∀ (l : List Ex) (n : Nat), 0 < n → lb (catB (((l.map txOf).zipIdx n).map cmF)) = flatC l
  | [], _, _ => rfl
  | a :: l, n, h => by
    rw [List.map_cons, List.zipIdx_cons, List.map_cons, catB, lb_app, lb_cm l (n + 1) (by omega), cmF]
    simp only [if_neg (show ¬ n = 0 by omega), lb_app, lb_atT, flatC, List.flatMap_cons]
    rfl
theorem lb_list (l : List Ex) : lb (listT (l.map txOf)) = 40 :: (sepL l ++ [41]) := by
  unfold listT
  rw [lb_app, lb_app, lb_lp, lb_rp]
  cases l with
  | nil => rfl
  | cons a l =>
    rw [List.map_cons, List.zipIdx_cons, List.map_cons, catB, lb_app, lb_cm l 1 (by omega), cmF]
    simp only [if_true, lb_app, lb_atT, sepL]
    rfl
theorem sgn_mem {x : sgRow} (h : x ∈ signT) : sgn x.1 = some x := by
  simp only [signT, List.mem_cons, List.not_mem_nil, or_false] at h
  rcases h with rfl | rfl | rfl | rfl | rfl | rfl | rfl | rfl | rfl | rfl | rfl <;> rfl
theorem lev_sg {x : sgRow} (h : x ∈ signT) : levS x.1 = x.2.1 := by unfold levS; rw [sgn_mem h]
theorem sg_lev {x : sgRow} (h : x ∈ signT) : x.2.1 = 1 ∨ x.2.1 = 2 ∨ x.2.1 = 4 ∨ x.2.1 = 5 ∨ x.2.1 = 6 := by
  simp only [signT, List.mem_cons, List.not_mem_nil, or_false] at h
  rcases h with rfl | rfl | rfl | rfl | rfl | rfl | rfl | rfl | rfl | rfl | rfl <;> simp
def opB (x : sgRow) : By := 32 :: (lb x.2.2 ++ [32])
theorem sg_txt {x : sgRow} (h : x ∈ signT) : (lb x.2.2).all (fun c => c != 32) = true := by
  simp only [signT, List.mem_cons, List.not_mem_nil, or_false] at h
  rcases h with rfl | rfl | rfl | rfl | rfl | rfl | rfl | rfl | rfl | rfl | rfl <;> rfl
theorem sg_inj {x y : sgRow} (hx : x ∈ signT) (hy : y ∈ signT) (h : lb x.2.2 = lb y.2.2) : x = y := by
  simp only [signT, List.mem_cons, List.not_mem_nil, or_false] at hx hy
  rcases hx with rfl | rfl | rfl | rfl | rfl | rfl | rfl | rfl | rfl | rfl | rfl <;> rcases hy with rfl | rfl | rfl | rfl | rfl | rfl | rfl | rfl | rfl | rfl | rfl <;> first | rfl | (exfalso; revert h; decide)
theorem opB_inj {x y : sgRow} {t t' : By} (hx : x ∈ signT) (hy : y ∈ signT) (h : opB x ++ t = opB y ++ t') : x = y ∧ t = t' := by
  simp only [opB, List.cons_append, List.cons.injEq, true_and, List.append_assoc, List.nil_append] at h
  obtain ⟨e1, e2⟩ := run_split (p := fun c => c != 32) (sg_txt hx) (sg_txt hy) (nx_cons rfl) (nx_cons rfl) h
  exact ⟨sg_inj hx hy e1, (List.cons.inj e2).2⟩

/-! What a valid node is -/
abbrev e0S : Str := (⟨#[]⟩ : ByteArray)
inductive Vw : Ex → Prop
  | bin (x : sgRow) (a b : Ex) (hx : x ∈ signT) : Vw (.mk x.1 0 e0S [a, b])
  | nt (a : Ex) : Vw (.mk 18 0 e0S [a])
  | ng (a : Ex) : Vw (.mk 8 0 e0S [a])
  | fd (a : Ex) (s : Str) (hs : isName s = true) : Vw (.mk 5 0 s [a])
  | it (n : Int) (h : 0 ≤ n) : Vw (.mk 1 n e0S [])
  | bl (n : Int) (h : n = 0 ∨ n = 1) : Vw (.mk 2 n e0S [])
  | nl : Vw (.mk 3 0 e0S [])
  | nm (s : Str) (hs : s = (⟨#[116, 104, 105, 115]⟩ : ByteArray) ∨ isName s = true) : Vw (.mk 4 0 s [])
  | nw (s : Str) (hs : isName s = true) : Vw (.mk 6 0 s [])
  | cl (s : Str) (l : List Ex) (hs : isName s = true) : Vw (.mk 7 0 s l)
  | fn (op : Int) (l : List Ex) (h : op = 21 ∨ op = 22 ∨ op = 23 ∨ op = 24) : Vw (.mk op 0 e0S l)
theorem lnA0 {α : Type} {l : List α} (h : (l.length : Int) = 0) : l = [] := List.eq_nil_of_length_eq_zero (by omega)
theorem lnA1 {α : Type} {l : List α} (h : (l.length : Int) = 1) : ∃ a, l = [a] := by
  match l, h with
  | [a], _ => exact ⟨a, rfl⟩
  | [], h => cases h
  | a :: b :: l, h => simp only [List.length_cons] at h; omega
theorem lnA2 {α : Type} {l : List α} (h : (l.length : Int) = 2) : ∃ a b, l = [a, b] := by
  match l, h with
  | [a, b], _ => exact ⟨a, b, rfl⟩
  | [], h => cases h
  | [a], h => cases h
  | a :: b :: c :: l, h => simp only [List.length_cons] at h; omega
theorem node_mk (op n : Int) (s : Str) (l : List Ex) : nodeS (.mk op n s l) = (!decide (partsS op = -2) && !(decide (0 ≤ partsS op) && !decide ((l.length : Int) = partsS op)) && !(decide (partsS op = -1) && decide (6 < (l.length : Int))) &&
  (if op = 4 then decide (s = (⟨#[116, 104, 105, 115]⟩ : ByteArray)) || isName s else if op = 5 ∨ op = 6 ∨ op = 7 then isName s else decide (s = (⟨#[]⟩ : ByteArray))) &&
  (if op = 1 then decide (0 ≤ n) && decide (n ≤ 1099511627776) else if op = 2 then decide (n = 0) || decide (n = 1) else decide (n = 0))) := rfl
theorem view {e : Ex} (h : nodeS e = true) : Vw e := by
  obtain ⟨op, n, s, l⟩ := e
  rw [node_mk] at h
  simp only [Bool.and_eq_true, Bool.not_eq_true', decide_eq_false_iff_not, Bool.and_eq_false_iff, Bool.not_eq_false', decide_eq_true_eq] at h
  obtain ⟨⟨⟨⟨h1, h2⟩, h3⟩, h4⟩, h5⟩ := h
  have hop : 1 ≤ op ∧ op ≤ 24 := by
    unfold partsS at h1
    refine Classical.byContradiction fun hb => h1 ?_
    rw [if_neg (by simp; omega), if_neg (by simp; omega), if_neg (by omega), if_neg (by omega), if_neg (by simp; omega)]
  obtain ⟨hlo, hhi⟩ := hop
  have hc : op = 1 ∨ op = 2 ∨ op = 3 ∨ op = 4 ∨ op = 5 ∨ op = 6 ∨ op = 7 ∨ op = 8 ∨ op = 9 ∨ op = 10 ∨ op = 11 ∨ op = 12 ∨ op = 13 ∨ op = 14 ∨ op = 15 ∨ op = 16 ∨ op = 17 ∨ op = 18 ∨ op = 19 ∨ op = 20 ∨ op = 21 ∨ op = 22 ∨ op = 23 ∨ op = 24 := by omega
  have hz : op ≠ 1 → op ≠ 2 → n = 0 := fun a b => by rw [if_neg a, if_neg b] at h5; exact of_decide_eq_true h5
  have he : op ≠ 4 → op ≠ 5 → op ≠ 6 → op ≠ 7 → s = e0S := fun a b c d => by
    rw [if_neg a, if_neg (by omega)] at h4; exact of_decide_eq_true h4
  have hN : op = 5 ∨ op = 6 ∨ op = 7 → isName s = true := fun a => by
    rw [if_neg (by omega), if_pos a] at h4; exact h4
  have hP : 0 ≤ partsS op → (l.length : Int) = partsS op := fun a => by rcases h2 with h2 | h2 <;> omega
  rcases hc with rfl | rfl | rfl | rfl | rfl | rfl | rfl | rfl | rfl | rfl | rfl | rfl | rfl | rfl | rfl | rfl | rfl | rfl | rfl | rfl | rfl | rfl | rfl | rfl
  · obtain rfl := lnA0 (hP (by decide)); obtain rfl := he (by decide) (by decide) (by decide) (by decide)
    rw [if_pos rfl] at h5; simp only [Bool.and_eq_true, decide_eq_true_eq] at h5
    exact .it n h5.1
  · obtain rfl := lnA0 (hP (by decide)); obtain rfl := he (by decide) (by decide) (by decide) (by decide)
    rw [if_neg (by decide), if_pos rfl] at h5; simp only [Bool.or_eq_true, decide_eq_true_eq] at h5
    exact .bl n h5
  · obtain rfl := lnA0 (hP (by decide)); obtain rfl := he (by decide) (by decide) (by decide) (by decide)
    obtain rfl := hz (by decide) (by decide)
    exact .nl
  · obtain rfl := lnA0 (hP (by decide)); obtain rfl := hz (by decide) (by decide)
    simp only [if_true, Bool.or_eq_true, decide_eq_true_eq] at h4
    exact .nm s h4
  · obtain ⟨a, rfl⟩ := lnA1 (hP (by decide)); obtain rfl := hz (by decide) (by decide)
    exact .fd a s (hN (by decide))
  · obtain rfl := lnA0 (hP (by decide)); obtain rfl := hz (by decide) (by decide)
    exact .nw s (hN (by decide))
  · obtain rfl := hz (by decide) (by decide)
    exact .cl s l (hN (by decide))
  · obtain ⟨a, rfl⟩ := lnA1 (hP (by decide)); obtain rfl := hz (by decide) (by decide); obtain rfl := he (by decide) (by decide) (by decide) (by decide)
    exact .ng a
  · obtain ⟨a, b, rfl⟩ := lnA2 (hP (by decide)); obtain rfl := hz (by decide) (by decide); obtain rfl := he (by decide) (by decide) (by decide) (by decide)
    exact .bin (9, 5, (⟨#[43]⟩ : ByteArray)) a b (by simp [signT])
  · obtain ⟨a, b, rfl⟩ := lnA2 (hP (by decide)); obtain rfl := hz (by decide) (by decide); obtain rfl := he (by decide) (by decide) (by decide) (by decide)
    exact .bin (10, 5, (⟨#[45]⟩ : ByteArray)) a b (by simp [signT])
  · obtain ⟨a, b, rfl⟩ := lnA2 (hP (by decide)); obtain rfl := hz (by decide) (by decide); obtain rfl := he (by decide) (by decide) (by decide) (by decide)
    exact .bin (11, 6, (⟨#[42]⟩ : ByteArray)) a b (by simp [signT])
  · obtain ⟨a, b, rfl⟩ := lnA2 (hP (by decide)); obtain rfl := hz (by decide) (by decide); obtain rfl := he (by decide) (by decide) (by decide) (by decide)
    exact .bin (12, 6, (⟨#[47]⟩ : ByteArray)) a b (by simp [signT])
  · obtain ⟨a, b, rfl⟩ := lnA2 (hP (by decide)); obtain rfl := hz (by decide) (by decide); obtain rfl := he (by decide) (by decide) (by decide) (by decide)
    exact .bin (13, 6, (⟨#[37]⟩ : ByteArray)) a b (by simp [signT])
  · obtain ⟨a, b, rfl⟩ := lnA2 (hP (by decide)); obtain rfl := hz (by decide) (by decide); obtain rfl := he (by decide) (by decide) (by decide) (by decide)
    exact .bin (14, 4, (⟨#[61, 61]⟩ : ByteArray)) a b (by simp [signT])
  · obtain ⟨a, b, rfl⟩ := lnA2 (hP (by decide)); obtain rfl := hz (by decide) (by decide); obtain rfl := he (by decide) (by decide) (by decide) (by decide)
    exact .bin (15, 4, (⟨#[33, 61]⟩ : ByteArray)) a b (by simp [signT])
  · obtain ⟨a, b, rfl⟩ := lnA2 (hP (by decide)); obtain rfl := hz (by decide) (by decide); obtain rfl := he (by decide) (by decide) (by decide) (by decide)
    exact .bin (16, 4, (⟨#[60]⟩ : ByteArray)) a b (by simp [signT])
  · obtain ⟨a, b, rfl⟩ := lnA2 (hP (by decide)); obtain rfl := hz (by decide) (by decide); obtain rfl := he (by decide) (by decide) (by decide) (by decide)
    exact .bin (17, 4, (⟨#[60, 61]⟩ : ByteArray)) a b (by simp [signT])
  · obtain ⟨a, rfl⟩ := lnA1 (hP (by decide)); obtain rfl := hz (by decide) (by decide); obtain rfl := he (by decide) (by decide) (by decide) (by decide)
    exact .nt a
  · obtain ⟨a, b, rfl⟩ := lnA2 (hP (by decide)); obtain rfl := hz (by decide) (by decide); obtain rfl := he (by decide) (by decide) (by decide) (by decide)
    exact .bin (19, 2, (⟨#[97, 110, 100]⟩ : ByteArray)) a b (by simp [signT])
  · obtain ⟨a, b, rfl⟩ := lnA2 (hP (by decide)); obtain rfl := hz (by decide) (by decide); obtain rfl := he (by decide) (by decide) (by decide) (by decide)
    exact .bin (20, 1, (⟨#[111, 114]⟩ : ByteArray)) a b (by simp [signT])
  · obtain rfl := hz (by decide) (by decide); obtain rfl := he (by decide) (by decide) (by decide) (by decide)
    exact .fn 21 l (by decide)
  · obtain rfl := hz (by decide) (by decide); obtain rfl := he (by decide) (by decide) (by decide) (by decide)
    exact .fn 22 l (by decide)
  · obtain rfl := hz (by decide) (by decide); obtain rfl := he (by decide) (by decide) (by decide) (by decide)
    exact .fn 23 l (by decide)
  · obtain rfl := hz (by decide) (by decide); obtain rfl := he (by decide) (by decide) (by decide) (by decide)
    exact .fn 24 l (by decide)
def lf (k : Int) : Int := if k = 4 then 5 else k
theorem tl_bin {x : sgRow} {a b : Ex} (hx : x ∈ signT) : tl (.mk x.1 0 e0S [a, b]) = tk (lf x.2.1) a ++ (opB x ++ tk (x.2.1 + 1) b) := by
  simp only [tl, wT, nodeTx, sgn_mem hx, wLs_map, List.map_cons, List.map_nil, ptAt, List.getElem?_cons_zero, List.getElem?_cons_succ, lb_app, lb_atT, opB, lf]
  rw [show lb (⟨#[32]⟩ : ByteArray) = [32] from rfl]
  simp only [List.append_assoc, List.cons_append, List.nil_append]
abbrev notB : By := [110, 111, 116, 32]
theorem tl_not (a : Ex) : tl (.mk 18 0 e0S [a]) = notB ++ tk 3 a := by
  have : wT (.mk 18 0 e0S [a]) = (⟨#[110, 111, 116, 32]⟩ : ByteArray) ++ atT (txOf a) 3 := rfl
  rw [tl, this, lb_app, lb_atT]; rfl
theorem tl_neg (a : Ex) : tl (.mk 8 0 e0S [a]) = 45 :: tk 7 a := by
  have : wT (.mk 8 0 e0S [a]) = (⟨#[45]⟩ : ByteArray) ++ atT (txOf a) 7 := rfl
  rw [tl, this, lb_app, lb_atT]; rfl
theorem tl_fd (a : Ex) (s : Str) : tl (.mk 5 0 s [a]) = tk 8 a ++ 46 :: lb s := by
  have : wT (.mk 5 0 s [a]) = atT (txOf a) 8 ++ (⟨#[46]⟩ : ByteArray) ++ s := rfl
  rw [tl, this, lb_app, lb_app, lb_atT, List.append_assoc]; rfl

/-! Words and what stands behind them -/
inductive Pk : Nat → Ex → By → By → Prop
  | par (e : Ex) (h : levS e.op < 8) : Pk 0 e [] (40 :: (tk 1 e ++ [41]))
  | it (n : Int) (h : 0 ≤ n) : Pk 1 (.mk 1 n e0S []) (Lib.itoa n) []
  | bl (n : Int) (h : n = 0 ∨ n = 1) : Pk 2 (.mk 2 n e0S []) (lb (boolB (decide (n = 1)))) []
  | nl : Pk 3 (.mk 3 0 e0S []) (lb (⟨#[110, 105, 108]⟩ : ByteArray)) []
  | nm (s : Str) (hs : s = (⟨#[116, 104, 105, 115]⟩ : ByteArray) ∨ isName s = true) : Pk 5 (.mk 4 0 s []) (lb s) []
  | nw (s : Str) (hs : isName s = true) : Pk 4 (.mk 6 0 s []) (lb (⟨#[110, 101, 119]⟩ : ByteArray)) (32 :: lb s)
  | cl (s : Str) (l : List Ex) (hs : isName s = true) : Pk 5 (.mk 7 0 s l) (lb s) (40 :: (sepL l ++ [41]))
  | f1 (l : List Ex) : Pk 6 (.mk 21 0 e0S l) (lb (⟨#[105, 102]⟩ : ByteArray)) (40 :: (sepL l ++ [41]))
  | f2 (l : List Ex) : Pk 7 (.mk 22 0 e0S l) (lb (⟨#[109, 97, 120]⟩ : ByteArray)) (40 :: (sepL l ++ [41]))
  | f3 (l : List Ex) : Pk 8 (.mk 23 0 e0S l) (lb (⟨#[109, 105, 110]⟩ : ByteArray)) (40 :: (sepL l ++ [41]))
  | f4 (l : List Ex) : Pk 9 (.mk 24 0 e0S l) (lb (⟨#[108, 111, 103]⟩ : ByteArray)) (40 :: (sepL l ++ [41]))
theorem lev_le (op : Int) : levS op ≤ 8 := by
  unfold levS
  split
  · rename_i x hx
    have := (sgn_size hx).2.2
    omega
  · split <;> (try split) <;> omega
theorem tk_ge {e : Ex} {k : Int} (h : k ≤ levS e.op) : tk k e = tl e := by unfold tk; rw [if_neg (by omega)]
theorem tk_lt {e : Ex} {k : Int} (h : levS e.op < k) : tk k e = 40 :: (tl e ++ [41]) := by unfold tk; rw [if_pos h]
theorem tk_one (e : Ex) : tk 1 e = tl e := tk_ge (lev_ge _)
theorem pk_of {e : Ex} (h : Vw e) (h5 : e.op ≠ 5) : ∃ i w t, Pk i e w t ∧ tk 8 e = w ++ t := by
  by_cases hl : levS e.op < 8
  · exact ⟨_, _, _, .par e hl, by rw [tk_lt hl, tk_one]; rfl⟩
  rw [tk_ge (by omega)]
  cases h with
  | bin x a b hx => exfalso; have := lev_sg hx; have := sg_lev hx; simp only [Ex.op] at hl; omega
  | nt a => exact absurd (show levS 18 < 8 by decide) hl
  | ng a => exact absurd (show levS 8 < 8 by decide) hl
  | fd a s hs => exact absurd rfl h5
  | it n h => exact ⟨_, _, _, .it n h, by rw [List.append_nil]; rfl⟩
  | bl n h => exact ⟨_, _, _, .bl n h, by rw [List.append_nil]; rfl⟩
  | nl => exact ⟨_, _, _, .nl, rfl⟩
  | nm s hs => exact ⟨_, _, _, .nm s hs, by rw [List.append_nil]; rfl⟩
  | nw s hs => exact ⟨_, _, _, .nw s hs, by
      rw [tl, show wT (.mk 6 0 s []) = (⟨#[110, 101, 119, 32]⟩ : ByteArray) ++ s from rfl, lb_app]; rfl⟩
  | cl s l hs => exact ⟨_, _, _, .cl s l hs, by
      rw [tl, show wT (.mk 7 0 s l) = s ++ listT (wLs l) from rfl, lb_app, wLs_map, lb_list]⟩
  | fn op l h =>
    rcases h with rfl | rfl | rfl | rfl
    · exact ⟨_, _, _, .f1 l, by rw [tl, show wT (.mk 21 0 e0S l) = (⟨#[105, 102]⟩ : ByteArray) ++ listT (wLs l) from rfl, lb_app, wLs_map, lb_list]⟩
    · exact ⟨_, _, _, .f2 l, by rw [tl, show wT (.mk 22 0 e0S l) = (⟨#[109, 97, 120]⟩ : ByteArray) ++ listT (wLs l) from rfl, lb_app, wLs_map, lb_list]⟩
    · exact ⟨_, _, _, .f3 l, by rw [tl, show wT (.mk 23 0 e0S l) = (⟨#[109, 105, 110]⟩ : ByteArray) ++ listT (wLs l) from rfl, lb_app, wLs_map, lb_list]⟩
    · exact ⟨_, _, _, .f4 l, by rw [tl, show wT (.mk 24 0 e0S l) = (⟨#[108, 111, 103]⟩ : ByteArray) ++ listT (wLs l) from rfl, lb_app, wLs_map, lb_list]⟩
/-- The kind that a word tells. -/
def kap (w : By) : Nat :=
  match w with
  | [] => 0
  | c :: _ => if dgt c = true then 1 else if w = lb (⟨#[116, 114, 117, 101]⟩ : ByteArray) ∨ w = lb (⟨#[102, 97, 108, 115, 101]⟩ : ByteArray) then 2 else if w = lb (⟨#[110, 105, 108]⟩ : ByteArray) then 3 else if w = lb (⟨#[110, 101, 119]⟩ : ByteArray) then 4 else if w = lb (⟨#[105, 102]⟩ : ByteArray) then 6 else if w = lb (⟨#[109, 97, 120]⟩ : ByteArray) then 7 else if w = lb (⟨#[109, 105, 110]⟩ : ByteArray) then 8 else if w = lb (⟨#[108, 111, 103]⟩ : ByteArray) then 9 else 5
theorem kap_nm {s : Str} (h : s = (⟨#[116, 104, 105, 115]⟩ : ByteArray) ∨ isName s = true) : kap (lb s) = 5 := by
  rcases h with rfl | h
  · rfl
  · obtain ⟨_, hk, c, t, hc, hd⟩ := name_wd h
    have k := fun k hk' => not_kw (k := k) hk hk'
    rw [hc] at k ⊢
    unfold kap
    simp only
    rw [if_neg (by rw [hd]; simp), if_neg, if_neg, if_neg, if_neg, if_neg, if_neg, if_neg]
    · exact k _ (by simp [keywords])
    · exact k _ (by simp [keywords])
    · exact k _ (by simp [keywords])
    · exact k _ (by simp [keywords])
    · exact k _ (by simp [keywords])
    · exact k _ (by simp [keywords])
    · rintro (h | h)
      · exact k _ (by simp [keywords]) h
      · exact k _ (by simp [keywords]) h
theorem kap_of {i : Nat} {e : Ex} {w t : By} (h : Pk i e w t) : kap w = i := by
  cases h with
  | par h => rfl
  | it n h =>
    have h1 := dec_dgt (n.toNat + 1) n.toNat (by omega)
    have h2 := dec_ne (n.toNat + 1) n.toNat (by omega)
    unfold Lib.itoa
    rw [if_neg (by omega)]
    cases hd : Lib.decDigits n.toNat with
    | nil => exact absurd hd h2
    | cons c t =>
      rw [hd] at h1
      simp only [List.all_cons, Bool.and_eq_true] at h1
      simp only [kap, h1.1, if_true]
  | bl n h => rcases h with rfl | rfl <;> rfl
  | nl => rfl
  | nm s hs => exact kap_nm hs
  | nw s hs => rfl
  | cl s l hs => exact kap_nm (.inr hs)
  | f1 | f2 | f3 | f4 => rfl
theorem pk_word {i : Nat} {e : Ex} {w t : By} (h : Pk i e w t) : w.all wd = true ∧ Nx wd t ∧ (w ≠ lb (⟨#[110, 111, 116]⟩ : ByteArray)) := by
  have nk : ∀ s : Str, isName s = true → (lb s).all wd = true ∧ lb s ≠ lb (⟨#[110, 111, 116]⟩ : ByteArray) := fun s hs =>
    ⟨(name_wd hs).1, not_kw (name_wd hs).2.1 (by simp [keywords])⟩
  cases h with
  | par h => exact ⟨rfl, nx_cons rfl, by decide⟩
  | it n h =>
    have h1 := dec_dgt (n.toNat + 1) n.toNat (by omega)
    unfold Lib.itoa
    rw [if_neg (by omega)]
    refine ⟨?_, nx_nil _, fun e => ?_⟩
    · rw [List.all_eq_true] at h1 ⊢
      exact fun x hx => dgt_wd (h1 x hx)
    · rw [e] at h1; revert h1; decide
  | bl n h => rcases h with rfl | rfl <;> exact ⟨rfl, nx_nil _, by decide⟩
  | nl => exact ⟨rfl, nx_nil _, by decide⟩
  | nm s hs =>
    rcases hs with rfl | hs
    · exact ⟨rfl, nx_nil _, by decide⟩
    · exact ⟨(nk s hs).1, nx_nil _, (nk s hs).2⟩
  | nw s hs => exact ⟨rfl, nx_cons rfl, by decide⟩
  | cl s l hs => exact ⟨(nk s hs).1, nx_cons rfl, (nk s hs).2⟩
  | f1 | f2 | f3 | f4 => exact ⟨rfl, nx_cons rfl, by decide⟩
theorem pk_ne {i : Nat} {e : Ex} {w t : By} (h : Pk i e w t) : ∃ c r, w ++ t = c :: r ∧ (c = 40 ∨ wd c = true) := by
  have hw := (pk_word h).1
  have hk := kap_of h
  by_cases hi : i = 0
  · subst hi
    cases h with
    | par h => exact ⟨_, _, rfl, .inl rfl⟩
  · cases w with
    | nil => exact absurd hk.symm hi
    | cons c r =>
      simp only [List.all_cons, Bool.and_eq_true] at hw
      exact ⟨c, r ++ t, rfl, .inr hw.1⟩
end Hw.Z
namespace Hw.Z
open Go Go.Proofs Go.Shelf Hw.M

/-! A text that begins with 'if(' is longer -/
def EndOK (l : By) : Prop := ∃ t c, l = t ++ [c] ∧ (c = 41 ∨ wd c = true)
theorem EndOK.l {l : By} (p : By) (h : EndOK l) : EndOK (p ++ l) := by
  obtain ⟨t, c, rfl, hc⟩ := h; exact ⟨p ++ t, c, by simp, hc⟩
theorem EndOK.c {l : By} (b : UInt8) (h : EndOK l) : EndOK (b :: l) := h.l [b]
theorem end_all {l : By} (h : l.all wd = true) (hn : l ≠ []) : EndOK l := by
  refine ⟨l.dropLast, l.getLast hn, (List.dropLast_concat_getLast hn).symm, .inr ?_⟩
  exact List.all_eq_true.1 h _ (List.getLast_mem hn)
theorem end_tk {e : Ex} (k : Int) (h : EndOK (tl e)) : EndOK (tk k e) := by
  unfold tk; split
  · exact ⟨40 :: tl e, 41, rfl, .inl rfl⟩
  · exact h
theorem end_name {s : Str} (h : isName s = true) : EndOK (lb s) := by
  obtain ⟨h1, _, c, t, h2, _⟩ := name_wd h
  exact end_all h1 (by rw [h2]; simp)
theorem end_list (l : List Ex) : EndOK (lb (listT (wLs l))) := by
  rw [wLs_map, lb_list]; exact ⟨40 :: sepL l, 41, rfl, .inl rfl⟩
theorem sub_lt {op n : Int} {s : Str} {l : List Ex} {x : Ex} (h : x ∈ l) : SizeOf.sizeOf x < SizeOf.sizeOf (Ex.mk op n s l) := by
  have := List.sizeOf_lt_of_mem h
  simp only [Ex.mk.sizeOf_spec]; omega
theorem end_tl : ∀ (N : Nat) (e : Ex), SizeOf.sizeOf e < N → okE e → EndOK (tl e) := by
  intro N
  induction N with
  | zero => intro e h; omega
  | succ N ih =>
    intro e hN ho
    have hc := (okE_node ho).2
    have hv := view (okE_node ho).1
    cases hv with
    | bin x a b hx =>
      rw [tl_bin hx]
      exact ((end_tk _ (ih b (by have := sub_lt (op := x.1) (n := 0) (s := e0S) (l := [a, b]) (x := b) (by simp); omega) (hc b (by simp [Ex.l])))).l _).l _
    | nt a => rw [tl_not]; exact (end_tk _ (ih a (by have := sub_lt (op := 18) (n := 0) (s := e0S) (l := [a]) (x := a) (by simp); omega) (hc a (by simp [Ex.l])))).l _
    | ng a => rw [tl_neg]; exact (end_tk _ (ih a (by have := sub_lt (op := 8) (n := 0) (s := e0S) (l := [a]) (x := a) (by simp); omega) (hc a (by simp [Ex.l])))).c _
    | fd a s hs => rw [tl_fd]; exact ((end_name hs).c _).l _
    | it n h =>
      have e1 : tl (.mk 1 n e0S []) = Lib.itoa n := rfl
      have h1 := dec_dgt (n.toNat + 1) n.toNat (by omega)
      have h2 := dec_ne (n.toNat + 1) n.toNat (by omega)
      rw [e1]
      unfold Lib.itoa
      rw [if_neg (by omega)]
      refine end_all ?_ h2
      rw [List.all_eq_true] at h1 ⊢
      exact fun x hx => dgt_wd (h1 x hx)
    | bl n h =>
      rcases h with rfl | rfl
      · exact ⟨[102, 97, 108, 115], 101, rfl, .inr (by decide)⟩
      · exact ⟨[116, 114, 117], 101, rfl, .inr (by decide)⟩
    | nl => exact ⟨[110, 105], 108, rfl, .inr (by decide)⟩
    | nm s hs =>
      have e1 : tl (.mk 4 0 s []) = lb s := rfl
      rw [e1]
      rcases hs with rfl | hs
      · exact ⟨[116, 104, 105], 115, rfl, .inr (by decide)⟩
      · exact end_name hs
    | nw s hs =>
      rw [tl, show wT (.mk 6 0 s []) = (⟨#[110, 101, 119, 32]⟩ : ByteArray) ++ s from rfl, lb_app]
      exact (end_name hs).l _
    | cl s l hs =>
      rw [tl, show wT (.mk 7 0 s l) = s ++ listT (wLs l) from rfl, lb_app]; exact (end_list l).l _
    | fn op l hq =>
      rcases hq with rfl | rfl | rfl | rfl
      · rw [tl, show wT (.mk 21 0 e0S l) = (⟨#[105, 102]⟩ : ByteArray) ++ listT (wLs l) from rfl, lb_app]; exact (end_list l).l _
      · rw [tl, show wT (.mk 22 0 e0S l) = (⟨#[109, 97, 120]⟩ : ByteArray) ++ listT (wLs l) from rfl, lb_app]; exact (end_list l).l _
      · rw [tl, show wT (.mk 23 0 e0S l) = (⟨#[109, 105, 110]⟩ : ByteArray) ++ listT (wLs l) from rfl, lb_app]; exact (end_list l).l _
      · rw [tl, show wT (.mk 24 0 e0S l) = (⟨#[108, 111, 103]⟩ : ByteArray) ++ listT (wLs l) from rfl, lb_app]; exact (end_list l).l _
theorem if_longer (e : Ex) (hv : exprOk e = true) (h : Lib.hasPrefix (atT (txOf e) 8).data.toList ((⟨#[105, 102, 40]⟩ : ByteArray) : Str).data.toList = true) : 3 < (atT (txOf e) 8).size := by
  have he : EndOK (lb (atT (txOf e) 8)) := by rw [lb_atT]; exact end_tk 8 (end_tl (SizeOf.sizeOf e + 1) e (by omega) ⟨1, of_decide_eq_true hv⟩)
  unfold lb at he
  rw [Lib.hasPrefix, List.isPrefixOf_iff_prefix] at h
  obtain ⟨t, ht⟩ := h
  rw [Lib.size_eq, ← ht]
  cases t with
  | cons a t => simp
  | nil =>
    exfalso
    obtain ⟨u, c, h1, h2⟩ := he
    rw [← ht] at h1
    have h3 := congrArg List.getLast? h1
    simp at h3
    subst h3
    revert h2; decide
end Hw.Z
