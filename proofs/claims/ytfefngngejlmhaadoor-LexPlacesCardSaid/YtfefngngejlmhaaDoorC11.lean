/- The engine and the contracts. -/
import Derived.Test.YtfefngngejlmhaaDoorC10
set_option linter.unusedVariables false
set_option linter.unusedSimpArgs false
namespace Hw.L
open Go Go.Proofs Go.Shelf Hw.M

/-! LexPlaces: plain -/
def ltP (a b : Int × Int) : Prop := a.1 < b.1 ∨ a.1 = b.1 ∧ a.2 < b.2
theorem ltP.trans {a b c : Int × Int} (h : ltP a b) (h2 : ltP b c) : ltP a c := by unfold ltP at *; omega
theorem ltP_mv (p : Int × Int) (c : UInt8) (_hp : 1 ≤ p.2) : ltP p (mv p c) := by
  unfold mv ltP; split
  · left; simp only; omega
  · right; refine ⟨rfl, ?_⟩; simp only; omega
theorem mv_pos {p : Int × Int} (c : UInt8) (h : 1 ≤ p.1 ∧ 1 ≤ p.2) : 1 ≤ (mv p c).1 ∧ 1 ≤ (mv p c).2 := by
  unfold mv; split
  · simp only; omega
  · simp only; omega
theorem mvs_pos : ∀ (l : By) {p : Int × Int}, (1 ≤ p.1 ∧ 1 ≤ p.2) → 1 ≤ (l.foldl mv p).1 ∧ 1 ≤ (l.foldl mv p).2
  | [], _, h => h
  | c :: l, _, h => mvs_pos l (mv_pos c h)
theorem ltP_mvs : ∀ (l : By) {p : Int × Int}, (1 ≤ p.1 ∧ 1 ≤ p.2) → l ≠ [] → ltP p (l.foldl mv p)
  | [], _, _, h => absurd rfl h
  | [c], p, h, _ => ltP_mv p c h.2
  | c :: d :: l, p, h, _ => (ltP_mv p c h.2).trans (ltP_mvs (d :: l) (mv_pos c h) (by simp))
def posT (t : Tok) : Int × Int := (t.ln, t.cl)
structure InvT (out : List Tok) (p : Int × Int) : Prop where
  pos : 1 ≤ p.1 ∧ 1 ≤ p.2
  each : ∀ t ∈ out, validF t = true ∧ t.k ≠ 5 ∧ 1 ≤ t.ln ∧ 1 ≤ t.cl ∧ ltP (posT t) p
  asc : ∀ (i : Nat) x y, out[i]? = some x → out[i + 1]? = some y → ltP (posT x) (posT y)
theorem InvT.move {out : List Tok} {p q : Int × Int} (h : InvT out p) (hq : 1 ≤ q.1 ∧ 1 ≤ q.2) (hl : ltP p q) : InvT out q :=
  ⟨hq, fun t ht => let ⟨a, b, c, d, e⟩ := h.each t ht; ⟨a, b, c, d, e.trans hl⟩, h.asc⟩
theorem InvT.add {out : List Tok} {p q : Int × Int} (h : InvT out p) (hq : 1 ≤ q.1 ∧ 1 ≤ q.2) (hl : ltP p q) {t : Tok} (hv : validF t = true) (h5 : t.k ≠ 5) (ht : posT t = p) : InvT (out ++ [t]) q := by
  refine ⟨hq, fun u hu => ?_, fun i x y hx hy => ?_⟩
  · rcases List.mem_append.1 hu with hu | hu
    · exact (h.move hq hl).each u hu
    · obtain rfl := List.mem_singleton.1 hu
      have e1 : u.ln = p.1 := congrArg Prod.fst ht
      have e2 : u.cl = p.2 := congrArg Prod.snd ht
      exact ⟨hv, h5, by rw [e1]; exact h.pos.1, by rw [e2]; exact h.pos.2, by rw [ht]; exact hl⟩
  · have hlen := (List.getElem?_eq_some_iff.1 hy).1
    simp only [List.length_append, List.length_singleton] at hlen
    rw [List.getElem?_append_left (by omega)] at hx
    rcases Nat.lt_or_ge (i + 1) out.length with h1 | h1
    · rw [List.getElem?_append_left h1] at hy
      exact h.asc i x y hx hy
    · rw [List.getElem?_append_right h1, show i + 1 - out.length = 0 by omega] at hy
      simp only [List.getElem?_cons_zero, Option.some.injEq] at hy
      subst hy
      rw [ht]
      exact (h.each x (List.mem_of_getElem? hx)).2.2.2.2
theorem clsT_valid {w : By} {t : Int × Str × Int} (h : clsT w = some t) (p : Int × Int) : validF (tokAt p t) = true ∧ (tokAt p t).k ≠ 5 := by
  unfold clsT at h
  split at h
  · rename_i hk
    simp only [Option.some.injEq] at h
    subst h
    refine ⟨?_, by show (3 : Int) ≠ 5; decide⟩
    unfold validF tokAt
    simp [hk]
  · split at h
    · rename_i hk
      simp only [Option.some.injEq] at h
      subst h
      refine ⟨?_, by show (1 : Int) ≠ 5; decide⟩
      unfold validF tokAt
      simp [hk]
    · split at h
      · rename_i hn
        simp only [Option.some.injEq] at h
        subst h
        refine ⟨?_, by show (2 : Int) ≠ 5; decide⟩
        unfold numOk at hn
        simp only [Bool.and_eq_true, decide_eq_true_eq] at hn
        have h0 := numV_ge hn.1.2
        unfold validF tokAt
        simp only
        simp [h0, hn.2]
      · cases h
theorem tk_valid {l : By} {n : Nat} {t : Int × Str × Int} (h : tk l = some (n, some t)) (p : Int × Int) : validF (tokAt p t) = true ∧ (tokAt p t).k ≠ 5 := by
  cases l with
  | nil => cases h
  | cons c r =>
    simp only [tk] at h
    split at h
    · simp at h
    · split at h
      · simp at h
      · split at h
        · rw [Option.map_eq_some_iff] at h
          obtain ⟨u, hu, h⟩ := h
          simp only [Prod.mk.injEq, Option.some.injEq] at h
          rw [← h.2]
          exact clsT_valid hu p
        · rw [Option.map_eq_some_iff] at h
          obtain ⟨y, hy, h⟩ := h
          simp only [Prod.mk.injEq, Option.some.injEq] at h
          rw [← h.2]
          refine ⟨?_, by show (4 : Int) ≠ 5; decide⟩
          have := (symIn_iff y).2 (sym_of hy).1
          unfold validF tokAt
          simp [this]
theorem lx_inv : ∀ (f : Nat) (l : By) (p : Int × Int) (out : List Tok), l.length < f → InvT out p →
    (∃ o q, lx f l p out = (o ++ [⟨5, (⟨#[]⟩ : ByteArray), 0, q.1, q.2⟩], (0, 0), 0) ∧ InvT o q ∧ o.length ≤ out.length + l.length) ∨ ∃ q, lx f l p out = ([], q, 7)
  | 0, l, _, _, h, _ => absurd h (Nat.not_lt_zero _)
  | f + 1, [], p, out, _, h => .inl ⟨out, p, rfl, h, by simp⟩
  | f + 1, c :: r, p, out, hf, h => by
    simp only [lx]
    cases e : tk (c :: r) with
    | none => exact .inr ⟨p, rfl⟩
    | some x =>
      obtain ⟨n, o⟩ := x
      have hp := tk_pos e
      simp only [List.length_cons] at hf hp
      have hd : ((c :: r).drop n).length = r.length + 1 - n := by rw [List.length_drop, List.length_cons]
      have hne : (c :: r).take n ≠ [] := fun e => by have := congrArg List.length e; simp at this; omega
      have hq := mvs_pos ((c :: r).take n) h.pos
      have hl := ltP_mvs ((c :: r).take n) h.pos hne
      simp only
      cases o with
      | none =>
        rw [show out ++ ((none : Option (Int × Str × Int)).map (tokAt p)).toList = out by simp]
        rcases lx_inv f ((c :: r).drop n) (((c :: r).take n).foldl mv p) out (by omega) (h.move hq hl) with ⟨o', q, e1, e2, e3⟩ | h2
        · exact .inl ⟨o', q, e1, e2, by simp only [List.length_cons]; omega⟩
        · exact .inr h2
      | some t =>
        have hv := tk_valid e p
        rw [show out ++ ((some t).map (tokAt p)).toList = out ++ [tokAt p t] by simp]
        rcases lx_inv f ((c :: r).drop n) (((c :: r).take n).foldl mv p) (out ++ [tokAt p t]) (by omega) (h.add hq hl hv.1 hv.2 rfl) with ⟨o', q, e1, e2, e3⟩ | h2
        · refine .inl ⟨o', q, e1, e2, ?_⟩
          simp only [List.length_append, List.length_cons, List.length_nil] at e3 ⊢; omega
        · exact .inr h2
theorem tokens_cases (s : Str) (hs : s.size ≤ 65536) : (∃ o q, tokensS s = (o ++ [⟨5, (⟨#[]⟩ : ByteArray), 0, q.1, q.2⟩], (0, 0), 0) ∧ InvT o q ∧ o.length ≤ s.size) ∨ ∃ q, tokensS s = ([], q, 7) := by
  unfold tokensS
  rw [if_neg (by omega)]
  rcases lx_inv ((lst s).length + 1) (lst s) (1, 1) [] (Nat.lt_succ_self _) ⟨⟨by decide, by decide⟩, (fun t ht => by cases ht), (fun i x y hx => by cases hx)⟩ with ⟨o, q, e1, e2, e3⟩ | h
  · exact .inl ⟨o, q, e1, e2, by rw [lst_len] at e3; simpa using e3⟩
  · exact .inr h
/-! gaps -/
def gapS (k : Nat) : Str := match k with
  | 0 => (⟨#[32]⟩ : ByteArray)
  | 1 => ⟨#[10]⟩
  | 2 => ⟨#[9, 32, 13, 10]⟩
  | 3 => ⟨#[32, 35, 32, 97, 32, 98, 10]⟩
  | _ => ⟨#[35, 10, 35, 41, 32, 36, 10]⟩
theorem gap_ok (k : Nat) : Gap (lst (gapS k)) ∧ (lst (gapS k)).head?.map sepC = some true := by
  match k with
  | 0 => exact ⟨Gap.blank (by decide) .nil, rfl⟩
  | 1 => exact ⟨Gap.blank (by decide) .nil, rfl⟩
  | 2 => exact ⟨Gap.blank (by decide) (Gap.blank (by decide) (Gap.blank (by decide) (Gap.blank (by decide) .nil))), rfl⟩
  | 3 => exact ⟨Gap.blank (by decide) (Gap.com (u := [32, 97, 32, 98]) (by decide) .nil), rfl⟩
  | n + 4 => exact ⟨Gap.com (u := []) (g := [35, 41, 32, 36, 10]) (by decide) (Gap.com (u := [41, 32, 36]) (by decide) .nil), rfl⟩
def txtJ (t : Tok) : Str := accJ [t] 0 (⟨#[]⟩ : ByteArray)
theorem txtJ_end {t : Tok} (h : t.k = 5) : txtJ t = (⟨#[]⟩ : ByteArray) := by unfold txtJ; rw [accJ_cons, if_pos h]
theorem txtJ_tok {t : Tok} (h : t.k ≠ 5) : lst (txtJ t) = txtT t := by
  unfold txtJ
  rw [accJ_lst]
  simp [joinL, h]
  rfl
def accG (g : Nat → Nat) : List Tok → Nat → Str → Str
  | [], _, a => a
  | t :: r, i, a => accG g r (i + 1) (a ++ (txtJ t ++ gapS (g i)))
theorem accG_cons (g : Nat → Nat) (t : Tok) (r : List Tok) (i : Nat) (a : Str) : accG g (t :: r) i a = accG g r (i + 1) (a ++ (txtJ t ++ gapS (g i))) := rfl
def wrG (g : Nat → Nat) : List Tok → Nat → By
  | [], _ => []
  | t :: r, i => lst (txtJ t) ++ (lst (gapS (g i)) ++ wrG g r (i + 1))
theorem accG_lst (g : Nat → Nat) : ∀ (l : List Tok) (i : Nat) (a : Str), lst (accG g l i a) = lst a ++ wrG g l i
  | [], i, a => by simp [accG, wrG]
  | t :: r, i, a => by
    rw [accG_cons, wrG, accG_lst g r, lst_app, lst_app]
    simp only [List.append_assoc]
theorem sep_gap (k : Nat) (r : By) : Sep (lst (gapS k) ++ r) := by
  have h := (gap_ok k).2
  cases e : lst (gapS k) with
  | nil => rw [e] at h; cases h
  | cons c u =>
    rw [e] at h
    simp only [List.head?_cons, Option.map_some, Option.some.injEq] at h
    exact .inr ⟨c, _, rfl, h⟩
/-- All of the tokens, the last of which is the end. -/
theorem read_gaps (g : Nat → Nat) (e : Tok) (he : validF e = true) (h5 : e.k = 5) : ∀ (o : List Tok) (i : Nat) (p : Int × Int) (out : List Tok), (∀ t ∈ o, validF t = true ∧ t.k ≠ 5) →
    ∃ o2, lxx (wrG g (o ++ [e]) i) p out = (o2, (0, 0), 0) ∧ o2.map keyT = out.map keyT ++ (o ++ [e]).map keyT
  | [], i, p, out, _ => by
    rw [List.nil_append, wrG, wrG, List.append_nil, txtJ_end h5]
    obtain ⟨p', h⟩ := (gap_ok (g i)).1 [] p out
    rw [List.append_nil] at h
    refine ⟨_, (show lxx (lst ((⟨#[]⟩ : ByteArray) : Str) ++ lst (gapS (g i))) p out = lxx (lst (gapS (g i))) p out from rfl).trans (h.trans (lxx_nil p' out)), ?_⟩
    rw [List.map_append, List.map_singleton, List.map_singleton, valid_end he h5]
    rfl
  | t :: o, i, p, out, h => by
    obtain ⟨h1, h2⟩ := h t (List.mem_cons_self ..)
    rw [List.cons_append, wrG, txtJ_tok h2]
    obtain ⟨u, p1, k1, e1⟩ := lxx_tok h1 h2 (sep_gap (g i) (wrG g (o ++ [e]) (i + 1))) p out
    obtain ⟨p2, e2⟩ := (gap_ok (g i)).1 (wrG g (o ++ [e]) (i + 1)) p1 (out ++ [u])
    obtain ⟨o2, e3, e4⟩ := read_gaps g e he h5 o (i + 1) p2 (out ++ [u]) fun x hx => h x (List.mem_cons_of_mem _ hx)
    exact ⟨o2, e1.trans (e2.trans e3), by rw [e4]; simp [k1]⟩
theorem name_size {s : Str} (h : isName s = true) : s.size ≤ 40 := by
  simp only [isName, Bool.and_eq_true, Bool.not_eq_true', decide_eq_false_iff_not] at h
  omega
theorem kw_size : ∀ y ∈ keywords, y.size ≤ 40 := by decide
theorem valid_size {t : Tok} (h : validF t = true) : (txtJ t).size ≤ 40 := by
  unfold txtJ
  rw [accJ_cons]
  by_cases h5 : t.k = 5
  · rw [if_pos h5]; decide
  rw [if_neg h5]
  show ((⟨#[]⟩ : ByteArray) ++ (⟨#[]⟩ : ByteArray) ++ txtS t : Str).size ≤ 40
  rw [size_app, size_app]
  have h0 : ((⟨#[]⟩ : ByteArray) : Str).size = 0 := rfl
  rw [h0]
  unfold txtS
  unfold validF at h
  by_cases k1 : t.k = 1
  · rw [if_pos k1] at h
    simp only [Bool.and_eq_true] at h
    rw [if_neg (by omega)]
    have := name_size h.1; omega
  rw [if_neg k1] at h
  by_cases k3 : t.k = 3
  · rw [if_pos k3] at h
    simp only [Bool.and_eq_true] at h
    rw [if_neg (by omega)]
    have hk := h.1
    unfold isKeyword at hk
    obtain ⟨y, hy, e⟩ := List.any_eq_true.1 hk
    have := kw_size y hy
    rw [of_decide_eq_true e] at this; omega
  rw [if_neg k3] at h
  by_cases k4 : t.k = 4
  · rw [if_pos k4] at h
    simp only [Bool.and_eq_true] at h
    rw [if_neg (by omega)]
    have := (syms_size _ ((symIn_iff t.t).1 h.1)).2; omega
  rw [if_neg k4] at h
  by_cases k2 : t.k = 2
  · rw [if_pos k2] at h ⊢
    simp only [Bool.and_eq_true, decide_eq_true_eq] at h
    have := itoaB_size (n := t.n) (by omega) (by omega); omega
  · rw [if_neg k2, if_neg h5] at h; cases h
theorem gapS_size (k : Nat) : (gapS k).size ≤ 7 := by
  match k with
  | 0 => decide
  | 1 => decide
  | 2 => decide
  | 3 => decide
  | n + 4 => exact (by decide : (⟨#[35, 10, 35, 41, 32, 36, 10]⟩ : ByteArray).size ≤ 7)
theorem accG_size (g : Nat → Nat) : ∀ (l : List Tok) (i : Nat) (a : Str), (∀ t ∈ l, validF t = true) → (accG g l i a).size ≤ a.size + 47 * l.length
  | [], _, _, _ => Nat.le_add_right _ _
  | t :: r, i, a, h => by
    rw [accG_cons]
    refine Nat.le_trans (accG_size g r (i + 1) _ fun u hu => h u (List.mem_cons_of_mem _ hu)) ?_
    have h1 := valid_size (h t (List.mem_cons_self ..))
    have h2 := gapS_size (g i)
    rw [size_app, size_app, List.length_cons]
    omega
theorem accG_grow (g : Nat → Nat) : ∀ (l : List Tok) (i : Nat) (a : Str), a.size ≤ (accG g l i a).size
  | [], _, _ => Nat.le_refl _
  | t :: r, i, a => by
    rw [accG_cons]
    refine Nat.le_trans ?_ (accG_grow g r (i + 1) _)
    rw [size_app]; omega
end Hw.L
namespace Hw.L
open Go Go.Proofs Go.Shelf Hw.M

/-! LexPlaces -/
def u8R (c : UInt8) : List PV := [.k (.int .u8 (c.toNat : Int))]
def gapN (gaps : By) (i : Nat) : Nat := match gaps[i]? with
  | some c => c.toNat % 5
  | none => 0
def gapsL : List Str := [(⟨#[32]⟩ : ByteArray), ⟨#[10]⟩, ⟨#[9, 32, 13, 10]⟩, ⟨#[32, 35, 32, 97, 32, 98, 10]⟩, ⟨#[35, 10, 35, 41, 32, 36, 10]⟩]
theorem gapsL_at (k : Nat) (h : k < 5) : gapsL[k]? = some (gapS k) := by
  match k, h with
  | 0, _ => rfl
  | 1, _ => rfl
  | 2, _ => rfl
  | 3, _ => rfl
  | 4, _ => rfl
theorem part_at {l : List Tok} {i : Nat} {t : Tok} (h : l[i]? = some t) : ((l.map tokR).take ((i : Int) + 1).toNat).drop (i : Int).toNat = [tokR t] := by
  have hi := (List.getElem?_eq_some_iff.1 h).1
  rw [show ((i : Int) + 1).toNat = i + 1 by omega, show (i : Int).toNat = i by omega, List.take_add_one, List.getElem?_map, h]
  rw [List.drop_append_of_le_length (by simp; omega), List.drop_of_length_le (by simp; omega)]
  rfl
/-- What is known of the i-th token. -/
structure PlT (l : List Tok) (i : Nat) (t : Tok) : Prop where
  valid : validF t = true
  last : decide (t.k = 5) = decide ((i : Int) = (l.length : Int) - 1)
  ln : 1 ≤ t.ln
  cl : 1 ≤ t.cl
  asc : ∀ u, 0 < i → l[i - 1]? = some u → ltP (posT u) (posT t)
theorem plT_of {o : List Tok} {q : Int × Int} (h : InvT o q) {i : Nat} {t : Tok} (ht : (o ++ [⟨5, (⟨#[]⟩ : ByteArray), 0, q.1, q.2⟩])[i]? = some t) : PlT (o ++ [⟨5, (⟨#[]⟩ : ByteArray), 0, q.1, q.2⟩]) i t := by
  have hlen := (List.getElem?_eq_some_iff.1 ht).1
  simp only [List.length_append, List.length_cons, List.length_nil] at hlen
  rcases Nat.lt_or_ge i o.length with h1 | h1
  · rw [List.getElem?_append_left h1] at ht
    obtain ⟨a, b, c, d, e⟩ := h.each t (List.mem_of_getElem? ht)
    refine ⟨a, ?_, c, d, fun u h0 hu => ?_⟩
    · rw [decide_eq_false b, List.length_append]
      exact (decide_eq_false (by simp only [List.length_cons, List.length_nil]; omega)).symm
    · rw [List.getElem?_append_left (by omega)] at hu
      exact h.asc (i - 1) u t hu (by rw [show i - 1 + 1 = i by omega]; exact ht)
  · rw [List.getElem?_append_right h1, show i - o.length = 0 by omega] at ht
    simp only [List.getElem?_cons_zero, Option.some.injEq] at ht
    subst ht
    refine ⟨rfl, ?_, h.pos.1, h.pos.2, fun u h0 hu => ?_⟩
    · rw [decide_eq_true rfl, List.length_append]
      exact (decide_eq_true (by simp only [List.length_cons, List.length_nil]; omega)).symm
    · rw [List.getElem?_append_left (by omega)] at hu
      exact (h.each u (List.mem_of_getElem? hu)).2.2.2.2
theorem okJ_one {t : Tok} (h : validF t = true) : okJ [t] := fun i u hu => by
  cases i with
  | zero =>
    simp only [List.getElem?_cons_zero, Option.some.injEq] at hu
    subst hu
    unfold okAt
    rw [h]
    simp
  | succ n => simp at hu
set_option maxHeartbeats 2000000 in
theorem lexPlacesLaw_ok (s : Str) (gaps : By) : FnOK Tryd.prog 5 [Sr s, pS (.sl 1 (gaps.map u8R))] [] (.bq true) [] := by
  by_cases hs : s.size ≤ 400
  case neg =>
    refine fn_ok T Tryd.func5 (by kernel_rfl) rfl rfl rfl rfl fun C hC => ?_
    repeat' first
      | refine g_go T hC true 400 rfl rfl ?_
      | (exfalso; have h2 := of_decide_eq_false h; omega)
      | (exfalso; simp at h; done)
      | refine g_cond rfl (fun h => ?_) (fun h => ?_)
      | refine g_end T hC (by kernel_rfl) ?_
      | refine g_splitD (fun h => ?_) (fun h => ?_)
      | refine g_splitG rfl rfl rfl (fun h => ?_) (fun h => ?_)
      | refine g_splitP rfl rfl (fun h => ?_) (fun h => ?_)
      | refine g_call hC (awake01_ok) rfl rfl (LeSs.refl _) rfl rfl rfl ?_
      | refine g_retq T (.inl rfl) rfl ?_
      | refine g_retl T (.inl rfl) rfl ?_
    all_goals rfl
  by_cases hg : gaps.length ≤ 100
  case neg =>
    refine fn_ok T Tryd.func5 (by kernel_rfl) rfl rfl rfl rfl fun C hC => ?_
    repeat' first
      | refine g_go T hC true 400 rfl rfl ?_
      | (exfalso; have h2 := of_decide_eq_false h; simp only [List.length_map] at h2; omega)
      | (exfalso; have h2 := of_decide_eq_true h; omega)
      | (exfalso; simp at h; done)
      | refine g_cond rfl (fun h => ?_) (fun h => ?_)
      | refine g_end T hC (by kernel_rfl) ?_
      | refine g_splitD (fun h => ?_) (fun h => ?_)
      | refine g_splitG rfl rfl rfl (fun h => ?_) (fun h => ?_)
      | refine g_splitP rfl rfl (fun h => ?_) (fun h => ?_)
      | refine g_call hC (awake01_ok) rfl rfl (LeSs.refl _) rfl rfl rfl ?_
      | refine g_retq T (.inl rfl) rfl ?_
      | refine g_retl T (.inl rfl) rfl ?_
    all_goals rfl
  have hT := lexTokens_ok s (by omega)
  rcases tokens_cases s (by omega) with ⟨o, q, ht, hinv, hlen⟩ | ⟨q, ht⟩
  case inr =>
    rw [ht] at hT
    refine fn_ok T Tryd.func5 (by kernel_rfl) rfl rfl rfl rfl fun C hC => ?_
    repeat' first
      | refine g_go T hC true 400 rfl rfl ?_
      | (exfalso; have h2 := of_decide_eq_true h; (try simp only [List.length_map] at h2); omega)
      | (exfalso; simp at h; done)
      | refine g_cond rfl (fun h => ?_) (fun h => ?_)
      | refine g_end T hC (by kernel_rfl) ?_
      | refine g_splitD (fun h => ?_) (fun h => ?_)
      | refine g_splitG rfl rfl rfl (fun h => ?_) (fun h => ?_)
      | refine g_splitP rfl rfl (fun h => ?_) (fun h => ?_)
      | refine g_call hC (awake01_ok) rfl rfl (LeSs.refl _) rfl rfl rfl ?_
      | refine g_call hC (hT) rfl rfl (LeSs.refl _) rfl rfl rfl ?_
      | refine g_retq T (.inl rfl) rfl ?_
      | refine g_retl T (.inl rfl) rfl ?_
    all_goals rfl
  rw [ht] at hT
  simp only at hT
  have hpl := fun i t ht => plT_of hinv (i := i) (t := t) ht
  have hrd := fun g => read_gaps g ⟨5, (⟨#[]⟩ : ByteArray), 0, q.1, q.2⟩ rfl rfl o 0 (1, 1) [] fun t ht => let ⟨a, b, _⟩ := hinv.each t ht; ⟨a, b⟩
  have hL : (o ++ [(⟨5, (⟨#[]⟩ : ByteArray), 0, q.1, q.2⟩ : Tok)]).length ≤ 401 := by simp only [List.length_append, List.length_cons, List.length_nil]; omega
  have hV : ∀ t ∈ o ++ [(⟨5, (⟨#[]⟩ : ByteArray), 0, q.1, q.2⟩ : Tok)], validF t = true := fun t ht => by
    obtain ⟨i, hi⟩ := List.mem_iff_getElem?.1 ht
    exact (hpl i t hi).valid
  have hsz := accG_size (gapN gaps) (o ++ [(⟨5, (⟨#[]⟩ : ByteArray), 0, q.1, q.2⟩ : Tok)]) 0 (⟨#[]⟩ : ByteArray) hV
  generalize hl : o ++ [(⟨5, (⟨#[]⟩ : ByteArray), 0, q.1, q.2⟩ : Tok)] = l at hT hpl hrd hL hV hsz
  have h00 : ((⟨#[]⟩ : ByteArray) : Str).size = 0 := rfl
  rw [h00] at hsz
  obtain ⟨o2, hr1, hr2⟩ := hrd (gapN gaps)
  have hT2 := lexTokens_ok (accG (gapN gaps) l 0 (⟨#[]⟩ : ByteArray)) (by omega)
  rw [show tokensS (accG (gapN gaps) l 0 (⟨#[]⟩ : ByteArray)) = (o2, (0, 0), 0) by unfold tokensS; rw [if_neg (by omega), accG_lst]; exact hr1] at hT2
  simp only at hT2
  have hE := rSame_ok o2 l
  rw [show sameT o2 l = true from decide_eq_true (by simpa using hr2)] at hE
  clear hrd hr1 hr2 ht hinv hl
  refine fn_ok T Tryd.func5 (by kernel_rfl) rfl rfl rfl rfl fun C hC => ?_
  repeat' first
    | refine g_go T hC true 400 rfl rfl ?_
    | (exfalso; have h2 := of_decide_eq_true h; (try simp only [List.length_map] at h2); omega)
    | (exfalso; simp at h; done)
    | refine g_cond rfl (fun h => ?_) (fun h => ?_)
    | refine g_end T hC (by kernel_rfl) ?_
    | refine g_splitD (fun h => ?_) (fun h => ?_)
    | refine g_splitG rfl rfl rfl (fun h => ?_) (fun h => ?_)
    | refine g_splitP rfl rfl (fun h => ?_) (fun h => ?_)
    | refine g_call hC (awake01_ok) rfl rfl (LeSs.refl _) rfl rfl rfl ?_
    | refine g_call hC (hT) rfl rfl (LeSs.refl _) rfl rfl rfl ?_
    | (refine g_newBld hC 5 (by kernel_rfl) rfl rfl (fun b => ?_))
  refine g_loop (fun q : Nat × Str => q.1 ≤ l.length ∧ accG (gapN gaps) (l.drop q.1) q.1 q.2 = accG (gapN gaps) l 0 (⟨#[]⟩ : ByteArray)) (fun q => ([(1, pS (.sl 1 (gaps.map u8R))), (5, pS (toksP l)), (8, Bp b), (38, pS (toksP l)), (39, I (l.map tokR).length), (40, I q.1)], [(101, some (Bd b q.2))])) (fun q => l.length - q.1) hC
    (0, (⟨#[]⟩ : ByteArray)) ⟨Nat.zero_le _, rfl⟩ (mvU 101 1008) ⟨rfl, ⟨rfl, rfl, rfl, rfl, rfl, rfl, trivial⟩, ⟨rfl, trivial⟩, rfl, fun i hi => mvU_low (by omega) hi⟩ ?_
  clear h
  rintro ⟨i, a⟩ ⟨hi, ha⟩
  simp only at hi ha
  refine g_run' T hC true 200 rfl ?_
  refine g_cond rfl (fun h => ?_) (fun h => ?_)
  rotate_left
  · have hge : ¬ i < l.length := by have := of_decide_eq_false h; simp only [List.length_map] at this; omega
    rw [List.drop_of_length_le (by omega)] at ha
    have ha' : a = accG (gapN gaps) l 0 (⟨#[]⟩ : ByteArray) := ha
    subst ha'
    have hS := bs_ok b (accG (gapN gaps) l 0 (⟨#[]⟩ : ByteArray))
    clear h
    repeat' first
      | refine g_go T hC true 400 rfl rfl ?_
      | refine g_cond rfl (fun h => ?_) (fun h => ?_)
      | refine g_end T hC (by kernel_rfl) ?_
      | refine g_splitD (fun h => ?_) (fun h => ?_)
      | refine g_splitG rfl rfl rfl (fun h => ?_) (fun h => ?_)
      | refine g_splitP rfl rfl (fun h => ?_) (fun h => ?_)
      | refine g_outE ?_
      | refine g_callR hC (hS) (nm [101]) rfl rfl (LeSs.refl _) rfl rfl rfl rfl rfl rfl rfl rfl ?_
      | refine g_call hC (hT2) rfl rfl (LeSs.refl _) rfl rfl rfl ?_
      | refine g_call hC (hE) rfl rfl (LeSs.refl _) rfl rfl rfl ?_
      | refine g_retq T (.inl rfl) rfl ?_
      | refine g_retl T (.inl rfl) rfl ?_
    all_goals first | rfl | (simp; done) | (exfalso; simp_all; done)
  have hlt : i < l.length := by have := of_decide_eq_true h; simp only [List.length_map] at this; omega
  clear h
  obtain ⟨t, hx⟩ := exists_at hlt
  rw [drop_at hx, accG_cons] at ha
  obtain ⟨pv, plast, pln, pcl, pasc⟩ := hpl i t hx
  have hVa := lexValid_ok t
  rw [pv] at hVa
  have w1 : IntKind.i64.wrap ((l.length : Int) - 1) = (l.length : Int) - 1 := wrap64 (by omega)
  have hJ := lJoin_yes [t] (by simp) (okJ_one pv) (by have := valid_size pv; unfold txtJ at this; omega)
  rw [show accJ [t] 0 (⟨#[]⟩ : ByteArray) = txtJ t from rfl] at hJ
  have hgr := accG_grow (gapN gaps) (l.drop (i + 1)) (i + 1) (a ++ (txtJ t ++ gapS (gapN gaps i)))
  rw [ha, size_app] at hgr
  have w2 : IntKind.i64.wrap ((i : Int) + 1) = (i : Int) + 1 := wrap64 (by omega)
  cases hc : gaps[i]? with
  | none =>
    have hge : gaps.length ≤ i := List.getElem?_eq_none_iff.1 hc
    have hn0 : gapS (gapN gaps i) = (⟨#[32]⟩ : ByteArray) := by unfold gapN; rw [hc]; rfl
    have hn1 : ((⟨#[32]⟩ : ByteArray) : Str).size = 1 := rfl
    rw [hn0] at ha hgr
    have hgs := hgr
    rw [size_app, hn1] at hgs
    have hW := ws_ok b a (txtJ t ++ (⟨#[32]⟩ : ByteArray)) (by omega)
    by_cases hi0 : 0 < i
    · obtain ⟨u, hu'⟩ := exists_at (l := l) (i := i - 1) (by omega)
      have hasc := pasc u hi0 hu'
      unfold ltP posT at hasc
      simp only at hasc
      have hu : l[((i : Int) - 1).toNat]? = some u := by rw [show ((i : Int) - 1).toNat = i - 1 by omega]; exact hu'
      have w3 : IntKind.i64.wrap ((i : Int) - 1) = (i : Int) - 1 := wrap64 (by omega)
      clear pasc hpl
      repeat' first
        | refine g_go T hC true 400 rfl rfl ?_
        | (exfalso; have h2 := of_decide_eq_true h; (try rename_i h3; have h3 := of_decide_eq_true h3); omega)
        | refine g_bools hC rfl rfl (by kernel_rfl) rfl rfl ?_
        | (exfalso; rw [List.length_map, w1, plast] at h; simp at h; done)
        | (exfalso; have h2 := of_decide_eq_true h; simp only [List.length_map] at h2; omega)
        | (exfalso; have h2 := of_decide_eq_false h; omega)
        | (exfalso; have h2 := of_decide_eq_true h; omega)
        | (exfalso; simp at h; done)
        | refine g_cond rfl (fun h => ?_) (fun h => ?_)
        | refine g_end T hC (by kernel_rfl) ?_
        | refine g_splitD (fun h => ?_) (fun h => ?_)
        | refine g_splitG rfl rfl rfl (fun h => ?_) (fun h => ?_)
        | refine g_splitP rfl rfl (fun h => ?_) (fun h => ?_)
        | refine g_idx T hC rfl rfl rfl (Int.natCast_nonneg _) (map_at (by assumption)) rfl rfl ?_
        | refine g_call hC (hVa) rfl rfl (LeSs.refl _) rfl rfl rfl ?_
        | (rw [w3]; refine g_idx T hC rfl rfl rfl (by omega) (map_atI hu) rfl rfl ?_)
        | (rw [w2]; refine g_partLH T hC [tokR t] rfl rfl rfl rfl (by omega) (by omega) (by rw [List.length_map]; omega) (part_at hx) rfl rfl ?_)
        | refine g_call hC (hJ) rfl rfl (LeSs.refl _) rfl rfl rfl ?_
        | refine g_lit T hC rfl rfl rfl rfl rfl rfl rfl rfl rfl ?_
        | (refine g_rem hC rfl rfl (by decide) rfl rfl ?_)
        | (refine g_idx T hC (rows := gapsL.map strR) rfl rfl rfl (by decide) (map_at (l := gapsL) (i := 0) rfl) rfl rfl ?_)
        | (refine g_cat hC rfl rfl (by omega) rfl rfl ?_)
        | refine g_callR hC (hW) (nm [101, 102]) rfl rfl (LeSs.refl _) rfl rfl rfl rfl rfl rfl rfl rfl ?_
      all_goals (rw [wrapS (by omega)]; exact g_round (i + 1, a ++ (txtJ t ++ (⟨#[32]⟩ : ByteArray))) ⟨by simp only; omega, ha⟩ (mvU 101 102) (by simp only; omega) ⟨rfl, ⟨rfl, rfl, rfl, rfl, rfl, rfl, trivial⟩, ⟨rfl, trivial⟩, rfl, fun i hi => mvU_low (by omega) hi⟩)
    · clear pasc hpl
      repeat' first
        | refine g_go T hC true 400 rfl rfl ?_
        | refine g_bools hC rfl rfl (by kernel_rfl) rfl rfl ?_
        | (exfalso; rw [List.length_map, w1, plast] at h; simp at h; done)
        | (exfalso; have h2 := of_decide_eq_true h; simp only [List.length_map] at h2; omega)
        | (exfalso; have h2 := of_decide_eq_false h; omega)
        | (exfalso; have h2 := of_decide_eq_true h; omega)
        | (exfalso; simp at h; done)
        | refine g_cond rfl (fun h => ?_) (fun h => ?_)
        | refine g_end T hC (by kernel_rfl) ?_
        | refine g_splitD (fun h => ?_) (fun h => ?_)
        | refine g_splitG rfl rfl rfl (fun h => ?_) (fun h => ?_)
        | refine g_splitP rfl rfl (fun h => ?_) (fun h => ?_)
        | refine g_idx T hC rfl rfl rfl (Int.natCast_nonneg _) (map_at (by assumption)) rfl rfl ?_
        | refine g_call hC (hVa) rfl rfl (LeSs.refl _) rfl rfl rfl ?_
        | (rw [w2]; refine g_partLH T hC [tokR t] rfl rfl rfl rfl (by omega) (by omega) (by rw [List.length_map]; omega) (part_at hx) rfl rfl ?_)
        | refine g_call hC (hJ) rfl rfl (LeSs.refl _) rfl rfl rfl ?_
        | refine g_lit T hC rfl rfl rfl rfl rfl rfl rfl rfl rfl ?_
        | (refine g_rem hC rfl rfl (by decide) rfl rfl ?_)
        | (refine g_idx T hC (rows := gapsL.map strR) rfl rfl rfl (by decide) (map_at (l := gapsL) (i := 0) rfl) rfl rfl ?_)
        | (refine g_cat hC rfl rfl (by omega) rfl rfl ?_)
        | refine g_callR hC (hW) (nm [101, 102]) rfl rfl (LeSs.refl _) rfl rfl rfl rfl rfl rfl rfl rfl ?_
      all_goals (rw [wrapS (by omega)]; exact g_round (i + 1, a ++ (txtJ t ++ (⟨#[32]⟩ : ByteArray))) ⟨by simp only; omega, ha⟩ (mvU 101 102) (by simp only; omega) ⟨rfl, ⟨rfl, rfl, rfl, rfl, rfl, rfl, trivial⟩, ⟨rfl, trivial⟩, rfl, fun i hi => mvU_low (by omega) hi⟩)
  | some c =>
    have hlc : i < gaps.length := (List.getElem?_eq_some_iff.1 hc).1
    have hn0 : gapN gaps i = c.toNat % 5 := by unfold gapN; rw [hc]
    have hGa := gapsL_at (c.toNat % 5) (by omega)
    have hgz := gapS_size (c.toNat % 5)
    rw [hn0] at ha hgr
    have hgs := hgr
    rw [size_app] at hgs
    have hW := ws_ok b a (txtJ t ++ gapS (c.toNat % 5)) (by omega)
    have hcl := c.toNat_lt
    have hm : (IntKind.i64.wrap (c.toNat : Int)).tmod 5 = ((c.toNat % 5 : Nat) : Int) := by rw [wrap64 (by omega), Int.tmod_eq_emod_of_nonneg (by omega)]; omega
    by_cases hi0 : 0 < i
    · obtain ⟨u, hu'⟩ := exists_at (l := l) (i := i - 1) (by omega)
      have hasc := pasc u hi0 hu'
      unfold ltP posT at hasc
      simp only at hasc
      have hu : l[((i : Int) - 1).toNat]? = some u := by rw [show ((i : Int) - 1).toNat = i - 1 by omega]; exact hu'
      have w3 : IntKind.i64.wrap ((i : Int) - 1) = (i : Int) - 1 := wrap64 (by omega)
      clear pasc hpl
      repeat' first
        | refine g_go T hC true 400 rfl rfl ?_
        | (exfalso; have h2 := of_decide_eq_true h; (try rename_i h3; have h3 := of_decide_eq_true h3); omega)
        | refine g_bools hC rfl rfl (by kernel_rfl) rfl rfl ?_
        | (exfalso; rw [List.length_map, w1, plast] at h; simp at h; done)
        | (exfalso; have h2 := of_decide_eq_false h; simp only [List.length_map] at h2; omega)
        | (exfalso; have h2 := of_decide_eq_false h; omega)
        | (exfalso; have h2 := of_decide_eq_true h; omega)
        | (exfalso; simp at h; done)
        | refine g_cond rfl (fun h => ?_) (fun h => ?_)
        | refine g_end T hC (by kernel_rfl) ?_
        | refine g_splitD (fun h => ?_) (fun h => ?_)
        | refine g_splitG rfl rfl rfl (fun h => ?_) (fun h => ?_)
        | refine g_splitP rfl rfl (fun h => ?_) (fun h => ?_)
        | refine g_idx T hC rfl rfl rfl (Int.natCast_nonneg _) (map_at (by assumption)) rfl rfl ?_
        | refine g_call hC (hVa) rfl rfl (LeSs.refl _) rfl rfl rfl ?_
        | (rw [w3]; refine g_idx T hC rfl rfl rfl (by omega) (map_atI hu) rfl rfl ?_)
        | (rw [w2]; refine g_partLH T hC [tokR t] rfl rfl rfl rfl (by omega) (by omega) (by rw [List.length_map]; omega) (part_at hx) rfl rfl ?_)
        | refine g_call hC (hJ) rfl rfl (LeSs.refl _) rfl rfl rfl ?_
        | refine g_lit T hC rfl rfl rfl rfl rfl rfl rfl rfl rfl ?_
        | (refine g_rem hC rfl rfl (by decide) rfl rfl ?_)
        | (rw [hm]; refine g_idx T hC (rows := gapsL.map strR) rfl rfl rfl (Int.natCast_nonneg _) (map_at hGa) rfl rfl ?_)
        | (refine g_cat hC rfl rfl (by omega) rfl rfl ?_)
        | refine g_callR hC (hW) (nm [101, 102]) rfl rfl (LeSs.refl _) rfl rfl rfl rfl rfl rfl rfl rfl ?_
      all_goals (rw [wrapS (by omega)]; exact g_round (i + 1, a ++ (txtJ t ++ gapS (c.toNat % 5))) ⟨by simp only; omega, ha⟩ (mvU 101 102) (by simp only; omega) ⟨rfl, ⟨rfl, rfl, rfl, rfl, rfl, rfl, trivial⟩, ⟨rfl, trivial⟩, rfl, fun i hi => mvU_low (by omega) hi⟩)
    · clear pasc hpl
      repeat' first
        | refine g_go T hC true 400 rfl rfl ?_
        | refine g_bools hC rfl rfl (by kernel_rfl) rfl rfl ?_
        | (exfalso; rw [List.length_map, w1, plast] at h; simp at h; done)
        | (exfalso; have h2 := of_decide_eq_false h; simp only [List.length_map] at h2; omega)
        | (exfalso; have h2 := of_decide_eq_false h; omega)
        | (exfalso; have h2 := of_decide_eq_true h; omega)
        | (exfalso; simp at h; done)
        | refine g_cond rfl (fun h => ?_) (fun h => ?_)
        | refine g_end T hC (by kernel_rfl) ?_
        | refine g_splitD (fun h => ?_) (fun h => ?_)
        | refine g_splitG rfl rfl rfl (fun h => ?_) (fun h => ?_)
        | refine g_splitP rfl rfl (fun h => ?_) (fun h => ?_)
        | refine g_idx T hC rfl rfl rfl (Int.natCast_nonneg _) (map_at (by assumption)) rfl rfl ?_
        | refine g_call hC (hVa) rfl rfl (LeSs.refl _) rfl rfl rfl ?_
        | (rw [w2]; refine g_partLH T hC [tokR t] rfl rfl rfl rfl (by omega) (by omega) (by rw [List.length_map]; omega) (part_at hx) rfl rfl ?_)
        | refine g_call hC (hJ) rfl rfl (LeSs.refl _) rfl rfl rfl ?_
        | refine g_lit T hC rfl rfl rfl rfl rfl rfl rfl rfl rfl ?_
        | (refine g_rem hC rfl rfl (by decide) rfl rfl ?_)
        | (rw [hm]; refine g_idx T hC (rows := gapsL.map strR) rfl rfl rfl (Int.natCast_nonneg _) (map_at hGa) rfl rfl ?_)
        | (refine g_cat hC rfl rfl (by omega) rfl rfl ?_)
        | refine g_callR hC (hW) (nm [101, 102]) rfl rfl (LeSs.refl _) rfl rfl rfl rfl rfl rfl rfl rfl ?_
      all_goals (rw [wrapS (by omega)]; exact g_round (i + 1, a ++ (txtJ t ++ gapS (c.toNat % 5))) ⟨by simp only; omega, ha⟩ (mvU 101 102) (by simp only; omega) ⟨rfl, ⟨rfl, rfl, rfl, rfl, rfl, rfl, trivial⟩, ⟨rfl, trivial⟩, rfl, fun i hi => mvU_low (by omega) hi⟩)
end Hw.L
