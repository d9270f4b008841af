/- The engine and the contracts. -/
import Derived.Test.YtmnhegkogibipaaDoorC11
set_option linter.unusedVariables false
set_option linter.unusedSimpArgs false
namespace Hw.D
open Go Go.Proofs Hw.M

/-! Heads -/
theorem lv1 : levS 1 = 8 := by decide
theorem lv2 : levS 2 = 8 := by decide
theorem lv3 : levS 3 = 8 := by decide
theorem lv4 : levS 4 = 8 := by decide
theorem lv5 : levS 5 = 8 := by decide
theorem lv6 : levS 6 = 8 := by decide
theorem lv7 : levS 7 = 8 := by decide
theorem lv8 : levS 8 = 7 := by decide
theorem lv18 : levS 18 = 3 := by decide
theorem lv21 : levS 21 = 8 := by decide
theorem lv22 : levS 22 = 8 := by decide
theorem lv23 : levS 23 = 8 := by decide
theorem lv24 : levS 24 = 8 := by decide
theorem ok_vw {e : Ex} (h : okE e) : Vw e := view (okE_node h).1
theorem ex_sub {op n : Int} {s : Str} {l : List Ex} {x : Ex} (h : x ∈ l) : SizeOf.sizeOf x < SizeOf.sizeOf (Ex.mk op n s l) := by
  have := List.sizeOf_lt_of_mem h
  simp only [Ex.mk.sizeOf_spec]; omega
theorem head8 : ∀ (N : Nat) (e : Ex), SizeOf.sizeOf e < N → okE e → ∃ c t, tk 8 e = c :: t ∧ (c = 40 ∨ wd c = true) := by
  intro N
  induction N with
  | zero => intro e h; omega
  | succ N ih =>
    intro e hN ho
    have hv := ok_vw ho
    by_cases h5 : e.op = 5
    · cases hv with
      | fd a s hs =>
        have h1 : SizeOf.sizeOf a < SizeOf.sizeOf (Ex.mk 5 0 s [a]) := ex_sub (by simp)
        obtain ⟨c, t, e1, e2⟩ := ih a (by omega) ((okE_node ho).2 a (by simp [Ex.l]))
        exact ⟨c, _, by rw [tk_ge (show (8 : Int) ≤ levS 5 by decide), tl_fd, e1]; rfl, e2⟩
      | bin x a b hx => exfalso; have := sg_lev hx; have h6 := lev_sg hx; simp only [Ex.op] at h5; rw [h5] at h6; revert h6; rw [show levS 5 = 8 by decide]; omega
      | fn op l h => exfalso; simp only [Ex.op] at h5; omega
      | _ => exfalso; revert h5; simp [Ex.op]
    · obtain ⟨i, w, t, hp, e1⟩ := pk_of hv h5
      obtain ⟨c, r, e2, e3⟩ := pk_ne hp
      exact ⟨c, r, e1.trans e2, e3⟩
theorem lev8_tk {e : Ex} (h : levS e.op = 8) : tl e = tk 8 e := (tk_ge (by omega)).symm
theorem headk : ∀ (N : Nat) (e : Ex), SizeOf.sizeOf e < N → okE e → ∀ k, ∃ c t, tk k e = c :: t ∧ (c = 40 ∨ c = 45 ∨ wd c = true) := by
  intro N
  induction N with
  | zero => intro e h; omega
  | succ N ih =>
    intro e hN ho k
    by_cases hl : levS e.op < k
    · exact ⟨_, _, tk_lt hl, .inl rfl⟩
    rw [tk_ge (by omega)]
    have h8 : levS e.op = 8 → ∃ c t, tl e = c :: t ∧ (c = 40 ∨ c = 45 ∨ wd c = true) := fun h => by
      obtain ⟨c, t, e1, e2⟩ := head8 (SizeOf.sizeOf e + 1) e (by omega) ho
      exact ⟨c, t, (lev8_tk h).trans e1, e2.elim .inl fun q => .inr (.inr q)⟩
    have hv := ok_vw ho
    cases hv with
    | bin x a b hx =>
      have h1 : SizeOf.sizeOf a < SizeOf.sizeOf (Ex.mk x.1 0 e0S [a, b]) := ex_sub (by simp)
      obtain ⟨c, t, e1, e2⟩ := ih a (by omega) ((okE_node ho).2 a (by simp [Ex.l])) (lf x.2.1)
      exact ⟨c, _, by rw [tl_bin hx, e1]; rfl, e2⟩
    | nt a => exact ⟨110, _, by rw [tl_not]; rfl, .inr (.inr (by decide))⟩
    | ng a => exact ⟨45, _, tl_neg a, .inr (.inl rfl)⟩
    | fn op l h => rcases h with rfl | rfl | rfl | rfl <;> first | exact h8 lv1 | exact h8 lv2 | exact h8 lv3 | exact h8 lv4 | exact h8 lv5 | exact h8 lv6 | exact h8 lv7 | exact h8 lv21 | exact h8 lv22 | exact h8 lv23 | exact h8 lv24
    | _ => first | exact h8 lv1 | exact h8 lv2 | exact h8 lv3 | exact h8 lv4 | exact h8 lv5 | exact h8 lv6 | exact h8 lv7 | exact h8 lv21 | exact h8 lv22 | exact h8 lv23 | exact h8 lv24
theorem nx_app {p : UInt8 → Bool} {t r : By} (h1 : Nx p t) (h2 : Nx p r) : Nx p (t ++ r) := by
  cases t with
  | nil => exact h2
  | cons c t => exact nx_cons (h1 c t rfl)
theorem not_not : ∀ (N : Nat) (e : Ex), SizeOf.sizeOf e < N → okE e → ∀ k r t, 4 ≤ k → Nx wd r → tk k e ++ r ≠ notB ++ t := by
  intro N
  induction N with
  | zero => intro e h; omega
  | succ N ih =>
    intro e hN ho k r t hk hr
    by_cases hl : levS e.op < k
    · rw [tk_lt hl]; intro h; simp at h
    rw [tk_ge (by omega)]
    have hv := ok_vw ho
    have hP : e.op ≠ 5 → levS e.op = 8 → tl e ++ r ≠ notB ++ t := fun h5 h8 h => by
      obtain ⟨i, w, t', hp, e1⟩ := pk_of hv h5
      obtain ⟨q1, q2, q3⟩ := pk_word hp
      rw [lev8_tk h8, e1, List.append_assoc] at h
      have := run_split (p := wd) (v := [110, 111, 116]) (t' := 32 :: t) q1 (by decide) (nx_app q2 hr) (nx_cons (by decide)) h
      exact q3 (this.1.trans (by decide))
    cases hv with
    | bin x a b hx =>
      have h1 : SizeOf.sizeOf a < SizeOf.sizeOf (Ex.mk x.1 0 e0S [a, b]) := ex_sub (by simp)
      rw [tl_bin hx, List.append_assoc]
      have h2 : 4 ≤ lf x.2.1 := by
        have := lev_sg hx; simp only [Ex.op] at hl; unfold lf; split <;> omega
      exact ih a (by omega) ((okE_node ho).2 a (by simp [Ex.l])) _ _ _ h2 (nx_cons (by decide))
    | nt a => exfalso; revert hl; rw [show levS (Ex.mk 18 0 e0S [a]).op = 3 from lv18]; omega
    | ng a => rw [tl_neg]; intro h; simp at h
    | fd a s hs =>
      have h1 : SizeOf.sizeOf a < SizeOf.sizeOf (Ex.mk 5 0 s [a]) := ex_sub (by simp)
      rw [tl_fd, List.append_assoc]
      exact ih a (by omega) ((okE_node ho).2 a (by simp [Ex.l])) _ _ _ (by omega) (nx_cons (by decide))
    | fn op l h => rcases h with rfl | rfl | rfl | rfl <;> first | exact hP (by simp [Ex.op]) lv1 | exact hP (by simp [Ex.op]) lv2 | exact hP (by simp [Ex.op]) lv3 | exact hP (by simp [Ex.op]) lv4 | exact hP (by simp [Ex.op]) lv5 | exact hP (by simp [Ex.op]) lv6 | exact hP (by simp [Ex.op]) lv7 | exact hP (by simp [Ex.op]) lv21 | exact hP (by simp [Ex.op]) lv22 | exact hP (by simp [Ex.op]) lv23 | exact hP (by simp [Ex.op]) lv24
    | _ => first | exact hP (by simp [Ex.op]) lv1 | exact hP (by simp [Ex.op]) lv2 | exact hP (by simp [Ex.op]) lv3 | exact hP (by simp [Ex.op]) lv4 | exact hP (by simp [Ex.op]) lv5 | exact hP (by simp [Ex.op]) lv6 | exact hP (by simp [Ex.op]) lv7 | exact hP (by simp [Ex.op]) lv21 | exact hP (by simp [Ex.op]) lv22 | exact hP (by simp [Ex.op]) lv23 | exact hP (by simp [Ex.op]) lv24

/-! What may follow -/
def Fo (k : Int) (r : By) : Prop := r = [] ∨ (∃ t, r = 41 :: t) ∨ (∃ t, r = 44 :: t) ∨ ∃ x t, x ∈ signT ∧ x.2.1 < k ∧ r = opB x ++ t
def U (k : Int) (a : Ex) : Prop := ∀ b, okE b → ∀ r r', Fo k r → Fo k r' → tk k a ++ r = tk k b ++ r' → a = b ∧ r = r'
theorem fo_mono {k k' : Int} {r : By} (h : k ≤ k') (f : Fo k r) : Fo k' r := by
  rcases f with f | f | f | ⟨x, t, h1, h2, h3⟩
  · exact .inl f
  · exact .inr (.inl f)
  · exact .inr (.inr (.inl f))
  · exact .inr (.inr (.inr ⟨x, t, h1, by omega, h3⟩))
def okH (c : UInt8) : Bool := wd c || (c == 40 || c == 46)
theorem fo_nx {k : Int} {r : By} (f : Fo k r) : Nx okH r := by
  rcases f with rfl | ⟨t, rfl⟩ | ⟨t, rfl⟩ | ⟨x, t, h1, h2, rfl⟩
  · exact nx_nil _
  · exact nx_cons (by decide)
  · exact nx_cons (by decide)
  · exact nx_cons (by decide)
theorem nx_wd {r : By} (h : Nx okH r) : Nx wd r := fun c t e => by
  have := h c t e
  simp only [okH, Bool.or_eq_false_iff] at this
  exact this.1
theorem fo_no {k : Int} {r t : By} {x : sgRow} (f : Fo k r) (hx : x ∈ signT) (hk : x.2.1 = k) : r ≠ opB x ++ t := by
  intro h
  rcases f with rfl | ⟨t', rfl⟩ | ⟨t', rfl⟩ | ⟨y, t', h1, h2, rfl⟩
  · simp [opB] at h
  · simp [opB] at h
  · simp [opB] at h
  · obtain ⟨e, _⟩ := opB_inj h1 hx h
    rw [e] at h2; omega

/-! Chains of operators of one level -/
abbrev Cs := List (sgRow × Ex)
def mkB (h : Ex) (c : sgRow × Ex) : Ex := .mk c.1.1 0 e0S [h, c.2]
def flatB (k : Int) (cs : Cs) : By := cs.flatMap fun c => opB c.1 ++ tk (k + 1) c.2
def CK (k : Int) (c : sgRow × Ex) : Prop := okE c.2 ∧ c.1 ∈ signT ∧ c.1.2.1 = k
theorem lev_bin {e : Ex} (h : Vw e) {k : Int} (hk : k = 1 ∨ k = 2 ∨ k = 4 ∨ k = 5 ∨ k = 6) (hl : levS e.op = k) : ∃ x a b, x ∈ signT ∧ x.2.1 = k ∧ e = .mk x.1 0 e0S [a, b] := by
  have no : ∀ n : Int, levS e.op = n → n = 3 ∨ n = 7 ∨ n = 8 → False := fun n h1 h2 => by omega
  cases h with
  | bin x a b hx => exact ⟨x, a, b, hx, by rw [← hl]; exact (lev_sg hx).symm, rfl⟩
  | fn op l h => exfalso; rcases h with rfl | rfl | rfl | rfl <;> first | exact no 8 lv1 (by decide) | exact no 8 lv2 (by decide) | exact no 8 lv3 (by decide) | exact no 8 lv4 (by decide) | exact no 8 lv5 (by decide) | exact no 8 lv6 (by decide) | exact no 8 lv7 (by decide) | exact no 8 lv21 (by decide) | exact no 8 lv22 (by decide) | exact no 8 lv23 (by decide) | exact no 8 lv24 (by decide)
  | nt a => exact (no 3 lv18 (by decide)).elim
  | ng a => exact (no 7 lv8 (by decide)).elim
  | _ => first | exact (no 8 lv1 (by decide)).elim | exact (no 8 lv2 (by decide)).elim | exact (no 8 lv3 (by decide)).elim | exact (no 8 lv4 (by decide)).elim | exact (no 8 lv5 (by decide)).elim | exact (no 8 lv6 (by decide)).elim | exact (no 8 lv7 (by decide)).elim
theorem tk_next {k : Int} {e : Ex} (h : levS e.op ≠ k) : tk k e = tk (k + 1) e := by
  unfold tk
  by_cases hl : levS e.op < k
  · rw [if_pos hl, if_pos (by omega)]
  · rw [if_neg hl, if_neg (by omega)]
theorem spine {k : Int} (hk : k = 1 ∨ k = 2 ∨ k = 4 ∨ k = 5 ∨ k = 6) : ∀ (N : Nat) (e : Ex), SizeOf.sizeOf e < N → okE e →
    ∃ h cs, (SizeOf.sizeOf h < SizeOf.sizeOf e ∨ (h = e ∧ levS e.op ≠ k)) ∧ okE h ∧ (∀ c ∈ cs, SizeOf.sizeOf c.2 < SizeOf.sizeOf e ∧ CK k c) ∧ e = cs.foldl mkB h ∧ tk k e = tk (k + 1) h ++ flatB k cs := by
  intro N
  induction N with
  | zero => intro e h; omega
  | succ N ih =>
    intro e hN ho
    by_cases hl : levS e.op = k
    · obtain ⟨x, a, b, hx, hxk, rfl⟩ := lev_bin (ok_vw ho) hk hl
      have h1 : SizeOf.sizeOf a < SizeOf.sizeOf (Ex.mk x.1 0 e0S [a, b]) := ex_sub (by simp)
      have h2 : SizeOf.sizeOf b < SizeOf.sizeOf (Ex.mk x.1 0 e0S [a, b]) := ex_sub (by simp)
      have oa := (okE_node ho).2 a (by simp [Ex.l])
      have ob := (okE_node ho).2 b (by simp [Ex.l])
      have ht : tk k (.mk x.1 0 e0S [a, b]) = tk (lf k) a ++ (opB x ++ tk (k + 1) b) := by rw [tk_ge (by omega), tl_bin hx, hxk]
      by_cases h4 : k = 4
      · refine ⟨a, [(x, b)], .inl h1, oa, ?_, rfl, ?_⟩
        · intro c hc; obtain rfl := List.mem_singleton.1 hc; exact ⟨h2, ob, hx, hxk⟩
        · rw [ht, h4]; simp [lf, flatB]
      · obtain ⟨h, cs, q1, q2, q3, q4, q5⟩ := ih a (by omega) oa
        refine ⟨h, cs ++ [(x, b)], .inl ?_, q2, ?_, ?_, ?_⟩
        · rcases q1 with q1 | ⟨rfl, _⟩ <;> omega
        · intro c hc
          rcases List.mem_append.1 hc with hc | hc
          · exact ⟨by have := (q3 c hc).1; omega, (q3 c hc).2⟩
          · obtain rfl := List.mem_singleton.1 hc; exact ⟨h2, ob, hx, hxk⟩
        · rw [List.foldl_append, ← q4]; rfl
        · rw [ht, show lf k = k by unfold lf; rw [if_neg h4], q5]; simp [flatB]
    · exact ⟨e, [], .inr ⟨rfl, hl⟩, ho, fun c hc => (List.not_mem_nil hc).elim, rfl, by rw [tk_next hl]; simp [flatB]⟩
theorem fo_flat {k : Int} {cs : Cs} {r : By} (h : ∀ c ∈ cs, CK k c) (f : Fo k r) : Fo (k + 1) (flatB k cs ++ r) := by
  cases cs with
  | nil => exact fo_mono (by omega) f
  | cons c cs =>
    have := h c (by simp)
    exact .inr (.inr (.inr ⟨c.1, _, this.2.1, by have := this.2.2; omega, by rw [flatB, List.flatMap_cons, List.append_assoc, List.append_assoc]⟩))
theorem chain_inj {k : Int} : ∀ (cs cs' : Cs) (h h' : Ex) (r r' : By), U (k + 1) h → okE h' → (∀ c ∈ cs, U (k + 1) c.2 ∧ CK k c) → (∀ c ∈ cs', CK k c) → Fo k r → Fo k r' →
    tk (k + 1) h ++ (flatB k cs ++ r) = tk (k + 1) h' ++ (flatB k cs' ++ r') → h = h' ∧ cs = cs' ∧ r = r' := by
  intro cs
  induction cs with
  | nil =>
    intro cs' h h' r r' hu ho hc hc' f f' e
    obtain ⟨rfl, e2⟩ := hu h' ho _ _ (fo_flat (fun c m => (hc c m).2) f) (fo_flat hc' f') e
    cases cs' with
    | nil => exact ⟨rfl, rfl, e2⟩
    | cons c' cs' =>
      exfalso
      have := hc' c' (by simp)
      rw [show flatB k (c' :: cs') ++ r' = opB c'.1 ++ (tk (k + 1) c'.2 ++ (flatB k cs' ++ r')) by simp [flatB]] at e2
      exact fo_no f this.2.1 this.2.2 e2
  | cons c cs ih =>
    intro cs' h h' r r' hu ho hc hc' f f' e
    obtain ⟨rfl, e2⟩ := hu h' ho _ _ (fo_flat (fun c m => (hc c m).2) f) (fo_flat hc' f') e
    have h1 := hc c (by simp)
    rw [show flatB k (c :: cs) ++ r = opB c.1 ++ (tk (k + 1) c.2 ++ (flatB k cs ++ r)) by simp [flatB]] at e2
    cases cs' with
    | nil =>
      exfalso
      exact fo_no f' h1.2.2.1 h1.2.2.2 e2.symm
    | cons c' cs' =>
      have h2 := hc' c' (by simp)
      rw [show flatB k (c' :: cs') ++ r' = opB c'.1 ++ (tk (k + 1) c'.2 ++ (flatB k cs' ++ r')) by simp [flatB]] at e2
      obtain ⟨e3, e4⟩ := opB_inj h1.2.2.1 h2.2.1 e2
      obtain ⟨e5, e6, e7⟩ := ih cs' c.2 c'.2 r r' h1.1 h2.1 (fun c m => hc c (by simp [m])) (fun c m => hc' c (by simp [m])) f f' e4
      exact ⟨rfl, by rw [e6, show c = c' from Prod.ext e3 e5], e7⟩
theorem stepB {k : Int} (hk : k = 1 ∨ k = 2 ∨ k = 4 ∨ k = 5 ∨ k = 6) {a : Ex} (ho : okE a) (hs : ∀ c, SizeOf.sizeOf c < SizeOf.sizeOf a → okE c → U (k + 1) c) (ha : levS a.op ≠ k → U (k + 1) a) : U k a := by
  intro b hb r r' f f' h
  obtain ⟨x, cs, q1, q2, q3, q4, q5⟩ := spine hk (SizeOf.sizeOf a + 1) a (by omega) ho
  obtain ⟨x', cs', p1, p2, p3, p4, p5⟩ := spine hk (SizeOf.sizeOf b + 1) b (by omega) hb
  rw [q5, p5, List.append_assoc, List.append_assoc] at h
  have hu : U (k + 1) x := by
    rcases q1 with q1 | ⟨rfl, q1⟩
    · exact hs x q1 q2
    · exact ha q1
  obtain ⟨e1, e2, e3⟩ := chain_inj cs cs' x x' r r' hu p2 (fun c m => ⟨hs c.2 (q3 c m).1 (q3 c m).2.1, (q3 c m).2⟩) (fun c m => (p3 c m).2) f f' h
  exact ⟨by rw [q4, p4, e1, e2], e3⟩

/-! not, and the minus sign -/
theorem lev_cases (op : Int) : levS op = 1 ∨ levS op = 2 ∨ levS op = 4 ∨ levS op = 5 ∨ levS op = 6 ∨ (levS op = 3 ∧ op = 18) ∨ (levS op = 7 ∧ op = 8) ∨ levS op = 8 := by
  unfold levS
  cases hg : sgn op with
  | some x => have := sg_lev (List.mem_of_find?_eq_some hg); simp only; omega
  | none => simp only; split <;> (try split) <;> omega
theorem vw18 {e : Ex} (h : Vw e) (h' : e.op = 18) : ∃ a, e = .mk 18 0 e0S [a] := by
  cases h with
  | nt a => exact ⟨a, rfl⟩
  | bin x a b hx => exfalso; have := sg_lev hx; have h6 := lev_sg hx; simp only [Ex.op] at h'; rw [h'] at h6; revert h6; rw [show levS 18 = 3 by decide]; omega
  | fn op l h => exfalso; simp only [Ex.op] at h'; omega
  | _ => exfalso; revert h'; simp [Ex.op]
theorem vw8 {e : Ex} (h : Vw e) (h' : e.op = 8) : ∃ a, e = .mk 8 0 e0S [a] := by
  cases h with
  | ng a => exact ⟨a, rfl⟩
  | bin x a b hx => exfalso; have := sg_lev hx; have h6 := lev_sg hx; simp only [Ex.op] at h'; rw [h'] at h6; revert h6; rw [show levS 8 = 7 by decide]; omega
  | fn op l h => exfalso; simp only [Ex.op] at h'; omega
  | _ => exfalso; revert h'; simp [Ex.op]
theorem vw5 {e : Ex} (h : Vw e) (h' : e.op = 5) : ∃ a s, isName s = true ∧ e = .mk 5 0 s [a] := by
  cases h with
  | fd a s hs => exact ⟨a, s, hs, rfl⟩
  | bin x a b hx => exfalso; have := sg_lev hx; have h6 := lev_sg hx; simp only [Ex.op] at h'; rw [h'] at h6; revert h6; rw [show levS 5 = 8 by decide]; omega
  | fn op l h => exfalso; simp only [Ex.op] at h'; omega
  | _ => exfalso; revert h'; simp [Ex.op]
theorem tk3_not (a : Ex) : tk 3 (.mk 18 0 e0S [a]) = notB ++ tk 3 a := by rw [tk_ge (show (3 : Int) ≤ levS 18 by decide), tl_not]
theorem tk7_neg (a : Ex) : tk 7 (.mk 8 0 e0S [a]) = 45 :: tk 7 a := by rw [tk_ge (show (7 : Int) ≤ levS 8 by decide), tl_neg]
theorem step3 {a : Ex} (ho : okE a) (hs : ∀ c, SizeOf.sizeOf c < SizeOf.sizeOf a → okE c → U 3 c) (ha : levS a.op ≠ 3 → U 4 a) : U 3 a := by
  intro b hb r r' f f' h
  have l3 : ∀ e : Ex, e.op ≠ 18 → levS e.op ≠ 3 := fun e h => by have := lev_cases e.op; omega
  by_cases h1 : a.op = 18 <;> by_cases h2 : b.op = 18
  · obtain ⟨x, rfl⟩ := vw18 (ok_vw ho) h1
    obtain ⟨y, rfl⟩ := vw18 (ok_vw hb) h2
    rw [tk3_not, tk3_not, List.append_assoc, List.append_assoc] at h
    have h3 := List.append_cancel_left h
    obtain ⟨e1, e2⟩ := hs x (ex_sub (by simp)) ((okE_node ho).2 x (by simp [Ex.l])) y ((okE_node hb).2 y (by simp [Ex.l])) r r' f f' h3
    exact ⟨by rw [e1], e2⟩
  · obtain ⟨x, rfl⟩ := vw18 (ok_vw ho) h1
    rw [tk3_not, tk_next (l3 b h2), List.append_assoc] at h
    exact absurd h.symm (not_not (SizeOf.sizeOf b + 1) b (by omega) hb _ _ _ (by decide) (nx_wd (fo_nx f')))
  · obtain ⟨y, rfl⟩ := vw18 (ok_vw hb) h2
    rw [tk3_not, tk_next (l3 a h1), List.append_assoc] at h
    exact absurd h (not_not (SizeOf.sizeOf a + 1) a (by omega) ho _ _ _ (by decide) (nx_wd (fo_nx f)))
  · rw [tk_next (l3 a h1), tk_next (l3 b h2)] at h
    exact ha (l3 a h1) b hb r r' (fo_mono (by decide) f) (fo_mono (by decide) f') h
theorem step7 {a : Ex} (ho : okE a) (hs : ∀ c, SizeOf.sizeOf c < SizeOf.sizeOf a → okE c → U 7 c) (ha : levS a.op ≠ 7 → U 8 a) : U 7 a := by
  intro b hb r r' f f' h
  have l7 : ∀ e : Ex, e.op ≠ 8 → levS e.op ≠ 7 := fun e h => by have := lev_cases e.op; omega
  have no : ∀ (x e : Ex) (r t : By), okE e → tk 8 e ++ r ≠ 45 :: (tk 7 x ++ t) := fun x e r t he h => by
    obtain ⟨c, t', e1, e2⟩ := head8 (SizeOf.sizeOf e + 1) e (by omega) he
    rw [e1] at h
    have := (List.cons.inj h).1
    subst this
    revert e2; decide
  by_cases h1 : a.op = 8 <;> by_cases h2 : b.op = 8
  · obtain ⟨x, rfl⟩ := vw8 (ok_vw ho) h1
    obtain ⟨y, rfl⟩ := vw8 (ok_vw hb) h2
    rw [tk7_neg, tk7_neg] at h
    have h3 := (List.cons.inj h).2
    obtain ⟨e1, e2⟩ := hs x (ex_sub (by simp)) ((okE_node ho).2 x (by simp [Ex.l])) y ((okE_node hb).2 y (by simp [Ex.l])) r r' f f' h3
    exact ⟨by rw [e1], e2⟩
  · obtain ⟨x, rfl⟩ := vw8 (ok_vw ho) h1
    rw [tk7_neg, tk_next (l7 b h2)] at h
    exact absurd h.symm (no x b _ _ hb)
  · obtain ⟨y, rfl⟩ := vw8 (ok_vw hb) h2
    rw [tk7_neg, tk_next (l7 a h1)] at h
    exact absurd h (no y a _ _ ho)
  · rw [tk_next (l7 a h1), tk_next (l7 b h2)] at h
    exact ha (l7 a h1) b hb r r' (fo_mono (by decide) f) (fo_mono (by decide) f') h

/-! Primaries -/
theorem fo_flatC (l : List Ex) (r : By) : Fo 1 (flatC l ++ 41 :: r) := by
  cases l with
  | nil => exact .inr (.inl ⟨_, rfl⟩)
  | cons a l => exact .inr (.inr (.inl ⟨_, rfl⟩))
theorem args_inj : ∀ (l l' : List Ex) (r r' : By), (∀ x ∈ l, U 1 x) → (∀ x ∈ l', okE x) → flatC l ++ 41 :: r = flatC l' ++ 41 :: r' → l = l' ∧ r = r'
  | [], [], r, r', _, _, h => ⟨rfl, (List.cons.inj h).2⟩
  | [], a :: l, r, r', _, _, h => by exfalso; have := (List.cons.inj h).1; revert this; decide
  | a :: l, [], r, r', _, _, h => by exfalso; have := (List.cons.inj h).1; revert this; decide
  | a :: l, b :: l', r, r', hu, ho, h => by
    rw [show flatC (a :: l) ++ 41 :: r = 44 :: 32 :: (tk 1 a ++ (flatC l ++ 41 :: r)) by simp [flatC], show flatC (b :: l') ++ 41 :: r' = 44 :: 32 :: (tk 1 b ++ (flatC l' ++ 41 :: r')) by simp [flatC]] at h
    have h2 := (List.cons.inj (List.cons.inj h).2).2
    obtain ⟨e1, e2⟩ := hu a (by simp) b (ho b (by simp)) _ _ (fo_flatC l r) (fo_flatC l' r') h2
    obtain ⟨e3, e4⟩ := args_inj l l' r r' (fun x m => hu x (by simp [m])) (fun x m => ho x (by simp [m])) e2
    exact ⟨by rw [e1, e3], e4⟩
theorem sep_no {a : Ex} {l : List Ex} {r r' : By} (ho : okE a) : sepL (a :: l) ++ 41 :: r ≠ 41 :: r' := by
  intro h
  obtain ⟨c, t, e1, e2⟩ := headk (SizeOf.sizeOf a + 1) a (by omega) ho 1
  simp only [sepL, e1, List.cons_append] at h
  have := (List.cons.inj h).1
  subst this
  revert e2; decide
theorem sep_inj (l l' : List Ex) (r r' : By) (hu : ∀ x ∈ l, U 1 x) (hl : ∀ x ∈ l, okE x) (ho : ∀ x ∈ l', okE x) (h : sepL l ++ 41 :: r = sepL l' ++ 41 :: r') : l = l' ∧ r = r' := by
  match l, l', hu, hl, ho, h with
  | [], [], _, _, _, h => exact ⟨rfl, (List.cons.inj h).2⟩
  | [], b :: l', _, _, ho, h => exact absurd h.symm (sep_no (ho b (by simp)))
  | a :: l, [], _, hl, _, h => exact absurd h (sep_no (hl a (by simp)))
  | a :: l, b :: l', hu, hl, ho, h =>
    simp only [sepL, List.append_assoc] at h
    obtain ⟨e1, e2⟩ := hu a (by simp) b (ho b (by simp)) _ _ (fo_flatC l r) (fo_flatC l' r') h
    obtain ⟨e3, e4⟩ := args_inj l l' r r' (fun x m => hu x (by simp [m])) (fun x m => ho x (by simp [m])) e2
    exact ⟨by rw [e1, e3], e4⟩
def okG (c : UInt8) : Bool := wd c || c == 40
theorem nx_g {r : By} (h : Nx okG r) : Nx wd r := fun c t e => by
  have := h c t e
  simp only [okG, Bool.or_eq_false_iff] at this
  exact this.1
theorem call_end {l l' : List Ex} {r r' : By} (hu : ∀ x ∈ l, U 1 x) (hl : ∀ x ∈ l, okE x) (ho : ∀ x ∈ l', okE x) (h : 40 :: (sepL l ++ [41]) ++ r = 40 :: (sepL l' ++ [41]) ++ r') : l = l' ∧ r = r' := by
  simp only [List.cons_append, List.append_assoc, List.nil_append, List.cons.injEq, true_and] at h
  exact sep_inj l l' r r' hu hl ho h
theorem prim_inj {a b : Ex} (oa : okE a) (ob : okE b) (a5 : a.op ≠ 5) (b5 : b.op ≠ 5) (h1 : levS a.op < 8 → U 1 a) (h2 : ∀ x ∈ a.l, U 1 x) {r r' : By} (g : Nx okG r) (g' : Nx okG r') (h : tk 8 a ++ r = tk 8 b ++ r') : a = b ∧ r = r' := by
  obtain ⟨i, w, t, P, e1⟩ := pk_of (ok_vw oa) a5
  obtain ⟨j, w', t', Q, e2⟩ := pk_of (ok_vw ob) b5
  have hla := (okE_node oa).2
  have hlb := (okE_node ob).2
  rw [e1, e2, List.append_assoc, List.append_assoc] at h
  have p := pk_word P
  have q := pk_word Q
  obtain ⟨hw, ht⟩ := run_split p.1 q.1 (nx_app p.2.1 (nx_g g)) (nx_app q.2.1 (nx_g g')) h
  have hij : i = j := by rw [← kap_of P, ← kap_of Q, hw]
  clear h e1 e2 p q
  cases P <;> cases Q <;> first | (exfalso; omega) | skip
  · rename_i ha hb
    simp only [List.cons_append, List.append_assoc, List.nil_append, List.cons.injEq, true_and] at ht
    obtain ⟨e1, e2⟩ := h1 ha b ob (41 :: r) (41 :: r') (.inr (.inl ⟨_, rfl⟩)) (.inr (.inl ⟨_, rfl⟩)) ht
    exact ⟨e1, (List.cons.inj e2).2⟩
  · rename_i n hn n' hn'
    unfold Lib.itoa at hw
    rw [if_neg (by omega), if_neg (by omega)] at hw
    have := dec_inj _ _ _ (Nat.lt_succ_self _) hw
    obtain rfl : n = n' := by omega
    exact ⟨rfl, ht⟩
  · rename_i n hn n' hn'
    refine ⟨?_, ht⟩
    rcases hn with rfl | rfl <;> rcases hn' with rfl | rfl <;> first | rfl | (exfalso; revert hw; decide)
  · exact ⟨rfl, ht⟩
  · rw [lb_inj hw]; exact ⟨rfl, ht⟩
  · exfalso
    have := g 40 _ ht
    revert this; decide
  · rename_i s hs s' hs'
    simp only [List.cons_append, List.cons.injEq, true_and] at ht
    obtain ⟨e1, e2⟩ := run_split (name_wd hs).1 (name_wd hs').1 (nx_g g) (nx_g g') ht
    rw [lb_inj e1]; exact ⟨rfl, e2⟩
  · exfalso
    have := g' 40 _ ht.symm
    revert this; decide
  · obtain ⟨e1, e2⟩ := call_end h2 hla hlb ht
    simp only [Ex.l] at e1
    rw [lb_inj hw, e1]; exact ⟨rfl, e2⟩
  · obtain ⟨e1, e2⟩ := call_end h2 hla hlb ht
    simp only [Ex.l] at e1
    rw [e1]; exact ⟨rfl, e2⟩
  · obtain ⟨e1, e2⟩ := call_end h2 hla hlb ht
    simp only [Ex.l] at e1
    rw [e1]; exact ⟨rfl, e2⟩
  · obtain ⟨e1, e2⟩ := call_end h2 hla hlb ht
    simp only [Ex.l] at e1
    rw [e1]; exact ⟨rfl, e2⟩
  · obtain ⟨e1, e2⟩ := call_end h2 hla hlb ht
    simp only [Ex.l] at e1
    rw [e1]; exact ⟨rfl, e2⟩

/-! Chains of fields -/
def mkF (h : Ex) (s : Str) : Ex := .mk 5 0 s [h]
def flatF (fs : List Str) : By := fs.flatMap fun s => 46 :: lb s
theorem spineF : ∀ (N : Nat) (e : Ex), SizeOf.sizeOf e < N → okE e → ∃ h fs, (SizeOf.sizeOf h < SizeOf.sizeOf e ∨ h = e) ∧ okE h ∧ h.op ≠ 5 ∧ (∀ s ∈ fs, isName s = true) ∧ e = fs.foldl mkF h ∧ tk 8 e = tk 8 h ++ flatF fs := by
  intro N
  induction N with
  | zero => intro e h; omega
  | succ N ih =>
    intro e hN ho
    by_cases h5 : e.op = 5
    · obtain ⟨a, s, hs, rfl⟩ := vw5 (ok_vw ho) h5
      have h1 : SizeOf.sizeOf a < SizeOf.sizeOf (Ex.mk 5 0 s [a]) := ex_sub (by simp)
      obtain ⟨h, fs, q1, q2, q3, q4, q5, q6⟩ := ih a (by omega) ((okE_node ho).2 a (by simp [Ex.l]))
      refine ⟨h, fs ++ [s], .inl ?_, q2, q3, ?_, ?_, ?_⟩
      · rcases q1 with q1 | rfl <;> omega
      · intro c hc
        rcases List.mem_append.1 hc with hc | hc
        · exact q4 c hc
        · obtain rfl := List.mem_singleton.1 hc; exact hs
      · rw [List.foldl_append, ← q5]; rfl
      · rw [tk_ge (show (8 : Int) ≤ levS 5 by decide), tl_fd, q6]; simp [flatF]
    · exact ⟨e, [], .inr rfl, ho, h5, fun c hc => (List.not_mem_nil hc).elim, rfl, by simp [flatF]⟩
theorem nx_flatF {fs : List Str} {r : By} (f : Nx okH r) : Nx okG (flatF fs ++ r) := by
  cases fs with
  | nil => intro c t e; have := f c t e; simp only [okH, okG, Bool.or_eq_false_iff] at this ⊢; exact ⟨this.1, this.2.1⟩
  | cons s fs => exact nx_cons (by decide)
theorem flatF_inj : ∀ (fs fs' : List Str) (r r' : By), (∀ s ∈ fs, isName s = true) → (∀ s ∈ fs', isName s = true) → Nx okH r → Nx okH r' → flatF fs ++ r = flatF fs' ++ r' → fs = fs' ∧ r = r'
  | [], [], r, r', _, _, _, _, h => ⟨rfl, h⟩
  | [], s :: fs, r, r', _, _, f, _, h => by
    exfalso; have := f _ _ h; revert this; decide
  | s :: fs, [], r, r', _, _, _, f, h => by
    exfalso; have := f _ _ h.symm; revert this; decide
  | s :: fs, s' :: fs', r, r', hn, hn', f, f', h => by
    rw [show flatF (s :: fs) ++ r = 46 :: (lb s ++ (flatF fs ++ r)) by simp [flatF], show flatF (s' :: fs') ++ r' = 46 :: (lb s' ++ (flatF fs' ++ r')) by simp [flatF]] at h
    obtain ⟨e1, e2⟩ := run_split (name_wd (hn s (by simp))).1 (name_wd (hn' s' (by simp))).1 (nx_g (nx_flatF f)) (nx_g (nx_flatF f')) (List.cons.inj h).2
    obtain ⟨e3, e4⟩ := flatF_inj fs fs' r r' (fun x m => hn x (by simp [m])) (fun x m => hn' x (by simp [m])) f f' e2
    exact ⟨by rw [lb_inj e1, e3], e4⟩
theorem base8 {a : Ex} (ho : okE a) (hs : ∀ c, SizeOf.sizeOf c < SizeOf.sizeOf a → okE c → U 1 c) (ha : levS a.op < 8 → U 1 a) : U 8 a := by
  intro b hb r r' f f' h
  obtain ⟨x, fs, q1, q2, q3, q4, q5, q6⟩ := spineF (SizeOf.sizeOf a + 1) a (by omega) ho
  obtain ⟨y, gs, p1, p2, p3, p4, p5, p6⟩ := spineF (SizeOf.sizeOf b + 1) b (by omega) hb
  rw [q6, p6, List.append_assoc, List.append_assoc] at h
  have hu : levS x.op < 8 → U 1 x := fun hl => by
    rcases q1 with q1 | rfl
    · exact hs x q1 q2
    · exact ha hl
  have hc : ∀ c ∈ x.l, U 1 c := fun c m => by
    have h1 : SizeOf.sizeOf c < SizeOf.sizeOf x := by cases x; exact ex_sub m
    exact hs c (by rcases q1 with q1 | rfl <;> omega) ((okE_node q2).2 c m)
  obtain ⟨e1, e2⟩ := prim_inj q2 p2 q3 p3 hu hc (nx_flatF (fo_nx f)) (nx_flatF (fo_nx f')) h
  obtain ⟨e3, e4⟩ := flatF_inj fs gs r r' q4 p4 (fo_nx f) (fo_nx f') e2
  exact ⟨by rw [q5, p5, e1, e3], e4⟩
theorem step {a : Ex} (ho : okE a) {k : Int} (h1 : 1 ≤ k) (h7 : k ≤ 7) (hs : ∀ c, SizeOf.sizeOf c < SizeOf.sizeOf a → okE c → ∀ j : Int, 1 ≤ j → j ≤ 8 → U j c) (ha : levS a.op ≠ k → U (k + 1) a) : U k a := by
  have hk : (k = 1 ∨ k = 2 ∨ k = 4 ∨ k = 5 ∨ k = 6) ∨ k = 3 ∨ k = 7 := by omega
  rcases hk with hk | rfl | rfl
  · exact stepB hk ho (fun c h o => hs c h o _ (by omega) (by omega)) ha
  · exact step3 ho (fun c h o => hs c h o _ (by omega) (by omega)) ha
  · exact step7 ho (fun c h o => hs c h o _ (by omega) (by omega)) ha
theorem uniq : ∀ (N : Nat) (a : Ex), SizeOf.sizeOf a < N → okE a → ∀ j : Int, 1 ≤ j → j ≤ 8 → U j a := by
  intro N
  induction N with
  | zero => intro a h; omega
  | succ N ih =>
    intro a hN ho
    have hs : ∀ c, SizeOf.sizeOf c < SizeOf.sizeOf a → okE c → ∀ j : Int, 1 ≤ j → j ≤ 8 → U j c := fun c h o => ih c (by omega) o
    have l1 := lev_ge a.op
    have l8 := lev_le a.op
    have H1 : U 8 a → ∀ (n : Nat) (k : Int), k + n = 8 → levS a.op < k ∨ levS a.op = 8 → 1 ≤ k → U k a := fun h8 n => by
      induction n with
      | zero => intro k e _ _; obtain rfl : k = 8 := by omega
                exact h8
      | succ n ihn => intro k e hl hk; exact step ho hk (by omega) hs fun _ => ihn (k + 1) (by omega) (by omega) (by omega)
    by_cases h8 : levS a.op = 8
    · intro j j1 j8
      exact H1 (base8 ho (fun c h o => hs c h o 1 (by decide) (by decide)) (fun h => by omega)) (8 - j).toNat j (by omega) (.inr h8) j1
    · have H2 : ∀ (n : Nat) (k : Int), k + n = levS a.op → 1 ≤ k → U k a := fun n => by
        induction n with
        | zero => intro k e hk; exact step ho hk (by omega) hs fun hne => absurd (by omega) hne
        | succ n ihn => intro k e hk; exact step ho hk (by omega) hs fun _ => ihn (k + 1) (by omega) (by omega)
      have u1 := H2 (levS a.op - 1).toNat 1 (by omega) (by decide)
      intro j j1 j8
      by_cases hj : levS a.op < j
      · exact H1 (base8 ho (fun c h o => hs c h o 1 (by decide) (by decide)) (fun _ => u1)) (8 - j).toNat j (by omega) (.inl hj) j1
      · exact H2 (levS a.op - j).toNat j (by omega) j1
theorem text_inj {a b : Ex} (ha : okE a) (hb : okE b) (h : wT a = wT b) : a = b := by
  have h1 : tk 1 a ++ [] = tk 1 b ++ [] := by rw [tk_one, tk_one, tl, tl, h]
  exact (uniq (SizeOf.sizeOf a + 1) a (by omega) ha 1 (by decide) (by decide) b hb [] [] (.inl rfl) (.inl rfl) h1).1
theorem eqL_eq {α : Type} {p : α → α → Bool} : ∀ {a b : List α}, (∀ x ∈ a, ∀ y, p x y = true → x = y) → eqL p a b = true → a = b
  | [], [], _, _ => rfl
  | x :: a, y :: b, h, e => by
    rw [eqL, Bool.and_eq_true] at e
    rw [h x (by simp) y e.1, eqL_eq (fun z m => h z (by simp [m])) e.2]
  | [], _ :: _, _, e => by cases e
  | _ :: _, [], _, e => by cases e
theorem sameE_of : ∀ (N : Nat) (a b : Ex), SizeOf.sizeOf a < N → sameE a b = true → a = b := by
  intro N
  induction N with
  | zero => intro a b h; omega
  | succ N ih =>
    intro a b hN h
    rw [sameE_eq] at h
    simp only [Bool.and_eq_true, decide_eq_true_eq] at h
    obtain ⟨⟨⟨h1, h2⟩, h3⟩, h4⟩ := h
    have h5 := eqL_eq (fun x m y e => ih x y (by have := List.sizeOf_lt_of_mem m; have := sizeE_sub a; omega) e) h4
    cases a; cases b
    simp only [Ex.op, Ex.n, Ex.s, Ex.l] at h1 h2 h3 h5
    rw [h1, h2, h3, h5]
theorem same_text {a b : Ex} (ha : okE a) (hb : okE b) : decide (wT a = wT b) = sameE a b := by
  cases hs : sameE a b with
  | true => rw [sameE_of _ a b (Nat.lt_succ_self _) hs, decide_eq_true rfl]
  | false =>
    refine decide_eq_false fun h => ?_
    rw [text_inj ha hb h, sameE_refl _ b (Nat.lt_succ_self _)] at hs
    cases hs
end Hw.D
