/- The engine and the contracts. -/
import Derived.Test.YtfefngngejlmhaaDoorC7
import Derived.Test.YtfefngngejlmhaaDoorE3
import Derived.Lib.ItoaMem
import Derived.Test.YtfefngngejlmhaaDoorC3
set_option linter.unusedVariables false
set_option linter.unusedSimpArgs false
namespace Hw.L
open Go Go.Proofs Go.Shelf Hw.M

/-! the reference's Same: tokens without their places -/
def keyT (t : Tok) : Int × Str × Int := (t.k, t.t, t.n)
def sameT (a b : List Tok) : Bool := decide (a.map keyT = b.map keyT)
theorem take_eqK {a b : List Tok} {i : Nat} {x y : Tok} (hx : a[i]? = some x) (hy : b[i]? = some y) (hk : keyT x = keyT y) (h : (a.take i).map keyT = (b.take i).map keyT) : (a.take (i + 1)).map keyT = (b.take (i + 1)).map keyT := by
  rw [List.take_add_one, List.take_add_one, hx, hy, List.map_append, List.map_append, h]
  simp [hk]
theorem key_at {a b : List Tok} {i : Nat} {x y : Tok} (hx : a[i]? = some x) (hy : b[i]? = some y) (h : a.map keyT = b.map keyT) : keyT x = keyT y := by
  have h1 : (a.map keyT)[i]? = some (keyT x) := by rw [List.getElem?_map, hx]; rfl
  have h2 : (b.map keyT)[i]? = some (keyT y) := by rw [List.getElem?_map, hy]; rfl
  rw [h, h2] at h1
  exact (Option.some.inj h1).symm
theorem rSame_ok (a b : List Tok) : FnOK Tryd.prog 21 [pS (toksP a), pS (toksP b)] [] (.bq (sameT a b)) [] := by
  refine fn_ok T Tryd.func21 (by kernel_rfl) rfl rfl rfl rfl fun C hC => ?_
  refine g_len 0 rfl fun hlen => ?_
  rw [List.length_map] at hlen
  repeat' first
    | refine g_go T hC true 400 rfl rfl ?_
    | refine g_cond rfl (fun h => ?_) (fun h => ?_)
    | refine g_end T hC (by kernel_rfl) ?_
    | refine g_splitD (fun h => ?_) (fun h => ?_)
    | refine g_splitG rfl rfl rfl (fun h => ?_) (fun h => ?_)
    | refine g_splitP rfl rfl (fun h => ?_) (fun h => ?_)
    | refine g_retl T (.inl rfl) rfl ?_
  all_goals (try simp only [List.length_map] at *)
  · have : ¬ (a.length : Int) = (b.length : Int) := by simpa using h
    refine (decide_eq_false fun e => this ?_).symm
    have := congrArg List.length e
    simp only [List.length_map] at this
    omega
  · have hab : a.length = b.length := by have : (a.length : Int) = (b.length : Int) := by simpa using h
                                         omega
    refine g_loop (fun i : Nat => i ≤ a.length ∧ (a.take i).map keyT = (b.take i).map keyT) (fun i => ([(0, pS (toksP a)), (1, pS (toksP b)), (5, I i)], [])) (fun i => a.length - i) hC
      0 ⟨Nat.zero_le _, by simp⟩ id ⟨rfl, ⟨rfl, rfl, rfl, trivial⟩, trivial, rfl, fun _ _ => rfl⟩ ?_
    rintro i ⟨hi, hn⟩
    refine g_run' T hC true 200 rfl ?_
    refine g_cond rfl (fun h => ?_) (fun h => ?_)
    · have hlt : i < a.length := by simpa using h
      clear h
      obtain ⟨x, hx⟩ := exists_at hlt
      obtain ⟨y, hy⟩ := exists_at (hab ▸ hlt)
      repeat' first
        | refine g_go T hC true 400 rfl rfl ?_
        | refine g_cond rfl (fun h => ?_) (fun h => ?_)
        | refine g_end T hC (by kernel_rfl) ?_
        | refine g_splitD (fun h => ?_) (fun h => ?_)
        | refine g_splitG rfl rfl rfl (fun h => ?_) (fun h => ?_)
        | refine g_splitP rfl rfl (fun h => ?_) (fun h => ?_)
        | refine g_idx T hC rfl rfl rfl (Int.natCast_nonneg _) (map_at (by assumption)) rfl rfl ?_
        | refine g_outR ?_
        | refine g_retl T (.inl rfl) rfl ?_
      all_goals first
        | (refine (decide_eq_false fun e => ?_).symm
           have hk := key_at hx hy e
           unfold keyT at hk
           simp only [Prod.mk.injEq] at hk
           simp_all; done)
        | (rw [wrapS (by omega)]
           refine g_round (i + 1) ⟨by omega, take_eqK hx hy ?_ hn⟩ id (by omega) ⟨rfl, ⟨rfl, rfl, rfl, trivial⟩, trivial, rfl, fun _ _ => rfl⟩
           unfold keyT
           simp_all; done)
        | (exfalso; simp_all; done)
    · have hge : ¬ i < a.length := by simpa using h
      repeat' first
        | refine g_go T hC true 400 rfl rfl ?_
        | refine g_cond rfl (fun h => ?_) (fun h => ?_)
        | refine g_end T hC (by kernel_rfl) ?_
        | refine g_splitD (fun h => ?_) (fun h => ?_)
        | refine g_splitG rfl rfl rfl (fun h => ?_) (fun h => ?_)
        | refine g_splitP rfl rfl (fun h => ?_) (fun h => ?_)
        | refine g_outE ?_
        | refine g_retl T (.inl rfl) rfl ?_
      rw [List.take_of_length_le (by omega), List.take_of_length_le (by omega)] at hn
      exact (decide_eq_true hn).symm
end Hw.L
namespace Hw.L
open Go Go.Proofs Hw.M

/-! small: few tokens, short texts -/
theorem drop_at {α : Type} {l : List α} {i : Nat} {x : α} (h : l[i]? = some x) : l.drop i = x :: l.drop (i + 1) := by
  obtain ⟨hi, rfl⟩ := List.getElem?_eq_some_iff.1 h
  exact List.drop_eq_getElem_cons hi
def idxR {α σ : Type} (p : α → σ → Bool) (nx : α → σ → σ) : List α → Nat → σ → Int × σ
  | [], _, s => (-1, s)
  | x :: r, k, s => if p x s = true then ((k : Int), nx x s) else idxR p nx r (k + 1) (nx x s)
def anyR {α σ : Type} (p : α → σ → Bool) (nx : α → σ → σ) : List α → σ → Bool × σ
  | [], s => (false, s)
  | x :: r, s => if p x s = true then (true, nx x s) else anyR p nx r (nx x s)
theorem anyR_12 {α σ : Type} (p : α → σ → Bool) (nx : α → σ → σ) : ∀ (l : List α) (k : Nat) (s : σ), ∃ i s', idxR p nx l k s = (i, s') ∧ anyR p nx l s = (decide (0 ≤ i), s')
  | [], k, s => ⟨-1, s, rfl, rfl⟩
  | x :: r, k, s => by
    simp only [idxR, anyR]
    by_cases h : p x s = true
    · exact ⟨k, nx x s, if_pos h, by rw [if_pos h, decide_eq_true (by omega)]⟩
    · rw [if_neg h, if_neg h]; exact anyR_12 p nx r (k + 1) (nx x s)
theorem anyR_1 {α σ : Type} (p : α → σ → Bool) (nx : α → σ → σ) (l : List α) (k : Nat) (s : σ) : decide (0 ≤ (idxR p nx l k s).1) = (anyR p nx l s).1 := by
  obtain ⟨i, s', h1, h2⟩ := anyR_12 p nx l k s
  simp only [h1, h2]
theorem anyR_2 {α σ : Type} (p : α → σ → Bool) (nx : α → σ → σ) (l : List α) (k : Nat) (s : σ) : (idxR p nx l k s).2 = (anyR p nx l s).2 := by
  obtain ⟨i, s', h1, h2⟩ := anyR_12 p nx l k s
  simp only [h1, h2]
/-- Without a state. -/
theorem anyR_no {α : Type} (p : α → Bool) : ∀ (l : List α) (s : Unit), (anyR (fun x _ => p x) (fun _ s => s) l s).1 = l.any p
  | [], _ => rfl
  | x :: r, s => by
    simp only [anyR, List.any_cons]
    cases h : p x with
    | true => rfl
    | false => simp only [Bool.false_eq_true, if_false, Bool.false_or]; exact anyR_no p r s

theorem tokN_idx (f : FuncId)  (l : List Tok) (p : Tok → Unit → Bool) (nx : Tok → Unit → Unit) (inv : Unit → Prop)
    (hf : ∀ x ∈ l, ∀ s : Unit, inv s → FnOK Tryd.prog f [aggS (tokR x)] [] (.bq (p x s)) ((fun s : Unit => []) (nx x s)) ∧ (p x s = false → inv (nx x s))) (s : Unit) (hs : inv s) :
    FnOK Tryd.prog 55 [pS (.sl 5 (l.map tokR)), .one (.cl f [] [])] [] (I (idxR p nx l 0 s).1) ((fun s : Unit => []) (idxR p nx l 0 s).2) := by
  refine fn_ok T Tryd.func55 (by kernel_rfl) rfl rfl rfl rfl fun C hC => ?_
  have hs0 := hs
  refine g_len 0 rfl fun hl => ?_
  rw [List.length_map] at hl
  repeat' first
    | refine g_go T hC true 400 rfl rfl ?_
    | refine g_cond rfl (fun h => ?_) (fun h => ?_)
    | refine g_end T hC (by kernel_rfl) ?_
    | refine g_splitD (fun h => ?_) (fun h => ?_)
    | refine g_splitG rfl rfl rfl (fun h => ?_) (fun h => ?_)
    | refine g_splitP rfl rfl (fun h => ?_) (fun h => ?_)
  rw [List.length_map]
  refine g_loop (fun q : Nat × Unit => q.1 ≤ l.length ∧ inv q.2 ∧ idxR p nx (l.drop q.1) q.1 q.2 = idxR p nx l 0 s) (fun q => (fun s : Unit => ([(0, pS (.sl 5 (l.map tokR))), (1, .one (.cl f [] [])), (7, I l.length), (8, I q.1)], [])) q.2) (fun q => l.length - q.1) hC
    (0, s) ⟨Nat.zero_le _, hs, rfl⟩ id ⟨rfl, ⟨rfl, rfl, rfl, rfl, trivial⟩, trivial, rfl, fun _ _ => rfl⟩ ?_
  generalize idxR p nx l 0 s = res
  clear hs hs0
  rintro ⟨i, s⟩ ⟨hi, hv, hn⟩
  simp only at hi hv hn
  refine g_run' T hC true 200 rfl ?_
  refine g_cond rfl (fun hh => ?_) (fun hh => ?_)
  · have hlt : i < l.length := by simpa using hh
    clear hh
    obtain ⟨x, hx⟩ := exists_at hlt
    rw [drop_at hx] at hn
    simp only [idxR] at hn
    have hv2 := (hf x (List.mem_of_getElem? hx) s hv).2
    repeat' first
      | refine g_go T hC true 400 rfl rfl ?_
      | refine g_cond rfl (fun h => ?_) (fun h => ?_)
      | refine g_end T hC (by kernel_rfl) ?_
      | refine g_splitD (fun h => ?_) (fun h => ?_)
      | refine g_splitG rfl rfl rfl (fun h => ?_) (fun h => ?_)
      | refine g_splitP rfl rfl (fun h => ?_) (fun h => ?_)
      | refine g_idx T hC rfl rfl rfl (Int.natCast_nonneg _) (map_at hx) rfl rfl ?_
      | refine g_callR hC (hf x (List.mem_of_getElem? hx) s hv).1 id rfl rfl (LeSs.refl _) rfl rfl rfl rfl rfl rfl rfl rfl ?_
      | refine g_outR ?_
    · rw [if_pos (by assumption)] at hn
      subst hn
      exact g_fin ⟨.inl rfl, id, _, rfl, .refl _, trivial, rfl, rfl⟩
    · have hpf : p x s = false := by assumption
      rw [hpf] at hn
      simp only [Bool.false_eq_true, if_false] at hn
      rw [wrap64 (by omega)]
      exact g_round (i + 1, nx x s) ⟨by simp only; omega, hv2 hpf, hn⟩ id (by simp only; omega) ⟨rfl, ⟨rfl, rfl, rfl, rfl, trivial⟩, trivial, rfl, fun _ _ => rfl⟩
  · have hge : ¬ i < l.length := by simpa using hh
    rw [List.drop_eq_nil_of_le (by omega)] at hn
    simp only [idxR] at hn
    subst hn
    repeat' first
      | refine g_go T hC true 400 rfl rfl ?_
      | refine g_cond rfl (fun h => ?_) (fun h => ?_)
      | refine g_end T hC (by kernel_rfl) ?_
      | refine g_splitD (fun h => ?_) (fun h => ?_)
      | refine g_splitG rfl rfl rfl (fun h => ?_) (fun h => ?_)
      | refine g_splitP rfl rfl (fun h => ?_) (fun h => ?_)
      | refine g_outE ?_
    exact g_fin ⟨.inl rfl, id, _, rfl, .refl _, trivial, rfl, rfl⟩
theorem tokN_has (f : FuncId)  (l : List Tok) (p : Tok → Unit → Bool) (nx : Tok → Unit → Unit) (inv : Unit → Prop)
    (hf : ∀ x ∈ l, ∀ s : Unit, inv s → FnOK Tryd.prog f [aggS (tokR x)] [] (.bq (p x s)) ((fun s : Unit => []) (nx x s)) ∧ (p x s = false → inv (nx x s))) (s : Unit) (hs : inv s) :
    FnOK Tryd.prog 42 [pS (.sl 5 (l.map tokR)), .one (.cl f [] [])] [] (.bq (anyR p nx l s).1) ((fun s : Unit => []) (anyR p nx l s).2) := by
  refine fn_ok T Tryd.func42 (by kernel_rfl) rfl rfl rfl rfl fun C hC => ?_
  repeat' first
    | refine g_go T hC true 400 rfl rfl ?_
    | refine g_cond rfl (fun h => ?_) (fun h => ?_)
    | refine g_end T hC (by kernel_rfl) ?_
    | refine g_splitD (fun h => ?_) (fun h => ?_)
    | refine g_splitG rfl rfl rfl (fun h => ?_) (fun h => ?_)
    | refine g_splitP rfl rfl (fun h => ?_) (fun h => ?_)
    | refine g_callR hC (tokN_idx f  l p nx inv hf s hs) (nm []) rfl rfl (LeSs.refl _) rfl rfl rfl rfl rfl rfl rfl rfl ?_
  exact g_fin ⟨.inl rfl, id, _, rfl, .qq (anyR_1 p nx l 0 s), by rw [← anyR_2 p nx l 0 s]; exact trivial, rfl, rfl⟩

theorem tokN_any (f : FuncId) (l : List Tok) (p : Tok → Bool) (hf : ∀ x ∈ l, FnOK Tryd.prog f [aggS (tokR x)] [] (.bq (p x)) []) : FnOK Tryd.prog 42 [pS (.sl 5 (l.map tokR)), .one (.cl f [] [])] [] (.bq (l.any p)) [] := by
  have := tokN_has f l (fun x _ => p x) (fun _ s => s) (fun _ => True) (fun x hx s _ => ⟨hf x hx, fun _ => trivial⟩) () trivial
  rw [anyR_no] at this
  exact this
def longT (t : Tok) : Bool := decide (60 < (t.t.size : Int))
theorem long_ok (t : Tok) : FnOK Tryd.prog 43 [aggS (tokR t)] [] (.bq (longT t)) [] := by
  obtain ⟨k, s, n, ln, cl⟩ := t
  refine fn_ok T Tryd.func43 (by kernel_rfl) rfl rfl rfl rfl fun C hC => ?_
  repeat' first
    | refine g_go T hC true 400 rfl rfl ?_
    | refine g_cond rfl (fun h => ?_) (fun h => ?_)
    | refine g_end T hC (by kernel_rfl) ?_
    | refine g_splitD (fun h => ?_) (fun h => ?_)
    | refine g_splitG rfl rfl rfl (fun h => ?_) (fun h => ?_)
    | refine g_splitP rfl rfl (fun h => ?_) (fun h => ?_)
    | refine g_retq T (.inl rfl) rfl ?_
  all_goals rfl
def smallT (l : List Tok) : Bool := decide ((l.length : Int) ≤ 60) && !(l.any longT)
theorem small01_ok (l : List Tok) : FnOK Tryd.prog 22 [pS (toksP l)] [] (.bq (smallT l)) [] := by
  have hA := tokN_any 43 l longT (fun x _ => long_ok x)
  unfold smallT
  generalize l.any longT = q at hA ⊢
  refine fn_ok T Tryd.func22 (by kernel_rfl) rfl rfl rfl rfl fun C hC => ?_
  repeat' first
    | refine g_go T hC true 400 rfl rfl ?_
    | refine g_cond rfl (fun h => ?_) (fun h => ?_)
    | refine g_end T hC (by kernel_rfl) ?_
    | refine g_splitD (fun h => ?_) (fun h => ?_)
    | refine g_splitG rfl rfl rfl (fun h => ?_) (fun h => ?_)
    | refine g_splitP rfl rfl (fun h => ?_) (fun h => ?_)
    | refine g_call hC (hA) rfl rfl (LeSs.refl _) rfl rfl rfl ?_
    | refine g_retq T (.inl rfl) rfl ?_
    | refine g_retl T (.inl rfl) rfl ?_
  all_goals (try simp only [List.length_map] at *)
  all_goals clear hA
  all_goals first
    | (simp_all; done)
    | (rw [h]; rfl)
    | (rename_i h1; rw [h1]; rfl)
end Hw.L
namespace Hw.L
open Go Go.Proofs Go.Shelf Hw.M

/-! numbers as text, plain -/
def decB (u : Nat) : Str := ⟨(Lib.decDigits u).toArray⟩
def itoaB (n : Int) : Str := ⟨(Lib.itoa n).toArray⟩
theorem decB_size (u : Nat) : (decB u).size = Lib.nDigits u := by
  rw [← Lib.decDigits_length]; simp [decB, ByteArray.size]
theorem nDigits_le {u : Nat} (h : u < 18446744073709551616) : Lib.nDigits u ≤ 20 := by
  rcases Nat.eq_zero_or_pos u with rfl | h1
  · rw [Lib.nDigits_small (by omega)]; omega
  · have := Lib.numDigits_eq u h1 h
    split at this <;> omega
theorem itoaB_nonneg {n : Int} (h : 0 ≤ n) : itoaB n = decB n.toNat := by simp only [itoaB, Lib.itoa, if_neg (show ¬ n < 0 by omega), decB]
theorem itoaB_neg {n : Int} (h : n < 0) : itoaB n = (⟨#[45]⟩ : Str) ++ decB n.natAbs := by
  simp only [itoaB, Lib.itoa, if_pos h, decB]
  apply ByteArray.ext
  rw [ByteArray.data_append]
  apply Array.toList_inj.1
  simp
theorem callOK {f : FuncId} {fn : Func} (h : Tryd.prog.funcs[f]? = some fn) (h1 : (fn.name == "runtime.NumGoroutine") = false) (h2 : fn.body.isNone = false) : CallOK Tryd.prog f := ⟨fn, h, h1, h2⟩
end Hw.L
namespace Hw.L
open Go Go.Proofs Go.Shelf Hw.M

/-! the reference's Decimal -/
theorem decDigits_big {u : Nat} (h : ¬ u < 10) : decB u = decB (u / 10) ++ (⟨#[UInt8.ofNat (48 + u % 10)]⟩ : Str) := by
  simp only [decB]
  rw [Lib.decDigits, dif_neg h]
  apply ByteArray.ext
  rw [ByteArray.data_append]
  apply Array.toList_inj.1
  simp
theorem decDigits_one' {u : Nat} (h : u < 10) : decB u = (⟨#[UInt8.ofNat (48 + u)]⟩ : Str) := by
  simp only [decB, Lib.decDigits_one h]
theorem itoaB_size {n : Int} (h0 : -4611686018427387904 ≤ n) (h1 : n ≤ 4611686018427387904) : (itoaB n).size ≤ 21 := by
  by_cases h : n < 0
  · rw [itoaB_neg h, size_app, decB_size]
    have := nDigits_le (u := n.natAbs) (by omega)
    have : ByteArray.size ⟨#[45]⟩ = 1 := rfl
    omega
  · rw [itoaB_nonneg (by omega), decB_size]
    have := nDigits_le (u := n.toNat) (by omega)
    omega
theorem dec01_one {n : Int} (h0 : 0 ≤ n) (h1 : n < 10) : FnOK Tryd.prog 44 [I n] [] (Sr (itoaB n)) [] := by
  have w : IntKind.u8.wrap (IntKind.i64.wrap (48 + n)) = 48 + n := by
    rw [wrap64 (by omega)]
    simp [IntKind.wrap, IntKind.signed, IntKind.bits]; omega
  have hb : itoaB n = (⟨#[UInt8.ofNat (48 + n.toNat)]⟩ : Str) := by rw [itoaB_nonneg h0, decDigits_one' (by omega)]
  have hr : [[PV.k (Value.int IntKind.u8 (48 + n))]] = bytesR (itoaB n) := by
    rw [hb]
    have : (48 + n : Int) = ((UInt8.ofNat (48 + n.toNat)).toNat : Int) := by
      have : (UInt8.ofNat (48 + n.toNat)).toNat = 48 + n.toNat := by simp; omega
      rw [this]; omega
    rw [this]; rfl
  have hs : 0 < (itoaB n).size := by rw [hb]; exact Nat.one_pos
  refine fn_ok T Tryd.func44 (by kernel_rfl) rfl rfl rfl rfl fun C hC => ?_
  repeat' first
    | refine g_go T hC true 400 rfl rfl ?_
    | refine g_cond rfl (fun h => ?_) (fun h => ?_)
    | refine g_end T hC (by kernel_rfl) ?_
    | refine g_splitD (fun h => ?_) (fun h => ?_)
    | refine g_splitG rfl rfl rfl (fun h => ?_) (fun h => ?_)
    | refine g_splitP rfl rfl (fun h => ?_) (fun h => ?_)
    | (rw [w])
    | refine g_lit T hC rfl rfl rfl rfl rfl rfl rfl rfl rfl ?_
    | (rw [hr]; refine g_b2sP (s := itoaB n) (e := 5) hC hs rfl (by kernel_rfl) (by kernel_rfl) (by kernel_rfl) rfl rfl ?_)
  all_goals first
    | (exfalso; have := of_decide_eq_false h; omega)
    | exact g_fin ⟨.inl rfl, id, _, rfl, .refl _, trivial, rfl, rfl⟩
theorem dec01_ok : ∀ (k : Nat) (n : Int), n.natAbs < k → 0 ≤ n → n ≤ 4611686018427387904 → FnOK Tryd.prog 44 [I n] [] (Sr (itoaB n)) [] := by
  intro k
  induction k with
  | zero => intro n h; omega
  | succ k ih =>
  intro n hk h0 h1
  by_cases hbig : n < 10
  · exact dec01_one h0 hbig
  have hq : n.tdiv 10 = ((n.toNat / 10 : Nat) : Int) := by
    have e : n = ((n.toNat : Nat) : Int) := by omega
    exact congrArg (·.tdiv 10) e
  have hr : n.tmod 10 = ((n.toNat % 10 : Nat) : Int) := by
    have e : n = ((n.toNat : Nat) : Int) := by omega
    exact congrArg (·.tmod 10) e
  have hI := ih (n.tdiv 10) (by rw [hq]; omega) (by rw [hq]; omega) (by rw [hq]; omega)
  have hJ := dec01_one (n := n.tmod 10) (by rw [hr]; omega) (by rw [hr]; omega)
  have w1 : IntKind.i64.wrap (n.tdiv 10) = n.tdiv 10 := wrap64 (by rw [hq]; omega)
  have e1 : itoaB (n.tdiv 10) ++ itoaB (n.tmod 10) = itoaB n := by
    rw [itoaB_nonneg (n := n) (by omega), itoaB_nonneg (n := n.tdiv 10) (by rw [hq]; omega), itoaB_nonneg (n := n.tmod 10) (by rw [hr]; omega), decDigits_big (u := n.toNat) (by omega), hq, hr]
    congr 1
    rw [show ((n.toNat % 10 : Nat) : Int).toNat = n.toNat % 10 by omega, decDigits_one' (by omega)]
  have hsz := itoaB_size (n := n.tdiv 10) (by rw [hq]; omega) (by rw [hq]; omega)
  have hsz2 := itoaB_size (n := n.tmod 10) (by rw [hr]; omega) (by rw [hr]; omega)
  refine fn_ok T Tryd.func44 (by kernel_rfl) rfl rfl rfl rfl fun C hC => ?_
  repeat' first
    | refine g_go T hC true 400 rfl rfl ?_
    | refine g_cond rfl (fun h => ?_) (fun h => ?_)
    | refine g_end T hC (by kernel_rfl) ?_
    | refine g_splitD (fun h => ?_) (fun h => ?_)
    | refine g_splitG rfl rfl rfl (fun h => ?_) (fun h => ?_)
    | refine g_splitP rfl rfl (fun h => ?_) (fun h => ?_)
    | (refine g_quo hC rfl rfl (by decide) rfl rfl ?_; rw [w1])
    | refine g_call hC (hI) rfl rfl (LeSs.refl _) rfl rfl rfl ?_
    | refine g_rem hC rfl rfl (by decide) rfl rfl ?_
    | refine g_call hC (hJ) rfl rfl (LeSs.refl _) rfl rfl rfl ?_
    | (refine g_cat hC rfl rfl (by omega) rfl rfl ?_)
  all_goals first
    | (exfalso; have := of_decide_eq_true h; omega)
    | skip
  rw [e1]
  exact g_fin ⟨.inl rfl, id, _, rfl, .refl _, trivial, rfl, rfl⟩

end Hw.L
namespace Hw.L
open Go Go.Proofs Hw.M

/-! lex: texts that are read again, plain -/
/-- P1.1 -/
def validT (t : Tok) : Bool :=
  if t.k = 1 then isName t.t && decide (t.n = 0) else if t.k = 3 then isKeyword t.t && decide (t.n = 0) else if t.k = 4 then (syms.any fun y => decide (y = t.t)) && decide (t.n = 0)
  else if t.k = 2 then decide (t.t = (⟨#[]⟩ : ByteArray)) && decide (0 ≤ t.n) && decide (t.n ≤ 1099511627776) else decide (t.k = 5) && decide (t.t = (⟨#[]⟩ : ByteArray)) && decide (t.n = 0)
/-- A token without its place. -/
def bare (t : Tok) : Int × Str × Int := (t.k, t.t, t.n)
/-- Its text. -/
def txtT (t : Tok) : By := if t.k = 2 then lst (itoaB t.n) else lst t.t

/-! decimals -/
theorem natV_append : ∀ (a b : By) (n : Nat), natV (a ++ b) n = natV b (natV a n)
  | [], _, _ => rfl
  | x :: a, b, n => by simp only [List.cons_append, natV]; exact natV_append a b _
theorem dig_byte {d : Nat} (h : d < 10) : (UInt8.ofNat (48 + d)).toNat = 48 + d := by simp [UInt8.toNat_ofNat']; omega
theorem dec_facts : ∀ (k u : Nat), u < k → (Lib.decDigits u).all dB = true ∧ natV (Lib.decDigits u) 0 = u ∧ (∃ c r, Lib.decDigits u = c :: r ∧ (c = 48 → u = 0 ∧ r = [])) := by
  intro k
  induction k with
  | zero => intro u h; omega
  | succ k ih =>
    intro u hu
    by_cases h : u < 10
    · rw [Lib.decDigits_one h]
      have hd := dig_byte h
      refine ⟨?_, ?_, _, _, rfl, fun e => ?_⟩
      · simp only [List.all_cons, List.all_nil, Bool.and_true]; exact dB_iff.2 (by omega)
      · simp only [natV, hd]; omega
      · have := congrArg UInt8.toNat e
        rw [hd] at this
        have h48 : (48 : UInt8).toNat = 48 := rfl
        exact ⟨by omega, rfl⟩
    · have e : Lib.decDigits u = Lib.decDigits (u / 10) ++ [UInt8.ofNat (48 + u % 10)] := by rw [Lib.decDigits, dif_neg h]
      obtain ⟨h1, h2, c, r, h3, h4⟩ := ih (u / 10) (by omega)
      have hd := dig_byte (d := u % 10) (by omega)
      rw [e]
      refine ⟨?_, ?_, c, r ++ [UInt8.ofNat (48 + u % 10)], by rw [h3]; rfl, fun e => ?_⟩
      · rw [List.all_append, h1]; simp only [List.all_cons, List.all_nil, Bool.and_true, Bool.true_and]; exact dB_iff.2 (by omega)
      · rw [natV_append, h2]; simp only [natV, hd]; omega
      · have := (h4 e).1; omega
theorem itoa_bytes {n : Int} (h : 0 ≤ n) : lst (itoaB n) = Lib.decDigits n.toNat := by rw [itoaB_nonneg h]; simp [lst, decB]
theorem dB_wB {b : UInt8} (h : dB b = true) : wB b = true := by
  unfold wB isWord
  unfold dB at h
  simp [h]
/-! what a byte is -/
theorem word_not {c : UInt8} (h : wB c = true) : blB c = false ∧ c ≠ 35 := by
  have hc := class_word c.toNat
  unfold wB at h
  rw [h] at hc
  refine ⟨decide_eq_false fun e => ?_, fun e => ?_⟩
  · rw [e] at hc; simp at hc
  · subst e; revert h; decide
theorem takeWhile_all {p : UInt8 → Bool} {u r : By} (hu : u.all p = true) (hr : r = [] ∨ ∃ c r', r = c :: r' ∧ p c = false) : (u ++ r).takeWhile p = u := by
  induction u with
  | nil =>
    rcases hr with rfl | ⟨c, r', rfl, hc⟩
    · rfl
    · simp [List.takeWhile_cons, hc]
  | cons x u ih =>
    simp only [List.all_cons, Bool.and_eq_true] at hu
    rw [List.cons_append, List.takeWhile_cons, if_pos hu.1, ih hu.2]
/-- A word's token. -/
theorem tk_word {u r : By} {t : Int × Str × Int} (hne : u ≠ []) (hu : u.all wB = true) (hr : r = [] ∨ ∃ c r', r = c :: r' ∧ wB c = false) (ht : clsT u = some t) : tk (u ++ r) = some (u.length, some t) := by
  cases u with
  | nil => exact absurd rfl hne
  | cons c u =>
    have hc : wB c = true := by simp only [List.all_cons, Bool.and_eq_true] at hu; exact hu.1
    have htw := takeWhile_all hu hr
    obtain ⟨n1, n2⟩ := word_not hc
    rw [List.cons_append] at htw ⊢
    simp only [tk, n1, Bool.false_eq_true, if_false, if_neg n2, hc, if_true, htw, ht, Option.map_some]
/-- What may follow a token. -/
def sepC (c : UInt8) : Bool := !wB c && decide (c ≠ 61) && decide (c ≠ 62)
def Sep (r : By) : Prop := r = [] ∨ ∃ c r', r = c :: r' ∧ sepC c = true
theorem Sep.word {r : By} (h : Sep r) : r = [] ∨ ∃ c r', r = c :: r' ∧ wB c = false := by
  rcases h with h | ⟨c, r', h1, h2⟩
  · exact .inl h
  · refine .inr ⟨c, r', h1, ?_⟩
    simp only [sepC, Bool.and_eq_true, Bool.not_eq_true'] at h2
    exact h2.1.1
theorem kw_words : ∀ y ∈ keywords, (lst y).all wB = true ∧ lst y ≠ [] ∧ (∀ c, (lst y).head? = some c → dB c = false) := by decide +kernel
theorem name_words {s : Str} (h : isName s = true) : (lst s).all wB = true ∧ lst s ≠ [] ∧ isKeyword s = false := by
  simp only [isName, Bool.and_eq_true, Bool.not_eq_true', decide_eq_false_iff_not] at h
  obtain ⟨⟨⟨⟨h1, _⟩, _⟩, h4⟩, h5⟩ := h
  refine ⟨?_, fun e => h1 ?_, h5⟩
  · rw [List.all_eq_true] at h4 ⊢
    intro c hc
    exact h4 _ (List.mem_map.2 ⟨c, hc, rfl⟩)
  · rw [← lst_len, e]; rfl
theorem find_congr {α : Type} {p q : α → Bool} : ∀ {l : List α}, (∀ x ∈ l, p x = q x) → l.find? p = l.find? q
  | [], _ => rfl
  | x :: l, h => by
    rw [List.find?_cons, List.find?_cons, h x (by simp), find_congr fun y hy => h y (by simp [hy])]
theorem symL_two (a b : UInt8) (r : By) : symL (a :: b :: r) = symL [a, b] := find_congr fun y hy => by
  have h2 := (syms_size y hy).2
  rw [← lst_len] at h2
  match lst y, h2 with
  | [], _ => rfl
  | [u], _ => rfl
  | [u, v], _ => rfl
  | _ :: _ :: _ :: _, h2 => simp at h2
theorem sym_alone : ∀ y ∈ syms, symL (lst y) = some y := by decide +kernel
theorem sym_then : ∀ y ∈ syms, ∀ i : Fin 256, UInt8.ofNat i.val ≠ 61 → UInt8.ofNat i.val ≠ 62 → symL ((lst y ++ [UInt8.ofNat i.val]).take 2) = some y := by decide +kernel
theorem sym_cl : ∀ y ∈ syms, (match lst y with | [] => false | c :: _ => !blB c && decide (c ≠ 35) && !wB c) = true := by decide +kernel
theorem symL_sep {y : Str} (hy : y ∈ syms) {r : By} (hr : Sep r) : symL (lst y ++ r) = some y := by
  rcases hr with rfl | ⟨c, r', rfl, hc⟩
  · rw [List.append_nil]; exact sym_alone y hy
  · simp only [sepC, Bool.and_eq_true, decide_eq_true_eq] at hc
    have hci : UInt8.ofNat c.toNat = c := by simp
    have h := sym_then y hy ⟨c.toNat, c.toNat_lt⟩ (by simp only [hci]; exact hc.1.2) (by simp only [hci]; exact hc.2)
    simp only [hci] at h
    have h1 := (syms_size y hy).1
    have h2 := (syms_size y hy).2
    rw [← lst_len] at h1 h2
    match hl : lst y, h1, h2 with
    | [], h1, _ => simp at h1
    | [u], _, _ =>
      rw [hl] at h
      rw [List.cons_append, List.nil_append, symL_two]
      exact h
    | [u, v], _, _ =>
      rw [hl] at h
      rw [List.cons_append, List.cons_append, List.nil_append, symL_two]
      exact h
    | _ :: _ :: _ :: _, _, h2 => simp at h2
theorem tk_sym {y : Str} (hy : y ∈ syms) {r : By} (hr : Sep r) : tk (lst y ++ r) = some ((lst y).length, some (4, y, 0)) := by
  have hs := symL_sep hy hr
  have hc := sym_cl y hy
  match hl : lst y, hc with
  | [], hc => simp at hc
  | c :: u, hc =>
    rw [hl] at hs
    simp only [Bool.and_eq_true, Bool.not_eq_true', decide_eq_true_eq] at hc
    obtain ⟨⟨h1, h2⟩, h3⟩ := hc
    rw [List.cons_append] at hs ⊢
    simp only [tk, h1, Bool.false_eq_true, if_false, if_neg h2, h3, hs, Option.map_some, ← hl, lst_len]
/-- A valid token's text, and what may follow, is read as the token. -/
theorem tk_tok {t : Tok} (hv : validT t = true) (h5 : t.k ≠ 5) {r : By} (hr : Sep r) : tk (txtT t ++ r) = some ((txtT t).length, some (bare t)) ∧ txtT t ≠ [] ∧ ∀ b ∈ txtT t, b ≠ 10 := by
  have nl : ∀ {u : By}, u.all wB = true → ∀ b ∈ u, b ≠ 10 := fun {u} h b hb e => by
    rw [List.all_eq_true] at h
    have := h b hb
    subst e; revert this; decide
  unfold validT at hv
  by_cases k1 : t.k = 1
  · rw [if_pos k1] at hv
    simp only [Bool.and_eq_true, decide_eq_true_eq] at hv
    obtain ⟨w1, w2, w3⟩ := name_words hv.1
    have e : txtT t = lst t.t := by simp only [txtT, if_neg (show ¬ t.k = 2 by omega)]
    rw [e]
    refine ⟨tk_word w2 w1 hr.word ?_, w2, nl w1⟩
    unfold clsT bare
    rw [str_lst, if_neg (by simp [w3]), if_pos hv.1, k1, hv.2]
  rw [if_neg k1] at hv
  by_cases k3 : t.k = 3
  · rw [if_pos k3] at hv
    simp only [Bool.and_eq_true, decide_eq_true_eq] at hv
    have hm : t.t ∈ keywords := by
      have := hv.1
      unfold isKeyword at this
      obtain ⟨y, hy, e⟩ := List.any_eq_true.1 this
      rw [← of_decide_eq_true e]; exact hy
    obtain ⟨w1, w2, _⟩ := kw_words _ hm
    have e : txtT t = lst t.t := by simp only [txtT, if_neg (show ¬ t.k = 2 by omega)]
    rw [e]
    refine ⟨tk_word w2 w1 hr.word ?_, w2, nl w1⟩
    unfold clsT bare
    rw [str_lst, if_pos hv.1, k3, hv.2]
  rw [if_neg k3] at hv
  by_cases k4 : t.k = 4
  · rw [if_pos k4] at hv
    simp only [Bool.and_eq_true, decide_eq_true_eq] at hv
    obtain ⟨y, hy, e⟩ := List.any_eq_true.1 hv.1
    have hm : t.t ∈ syms := by rw [← of_decide_eq_true e]; exact hy
    have e : txtT t = lst t.t := by simp only [txtT, if_neg (show ¬ t.k = 2 by omega)]
    rw [e]
    have hs := syms_size _ hm
    refine ⟨?_, fun e => ?_, ?_⟩
    · rw [tk_sym hm hr]; unfold bare; rw [k4, hv.2]
    · rw [← lst_len, e] at hs; simp at hs
    · have : ∀ y ∈ syms, ∀ b ∈ lst y, b ≠ 10 := by decide +kernel
      exact this _ hm
  rw [if_neg k4] at hv
  by_cases k2 : t.k = 2
  · rw [if_pos k2] at hv
    simp only [Bool.and_eq_true, decide_eq_true_eq] at hv
    obtain ⟨⟨ht, hn0⟩, hn1⟩ := hv
    have e : txtT t = Lib.decDigits t.n.toNat := by simp only [txtT, if_pos k2]; exact itoa_bytes hn0
    rw [e]
    obtain ⟨d1, d2, c, u, d3, d4⟩ := dec_facts (t.n.toNat + 1) t.n.toNat (by omega)
    generalize Lib.decDigits t.n.toNat = w at d1 d2 d3
    have w1 : w.all wB = true := by rw [List.all_eq_true] at d1 ⊢; exact fun b hb => dB_wB (d1 b hb)
    have w2 : w ≠ [] := by rw [d3]; simp
    refine ⟨tk_word w2 w1 hr.word ?_, w2, nl w1⟩
    have hdc : dB c = true := by rw [d3] at d1; simp only [List.all_cons, Bool.and_eq_true] at d1; exact d1.1
    have nk : isKeyword (strOf w) = false := by
      cases hk : isKeyword (strOf w) with
      | false => rfl
      | true =>
        exfalso
        unfold isKeyword at hk
        obtain ⟨y, hy, e⟩ := List.any_eq_true.1 hk
        have := (kw_words y hy).2.2 c (by rw [of_decide_eq_true e, lst_str, d3]; rfl)
        rw [hdc] at this; cases this
    have nn : isName (strOf w) = false := by
      cases hk : isName (strOf w) with
      | false => rfl
      | true =>
        exfalso
        simp only [isName, Bool.and_eq_true] at hk
        have h3 := hk.1.1.2
        have hb : bytes (strOf w) = (c.toNat : Int) :: u.map fun b => (b.toNat : Int) := by
          show (lst (strOf w)).map _ = _
          rw [lst_str, d3]; rfl
        rw [hb] at h3
        have hl : isLetter (c.toNat : Int) = true := h3
        have := dB_iff.1 hdc
        unfold isLetter at hl
        simp only [Bool.or_eq_true, Bool.and_eq_true, decide_eq_true_eq] at hl
        omega
    have hv : numV w 0 = t.n := by
      have := numV_nat w 0 d1
      rw [d2] at this
      have e0 : ((0 : Nat) : Int) = 0 := rfl
      rw [e0] at this
      omega
    have hok : numOk w = true := by
      unfold numOk
      simp only [Bool.and_eq_true, Bool.not_eq_true', decide_eq_false_iff_not, decide_eq_true_eq, Bool.and_eq_false_iff]
      refine ⟨⟨⟨w2, ?_⟩, d1⟩, by rw [hv]; exact hn1⟩
      by_cases h48 : c = 48
      · left
        rw [d3, (d4 h48).2]; simp
      · right
        rw [d3]; simp only [List.head?_cons, Option.some.injEq]; exact h48
    unfold clsT bare
    rw [if_neg (by simp [nk]), if_neg (by simp [nn]), if_pos hok, hv, k2, ht]
  · rw [if_neg k2] at hv
    simp only [Bool.and_eq_true, decide_eq_true_eq] at hv
    exact absurd hv.1.1 h5
end Hw.L
