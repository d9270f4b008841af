/- The engine and the contracts. -/
import Derived.Test.YtfefngngejlmhaaDoorC3
import Derived.Test.YtfefngngejlmhaaDoorC1
import Derived.Shelf.Strconv.AtoiAll
set_option linter.unusedVariables false
set_option linter.unusedSimpArgs false
namespace Hw.L
open Go Go.Proofs Hw.M

/-! lex: tokens in plain Lean -/
structure Tok where
  k : Int
  t : Str
  n : Int
  ln : Int
  cl : Int
  deriving DecidableEq
def tokR (t : Tok) : List PV := [ki t.k, ks t.t, ki t.n, ki t.ln, ki t.cl]
def toksP (l : List Tok) : PV := .sl 5 (l.map tokR)
abbrev By := List UInt8
def strOf (l : By) : Str := ⟨l.toArray⟩
def lst (s : Str) : By := s.data.toList
theorem str_lst (s : Str) : strOf (lst s) = s := by cases s; simp [strOf, lst]
theorem lst_str (l : By) : lst (strOf l) = l := by simp [strOf, lst]
theorem lst_len (s : Str) : (lst s).length = s.size := by simp only [lst, Array.length_toList]; rfl
theorem str_size (l : By) : (strOf l).size = l.length := by rw [← lst_len, lst_str]
def wB (b : UInt8) : Bool := isWord b.toNat
def dB (b : UInt8) : Bool := isDigit b.toNat
def blB (b : UInt8) : Bool := decide (classS b.toNat = 1)
def numV : By → Int → Int
  | [], a => a
  | b :: r, a => numV r (a * 10 + ((b.toNat : Int) - 48))
def numOk (w : By) : Bool := !decide (w = []) && !(decide (1 < w.length) && decide (w.head? = some 48)) && w.all dB && decide (numV w 0 ≤ 1099511627776)
/-- What a word is: kind, text, number. -/
def clsT (w : By) : Option (Int × Str × Int) := if isKeyword (strOf w) = true then some (3, strOf w, 0) else if isName (strOf w) = true then some (1, strOf w, 0) else if numOk w = true then some (2, (⟨#[]⟩ : ByteArray), numV w 0) else none
def syms : List Str := [(⟨#[61, 61]⟩ : ByteArray), (⟨#[33, 61]⟩ : ByteArray), (⟨#[60, 61]⟩ : ByteArray), (⟨#[45, 62]⟩ : ByteArray), (⟨#[40]⟩ : ByteArray), (⟨#[41]⟩ : ByteArray), ⟨#[123]⟩, ⟨#[125]⟩, (⟨#[91]⟩ : ByteArray), (⟨#[93]⟩ : ByteArray), (⟨#[44]⟩ : ByteArray), (⟨#[59]⟩ : ByteArray), (⟨#[58]⟩ : ByteArray), (⟨#[46]⟩ : ByteArray), (⟨#[61]⟩ : ByteArray), (⟨#[60]⟩ : ByteArray), (⟨#[43]⟩ : ByteArray), (⟨#[45]⟩ : ByteArray), (⟨#[42]⟩ : ByteArray), (⟨#[47]⟩ : ByteArray), (⟨#[37]⟩ : ByteArray)]
def symL (l : By) : Option Str := syms.find? fun y => (lst y).isPrefixOf l
def tk : By → Option (Nat × Option (Int × Str × Int))
  | [] => none
  | c :: r => if blB c = true then some (1, none)
    else if c = 35 then some (((c :: r).takeWhile fun b => decide (b ≠ 10)).length, none)
    else if wB c = true then (clsT ((c :: r).takeWhile wB)).map fun t => (((c :: r).takeWhile wB).length, some t)
    else (symL (c :: r)).map fun y => (y.size, some (4, y, 0))
def mv (p : Int × Int) (c : UInt8) : Int × Int := if c = 10 then (p.1 + 1, 1) else (p.1, p.2 + 1)
def tokAt (p : Int × Int) (t : Int × Str × Int) : Tok := ⟨t.1, t.2.1, t.2.2, p.1, p.2⟩
def lx : Nat → By → Int × Int → List Tok → List Tok × (Int × Int) × Int
  | 0, _, _, _ => ([], (0, 0), 0)
  | _ + 1, [], p, out => (out ++ [⟨5, (⟨#[]⟩ : ByteArray), 0, p.1, p.2⟩], (0, 0), 0)
  | f + 1, c :: r, p, out => match tk (c :: r) with
    | none => ([], p, 7)
    | some (n, o) => lx f ((c :: r).drop n) (((c :: r).take n).foldl mv p) (out ++ (o.map (tokAt p)).toList)
theorem takeWhile_len {p : UInt8 → Bool} : ∀ l : By, (l.takeWhile p).length ≤ l.length
  | [] => by simp
  | c :: r => by
    rw [List.takeWhile_cons]
    split
    · simp only [List.length_cons]; have := takeWhile_len (p := p) r; omega
    · simp
theorem isPrefix_len : ∀ {a l : By}, a.isPrefixOf l = true → a.length ≤ l.length
  | [], _, _ => by simp
  | _ :: _, [], h => by simp [List.isPrefixOf] at h
  | x :: a, y :: l, h => by
    simp only [List.isPrefixOf, Bool.and_eq_true] at h
    have := isPrefix_len h.2
    simp only [List.length_cons]; omega
theorem syms_size : ∀ y ∈ syms, 1 ≤ y.size ∧ y.size ≤ 2 := by decide
theorem sym_of {l : By} {y : Str} (h : symL l = some y) : y ∈ syms ∧ (lst y).isPrefixOf l = true := ⟨List.mem_of_find?_eq_some h, by have := List.find?_some h; exact this⟩
theorem tk_pos {l : By} {n : Nat} {o : Option (Int × Str × Int)} (h : tk l = some (n, o)) : 1 ≤ n ∧ n ≤ l.length := by
  cases l with
  | nil => cases h
  | cons c r =>
    simp only [tk] at h
    split at h
    · simp only [Option.some.injEq, Prod.mk.injEq] at h; obtain ⟨rfl, _⟩ := h; simp
    · split at h
      · rename_i hc
        simp only [Option.some.injEq, Prod.mk.injEq] at h
        obtain ⟨rfl, _⟩ := h
        refine ⟨?_, takeWhile_len _⟩
        rw [List.takeWhile_cons, if_pos (by rw [hc]; decide)]; simp
      · split at h
        · rename_i hw
          rw [Option.map_eq_some_iff] at h
          obtain ⟨t, _, h⟩ := h
          simp only [Prod.mk.injEq] at h
          obtain ⟨rfl, _⟩ := h
          refine ⟨?_, takeWhile_len _⟩
          rw [List.takeWhile_cons, if_pos hw]; simp
        · rw [Option.map_eq_some_iff] at h
          obtain ⟨y, hy, h⟩ := h
          simp only [Prod.mk.injEq] at h
          obtain ⟨rfl, _⟩ := h
          obtain ⟨h1, h2⟩ := sym_of hy
          refine ⟨(syms_size y h1).1, ?_⟩
          have := isPrefix_len h2
          rwa [lst_len] at this
theorem lx_two : ∀ (f g : Nat) (l : By) (p : Int × Int) (out : List Tok), l.length < f → l.length < g → lx f l p out = lx g l p out
  | 0, _, _, _, _, h, _ => by omega
  | _ + 1, 0, _, _, _, _, h => by omega
  | _ + 1, _ + 1, [], _, _, _, _ => rfl
  | f + 1, g + 1, c :: r, p, out, h, h' => by
    simp only [lx]
    cases e : tk (c :: r) with
    | none => rfl
    | some q =>
      obtain ⟨n, o⟩ := q
      have hp := tk_pos e
      simp only [List.length_cons] at h h' hp
      simp only
      have hl : ((c :: r).drop n).length = r.length + 1 - n := by rw [List.length_drop, List.length_cons]
      exact lx_two f g _ _ _ (by omega) (by omega)
theorem lx_more (f : Nat) (l : By) (p : Int × Int) (out : List Tok) (h : l.length < f) : lx f l p out = lx (l.length + 1) l p out := lx_two _ _ _ _ _ h (Nat.lt_succ_self _)
def lxx (l : By) (p : Int × Int) (out : List Tok) : List Tok × (Int × Int) × Int := lx (l.length + 1) l p out
theorem lxx_nil (p : Int × Int) (out : List Tok) : lxx [] p out = (out ++ [⟨5, (⟨#[]⟩ : ByteArray), 0, p.1, p.2⟩], (0, 0), 0) := rfl
theorem lxx_bad {c : UInt8} {r : By} (p : Int × Int) (out : List Tok) (h : tk (c :: r) = none) : lxx (c :: r) p out = ([], p, 7) := by
  unfold lxx; simp only [lx, h]
theorem lxx_step {l : By} {n : Nat} {o : Option (Int × Str × Int)} (p : Int × Int) (out : List Tok) (h : tk l = some (n, o)) : lxx l p out = lxx (l.drop n) ((l.take n).foldl mv p) (out ++ (o.map (tokAt p)).toList) := by
  cases l with
  | nil => cases h
  | cons c r =>
    have hp := tk_pos h
    unfold lxx
    simp only [lx, h]
    simp only [List.length_cons] at hp
    exact lx_more _ _ _ _ (by rw [List.length_drop, List.length_cons]; omega)
def tokensS (s : Str) : List Tok × (Int × Int) × Int := if 65536 < s.size then ([], (0, 0), 4) else lxx (lst s) (1, 1) []
/-- No line ends: the column grows. -/
theorem mv_line : ∀ (l : By) (p : Int × Int), (∀ b ∈ l, b ≠ 10) → l.foldl mv p = (p.1, p.2 + l.length)
  | [], p, _ => by simp
  | b :: r, p, h => by
    have hb : b ≠ 10 := h b (by simp)
    rw [List.foldl_cons, mv_line r _ fun x hx => h x (by simp [hx])]
    simp only [mv, if_neg hb, List.length_cons, Prod.mk.injEq, true_and]
    omega

/-! numbers -/
def natV : By → Nat → Nat
  | [], a => a
  | b :: r, a => natV r (a * 10 + (b.toNat - 48))
theorem dB_iff {b : UInt8} : dB b = true ↔ 48 ≤ b.toNat ∧ b.toNat ≤ 57 := by
  unfold dB isDigit
  simp only [Bool.and_eq_true, decide_eq_true_eq]
  omega
theorem numV_nat : ∀ (l : By) (a : Nat), l.all dB = true → numV l a = (natV l a : Int)
  | [], a, _ => rfl
  | b :: r, a, h => by
    simp only [List.all_cons, Bool.and_eq_true] at h
    have hb := dB_iff.1 h.1
    have e : ((a : Int) * 10 + ((b.toNat : Int) - 48)) = ((a * 10 + (b.toNat - 48) : Nat) : Int) := by omega
    simp only [numV, natV]
    rw [e]
    exact numV_nat r _ h.2
theorem natV_ge : ∀ (l : By) (a : Nat), a ≤ natV l a
  | [], a => Nat.le_refl a
  | b :: r, a => by
    have := natV_ge r (a * 10 + (b.toNat - 48))
    simp only [natV]; omega
theorem natV_take : ∀ (l : By) (k a : Nat), natV (l.take k) a ≤ natV l a
  | [], k, a => by simp
  | b :: r, 0, a => by simp only [List.take_zero, natV]; exact Nat.le_trans (by omega) (natV_ge r _)
  | b :: r, k + 1, a => by simp only [List.take_succ_cons, natV]; exact natV_take r k _
theorem parse_digits : ∀ (l : By) (acc : Nat), l.all dB = true → acc < 18446744073709551616 → Lib.parseUint10 acc l = if natV l acc < 18446744073709551616 then .ok (natV l acc) else .range
  | [], acc, _, ha => by
    show Lib.NumEnd.ok acc = if acc < _ then _ else _
    rw [if_pos ha]; rfl
  | c :: r, acc, h, ha => by
    simp only [List.all_cons, Bool.and_eq_true] at h
    have hc := dB_iff.1 h.1
    have hg := natV_ge r (acc * 10 + (c.toNat - 48))
    simp only [Lib.parseUint10, natV, if_pos hc]
    by_cases h1 : 1844674407370955162 ≤ acc
    · rw [if_pos h1]; exact (if_neg (by omega)).symm
    · rw [if_neg h1]
      by_cases h2 : 18446744073709551616 ≤ acc * 10 + (c.toNat - 48)
      · rw [if_pos h2]; exact (if_neg (by omega)).symm
      · rw [if_neg h2]
        exact parse_digits r _ h.2 (by omega)
theorem atoi_digits {w : By} (hne : w ≠ []) (hd : w.all dB = true) : Lib.atoiAll w = if numV w 0 ≤ 9223372036854775807 then .ok (numV w 0) else .range := by
  cases w with
  | nil => exact absurd rfl hne
  | cons c r =>
    have hc := dB_iff.1 (by simp only [List.all_cons, Bool.and_eq_true] at hd; exact hd.1)
    rw [Lib.atoiAll_plain c r (by omega) (by omega), Lib.parseMag, if_neg (by simp), parse_digits _ _ hd (by omega)]
    have hn := numV_nat (c :: r) 0 hd
    rw [show ((0 : Nat) : Int) = 0 from rfl] at hn
    by_cases h1 : natV (c :: r) 0 < 18446744073709551616
    · rw [if_pos h1]
      simp only [Lib.signless]
      by_cases h2 : 9223372036854775808 ≤ natV (c :: r) 0
      · rw [if_pos h2, if_neg (by omega)]
      · rw [if_neg h2, if_pos (by omega), hn]
    · rw [if_neg h1, if_neg (by omega)]
      rfl
/-- What strconv.Atoi hands back of digits. -/
def intN (w : By) : Int := if numV w 0 ≤ 9223372036854775807 then numV w 0 else 9223372036854775807
end Hw.L
