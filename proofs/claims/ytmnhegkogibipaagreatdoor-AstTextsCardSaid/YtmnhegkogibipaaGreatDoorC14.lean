/- The engine and the contracts. -/
import Derived.Test.YtmnhegkogibipaaGreatDoorC8
import Derived.Test.YtmnhegkogibipaaGreatDoorC2
import Derived.Test.YtmnhegkogibipaaGreatDoorC13
set_option linter.unusedVariables false
set_option linter.unusedSimpArgs false
namespace Hw.Z
open Go Go.Proofs Go.Shelf Hw.M

/-! The text of a description: plain -/
def declT (f : Fld) : Str := f.n ++ (⟨#[32]⟩ : ByteArray) ++ f.t
def sepT (sep : Str) (q : Str × Nat) : Str := (if q.2 = 0 then (⟨#[]⟩ : ByteArray) else sep) ++ q.1
def joinT (sep : Str) (l : List Str) : Str := catB (l.zipIdx.map (sepT sep))
def declsT (l : List Fld) (sep : Str) : Str := joinT sep (l.map declT)
def tabS : Nat → Str
  | 0 => (⟨#[]⟩ : ByteArray)
  | n + 1 => tabS n ++ (⟨#[9]⟩ : Str)
abbrev nlS : Str := ⟨#[10]⟩
abbrev tbS : Str := ⟨#[9]⟩
abbrev scS : Str := ⟨#[59, 10]⟩
abbrev opS : Str := ⟨#[32, 123, 10]⟩
abbrev clS : Str := ⟨#[125, 10]⟩
abbrev elS : Str := ⟨#[125, 32, 101, 108, 115, 101, 32, 123, 10]⟩
def toT (l : List Ex) : Str := if Lib.hasPrefix (ptAt (wLs l) 0 8).data.toList ((⟨#[105, 102, 40]⟩ : ByteArray) : Str).data.toList = true then lpS ++ ptAt (wLs l) 0 8 ++ rpS else ptAt (wLs l) 0 8
def retE : List Ex → Str
  | [] => (⟨#[]⟩ : ByteArray)
  | x :: _ => (⟨#[32]⟩ : ByteArray) ++ atT (txOf x) 1
mutual
def stT : Sm → Str → Str
  | .mk op s e l els, tb =>
    if op = 1 then tb ++ (s ++ (⟨#[32, 61, 32]⟩ : ByteArray) ++ ptAt (wLs e) 0 1 ++ scS)
    else if op = 2 then tb ++ (toT e ++ (⟨#[46]⟩ : ByteArray) ++ s ++ (⟨#[32, 61, 32]⟩ : ByteArray) ++ ptAt (wLs e) 1 1 ++ scS)
    else if op = 6 then tb ++ (ptAt (wLs e) 0 0 ++ scS)
    else if op = 5 then tb ++ ((⟨#[114, 101, 116, 117, 114, 110]⟩ : ByteArray) ++ retE e ++ scS)
    else if op = 4 then tb ++ ((⟨#[119, 104, 105, 108, 101, 32]⟩ : ByteArray) ++ ptAt (wLs e) 0 1 ++ opS) ++ stsT l (tb ++ tbS) ++ (tb ++ clS)
    else tb ++ ((⟨#[105, 102, 32]⟩ : ByteArray) ++ ptAt (wLs e) 0 1 ++ opS) ++ stsT l (tb ++ tbS) ++ (match els with
      | [] => tb ++ clS
      | _ :: _ => tb ++ elS ++ stsT els (tb ++ tbS) ++ (tb ++ clS))
def stsT : List Sm → Str → Str
  | [], _ => (⟨#[]⟩ : ByteArray)
  | x :: r, tb => stT x tb ++ stsT r tb
end
theorem stsT_cat : ∀ (l : List Sm) (tb : Str), stsT l tb = catB (l.map fun x => stT x tb)
  | [], _ => rfl
  | x :: r, tb => by simp only [stsT, List.map_cons, catB, stsT_cat r tb]
def procT (p : Pr) : Str := (⟨#[112, 114, 111, 99, 32]⟩ : ByteArray) ++ p.n ++ (⟨#[40]⟩ : ByteArray) ++ declsT p.params (⟨#[44, 32]⟩ : ByteArray) ++ (⟨#[41, 32]⟩ : ByteArray) ++ (if p.res = (⟨#[]⟩ : ByteArray) then (⟨#[]⟩ : ByteArray) else p.res ++ (⟨#[32]⟩ : ByteArray)) ++ (⟨#[123, 10]⟩ : Str) ++ catB (p.locs.map fun f => (⟨#[9, 108, 111, 99, 97, 108, 32]⟩ : Str) ++ f.n ++ (⟨#[32]⟩ : ByteArray) ++ f.t ++ scS) ++ stsT p.body tbS ++ clS
def typT (t : NodeT) : Str := (⟨#[116, 121, 112, 101, 32]⟩ : ByteArray) ++ t.n ++ (⟨#[32, 123, 32]⟩ : ByteArray) ++ (match t.f with | [] => (⟨#[]⟩ : ByteArray) | _ :: _ => declsT t.f (⟨#[59, 32]⟩ : ByteArray) ++ (⟨#[32]⟩ : ByteArray)) ++ clS
def varT (f : Fld) : Str := (⟨#[118, 97, 114, 32]⟩ : ByteArray) ++ f.n ++ (⟨#[32]⟩ : ByteArray) ++ f.t ++ nlS
def formT (head : Str) (x : Ex) : Str := head ++ (⟨#[32, 61, 32]⟩ : ByteArray) ++ atT (txOf x) 1 ++ nlS
def measT (m : Ms) : Str := formT ((⟨#[109, 101, 97, 115, 117, 114, 101, 32]⟩ : ByteArray) ++ m.n ++ (⟨#[40]⟩ : ByteArray) ++ m.t ++ (⟨#[41, 32, 110, 105, 108, 32]⟩ : ByteArray) ++ itoaB m.z) m.x
def invT (m : Iv) : Str := formT ((⟨#[105, 110, 118, 97, 114, 105, 97, 110, 116, 32]⟩ : ByteArray) ++ m.n ++ (if m.t = (⟨#[]⟩ : ByteArray) then (⟨#[]⟩ : ByteArray) else (⟨#[40]⟩ : ByteArray) ++ m.t ++ (⟨#[41]⟩ : ByteArray))) m.x
def potT (m : Pt) : Str := formT ((⟨#[112, 111, 116, 101, 110, 116, 105, 97, 108]⟩ : ByteArray) ++ (if m.t = (⟨#[]⟩ : ByteArray) then (⟨#[]⟩ : ByteArray) else (⟨#[32]⟩ : ByteArray) ++ m.t)) m.x
def boundT (m : Bd) : Str := formT ((⟨#[98, 111, 117, 110, 100, 32]⟩ : ByteArray) ++ m.p) m.x
def descT (d : Desc) : Str := (⟨#[100, 101, 115, 99, 32]⟩ : ByteArray) ++ d.n ++ opS ++ catB (d.types.map typT) ++ catB (d.globals.map varT) ++ catB (d.procs.map procT) ++ catB (d.measures.map measT) ++ catB (d.invs.map invT) ++ catB (d.pots.map potT) ++ catB (d.bounds.map boundT) ++ clS

/-! Valid statements, all the way down -/
mutual
def okSm : Sm → Int → Prop
  | .mk op s e l els, d => shapeS (.mk op s e l els) = true ∧ d ≤ 60 ∧ okSms l (d + 1) ∧ okSms els (d + 1)
def okSms : List Sm → Int → Prop
  | [], _ => True
  | x :: r, d => okSm x d ∧ okSms r d
end
theorem okSms_mem : ∀ {l : List Sm} {d : Int}, okSms l d → ∀ x ∈ l, okSm x d
  | y :: l, d, h, x, hx => by
    simp only [okSms] at h
    rcases List.mem_cons.1 hx with rfl | hx
    · exact h.1
    · exact okSms_mem h.2 x hx
theorem bump_small {n k : Int} (hk : 0 ≤ k) (h : bump n k ≤ 200) : n ≤ 200 ∧ k ≤ 200 + (if n < 0 then 0 - n else 0) := by
  unfold bump at h; split at h <;> split <;> omega
mutual
theorem ok_of_stN : ∀ (s : Sm) (d n : Int), 0 ≤ n → n ≤ 200 → stN s d n ≤ 200 → okSm s d
  | .mk op s e l els, d, n, h0, h1, h => by
    simp only [stN] at h
    split at h
    · omega
    · rename_i hb
      simp only [Bool.or_eq_true, decide_eq_true_eq, Bool.not_eq_true', not_or] at hb
      have b1 := stL_bound l (d + 1) 0 (by omega) (by omega)
      have b2 := stL_bound els (d + 1) 0 (by omega) (by omega)
      have c0 := bump_nn (n := n + 1) (k := stL l (d + 1) 0) (by omega) b1.1
      obtain ⟨e1, e2⟩ := bump_small b2.1 h
      obtain ⟨_, e4⟩ := bump_small b1.1 e1
      rw [if_neg (by omega)] at e2 e4
      simp only [okSm]
      exact ⟨by simpa using hb.2, by omega, ok_of_stL l (d + 1) 0 (by omega) (by omega) (by omega), ok_of_stL els (d + 1) 0 (by omega) (by omega) (by omega)⟩
theorem ok_of_stL : ∀ (l : List Sm) (d n : Int), 0 ≤ n → n ≤ 200 → stL l d n ≤ 200 → okSms l d
  | [], _, _, _, _, _ => by simp only [okSms]
  | s :: r, d, n, h0, h1, h => by
    simp only [stL] at h
    split at h
    · omega
    · have b := stN_bound s d n h0 h1
      simp only [okSms]
      exact ⟨ok_of_stN s d n h0 h1 (by omega), ok_of_stL r d _ b.1 (by omega) h⟩
end
end Hw.Z
namespace Hw.Z
open Go Go.Proofs Go.Shelf Hw.M

/-! Sizes of the text -/
mutual
theorem few_count : ∀ (e : Ex) (c d : Int), (fewB e c).1 = true → countS e d ≤ 1000 → (fewB e c).2 = c - countS e d
  | .mk op n s l, c, d, h, hc => by
    simp only [fewB] at h ⊢
    simp only [countS] at hc ⊢
    split at h
    · cases h
    · rename_i hb
      rw [if_neg hb]
      split at hc
      · omega
      · rename_i hb2
        rw [if_neg hb2, fewL_count l (c - 1) d 1 (by omega) h hc]; omega
theorem fewL_count : ∀ (l : List Ex) (c d n : Int), 0 ≤ n → (fewL l c).1 = true → countL l d n ≤ 1000 → (fewL l c).2 = c - (countL l d n - n)
  | [], c, d, n, _, _, _ => by simp only [fewL, countL]; omega
  | e :: es, c, d, n, h0, h, hc => by
    simp only [fewL] at h ⊢
    simp only [countL] at hc ⊢
    split at h
    · rename_i h1
      rw [if_pos h1]
      split at hc
      · omega
      · rename_i hb
        rw [if_neg hb]
        have b := (countS_bound e (d + 1)).1
        have h2 := few_count e c (d + 1) h1 (by omega)
        rw [fewL_count es _ d _ (by omega) h hc, h2]; omega
    · cases h
end
theorem szL_few : ∀ (l : List Ex) (c : Int), (fewL l c).1 = true → l.all exprOk = true → (szL (wLs l) : Int) ≤ 60 * (c - (fewL l c).2)
  | [], c, _, _ => by simp [wLs, szL, fewL]
  | e :: es, c, h, hv => by
    simp only [fewL] at h ⊢
    simp only [List.all_cons, Bool.and_eq_true] at hv
    split at h
    · rename_i h1
      rw [if_pos h1]
      have hc : countS e 1 ≤ 1000 := of_decide_eq_true hv.1
      have h2 := few_count e c 1 h1 hc
      have h3 := wT_size e 1 hc
      have h4 := szL_few es _ h hv.2
      simp only [wLs, szL, List.map_cons, List.sum_cons, szP] at h4 ⊢
      rw [h2] at h4 ⊢
      omega
    · cases h
/-! What a valid statement is -/
inductive VS : Sm → Prop
  | st (s : Str) (x : Ex) (hs : isName s = true) (hx : exprOk x = true) : VS (.mk 1 s [x] [] [])
  | pt (s : Str) (x y : Ex) (hs : isName s = true) (hx : exprOk x = true) (hy : exprOk y = true) : VS (.mk 2 s [x, y] [] [])
  | fi (x : Ex) (l els : List Sm) (hx : exprOk x = true) : VS (.mk 3 (⟨#[]⟩ : ByteArray) [x] l els)
  | wh (x : Ex) (l : List Sm) (hx : exprOk x = true) : VS (.mk 4 (⟨#[]⟩ : ByteArray) [x] l [])
  | r0 : VS (.mk 5 (⟨#[]⟩ : ByteArray) [] [] [])
  | r1 (x : Ex) (hx : exprOk x = true) : VS (.mk 5 (⟨#[]⟩ : ByteArray) [x] [] [])
  | ca (x : Ex) (hx : exprOk x = true) (ho : x.op = 7) : VS (.mk 6 (⟨#[]⟩ : ByteArray) [x] [] [])
theorem shapeP_mk (op : Int) (s : Str) (e : List Ex) (l els : List Sm) : shapeP (.mk op s e l els) = ((if op = 1 ∨ op = 2 then isName s else decide (s = (⟨#[]⟩ : ByteArray))) && !(!decide (op = 3) && (decide (0 < (els.length : Int)) || (!decide (op = 4) && decide (0 < (l.length : Int))))) &&
  (if op = 1 ∨ op = 3 ∨ op = 4 then decide ((e.length : Int) = 1) else if op = 2 then decide ((e.length : Int) = 2) else if op = 5 then decide ((e.length : Int) ≤ 1)
    else if op = 6 then decide ((e.length : Int) = 1) && decide ((e[0]?).map Ex.op = some 7) else false)) := rfl
theorem ln1 {α : Type} {l : List α} (h : (l.length : Int) = 1) : ∃ a, l = [a] := by
  match l, h with
  | [a], _ => exact ⟨a, rfl⟩
  | [], h => cases h
  | a :: b :: l, h => simp only [List.length_cons] at h; omega
theorem ln2 {α : Type} {l : List α} (h : (l.length : Int) = 2) : ∃ a b, l = [a, b] := by
  match l, h with
  | [a, b], _ => exact ⟨a, b, rfl⟩
  | [], h => cases h
  | [a], h => cases h
  | a :: b :: c :: l, h => simp only [List.length_cons] at h; omega
theorem ln0 {α : Type} {l : List α} (h : ¬ (0 : Int) < l.length) : l = [] := List.eq_nil_of_length_eq_zero (by omega)
theorem viewS {s : Sm} (h : shapeS s = true) : VS s := by
  rw [← shapeP_S] at h
  obtain ⟨op, s, e, l, els⟩ := s
  rw [shapeP_mk] at h
  simp only [Bool.and_eq_true, Bool.not_eq_true', Bool.and_eq_false_iff, Bool.or_eq_false_iff, Bool.not_eq_false', decide_eq_false_iff_not, decide_eq_true_eq] at h
  obtain ⟨⟨⟨h1, h2⟩, h3⟩, h4⟩ := h
  have hop : op = 1 ∨ op = 2 ∨ op = 3 ∨ op = 4 ∨ op = 5 ∨ op = 6 := by
    refine Classical.byContradiction fun hb => ?_
    rw [if_neg (by omega), if_neg (by omega), if_neg (by omega), if_neg (by omega)] at h3
    cases h3
  simp only [Sm.e] at h4
  rcases hop with rfl | rfl | rfl | rfl | rfl | rfl
  · simp at h1 h2 h3
    obtain ⟨x, rfl⟩ := ln1 (l := e) (by omega)
    obtain ⟨rfl, rfl⟩ : els = [] ∧ l = [] := ⟨by simpa using h2.1, by simpa using h2.2⟩
    exact .st s x h1 (by simpa using h4)
  · simp at h1 h2 h3
    obtain ⟨x, y, rfl⟩ := ln2 (l := e) (by omega)
    obtain ⟨rfl, rfl⟩ : els = [] ∧ l = [] := ⟨by simpa using h2.1, by simpa using h2.2⟩
    simp at h4
    exact .pt s x y h1 h4.1 h4.2
  · simp at h1 h3
    obtain ⟨x, rfl⟩ := ln1 (l := e) (by omega)
    subst h1
    exact .fi x l els (by simpa using h4)
  · simp at h1 h2 h3
    obtain ⟨x, rfl⟩ := ln1 (l := e) (by omega)
    obtain rfl : els = [] := by simpa using h2
    subst h1
    exact .wh x l (by simpa using h4)
  · simp at h1 h2 h3
    obtain ⟨rfl, rfl⟩ : els = [] ∧ l = [] := ⟨by simpa using h2.1, by simpa using h2.2⟩
    subst h1
    match e, h3, h4 with
    | [], _, _ => exact .r0
    | [x], _, h4 => exact .r1 x (by simpa using h4)
    | _ :: _ :: _, h3, _ => simp at h3; omega
  · simp at h1 h2 h3
    obtain ⟨x, rfl⟩ := ln1 (l := e) (by omega)
    obtain ⟨rfl, rfl⟩ : els = [] ∧ l = [] := ⟨by simpa using h2.1, by simpa using h2.2⟩
    subst h1
    exact .ca x (by simpa using h4) (by simpa using h3.2)
theorem stT_1 (s : Str) (e : List Ex) (l els : List Sm) (tb : Str) : stT (.mk 1 s e l els) tb = tb ++ (s ++ (⟨#[32, 61, 32]⟩ : ByteArray) ++ ptAt (wLs e) 0 1 ++ scS) := by
  simp only [stT, if_true]
theorem stT_2 (s : Str) (e : List Ex) (l els : List Sm) (tb : Str) : stT (.mk 2 s e l els) tb = tb ++ (toT e ++ (⟨#[46]⟩ : ByteArray) ++ s ++ (⟨#[32, 61, 32]⟩ : ByteArray) ++ ptAt (wLs e) 1 1 ++ scS) := by
  simp only [stT, if_true, if_neg (show ¬ (2 : Int) = 1 by decide)]
theorem stT_6 (s : Str) (e : List Ex) (l els : List Sm) (tb : Str) : stT (.mk 6 s e l els) tb = tb ++ (ptAt (wLs e) 0 0 ++ scS) := by
  simp only [stT, if_true, if_neg (show ¬ (6 : Int) = 1 by decide), if_neg (show ¬ (6 : Int) = 2 by decide)]
theorem stT_5 (s : Str) (e : List Ex) (l els : List Sm) (tb : Str) : stT (.mk 5 s e l els) tb = tb ++ ((⟨#[114, 101, 116, 117, 114, 110]⟩ : ByteArray) ++ retE e ++ scS) := by
  simp only [stT, if_true, if_neg (show ¬ (5 : Int) = 1 by decide), if_neg (show ¬ (5 : Int) = 2 by decide), if_neg (show ¬ (5 : Int) = 6 by decide)]
theorem stT_4 (s : Str) (e : List Ex) (l els : List Sm) (tb : Str) : stT (.mk 4 s e l els) tb = tb ++ ((⟨#[119, 104, 105, 108, 101, 32]⟩ : ByteArray) ++ ptAt (wLs e) 0 1 ++ opS) ++ stsT l (tb ++ tbS) ++ (tb ++ clS) := by
  simp only [stT, if_true, if_neg (show ¬ (4 : Int) = 1 by decide), if_neg (show ¬ (4 : Int) = 2 by decide), if_neg (show ¬ (4 : Int) = 6 by decide), if_neg (show ¬ (4 : Int) = 5 by decide)]
theorem stT_3n (s : Str) (e : List Ex) (l : List Sm) (tb : Str) : stT (.mk 3 s e l []) tb = tb ++ ((⟨#[105, 102, 32]⟩ : ByteArray) ++ ptAt (wLs e) 0 1 ++ opS) ++ stsT l (tb ++ tbS) ++ (tb ++ clS) := by
  simp only [stT, if_neg (show ¬ (3 : Int) = 1 by decide), if_neg (show ¬ (3 : Int) = 2 by decide), if_neg (show ¬ (3 : Int) = 6 by decide), if_neg (show ¬ (3 : Int) = 5 by decide), if_neg (show ¬ (3 : Int) = 4 by decide)]
theorem stT_3c (s : Str) (e : List Ex) (l els : List Sm) (x : Sm) (tb : Str) : stT (.mk 3 s e l (x :: els)) tb = tb ++ ((⟨#[105, 102, 32]⟩ : ByteArray) ++ ptAt (wLs e) 0 1 ++ opS) ++ stsT l (tb ++ tbS) ++ (tb ++ elS ++ stsT (x :: els) (tb ++ tbS) ++ (tb ++ clS)) := by
  simp only [stT, if_neg (show ¬ (3 : Int) = 1 by decide), if_neg (show ¬ (3 : Int) = 2 by decide), if_neg (show ¬ (3 : Int) = 6 by decide), if_neg (show ¬ (3 : Int) = 5 by decide), if_neg (show ¬ (3 : Int) = 4 by decide)]
theorem stmF_parts {s : Sm} {c : Int} (h : (stmF s c).1 = true) : 0 ≤ c - 1 ∧ (fewL s.e (c - 1)).1 = true ∧ (stmL s.l (fewL s.e (c - 1)).2).1 = true ∧ (stmL s.els (stmL s.l (fewL s.e (c - 1)).2).2).1 = true ∧ (stmF s c).2 = (stmL s.els (stmL s.l (fewL s.e (c - 1)).2).2).2 := by
  rw [stmF_eq] at h ⊢
  split at h
  · cases h
  · rename_i h1
    rw [if_neg h1]
    simp only [Bool.or_eq_true, decide_eq_true_eq, not_or] at h1
    split at h
    · cases h
    · rename_i h2
      rw [if_neg h2]
      split at h
      · cases h
      · rename_i h3
        rw [if_neg h3]
        exact ⟨by omega, by simpa using h2, by simpa using h3, h, rfl⟩
theorem toT_size (e : List Ex) : (toT e).size ≤ (ptAt (wLs e) 0 8).size + 2 := by
  have e1 : ByteArray.size lpS = 1 := rfl
  have e2 : ByteArray.size rpS = 1 := rfl
  unfold toT; split
  · simp only [size_app]; omega
  · omega
mutual
theorem stT_size : ∀ (s : Sm) (d : Int) (tb : Str) (c : Int), okSm s d → (tb.size : Int) ≤ d → (stmF s c).1 = true → ((stT s tb).size : Int) ≤ 300 * (c - (stmF s c).2)
  | .mk op s e l els, d, tb, c, ho, ht, h => by
    simp only [okSm] at ho
    obtain ⟨hs, hd, hl, he⟩ := ho
    obtain ⟨p0, p1, p2, p3, p4⟩ := stmF_parts h
    rw [p4]
    simp only [Sm.e, Sm.l, Sm.els] at p1 p2 p3 ⊢
    have b1 := fewL_bound e (c - 1) p0
    have b2 := stmL_bound l _ (b1.2.2 p1)
    have b3 := stmL_bound els _ (b2.2.2 p2)
    have z1 := szL_few e (c - 1) p1 (by rw [← shapeP_S] at hs; simp only [Bool.and_eq_true, Sm.e] at hs; exact hs.2)
    have n1 : ByteArray.size (⟨#[32, 61, 32]⟩ : ByteArray) = 3 := rfl
    have n2 : ByteArray.size scS = 2 := rfl
    have n3 : ByteArray.size (⟨#[46]⟩ : ByteArray) = 1 := rfl
    have n4 : ByteArray.size (⟨#[114, 101, 116, 117, 114, 110]⟩ : ByteArray) = 6 := rfl
    have n5 : ByteArray.size opS = 3 := rfl
    have n6 : ByteArray.size clS = 2 := rfl
    have n7 : ByteArray.size (⟨#[119, 104, 105, 108, 101, 32]⟩ : ByteArray) = 6 := rfl
    have n8 : ByteArray.size (⟨#[105, 102, 32]⟩ : ByteArray) = 3 := rfl
    have n9 : ByteArray.size elS = 9 := rfl
    have n10 : ByteArray.size tbS = 1 := rfl
    have n11 : ByteArray.size (⟨#[32]⟩ : ByteArray) = 1 := rfl
    have n12 : ByteArray.size (⟨#[]⟩ : ByteArray) = 0 := rfl
    have q1 := ptAt_size (wLs e) 0 1
    have q2 := ptAt_size2 (wLs e) 8 1
    have q3 := ptAt_size (wLs e) 0 0
    have q4 := toT_size e
    have r1 := stsT_size l (d + 1) (tb ++ tbS) _ hl (by rw [size_app]; omega) p2
    have r2 := stsT_size els (d + 1) (tb ++ tbS) _ he (by rw [size_app]; omega) p3
    have hv := viewS hs
    cases hv with
    | st s x hn hx => have := name_le hn; rw [stT_1]; simp only [size_app]; omega
    | pt s x y hn hx hy => have := name_le hn; rw [stT_2]; simp only [size_app]; omega
    | fi x l els hx =>
      cases els with
      | nil => rw [stT_3n]; simp only [size_app]; omega
      | cons y els => rw [stT_3c]; simp only [size_app]; omega
    | wh x l hx => rw [stT_4]; simp only [size_app]; omega
    | r0 => rw [stT_5]; simp only [retE, size_app]; omega
    | r1 x hx =>
      have := atT_size (txOf x) 1
      have : szL (wLs [x]) = (wT x).size + 4 := rfl
      have : (txOf x).2.size = (wT x).size := rfl
      rw [stT_5]; simp only [retE, size_app]; omega
    | ca x hx ho => rw [stT_6]; simp only [size_app]; omega
theorem stsT_size : ∀ (l : List Sm) (d : Int) (tb : Str) (c : Int), okSms l d → (tb.size : Int) ≤ d → (stmL l c).1 = true → ((stsT l tb).size : Int) ≤ 300 * (c - (stmL l c).2)
  | [], d, tb, c, _, _, _ => by
    have : ByteArray.size (⟨#[]⟩ : ByteArray) = 0 := rfl
    simp only [stsT, stmL]; omega
  | x :: r, d, tb, c, ho, ht, h => by
    simp only [okSms] at ho
    simp only [stmL] at h ⊢
    split at h
    · rename_i h1
      rw [if_pos h1]
      have a1 := stT_size x d tb c ho.1 ht h1
      have a2 := stsT_size r d tb _ ho.2 ht h
      simp only [stsT, size_app]; omega
    · cases h
end
end Hw.Z
