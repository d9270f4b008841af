/- The engine, part BI: structs of numbers and strings, compared; interfaces held against nil. -/
import Derived.Test.YtfefngngejlmhaaDoorC2
import Derived.Laws.StructEq
import Derived.Laws.Strings3
import Derived.Laws.IdiomStrings
import Derived.Laws.DeepStrings4
set_option linter.unusedVariables false
set_option linter.unusedSimpArgs false
namespace Hw
open Go

/-! Structs of numbers and strings -/
inductive Sc where
  | i (k : IntKind) (n : Int)
  | s (b : ByteArray)
  deriving DecidableEq
def Sc.v : Sc → Value
  | .i k n => .int k n
  | .s b => .string b
def Sc.V (c : Sc) : V := .p (.k c.v)
inductive SK where
  | i (k : IntKind)
  | s
def okSK : SK → Sc → Bool
  | .i k, .i k' _ => decide (k = k')
  | .s, .s _ => true
  | _, _ => false
def okSKs : List SK → List Sc → Bool
  | [], [] => true
  | k :: ks, c :: cs => okSK k c && okSKs ks cs
  | _, _ => false
def isStc (P : Program) (t : TypeId) : Bool := match P.underlying t with
  | some (.struct _) => true
  | _ => false
def eqFs (P : Program) (r : TypeId → Option (List SK)) : List Field → Nat → Option (List SK)
  | [], _ => some []
  | f :: fs, off => match decide (f.name ≠ "_") && Nat.beq f.offset off with
    | true => match r f.type with
      | some l => match !isStc P f.type || decide ((P.info? f.type).map (·.size) = some l.length) with
        | true => match eqFs P r fs (off + l.length) with
          | some l' => some (l ++ l')
          | none => none
        | false => none
      | none => none
    | false => none
def eqSh (P : Program) : Nat → TypeId → Option (List SK)
  | 0, _ => none
  | f + 1, t => match P.underlying t with
    | some (.int k) => some [.i k]
    | some .string => some [.s]
    | some (.struct fs) => match P.stoodInHeld t with
      | true => none
      | false => eqFs P (eqSh P f) fs.toList 0
    | _ => none
theorem okSKs_len : ∀ {l : List SK} {cs : List Sc}, okSKs l cs = true → cs.length = l.length
  | [], [], _ => rfl
  | [], _ :: _, h => by simp [okSKs] at h
  | _ :: _, [], h => by simp [okSKs] at h
  | k :: ks, c :: cs, h => by simp only [okSKs, Bool.and_eq_true] at h; simp [okSKs_len h.2]
theorem okSKs_split : ∀ {l l' : List SK} {cs : List Sc}, okSKs (l ++ l') cs = true → okSKs l (cs.take l.length) = true ∧ okSKs l' (cs.drop l.length) = true
  | [], _, cs, h => by simp only [List.nil_append] at h; simp [okSKs, h]
  | _ :: _, _, [], h => by simp [okSKs] at h
  | k :: ks, l', c :: cs, h => by
    simp only [List.cons_append, okSKs, Bool.and_eq_true] at h
    have := okSKs_split h.2
    simp only [List.length_cons, List.take_succ_cons, List.drop_succ_cons, okSKs, h.1, this.1, this.2, Bool.and_self, and_self]
/-- A value of such a type, out of its cells. -/
def valSc (P : Program) (t : TypeId) (cs : List Sc) : Value := if isStc P t = true then .agg (cs.map Sc.v).toArray else match cs with
  | c :: _ => c.v
  | [] => undef
theorem equal_flat {P : Program} : ∀ (f : Nat) (t : TypeId) (l : List SK), eqSh P f t = some l → ∀ (d : Nat), f ≤ d → ∀ (a b : List Sc), okSKs l a = true → okSKs l b = true → ∀ w : World,
    (Op.equalIn d t (valSc P t a) (valSc P t b)).run P w = .ok (decide (a = b)) w := by
  intro f
  induction f with
  | zero => intro t l h; cases h
  | succ f ih =>
  intro t l h d hd a b ha hb w
  obtain ⟨d, rfl⟩ : ∃ d', d = d' + 1 := ⟨d - 1, by omega⟩
  simp only [eqSh] at h
  split at h
  · rename_i k hu
    simp only [Option.some.injEq] at h; subst h
    match a, b, ha, hb with
    | [.i k1 x], [.i k2 y], ha, hb =>
      simp only [okSKs, okSK, Bool.and_true, decide_eq_true_eq] at ha hb
      subst ha; subst hb
      have hs : isStc P t = false := by simp [isStc, hu]
      simp only [valSc, hs, Bool.false_eq_true, if_false, Sc.v]
      rw [run_equalIn_int w d t k k x y hu]
      by_cases e : x = y
      · subst e; simp
      · simp [e]
    | [.s _], _, ha, _ => simp [okSKs, okSK] at ha
    | [], _, ha, _ => simp [okSKs] at ha
    | _ :: _ :: _, _, ha, _ => simp [okSKs] at ha
    | [.i _ _], [.s _], _, hb => simp [okSKs, okSK] at hb
    | [.i _ _], [], _, hb => simp [okSKs] at hb
    | [.i _ _], _ :: _ :: _, _, hb => simp [okSKs] at hb
  · rename_i hu
    simp only [Option.some.injEq] at h; subst h
    match a, b, ha, hb with
    | [.s x], [.s y], ha, hb =>
      have hs : isStc P t = false := by simp [isStc, hu]
      simp only [valSc, hs, Bool.false_eq_true, if_false, Sc.v]
      rw [run_equalIn_string w d t x y hu, ← beq_toListBytes, bytes_eq]
      by_cases e : x = y
      · subst e; simp
      · simp [e]
    | [.i _ _], _, ha, _ => simp [okSKs, okSK] at ha
    | [], _, ha, _ => simp [okSKs] at ha
    | _ :: _ :: _, _, ha, _ => simp [okSKs] at ha
    | [.s _], [.i _ _], _, hb => simp [okSKs, okSK] at hb
    | [.s _], [], _, hb => simp [okSKs] at hb
    | [.s _], _ :: _ :: _, _, hb => simp [okSKs] at hb
  · rename_i fs hu
    split at h
    · cases h
    · rename_i hst
      have hF : P.fieldsOf t = fs := by simp [Program.fieldsOf, hu]
      have hs : isStc P t = true := by simp [isStc, hu]
      simp only [valSc, hs, if_true]
      rw [run_equalIn_agg w d t _ _ (by rw [hF]; exact hu) hst, hF]
      -- field by field
      have key : ∀ (fl : List Field) (off : Nat) (l' : List SK), eqFs P (eqSh P f) fl off = some l' → ∀ a0 b0 : List Sc, off ≤ a0.length → off ≤ b0.length → okSKs l' (a0.drop off) = true → okSKs l' (b0.drop off) = true →
          (Op.eqFields d (a0.map Sc.v).toArray (b0.map Sc.v).toArray fl).run P w = .ok (decide (a0.drop off = b0.drop off)) w := by
        intro fl
        induction fl with
        | nil =>
          intro off l' hl a0 b0 _ _ h1 h2
          simp only [eqFs, Option.some.injEq] at hl; subst hl
          have e1 : a0.drop off = [] := List.eq_nil_of_length_eq_zero (okSKs_len h1)
          have e2 : b0.drop off = [] := List.eq_nil_of_length_eq_zero (okSKs_len h2)
          simp [Op.eqFields, e1, e2]
        | cons fd fl ihf =>
          intro off l' hl a0 b0 ho1 ho2 h1 h2
          simp only [eqFs] at hl
          split at hl
          · rename_i hname
            simp only [Bool.and_eq_true, decide_eq_true_eq] at hname
            have hoff := Nat.eq_of_beq_eq_true hname.2
            split at hl
            · rename_i lf hlf
              split at hl
              · rename_i hsz
                split at hl
                · rename_i lr hlr
                  simp only [Option.some.injEq] at hl; subst hl
                  obtain ⟨a1, a2⟩ := okSKs_split h1
                  obtain ⟨b1, b2⟩ := okSKs_split h2
                  have al := okSKs_len a1
                  have bl := okSKs_len b1
                  simp only [List.length_take, List.length_drop] at al bl
                  have hpart : ∀ c0 : List Sc, off + lf.length ≤ c0.length → okSKs lf ((c0.drop off).take lf.length) = true → (part fd.type (c0.map Sc.v).toArray fd.offset).run P w = .ok (valSc P fd.type ((c0.drop off).take lf.length)) w := fun c0 hc0 hok => by
                    rw [hoff]
                    cases hstr : isStc P fd.type with
                    | true =>
                      obtain ⟨fs', hu'⟩ : ∃ fs', P.underlying fd.type = some (.struct fs') := by
                        unfold isStc at hstr
                        split at hstr
                        · rename_i fs' e; exact ⟨fs', e⟩
                        · cases hstr
                      rw [hstr] at hsz
                      simp only [Bool.not_true, Bool.false_or, decide_eq_true_eq, Option.map_eq_some_iff] at hsz
                      obtain ⟨ii, hii, hsz⟩ := hsz
                      simp only [part, isAgg, Sem.run_bind, run_underlying hu', Result.andThen_ok, Sem.run_pure, if_true, run_sizeOf hii, hsz, valSc, hstr]
                      congr 2
                      apply Array.ext'
                      simp only [Array.toList_extract, List.extract_eq_take_drop, List.map_take, List.map_drop]
                      rw [Nat.add_sub_cancel_left]
                    | false =>
                      have hna : (isAgg fd.type).run P w = .ok false w := by
                        cases f with
                        | zero => cases hlf
                        | succ f' =>
                          simp only [eqSh] at hlf
                          split at hlf
                          · rename_i hu'; simp [isAgg, run_underlying hu']
                          · rename_i hu'; simp [isAgg, run_underlying hu']
                          · rename_i hu'; simp [isStc, hu'] at hstr
                          · cases hlf
                      have h1l : lf.length = 1 := by
                        cases f with
                        | zero => cases hlf
                        | succ f' =>
                          simp only [eqSh] at hlf
                          split at hlf
                          · simp only [Option.some.injEq] at hlf; subst hlf; rfl
                          · simp only [Option.some.injEq] at hlf; subst hlf; rfl
                          · rename_i hu'; simp [isStc, hu'] at hstr
                          · cases hlf
                      obtain ⟨c, hc⟩ : ∃ c, c0[off]? = some c := ⟨c0[off]'(by omega), List.getElem?_eq_getElem (by omega)⟩
                      have ht : (c0.drop off).take lf.length = [c] := by
                        rw [h1l, List.take_one, List.head?_drop, hc]; rfl
                      simp only [part, Sem.run_bind, hna, Result.andThen_ok, Bool.false_eq_true, if_false, List.getElem?_toArray, List.getElem?_map, hc, Option.map_some, Sem.run_pure, ht, valSc, hstr]
                  have hq := ih fd.type lf hlf d (by omega) _ _ a1 b1 w
                  simp only [Op.eqFields, if_pos hname.1, Sem.run_bind, hpart a0 (by omega) a1, hpart b0 (by omega) b1, hq, Result.andThen_ok, Sem.run_ite]
                  have hcat : ∀ c0 : List Sc, c0.drop off = (c0.drop off).take lf.length ++ c0.drop (off + lf.length) := fun c0 => by
                    rw [← List.drop_drop, List.take_append_drop]
                  rw [List.drop_drop] at a2 b2
                  by_cases e : (a0.drop off).take lf.length = (b0.drop off).take lf.length
                  · rw [decide_eq_true e]
                    simp only [Bool.not_true, Bool.false_eq_true, if_false]
                    rw [ihf _ _ hlr a0 b0 (by omega) (by omega) a2 b2]
                    congr 1
                    have : (a0.drop off = b0.drop off) ↔ (a0.drop (off + lf.length) = b0.drop (off + lf.length)) := by
                      rw [hcat a0, hcat b0, e]
                      exact ⟨fun h => List.append_cancel_left h, fun h => by rw [h]⟩
                    exact decide_eq_decide.2 this.symm
                  · rw [decide_eq_false e]
                    simp only [Bool.not_false, if_true, Sem.run_pure]
                    congr 1
                    refine (decide_eq_false fun h => e ?_).symm
                    rw [h]
                · cases hl
              · cases hl
            · cases hl
          · cases hl
      have := key fs.toList 0 l h a b (Nat.zero_le _) (Nat.zero_le _) (by simpa using ha) (by simpa using hb)
      simpa using this
  · cases h
section
variable {P : Program} {d : Option Nat} {ty : TypeId} {ps : String} {af : Array Edge} {g : Option (Nat × Bool)} {x y : Operand} {t : TypeId}
theorem rep_sc {M : Mem} {ρ : Nat → Value} : ∀ {a : List Sc} {cs : List Value}, RepVs M ρ (a.map Sc.V) cs → cs = a.map Sc.v
  | [], [], _ => rfl
  | [], _ :: _, h => by simp only [List.map_nil, RepVs] at h
  | _ :: _, [], h => by simp only [List.map_cons, RepVs] at h
  | c :: a, v :: cs, h => by
    simp only [List.map_cons, Sc.V, RepVs, RepV, RepPV] at h
    rw [h.1.1, rep_sc h.2]; rfl
/-- Structs of numbers and strings, held against one another. -/
theorem L_eqF {t' : TypeId} {neg : Bool} {l : List SK} {a b : List Sc} (hx : okc x (.agg (a.map Sc.V))) (hy : okc y (.agg (b.map Sc.V))) (hs : isStc P t = true) (h : eqSh P 8 t = some l) (ha : okSKs l a = true) (hb : okSKs l b = true) (hg : P.eqGuardType P.depth t = false) :
    Snd P ⟨d, .binOp (if neg = true then .neq else .eql) t x y t', ty, ps, af, g⟩ (rq x (.agg (a.map Sc.V)) ++ rq y (.agg (b.map Sc.V))) [] [] (.bq (if neg = true then !decide (a = b) else decide (a = b))) [] :=
  snd_quiet fun C st M ρ ac w hH h1 _ => by
    rw [okS_append] at h1
    have e1 := hH.evS (ev_of hx h1.1)
    have e2 := hH.evS (ev_of hy h1.2)
    simp only [RepS] at e1 e2
    obtain ⟨cs, e1, f1⟩ := e1
    obtain ⟨ds, e2, f2⟩ := e2
    rw [rep_sc f1] at e1
    rw [rep_sc f2] at e2
    have hq := equal_flat 8 t l h 10000 (by omega) a b ha hb w
    simp only [valSc, hs, if_true] at hq
    cases neg with
    | true =>
      refine ⟨.bool (!decide (a = b)), ?_, by simp only [RepS, if_true]⟩
      simp only [execOp, if_true, e1, e2, Sem.run_bind, run_eqGuard_agg w _ t x y _ _ hg, Result.andThen_ok, run_neq_struct, hq, Sem.run_pure]
    | false =>
      refine ⟨.bool (decide (a = b)), ?_, by simp only [RepS, Bool.false_eq_true, if_false]⟩
      simp only [execOp, Bool.false_eq_true, if_false, e1, e2, Sem.run_bind, run_eqGuard_agg w _ t x y _ _ hg, Result.andThen_ok, run_eql_struct, hq, Sem.run_pure]
end
section
variable {P : Program} {C : Ctx} {k : List Frm} {n : Nat} {sl : Slots} {tab : Tab} {Q : Exit → St → Prop} {all : Array Oper} {rest : List Oper}
theorem g_eqF {d : Nat} {x y : Operand} {t t' ty : TypeId} {ps : String} {af : Array Edge} {g0 : Option (Nat × Bool)} {gs : Slots} {md : Mode} (hC : C.low) (l : List SK) (a b : List Sc)
    (hx : ev sl x = some (.agg (a.map Sc.V))) (hy : ev sl y = some (.agg (b.map Sc.V))) (hs : isStc P t = true) (h : eqSh P 8 t = some l) (ha : okSKs l a = true) (hb : okSKs l b = true) (hg : P.eqGuardType P.depth t = false) (hm : metL all sl g0 = some gs) (hd : Nat.blt d n = true)
    (g : Goal P C (.ops all rest (nx md ⟨some d, gs ++ (rq x (.agg (a.map Sc.V)) ++ rq y (.agg (b.map Sc.V))), [], [], .bq (decide (a = b)), []⟩)) k n ((d, .bq (decide (a = b))) :: sl) tab Q) :
    Goal P C (.ops all (⟨some d, .binOp .eql t x y t', ty, ps, af, g0⟩ :: rest) md) k n sl tab Q := by
  have e1 := of_ev (st := ⟨n, sl, tab⟩) hx
  have e2 := of_ev (st := ⟨n, sl, tab⟩) hy
  have := metL_step hm (L_eqF (P := P) (neg := false) (ty := ty) (ps := ps) (af := af) (g := g0) (d := some d) (t' := t') e1.1 e2.1 hs h ha hb hg) (n := n) (tab := tab)
  exact g_law (L := ⟨some d, gs ++ (rq x (.agg (a.map Sc.V)) ++ rq y (.agg (b.map Sc.V))), [], [], .bq (decide (a = b)), []⟩) hC this.1 rfl ⟨by rw [okS_append, okS_append]; exact ⟨this.2, e1.2, e2.2⟩, trivial, rfl, hd⟩ g
theorem g_neF {d : Nat} {x y : Operand} {t t' ty : TypeId} {ps : String} {af : Array Edge} {g0 : Option (Nat × Bool)} {gs : Slots} {md : Mode} (hC : C.low) (l : List SK) (a b : List Sc)
    (hx : ev sl x = some (.agg (a.map Sc.V))) (hy : ev sl y = some (.agg (b.map Sc.V))) (hs : isStc P t = true) (h : eqSh P 8 t = some l) (ha : okSKs l a = true) (hb : okSKs l b = true) (hg : P.eqGuardType P.depth t = false) (hm : metL all sl g0 = some gs) (hd : Nat.blt d n = true)
    (g : Goal P C (.ops all rest (nx md ⟨some d, gs ++ (rq x (.agg (a.map Sc.V)) ++ rq y (.agg (b.map Sc.V))), [], [], .bq (!decide (a = b)), []⟩)) k n ((d, .bq (!decide (a = b))) :: sl) tab Q) :
    Goal P C (.ops all (⟨some d, .binOp .neq t x y t', ty, ps, af, g0⟩ :: rest) md) k n sl tab Q := by
  have e1 := of_ev (st := ⟨n, sl, tab⟩) hx
  have e2 := of_ev (st := ⟨n, sl, tab⟩) hy
  have := metL_step hm (L_eqF (P := P) (neg := true) (ty := ty) (ps := ps) (af := af) (g := g0) (d := some d) (t' := t') e1.1 e2.1 hs h ha hb hg) (n := n) (tab := tab)
  exact g_law (L := ⟨some d, gs ++ (rq x (.agg (a.map Sc.V)) ++ rq y (.agg (b.map Sc.V))), [], [], .bq (!decide (a = b)), []⟩) hC this.1 rfl ⟨by rw [okS_append, okS_append]; exact ⟨this.2, e1.2, e2.2⟩, trivial, rfl, hd⟩ g
end
end Hw
/- The engine, part BB: slices of strings. -/
namespace Hw
open Go
section
variable {P : Program} {d : Option Nat} {ty : TypeId} {ps : String} {af : Array Edge} {g : Option (Nat × Bool)} {x y : Operand} {t : TypeId}
theorem L_slTo {a : ByteArray} {j : Int} {k : IntKind} (hx : okc x (Sr a)) (hy : okc y (Kk k j)) (ht : P.underlying t = some .string) (h0 : 0 ≤ j) (h1 : j ≤ a.size) :
    Snd P ⟨d, .slice t x none (some y) none, ty, ps, af, g⟩ (rq x (Sr a) ++ rq y (Kk k j)) [] [] (Sr (a.extract 0 j.toNat)) [] :=
  snd_quiet fun C st M ρ b w hH hs _ => by
    rw [okS_append] at hs
    have e1 := hH.k (ev_of hx hs.1)
    have e2 := hH.k (ev_of hy hs.2)
    refine ⟨.string (a.extract 0 j.toNat), ?_, by simp only [RepS, RepV, RepPV]; exact ⟨trivial, rfl⟩⟩
    simp only [execOp, e1, e2, Option.map_none, Option.map_some, Sem.run_bind, run_sliceAt_string w t _ _ _ _ ht, run_slice_string_to_if w t a k j ht, if_pos (⟨h0, h1⟩ : 0 ≤ j ∧ j ≤ (a.size : Int)), Result.andThen_ok, Sem.run_pure]
theorem L_slFrom {a : ByteArray} {j : Int} {k : IntKind} (hx : okc x (Sr a)) (hy : okc y (Kk k j)) (ht : P.underlying t = some .string) (h0 : 0 ≤ j) (h1 : j ≤ a.size) :
    Snd P ⟨d, .slice t x (some y) none none, ty, ps, af, g⟩ (rq x (Sr a) ++ rq y (Kk k j)) [] [] (Sr (a.extract j.toNat a.size)) [] :=
  snd_quiet fun C st M ρ b w hH hs _ => by
    rw [okS_append] at hs
    have e1 := hH.k (ev_of hx hs.1)
    have e2 := hH.k (ev_of hy hs.2)
    refine ⟨.string (a.extract j.toNat a.size), ?_, by simp only [RepS, RepV, RepPV]; exact ⟨trivial, rfl⟩⟩
    simp only [execOp, e1, e2, Option.map_none, Option.map_some, Sem.run_bind, run_sliceAt_string w t _ _ _ _ ht, run_slice_string_from_if w t a k j ht, if_pos (⟨h0, h1⟩ : 0 ≤ j ∧ j ≤ (a.size : Int)), Result.andThen_ok, Sem.run_pure]
end
variable {P : Program} {C : Ctx} {k : List Frm} {n : Nat} {sl : Slots} {tab : Tab} {Q : Exit → St → Prop} {all : Array Oper} {rest : List Oper}
theorem g_slTo {d : Nat} {x y : Operand} {t ty : TypeId} {ps : String} {af : Array Edge} {g0 : Option (Nat × Bool)} {gs : Slots} {md : Mode} (hC : C.low) {a : ByteArray} {j : Int} {k0 : IntKind}
    (hx : ev sl x = some (Sr a)) (hy : ev sl y = some (Kk k0 j)) (ht : P.underlying t = some .string) (h0 : 0 ≤ j) (h1 : j ≤ a.size) (hm : metL all sl g0 = some gs) (hd : Nat.blt d n = true)
    (g : Goal P C (.ops all rest (nx md ⟨some d, gs ++ (rq x (Sr a) ++ rq y (Kk k0 j)), [], [], Sr (a.extract 0 j.toNat), []⟩)) k n ((d, Sr (a.extract 0 j.toNat)) :: sl) tab Q) :
    Goal P C (.ops all (⟨some d, .slice t x none (some y) none, ty, ps, af, g0⟩ :: rest) md) k n sl tab Q := by
  have e1 := of_ev (st := ⟨n, sl, tab⟩) hx
  have e2 := of_ev (st := ⟨n, sl, tab⟩) hy
  have := metL_step hm (L_slTo (P := P) (ty := ty) (ps := ps) (af := af) (g := g0) (d := some d) (t := t) e1.1 e2.1 ht h0 h1) (n := n) (tab := tab)
  exact g_law (L := ⟨some d, gs ++ (rq x (Sr a) ++ rq y (Kk k0 j)), [], [], Sr (a.extract 0 j.toNat), []⟩) hC this.1 rfl ⟨by rw [okS_append, okS_append]; exact ⟨this.2, e1.2, e2.2⟩, trivial, rfl, hd⟩ g
theorem g_slFrom {d : Nat} {x y : Operand} {t ty : TypeId} {ps : String} {af : Array Edge} {g0 : Option (Nat × Bool)} {gs : Slots} {md : Mode} (hC : C.low) {a : ByteArray} {j : Int} {k0 : IntKind}
    (hx : ev sl x = some (Sr a)) (hy : ev sl y = some (Kk k0 j)) (ht : P.underlying t = some .string) (h0 : 0 ≤ j) (h1 : j ≤ a.size) (hm : metL all sl g0 = some gs) (hd : Nat.blt d n = true)
    (g : Goal P C (.ops all rest (nx md ⟨some d, gs ++ (rq x (Sr a) ++ rq y (Kk k0 j)), [], [], Sr (a.extract j.toNat a.size), []⟩)) k n ((d, Sr (a.extract j.toNat a.size)) :: sl) tab Q) :
    Goal P C (.ops all (⟨some d, .slice t x (some y) none none, ty, ps, af, g0⟩ :: rest) md) k n sl tab Q := by
  have e1 := of_ev (st := ⟨n, sl, tab⟩) hx
  have e2 := of_ev (st := ⟨n, sl, tab⟩) hy
  have := metL_step hm (L_slFrom (P := P) (ty := ty) (ps := ps) (af := af) (g := g0) (d := some d) (t := t) e1.1 e2.1 ht h0 h1) (n := n) (tab := tab)
  exact g_law (L := ⟨some d, gs ++ (rq x (Sr a) ++ rq y (Kk k0 j)), [], [], Sr (a.extract j.toNat a.size), []⟩) hC this.1 rfl ⟨by rw [okS_append, okS_append]; exact ⟨this.2, e1.2, e2.2⟩, trivial, rfl, hd⟩ g
end Hw
/- The engine, part BC: a string's bytes as an array of the run's own. -/
namespace Hw
open Go
section
variable {P : Program} {d : Option Nat} {ty : TypeId} {ps : String} {af : Array Edge} {g : Option (Nat × Bool)} {x y : Operand} {t : TypeId}
theorem bytes_rows {M : Mem} {g : Nat → Option Value} : ∀ (l : List UInt8) (o : Nat), (∀ (j : Nat) b, l[j]? = some b → g (o + j) = some (.int .u8 b.toNat)) → RowsIn M g 1 (l.map fun b => [PV.k (.int .u8 b.toNat)]) o
  | [], _, _ => by simp only [List.map_nil, RowsIn]
  | b :: l, o, h => by
    simp only [List.map_cons, RowsIn, RowIn, RepPV]
    refine ⟨rfl, ⟨⟨_, by simpa using h 0 b rfl, rfl, rfl⟩, trivial⟩, bytes_rows l (o + 1) fun j c hj => ?_⟩
    have := h (j + 1) c (by simpa using hj)
    rwa [show o + 1 + j = o + (j + 1) by omega]
theorem L_s2b {id : Nat} {s : ByteArray} {src dst e : TypeId} (hx : okc x (Sr s)) (hs : P.underlying src = some .string) (hd' : P.underlying dst = some (.slice e)) (he : P.underlying e = some (.int .u8)) (hl : s.size ≤ maxLen) :
    Snd P ⟨d, .convert src dst x, ty, ps, af, g⟩ (rq x (Sr s)) [] [id] (.one (.ar id)) [(id, some (.arr 1 (bytesR s)))] := by
  intro C st M ρ a w hH h1 hT hF hd k Q hk
  have e1 := hH.k (ev_of hx h1)
  have hge := grownCap_ge w s.size 0 e
  have hmx := grownCap_le_maxLen w s.size 0 e hl
  have hrun : (execOp a.eval ⟨d, .convert src dst x, ty, ps, af, g⟩).run P w = .ok (.value (.slice (some ⟨w.heap.size, 0, none⟩) s.size (grownCap w s.size 0 e)))
      (w.drew.alloc (.cells (bytesRow s (grownCap w s.size 0 e)) e ((bytesRow s (grownCap w s.size 0 e)).size, (bytesRow s (grownCap w s.size 0 e)).size + 1))) := by
    simp only [execOp, e1, Sem.run_bind, run_bytes_of_string w src dst e s hs hd' he, Result.andThen_ok, Sem.run_pure]
  unfold Oper.wp
  rw [hrun, Oper.upon_value]
  generalize grownCap w s.size 0 e = cap at *
  have hsz : (bytesRow s cap).size = cap := by
    simp only [bytesRow, Array.size_append, Array.size_map, Array.size_replicate]
    have : s.data.size = s.size := rfl
    omega
  have hlen : (bytesR s).length = s.size := by simp only [bytesR, List.length_map, Array.length_toList]; rfl
  have hml : maxLen ≤ 9223372036854775807 := by decide
  generalize hW : w.drew.alloc (.cells (bytesRow s cap) e ((bytesRow s cap).size, (bytesRow s cap).size + 1)) = w'
  have hheap : w'.heap = w.heap.push (.cells (bytesRow s cap) e ((bytesRow s cap).size, (bytesRow s cap).size + 1)) := by rw [← hW]; rfl
  have hR : HoldsR M (upd ρ id (.slice (some ⟨w.heap.size, 0, none⟩) s.size cap)) w' id (.arr 1 (bytesR s)) := by
    refine ⟨some ⟨w.heap.size, 0, none⟩, cap, by rw [upd_same, hlen], by rw [hlen]; exact hge, by omega, .inr ⟨w.heap.size, 0, bytesRow s cap, e, _, rfl, by rw [hheap, Array.getElem?_push_size], fun i hi => ?_, by rw [hsz]; omega, bytes_rows _ 0 fun j b hj => ?_⟩⟩
    · simp only [Bool.and_eq_false_iff, decide_eq_false_iff_not]; omega
    have hlt := (List.getElem?_eq_some_iff.1 hj).1
    rw [Array.length_toList] at hlt
    rw [Array.getElem?_toList] at hj
    rw [Nat.zero_add, bytesRow, Array.getElem?_append_left (by rw [Array.size_map]; exact hlt), Array.getElem?_map, hj]
    rfl
  refine hk _ _ M _ (hH.step none (val := .slice (some ⟨w.heap.size, 0, none⟩) s.size cap) (fun b hb _ => by rw [hheap, Array.getElem?_push, if_neg (by omega)]) (by rw [hheap]; simp) (by rw [← hW]; rfl) (by rw [← hW]; rfl) (by rw [← hW]; rfl)
    (fun b hb => by simp only [Bk, blk, Option.some.injEq] at hb; exact .inl (by omega)) hF.1 hR (by simp only [RepS, RepV]; exact ⟨(upd_same _ _ _).symm, rfl⟩) hd)
end
variable {P : Program} {C : Ctx} {k : List Frm} {n : Nat} {sl : Slots} {tab : Tab} {Q : Exit → St → Prop} {all : Array Oper} {rest : List Oper}
theorem g_s2b {d : Nat} {x : Operand} {src dst e ty : TypeId} {ps : String} {af : Array Edge} {g0 : Option (Nat × Bool)} {gs : Slots} {md : Mode} (hC : C.low) {s : ByteArray}
    (hx : ev sl x = some (Sr s)) (hs : P.underlying src = some .string) (hd' : P.underlying dst = some (.slice e)) (he : P.underlying e = some (.int .u8)) (hl : s.size ≤ 140737488355328) (hm : metL all sl g0 = some gs) (hd : Nat.blt d n = true)
    (hf : (Nat.ble 100 (1000 + d) && freshB (1000 + d) ⟨n, sl, tab⟩) = true)
    (g : Goal P C (.ops all rest (nx md ⟨some d, gs ++ rq x (Sr s), [], [1000 + d], .one (.ar (1000 + d)), [(1000 + d, some (.arr 1 (bytesR s)))]⟩)) k n ((d, .one (.ar (1000 + d))) :: sl) ((1000 + d, some (.arr 1 (bytesR s))) :: tab) Q) :
    Goal P C (.ops all (⟨some d, .convert src dst x, ty, ps, af, g0⟩ :: rest) md) k n sl tab Q := by
  have e1 := of_ev (st := ⟨n, sl, tab⟩) hx
  have hml : 140737488355328 ≤ maxLen := by decide
  have := metL_step hm (L_s2b (P := P) (ty := ty) (ps := ps) (af := af) (g := g0) (d := some d) (id := 1000 + d) e1.1 hs hd' he (by omega)) (n := n) (tab := tab)
  exact g_law (L := ⟨some d, gs ++ rq x (Sr s), [], [1000 + d], .one (.ar (1000 + d)), [(1000 + d, some (.arr 1 (bytesR s)))]⟩) hC this.1 rfl ⟨by rw [okS_append]; exact ⟨this.2, e1.2⟩, trivial, fr_one hf, hd⟩ g
end Hw
/- The engine, part BJ: parts of strings and of slices; interfaces held against nil. -/
namespace Hw
open Go

section
variable {P : Program} {d : Option Nat} {ty : TypeId} {ps : String} {af : Array Edge} {g : Option (Nat × Bool)} {x y z : Operand} {t : TypeId}
theorem L_slMid {a : ByteArray} {i j : Int} {k k' : IntKind} (hx : okc x (Sr a)) (hy : okc y (Kk k i)) (hz : okc z (Kk k' j)) (ht : P.underlying t = some .string) (h0 : 0 ≤ i) (h1 : i ≤ j) (h2 : j ≤ a.size) :
    Snd P ⟨d, .slice t x (some y) (some z) none, ty, ps, af, g⟩ (rq x (Sr a) ++ rq y (Kk k i) ++ rq z (Kk k' j)) [] [] (Sr (a.extract i.toNat j.toNat)) [] :=
  snd_quiet fun C st M ρ b w hH hs _ => by
    rw [okS_append, okS_append] at hs
    have e1 := hH.k (ev_of hx hs.1.1)
    have e2 := hH.k (ev_of hy hs.1.2)
    have e3 := hH.k (ev_of hz hs.2)
    refine ⟨.string (a.extract i.toNat j.toNat), ?_, by simp only [RepS, RepV, RepPV]; exact ⟨trivial, rfl⟩⟩
    simp only [execOp, e1, e2, e3, Option.map_none, Option.map_some, Sem.run_bind, run_sliceAt_string w t _ _ _ _ ht, run_slice_string_if w t a k k' i j ht, if_pos (⟨by omega, h2⟩ : 0 ≤ j ∧ j ≤ (a.size : Int)), if_pos (⟨h0, h1⟩ : 0 ≤ i ∧ i ≤ j), Result.andThen_ok, Sem.run_pure]
/-- A part of a slice that nobody writes. -/
theorem rep_part {M : Mem} {ρ : Nat → Value} {e : Nat} {rows : List (List PV)} {a : Option Addr} {cap l h : Nat} (hr : RepV M ρ (.p (.sl e rows)) (.slice a rows.length cap)) (h1 : l ≤ h) (h2 : h ≤ rows.length) : RepV M ρ (.p (.sl e ((rows.take h).drop l))) (sliced a l h cap e) := by
  simp only [RepV, RepPV] at hr ⊢
  obtain ⟨a', cap', e1, e2, e3, e4⟩ := hr
  simp only [Value.slice.injEq] at e1
  obtain ⟨rfl, _, rfl⟩ := e1
  have hl : ((rows.take h).drop l).length = h - l := by rw [List.length_drop, List.length_take]; omega
  refine ⟨if cap = l then a else a.map (·.add (l * e)), cap - l, by rw [hl]; rfl, by omega, by omega, ?_⟩
  rcases e4 with rfl | ⟨b, o, rfl, e4⟩
  · left
    simp at h2; subst h2
    simp
  · by_cases hc : cap = l
    · left
      exact List.length_eq_zero_iff.1 (by omega)
    · right
      rw [if_neg hc]
      exact ⟨b, o + l * e, by simp [Addr.add], (e4.take h).drop l⟩
theorem elem_of {el : TypeId} {e : Nat} (h : elemSz P t = some (el, e)) : P.underlying t = some (.slice (P.elem t)) ∧ ∀ w : World, (Go.sizeOf (P.elem t)).run P w = .ok e w := by
  obtain ⟨ii, hu, hinf, hsz⟩ := elemSz_spec h
  have he : P.elem t = el := by simp [Program.elem, hu]
  rw [he]
  exact ⟨hu, fun w => by rw [run_sizeOf hinf, hsz]⟩
theorem L_partLH {e : Nat} {rows : List (List PV)} {i j : Int} {k k' : IntKind} {el : TypeId} (hx : okc x (.one (.p (.sl e rows)))) (hy : okc y (Kk k i)) (hz : okc z (Kk k' j)) (he : elemSz P t = some (el, e)) (h0 : 0 ≤ i) (h1 : i ≤ j) (h2 : j ≤ rows.length) :
    Snd P ⟨d, .slice t x (some y) (some z) none, ty, ps, af, g⟩ (rq x (.one (.p (.sl e rows))) ++ rq y (Kk k i) ++ rq z (Kk k' j)) [] [] (.one (.p (.sl e ((rows.take j.toNat).drop i.toNat)))) [] :=
  snd_quiet fun C st M ρ b w hH hs _ => by
    rw [okS_append, okS_append] at hs
    have e1 := hH.evS (ev_of hx hs.1.1)
    have e2 := hH.k (ev_of hy hs.1.2)
    have e3 := hH.k (ev_of hz hs.2)
    simp only [RepS] at e1
    have e1' := e1
    simp only [RepV, RepPV] at e1'
    obtain ⟨a, cap, f1, f2, f3, _⟩ := e1'
    rw [f1] at e1
    obtain ⟨hu, hsz⟩ := elem_of he
    refine ⟨sliced a i.toNat j.toNat cap e, ?_, by simp only [RepS]; exact rep_part e1 (by omega) (by omega)⟩
    simp only [execOp, f1, e2, e3, Option.map_none, Option.map_some, Sem.run_bind, run_sliceAt_slice w t _ _ _ _ hu, run_slice_lh w t a rows.length cap hu k k' i j h0 h1 (by omega), hsz, Result.andThen_ok, Sem.run_pure]
theorem L_partH {e : Nat} {rows : List (List PV)} {j : Int} {k' : IntKind} {el : TypeId} (hx : okc x (.one (.p (.sl e rows)))) (hz : okc z (Kk k' j)) (he : elemSz P t = some (el, e)) (h0 : 0 ≤ j) (h2 : j ≤ rows.length) :
    Snd P ⟨d, .slice t x none (some z) none, ty, ps, af, g⟩ (rq x (.one (.p (.sl e rows))) ++ rq z (Kk k' j)) [] [] (.one (.p (.sl e (rows.take j.toNat)))) [] :=
  snd_quiet fun C st M ρ b w hH hs _ => by
    rw [okS_append] at hs
    have e1 := hH.evS (ev_of hx hs.1)
    have e3 := hH.k (ev_of hz hs.2)
    simp only [RepS] at e1
    have e1' := e1
    simp only [RepV, RepPV] at e1'
    obtain ⟨a, cap, f1, f2, f3, _⟩ := e1'
    rw [f1] at e1
    obtain ⟨hu, hsz⟩ := elem_of he
    refine ⟨sliced a 0 j.toNat cap e, ?_, by simp only [RepS]; have := rep_part e1 (Nat.zero_le j.toNat) (by omega); simpa only [List.drop_zero] using this⟩
    simp only [execOp, f1, e3, Option.map_none, Option.map_some, Sem.run_bind, run_sliceAt_slice w t _ _ _ _ hu, run_slice_h w t a rows.length cap hu k' j h0 (by omega), hsz, Result.andThen_ok, Sem.run_pure]
theorem L_partL {e : Nat} {rows : List (List PV)} {i : Int} {k : IntKind} {el : TypeId} (hx : okc x (.one (.p (.sl e rows)))) (hy : okc y (Kk k i)) (he : elemSz P t = some (el, e)) (h0 : 0 ≤ i) (h2 : i ≤ rows.length) :
    Snd P ⟨d, .slice t x (some y) none none, ty, ps, af, g⟩ (rq x (.one (.p (.sl e rows))) ++ rq y (Kk k i)) [] [] (.one (.p (.sl e (rows.drop i.toNat)))) [] :=
  snd_quiet fun C st M ρ b w hH hs _ => by
    rw [okS_append] at hs
    have e1 := hH.evS (ev_of hx hs.1)
    have e2 := hH.k (ev_of hy hs.2)
    simp only [RepS] at e1
    have e1' := e1
    simp only [RepV, RepPV] at e1'
    obtain ⟨a, cap, f1, f2, f3, _⟩ := e1'
    rw [f1] at e1
    obtain ⟨hu, hsz⟩ := elem_of he
    refine ⟨sliced a i.toNat rows.length cap e, ?_, by simp only [RepS]; have := rep_part e1 (l := i.toNat) (h := rows.length) (by omega) (Nat.le_refl _); rwa [List.take_length] at this⟩
    simp only [execOp, f1, e2, Option.map_none, Option.map_some, Sem.run_bind, run_sliceAt_slice w t _ _ _ _ hu, run_slice_l w t a rows.length cap hu k i h0 (by omega), hsz, Result.andThen_ok, Sem.run_pure]
/-- An element of an array's value, the elements of one cell. -/
theorem L_index1 {vs : List V} {len : Nat} {el : TypeId} {i : Int} {k : IntKind} {v : V} (hx : okc x (.agg vs)) (hy : okc y (Kk k i)) (ht : P.underlying t = some (.array len el)) (he : (P.info? el).map (·.size) = some 1) (hs : shp P el = some none) (h0 : 0 ≤ i) (hi : i < len) (hv : vs[i.toNat]? = some v) :
    Snd P ⟨d, .index t x y, ty, ps, af, g⟩ (rq x (.agg vs) ++ rq y (Kk k i)) [] [] (.one v) [] :=
  snd_quiet fun C st M ρ a w hH h1 _ => by
    rw [okS_append] at h1
    have e1 := hH.evS (ev_of hx h1.1)
    have e2 := hH.k (ev_of hy h1.2)
    simp only [RepS] at e1
    obtain ⟨cs, e1, e3⟩ := e1
    obtain ⟨ii, hinf, hsz⟩ := Option.map_eq_some_iff.1 he
    obtain ⟨c, c1, c2⟩ := repVs_at e3 hv
    refine ⟨c, ?_, by simp only [RepS]; exact c2⟩
    simp only [execOp, e1, e2, Instr.index, asIntOf, Sem.run_bind, Sem.run_pure, Result.andThen_ok, run_underlying ht]
    rw [if_pos ⟨h0, hi⟩]
    simp [part, run_isAgg_one hs, run_sizeOf hinf, hsz, c1]
def isIfc (P : Program) (t : TypeId) : Bool := match P.underlying t with
  | some (.interface _) => true
  | _ => false
theorem isIfc_spec {P : Program} {t : TypeId} (h : isIfc P t = true) : ∃ ms, P.underlying t = some (.interface ms) := by
  unfold isIfc at h
  split at h
  · rename_i ms e; exact ⟨ms, e⟩
  · cases h
/-- An interface that holds something, against nil. -/
theorem L_ifc {t' : TypeId} {id : Nat} {neg : Bool} (hx : okc x (.one (.ar id))) (ht : isIfc P t = true) :
    Snd P ⟨d, .binOp (if neg = true then .neq else .eql) t x (.const .nilIface) t', ty, ps, af, g⟩ (rq x (.one (.ar id))) [(id, .ifc)] [] (Bo neg) [] :=
  snd_quiet fun C st M ρ a w hH h1 hT => by
    obtain ⟨ms, ht⟩ := isIfc_spec ht
    have e1 := hH.evS (ev_of hx h1)
    simp only [RepS, RepV] at e1
    obtain ⟨te, pe, hv⟩ := hH.tabs.res id _ hT.1
    rw [hv] at e1
    have h : ∀ q : Nat, (Op.equalIn (q + 1) t (.iface te pe) .nilIface).run P w = .ok false w := fun q => by simp [Op.equalIn, run_underlying ht]
    have e0 : a.eval (.const .nilIface) = .nilIface := rfl
    refine ⟨.bool neg, ?_, repB neg⟩
    cases neg with
    | true =>
      simp only [execOp, if_true, e1.1, e0, Sem.run_bind]
      simp [eqGuard, binOp, Op.equal, Op.maxDepth, h 9999, Sem.run_pure]
    | false =>
      simp only [execOp, Bool.false_eq_true, if_false, e1.1, e0, Sem.run_bind]
      simp [eqGuard, binOp, Op.equal, Op.maxDepth, h 9999, Sem.run_pure]
theorem L_ifn {t' : TypeId} {neg : Bool} (hx : okc x (.one (.p (.k .nilIface)))) (ht : isIfc P t = true) :
    Snd P ⟨d, .binOp (if neg = true then .neq else .eql) t x (.const .nilIface) t', ty, ps, af, g⟩ (rq x (.one (.p (.k .nilIface)))) [] [] (Bo (!neg)) [] :=
  snd_quiet fun C st M ρ a w hH h1 hT => by
    obtain ⟨ms, ht⟩ := isIfc_spec ht
    have e1 := hH.evS (ev_of hx h1)
    simp only [RepS, RepV, RepPV] at e1
    have h : ∀ q : Nat, (Op.equalIn (q + 1) t .nilIface .nilIface).run P w = .ok true w := fun q => by simp [Op.equalIn, run_underlying ht]
    have e0 : a.eval (.const .nilIface) = .nilIface := rfl
    refine ⟨.bool (!neg), ?_, repB (!neg)⟩
    cases neg with
    | true =>
      simp only [execOp, if_true, e1.1, e0, Sem.run_bind]
      simp [eqGuard, binOp, Op.equal, Op.maxDepth, h 9999, Sem.run_pure]
    | false =>
      simp only [execOp, Bool.false_eq_true, if_false, e1.1, e0, Sem.run_bind]
      simp [eqGuard, binOp, Op.equal, Op.maxDepth, h 9999, Sem.run_pure]
end
section
variable {P : Program} {C : Ctx} {k : List Frm} {n : Nat} {sl : Slots} {tab : Tab} {Q : Exit → St → Prop} {all : Array Oper} {rest : List Oper}
theorem g_slMid {d : Nat} {x y z : Operand} {t ty : TypeId} {ps : String} {af : Array Edge} {g0 : Option (Nat × Bool)} {gs : Slots} {md : Mode} (hC : C.low) {a : ByteArray} {i j : Int} {k0 k1 : IntKind}
    (hx : ev sl x = some (Sr a)) (hy : ev sl y = some (Kk k0 i)) (hz : ev sl z = some (Kk k1 j)) (ht : P.underlying t = some .string) (h0 : 0 ≤ i) (h1 : i ≤ j) (h2 : j ≤ a.size) (hm : metL all sl g0 = some gs) (hd : Nat.blt d n = true)
    (g : Goal P C (.ops all rest (nx md ⟨some d, gs ++ (rq x (Sr a) ++ rq y (Kk k0 i) ++ rq z (Kk k1 j)), [], [], Sr (a.extract i.toNat j.toNat), []⟩)) k n ((d, Sr (a.extract i.toNat j.toNat)) :: sl) tab Q) :
    Goal P C (.ops all (⟨some d, .slice t x (some y) (some z) none, ty, ps, af, g0⟩ :: rest) md) k n sl tab Q := by
  have e1 := of_ev (st := ⟨n, sl, tab⟩) hx
  have e2 := of_ev (st := ⟨n, sl, tab⟩) hy
  have e3 := of_ev (st := ⟨n, sl, tab⟩) hz
  have := metL_step hm (L_slMid (P := P) (ty := ty) (ps := ps) (af := af) (g := g0) (d := some d) (t := t) e1.1 e2.1 e3.1 ht h0 h1 h2) (n := n) (tab := tab)
  exact g_law (L := ⟨some d, gs ++ (rq x (Sr a) ++ rq y (Kk k0 i) ++ rq z (Kk k1 j)), [], [], Sr (a.extract i.toNat j.toNat), []⟩) hC this.1 rfl ⟨by rw [okS_append, okS_append, okS_append]; exact ⟨this.2, ⟨e1.2, e2.2⟩, e3.2⟩, trivial, rfl, hd⟩ g
theorem g_index1 {d : Nat} {x y : Operand} {t ty : TypeId} {ps : String} {af : Array Edge} {g0 : Option (Nat × Bool)} {gs : Slots} {md : Mode} (hC : C.low) {vs : List V} {len : Nat} {el : TypeId} {k0 : IntKind} {i : Int} {v : V}
    (hx : ev sl x = some (.agg vs)) (hy : ev sl y = some (Kk k0 i)) (ht : P.underlying t = some (.array len el)) (he : (P.info? el).map (·.size) = some 1) (hs : shp P el = some none) (h0 : 0 ≤ i) (hi : i < len) (hv : vs[i.toNat]? = some v) (hm : metL all sl g0 = some gs) (hd : Nat.blt d n = true)
    (g : Goal P C (.ops all rest (nx md ⟨some d, gs ++ (rq x (.agg vs) ++ rq y (Kk k0 i)), [], [], .one v, []⟩)) k n ((d, .one v) :: sl) tab Q) :
    Goal P C (.ops all (⟨some d, .index t x y, ty, ps, af, g0⟩ :: rest) md) k n sl tab Q := by
  have e1 := of_ev (st := ⟨n, sl, tab⟩) hx
  have e2 := of_ev (st := ⟨n, sl, tab⟩) hy
  have := metL_step hm (L_index1 (P := P) (ty := ty) (ps := ps) (af := af) (g := g0) (d := some d) (t := t) e1.1 e2.1 ht he hs h0 hi hv) (n := n) (tab := tab)
  exact g_law (L := ⟨some d, gs ++ (rq x (.agg vs) ++ rq y (Kk k0 i)), [], [], .one v, []⟩) hC this.1 rfl ⟨by rw [okS_append, okS_append]; exact ⟨this.2, e1.2, e2.2⟩, trivial, rfl, hd⟩ g
theorem g_partLH (T : Ty P) {d : Nat} {x y z : Operand} {t ty : TypeId} {ps : String} {af : Array Edge} {g0 : Option (Nat × Bool)} {gs : Slots} {md : Mode} (hC : C.low) {e : Nat} {rows : List (List PV)} (rows' : List (List PV)) {i j : Int} {k0 k1 : IntKind} {el : TypeId}
    (hx : ev sl x = some (.one (.p (.sl e rows)))) (hy : ev sl y = some (Kk k0 i)) (hz : ev sl z = some (Kk k1 j)) (he : T.es t = some (el, e)) (h0 : 0 ≤ i) (h1 : i ≤ j) (h2 : j ≤ rows.length) (hr : (rows.take j.toNat).drop i.toNat = rows') (hm : metL all sl g0 = some gs) (hd : Nat.blt d n = true)
    (g : Goal P C (.ops all rest (nx md ⟨some d, gs ++ (rq x (.one (.p (.sl e rows))) ++ rq y (Kk k0 i) ++ rq z (Kk k1 j)), [], [], .one (.p (.sl e rows')), []⟩)) k n ((d, .one (.p (.sl e rows'))) :: sl) tab Q) :
    Goal P C (.ops all (⟨some d, .slice t x (some y) (some z) none, ty, ps, af, g0⟩ :: rest) md) k n sl tab Q := by
  subst hr
  have e1 := of_ev (st := ⟨n, sl, tab⟩) hx
  have e2 := of_ev (st := ⟨n, sl, tab⟩) hy
  have e3 := of_ev (st := ⟨n, sl, tab⟩) hz
  have := metL_step hm (L_partLH (P := P) (ty := ty) (ps := ps) (af := af) (g := g0) (d := some d) (t := t) e1.1 e2.1 e3.1 (T.es_ok _ _ he) h0 h1 h2) (n := n) (tab := tab)
  exact g_law (L := ⟨some d, gs ++ (rq x (.one (.p (.sl e rows))) ++ rq y (Kk k0 i) ++ rq z (Kk k1 j)), [], [], .one (.p (.sl e ((rows.take j.toNat).drop i.toNat))), []⟩) hC this.1 rfl ⟨by rw [okS_append, okS_append, okS_append]; exact ⟨this.2, ⟨e1.2, e2.2⟩, e3.2⟩, trivial, rfl, hd⟩ g
theorem g_partH (T : Ty P) {d : Nat} {x z : Operand} {t ty : TypeId} {ps : String} {af : Array Edge} {g0 : Option (Nat × Bool)} {gs : Slots} {md : Mode} (hC : C.low) {e : Nat} {rows : List (List PV)} (rows' : List (List PV)) {j : Int} {k1 : IntKind} {el : TypeId}
    (hx : ev sl x = some (.one (.p (.sl e rows)))) (hz : ev sl z = some (Kk k1 j)) (he : T.es t = some (el, e)) (h0 : 0 ≤ j) (h2 : j ≤ rows.length) (hr : rows.take j.toNat = rows') (hm : metL all sl g0 = some gs) (hd : Nat.blt d n = true)
    (g : Goal P C (.ops all rest (nx md ⟨some d, gs ++ (rq x (.one (.p (.sl e rows))) ++ rq z (Kk k1 j)), [], [], .one (.p (.sl e rows')), []⟩)) k n ((d, .one (.p (.sl e rows'))) :: sl) tab Q) :
    Goal P C (.ops all (⟨some d, .slice t x none (some z) none, ty, ps, af, g0⟩ :: rest) md) k n sl tab Q := by
  subst hr
  have e1 := of_ev (st := ⟨n, sl, tab⟩) hx
  have e3 := of_ev (st := ⟨n, sl, tab⟩) hz
  have := metL_step hm (L_partH (P := P) (ty := ty) (ps := ps) (af := af) (g := g0) (d := some d) (t := t) e1.1 e3.1 (T.es_ok _ _ he) h0 h2) (n := n) (tab := tab)
  exact g_law (L := ⟨some d, gs ++ (rq x (.one (.p (.sl e rows))) ++ rq z (Kk k1 j)), [], [], .one (.p (.sl e (rows.take j.toNat))), []⟩) hC this.1 rfl ⟨by rw [okS_append, okS_append]; exact ⟨this.2, e1.2, e3.2⟩, trivial, rfl, hd⟩ g
theorem g_partL (T : Ty P) {d : Nat} {x y : Operand} {t ty : TypeId} {ps : String} {af : Array Edge} {g0 : Option (Nat × Bool)} {gs : Slots} {md : Mode} (hC : C.low) {e : Nat} {rows : List (List PV)} (rows' : List (List PV)) {i : Int} {k0 : IntKind} {el : TypeId}
    (hx : ev sl x = some (.one (.p (.sl e rows)))) (hy : ev sl y = some (Kk k0 i)) (he : T.es t = some (el, e)) (h0 : 0 ≤ i) (h2 : i ≤ rows.length) (hr : rows.drop i.toNat = rows') (hm : metL all sl g0 = some gs) (hd : Nat.blt d n = true)
    (g : Goal P C (.ops all rest (nx md ⟨some d, gs ++ (rq x (.one (.p (.sl e rows))) ++ rq y (Kk k0 i)), [], [], .one (.p (.sl e rows')), []⟩)) k n ((d, .one (.p (.sl e rows'))) :: sl) tab Q) :
    Goal P C (.ops all (⟨some d, .slice t x (some y) none none, ty, ps, af, g0⟩ :: rest) md) k n sl tab Q := by
  subst hr
  have e1 := of_ev (st := ⟨n, sl, tab⟩) hx
  have e2 := of_ev (st := ⟨n, sl, tab⟩) hy
  have := metL_step hm (L_partL (P := P) (ty := ty) (ps := ps) (af := af) (g := g0) (d := some d) (t := t) e1.1 e2.1 (T.es_ok _ _ he) h0 h2) (n := n) (tab := tab)
  exact g_law (L := ⟨some d, gs ++ (rq x (.one (.p (.sl e rows))) ++ rq y (Kk k0 i)), [], [], .one (.p (.sl e (rows.drop i.toNat))), []⟩) hC this.1 rfl ⟨by rw [okS_append, okS_append]; exact ⟨this.2, e1.2, e2.2⟩, trivial, rfl, hd⟩ g
theorem g_ifcE {d : Nat} {x : Operand} {t t' ty : TypeId} {ps : String} {af : Array Edge} {g0 : Option (Nat × Bool)} {gs : Slots} {md : Mode} (hC : C.low) {id : Nat}
    (hx : ev sl x = some (.one (.ar id))) (hT : tg tab id = some .ifc) (ht : isIfc P t = true) (hm : metL all sl g0 = some gs) (hd : Nat.blt d n = true)
    (g : Goal P C (.ops all rest (nx md ⟨some d, gs ++ rq x (.one (.ar id)), [(id, .ifc)], [], Bo false, []⟩)) k n ((d, Bo false) :: sl) tab Q) :
    Goal P C (.ops all (⟨some d, .binOp .eql t x (.const .nilIface) t', ty, ps, af, g0⟩ :: rest) md) k n sl tab Q := by
  have e1 := of_ev (st := ⟨n, sl, tab⟩) hx
  have := metL_step hm (L_ifc (P := P) (neg := false) (ty := ty) (ps := ps) (af := af) (g := g0) (d := some d) (t' := t') e1.1 ht) (n := n) (tab := tab)
  exact g_law (L := ⟨some d, gs ++ rq x (.one (.ar id)), [(id, .ifc)], [], Bo false, []⟩) hC this.1 rfl ⟨by rw [okS_append]; exact ⟨this.2, e1.2⟩, ⟨hT, trivial⟩, rfl, hd⟩ g
theorem g_ifcN {d : Nat} {x : Operand} {t t' ty : TypeId} {ps : String} {af : Array Edge} {g0 : Option (Nat × Bool)} {gs : Slots} {md : Mode} (hC : C.low) {id : Nat}
    (hx : ev sl x = some (.one (.ar id))) (hT : tg tab id = some .ifc) (ht : isIfc P t = true) (hm : metL all sl g0 = some gs) (hd : Nat.blt d n = true)
    (g : Goal P C (.ops all rest (nx md ⟨some d, gs ++ rq x (.one (.ar id)), [(id, .ifc)], [], Bo true, []⟩)) k n ((d, Bo true) :: sl) tab Q) :
    Goal P C (.ops all (⟨some d, .binOp .neq t x (.const .nilIface) t', ty, ps, af, g0⟩ :: rest) md) k n sl tab Q := by
  have e1 := of_ev (st := ⟨n, sl, tab⟩) hx
  have := metL_step hm (L_ifc (P := P) (neg := true) (ty := ty) (ps := ps) (af := af) (g := g0) (d := some d) (t' := t') e1.1 ht) (n := n) (tab := tab)
  exact g_law (L := ⟨some d, gs ++ rq x (.one (.ar id)), [(id, .ifc)], [], Bo true, []⟩) hC this.1 rfl ⟨by rw [okS_append]; exact ⟨this.2, e1.2⟩, ⟨hT, trivial⟩, rfl, hd⟩ g
theorem g_ifnE {d : Nat} {x : Operand} {t t' ty : TypeId} {ps : String} {af : Array Edge} {g0 : Option (Nat × Bool)} {gs : Slots} {md : Mode} (hC : C.low)
    (hx : ev sl x = some (.one (.p (.k .nilIface)))) (ht : isIfc P t = true) (hm : metL all sl g0 = some gs) (hd : Nat.blt d n = true)
    (g : Goal P C (.ops all rest (nx md ⟨some d, gs ++ rq x (.one (.p (.k .nilIface))), [], [], Bo true, []⟩)) k n ((d, Bo true) :: sl) tab Q) :
    Goal P C (.ops all (⟨some d, .binOp .eql t x (.const .nilIface) t', ty, ps, af, g0⟩ :: rest) md) k n sl tab Q := by
  have e1 := of_ev (st := ⟨n, sl, tab⟩) hx
  have := metL_step hm (L_ifn (P := P) (neg := false) (ty := ty) (ps := ps) (af := af) (g := g0) (d := some d) (t' := t') e1.1 ht) (n := n) (tab := tab)
  exact g_law (L := ⟨some d, gs ++ rq x (.one (.p (.k .nilIface))), [], [], Bo true, []⟩) hC this.1 rfl ⟨by rw [okS_append]; exact ⟨this.2, e1.2⟩, trivial, rfl, hd⟩ g
theorem g_ifnN {d : Nat} {x : Operand} {t t' ty : TypeId} {ps : String} {af : Array Edge} {g0 : Option (Nat × Bool)} {gs : Slots} {md : Mode} (hC : C.low)
    (hx : ev sl x = some (.one (.p (.k .nilIface)))) (ht : isIfc P t = true) (hm : metL all sl g0 = some gs) (hd : Nat.blt d n = true)
    (g : Goal P C (.ops all rest (nx md ⟨some d, gs ++ rq x (.one (.p (.k .nilIface))), [], [], Bo false, []⟩)) k n ((d, Bo false) :: sl) tab Q) :
    Goal P C (.ops all (⟨some d, .binOp .neq t x (.const .nilIface) t', ty, ps, af, g0⟩ :: rest) md) k n sl tab Q := by
  have e1 := of_ev (st := ⟨n, sl, tab⟩) hx
  have := metL_step hm (L_ifn (P := P) (neg := true) (ty := ty) (ps := ps) (af := af) (g := g0) (d := some d) (t' := t') e1.1 ht) (n := n) (tab := tab)
  exact g_law (L := ⟨some d, gs ++ rq x (.one (.p (.k .nilIface))), [], [], Bo false, []⟩) hC this.1 rfl ⟨by rw [okS_append]; exact ⟨this.2, e1.2⟩, trivial, rfl, hd⟩ g
end
end Hw
