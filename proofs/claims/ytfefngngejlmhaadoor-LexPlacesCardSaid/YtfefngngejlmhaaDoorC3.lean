/- The engine, part BI: structs of numbers and strings, compared; interfaces held against nil. -/
import Derived.Test.YtfefngngejlmhaaDoorC2
import Derived.Laws.StructEq
import Derived.Laws.Strings3
import Derived.Laws.IdiomStrings
import Derived.Laws.DeepStrings4
import Derived.Shelf.Strings.BuilderK
set_option linter.unusedVariables false
set_option linter.unusedSimpArgs false
namespace Hw
open Go

/-! Structs of numbers and strings -/
inductive Sc where
  | i (k : IntKind) (n : Int)
  | s (b : ByteArray)
  deriving DecidableEq
def Sc.v : Sc → Value
  | .i k n => .int k n
  | .s b => .string b
def Sc.V (c : Sc) : V := .p (.k c.v)
inductive SK where
  | i (k : IntKind)
  | s
def okSK : SK → Sc → Bool
  | .i k, .i k' _ => decide (k = k')
  | .s, .s _ => true
  | _, _ => false
def okSKs : List SK → List Sc → Bool
  | [], [] => true
  | k :: ks, c :: cs => okSK k c && okSKs ks cs
  | _, _ => false
def isStc (P : Program) (t : TypeId) : Bool := match P.underlying t with
  | some (.struct _) => true
  | _ => false
def eqFs (P : Program) (r : TypeId → Option (List SK)) : List Field → Nat → Option (List SK)
  | [], _ => some []
  | f :: fs, off => match decide (f.name ≠ "_") && Nat.beq f.offset off with
    | true => match r f.type with
      | some l => match !isStc P f.type || decide ((P.info? f.type).map (·.size) = some l.length) with
        | true => match eqFs P r fs (off + l.length) with
          | some l' => some (l ++ l')
          | none => none
        | false => none
      | none => none
    | false => none
def eqSh (P : Program) : Nat → TypeId → Option (List SK)
  | 0, _ => none
  | f + 1, t => match P.underlying t with
    | some (.int k) => some [.i k]
    | some .string => some [.s]
    | some (.struct fs) => match P.stoodInHeld t with
      | true => none
      | false => eqFs P (eqSh P f) fs.toList 0
    | _ => none
theorem okSKs_len : ∀ {l : List SK} {cs : List Sc}, okSKs l cs = true → cs.length = l.length
  | [], [], _ => rfl
  | [], _ :: _, h => by simp [okSKs] at h
  | _ :: _, [], h => by simp [okSKs] at h
  | k :: ks, c :: cs, h => by simp only [okSKs, Bool.and_eq_true] at h; simp [okSKs_len h.2]
theorem okSKs_split : ∀ {l l' : List SK} {cs : List Sc}, okSKs (l ++ l') cs = true → okSKs l (cs.take l.length) = true ∧ okSKs l' (cs.drop l.length) = true
  | [], _, cs, h => by simp only [List.nil_append] at h; simp [okSKs, h]
  | _ :: _, _, [], h => by simp [okSKs] at h
  | k :: ks, l', c :: cs, h => by
    simp only [List.cons_append, okSKs, Bool.and_eq_true] at h
    have := okSKs_split h.2
    simp only [List.length_cons, List.take_succ_cons, List.drop_succ_cons, okSKs, h.1, this.1, this.2, Bool.and_self, and_self]
/-- A value of such a type, out of its cells. -/
def valSc (P : Program) (t : TypeId) (cs : List Sc) : Value := if isStc P t = true then .agg (cs.map Sc.v).toArray else match cs with
  | c :: _ => c.v
  | [] => undef
theorem equal_flat {P : Program} : ∀ (f : Nat) (t : TypeId) (l : List SK), eqSh P f t = some l → ∀ (d : Nat), f ≤ d → ∀ (a b : List Sc), okSKs l a = true → okSKs l b = true → ∀ w : World,
    (Op.equalIn d t (valSc P t a) (valSc P t b)).run P w = .ok (decide (a = b)) w := by
  intro f
  induction f with
  | zero => intro t l h; cases h
  | succ f ih =>
  intro t l h d hd a b ha hb w
  obtain ⟨d, rfl⟩ : ∃ d', d = d' + 1 := ⟨d - 1, by omega⟩
  simp only [eqSh] at h
  split at h
  · rename_i k hu
    simp only [Option.some.injEq] at h; subst h
    match a, b, ha, hb with
    | [.i k1 x], [.i k2 y], ha, hb =>
      simp only [okSKs, okSK, Bool.and_true, decide_eq_true_eq] at ha hb
      subst ha; subst hb
      have hs : isStc P t = false := by simp [isStc, hu]
      simp only [valSc, hs, Bool.false_eq_true, if_false, Sc.v]
      rw [run_equalIn_int w d t k k x y hu]
      by_cases e : x = y
      · subst e; simp
      · simp [e]
    | [.s _], _, ha, _ => simp [okSKs, okSK] at ha
    | [], _, ha, _ => simp [okSKs] at ha
    | _ :: _ :: _, _, ha, _ => simp [okSKs] at ha
    | [.i _ _], [.s _], _, hb => simp [okSKs, okSK] at hb
    | [.i _ _], [], _, hb => simp [okSKs] at hb
    | [.i _ _], _ :: _ :: _, _, hb => simp [okSKs] at hb
  · rename_i hu
    simp only [Option.some.injEq] at h; subst h
    match a, b, ha, hb with
    | [.s x], [.s y], ha, hb =>
      have hs : isStc P t = false := by simp [isStc, hu]
      simp only [valSc, hs, Bool.false_eq_true, if_false, Sc.v]
      rw [run_equalIn_string w d t x y hu, ← beq_toListBytes, bytes_eq]
      by_cases e : x = y
      · subst e; simp
      · simp [e]
    | [.i _ _], _, ha, _ => simp [okSKs, okSK] at ha
    | [], _, ha, _ => simp [okSKs] at ha
    | _ :: _ :: _, _, ha, _ => simp [okSKs] at ha
    | [.s _], [.i _ _], _, hb => simp [okSKs, okSK] at hb
    | [.s _], [], _, hb => simp [okSKs] at hb
    | [.s _], _ :: _ :: _, _, hb => simp [okSKs] at hb
  · rename_i fs hu
    split at h
    · cases h
    · rename_i hst
      have hF : P.fieldsOf t = fs := by simp [Program.fieldsOf, hu]
      have hs : isStc P t = true := by simp [isStc, hu]
      simp only [valSc, hs, if_true]
      rw [run_equalIn_agg w d t _ _ (by rw [hF]; exact hu) hst, hF]
      -- field by field
      have key : ∀ (fl : List Field) (off : Nat) (l' : List SK), eqFs P (eqSh P f) fl off = some l' → ∀ a0 b0 : List Sc, off ≤ a0.length → off ≤ b0.length → okSKs l' (a0.drop off) = true → okSKs l' (b0.drop off) = true →
          (Op.eqFields d (a0.map Sc.v).toArray (b0.map Sc.v).toArray fl).run P w = .ok (decide (a0.drop off = b0.drop off)) w := by
        intro fl
        induction fl with
        | nil =>
          intro off l' hl a0 b0 _ _ h1 h2
          simp only [eqFs, Option.some.injEq] at hl; subst hl
          have e1 : a0.drop off = [] := List.eq_nil_of_length_eq_zero (okSKs_len h1)
          have e2 : b0.drop off = [] := List.eq_nil_of_length_eq_zero (okSKs_len h2)
          simp [Op.eqFields, e1, e2]
        | cons fd fl ihf =>
          intro off l' hl a0 b0 ho1 ho2 h1 h2
          simp only [eqFs] at hl
          split at hl
          · rename_i hname
            simp only [Bool.and_eq_true, decide_eq_true_eq] at hname
            have hoff := Nat.eq_of_beq_eq_true hname.2
            split at hl
            · rename_i lf hlf
              split at hl
              · rename_i hsz
                split at hl
                · rename_i lr hlr
                  simp only [Option.some.injEq] at hl; subst hl
                  obtain ⟨a1, a2⟩ := okSKs_split h1
                  obtain ⟨b1, b2⟩ := okSKs_split h2
                  have al := okSKs_len a1
                  have bl := okSKs_len b1
                  simp only [List.length_take, List.length_drop] at al bl
                  have hpart : ∀ c0 : List Sc, off + lf.length ≤ c0.length → okSKs lf ((c0.drop off).take lf.length) = true → (part fd.type (c0.map Sc.v).toArray fd.offset).run P w = .ok (valSc P fd.type ((c0.drop off).take lf.length)) w := fun c0 hc0 hok => by
                    rw [hoff]
                    cases hstr : isStc P fd.type with
                    | true =>
                      obtain ⟨fs', hu'⟩ : ∃ fs', P.underlying fd.type = some (.struct fs') := by
                        unfold isStc at hstr
                        split at hstr
                        · rename_i fs' e; exact ⟨fs', e⟩
                        · cases hstr
                      rw [hstr] at hsz
                      simp only [Bool.not_true, Bool.false_or, decide_eq_true_eq, Option.map_eq_some_iff] at hsz
                      obtain ⟨ii, hii, hsz⟩ := hsz
                      simp only [part, isAgg, Sem.run_bind, run_underlying hu', Result.andThen_ok, Sem.run_pure, if_true, run_sizeOf hii, hsz, valSc, hstr]
                      congr 2
                      apply Array.ext'
                      simp only [Array.toList_extract, List.extract_eq_take_drop, List.map_take, List.map_drop]
                      rw [Nat.add_sub_cancel_left]
                    | false =>
                      have hna : (isAgg fd.type).run P w = .ok false w := by
                        cases f with
                        | zero => cases hlf
                        | succ f' =>
                          simp only [eqSh] at hlf
                          split at hlf
                          · rename_i hu'; simp [isAgg, run_underlying hu']
                          · rename_i hu'; simp [isAgg, run_underlying hu']
                          · rename_i hu'; simp [isStc, hu'] at hstr
                          · cases hlf
                      have h1l : lf.length = 1 := by
                        cases f with
                        | zero => cases hlf
                        | succ f' =>
                          simp only [eqSh] at hlf
                          split at hlf
                          · simp only [Option.some.injEq] at hlf; subst hlf; rfl
                          · simp only [Option.some.injEq] at hlf; subst hlf; rfl
                          · rename_i hu'; simp [isStc, hu'] at hstr
                          · cases hlf
                      obtain ⟨c, hc⟩ : ∃ c, c0[off]? = some c := ⟨c0[off]'(by omega), List.getElem?_eq_getElem (by omega)⟩
                      have ht : (c0.drop off).take lf.length = [c] := by
                        rw [h1l, List.take_one, List.head?_drop, hc]; rfl
                      simp only [part, Sem.run_bind, hna, Result.andThen_ok, Bool.false_eq_true, if_false, List.getElem?_toArray, List.getElem?_map, hc, Option.map_some, Sem.run_pure, ht, valSc, hstr]
                  have hq := ih fd.type lf hlf d (by omega) _ _ a1 b1 w
                  simp only [Op.eqFields, if_pos hname.1, Sem.run_bind, hpart a0 (by omega) a1, hpart b0 (by omega) b1, hq, Result.andThen_ok, Sem.run_ite]
                  have hcat : ∀ c0 : List Sc, c0.drop off = (c0.drop off).take lf.length ++ c0.drop (off + lf.length) := fun c0 => by
                    rw [← List.drop_drop, List.take_append_drop]
                  rw [List.drop_drop] at a2 b2
                  by_cases e : (a0.drop off).take lf.length = (b0.drop off).take lf.length
                  · rw [decide_eq_true e]
                    simp only [Bool.not_true, Bool.false_eq_true, if_false]
                    rw [ihf _ _ hlr a0 b0 (by omega) (by omega) a2 b2]
                    congr 1
                    have : (a0.drop off = b0.drop off) ↔ (a0.drop (off + lf.length) = b0.drop (off + lf.length)) := by
                      rw [hcat a0, hcat b0, e]
                      exact ⟨fun h => List.append_cancel_left h, fun h => by rw [h]⟩
                    exact decide_eq_decide.2 this.symm
                  · rw [decide_eq_false e]
                    simp only [Bool.not_false, if_true, Sem.run_pure]
                    congr 1
                    refine (decide_eq_false fun h => e ?_).symm
                    rw [h]
                · cases hl
              · cases hl
            · cases hl
          · cases hl
      have := key fs.toList 0 l h a b (Nat.zero_le _) (Nat.zero_le _) (by simpa using ha) (by simpa using hb)
      simpa using this
  · cases h
section
variable {P : Program} {d : Option Nat} {ty : TypeId} {ps : String} {af : Array Edge} {g : Option (Nat × Bool)} {x y : Operand} {t : TypeId}
theorem rep_sc {M : Mem} {ρ : Nat → Value} : ∀ {a : List Sc} {cs : List Value}, RepVs M ρ (a.map Sc.V) cs → cs = a.map Sc.v
  | [], [], _ => rfl
  | [], _ :: _, h => by simp only [List.map_nil, RepVs] at h
  | _ :: _, [], h => by simp only [List.map_cons, RepVs] at h
  | c :: a, v :: cs, h => by
    simp only [List.map_cons, Sc.V, RepVs, RepV, RepPV] at h
    rw [h.1.1, rep_sc h.2]; rfl
/-- Structs of numbers and strings, held against one another. -/
theorem L_eqF {t' : TypeId} {neg : Bool} {l : List SK} {a b : List Sc} (hx : okc x (.agg (a.map Sc.V))) (hy : okc y (.agg (b.map Sc.V))) (hs : isStc P t = true) (h : eqSh P 8 t = some l) (ha : okSKs l a = true) (hb : okSKs l b = true) (hg : P.eqGuardType P.depth t = false) :
    Snd P ⟨d, .binOp (if neg = true then .neq else .eql) t x y t', ty, ps, af, g⟩ (rq x (.agg (a.map Sc.V)) ++ rq y (.agg (b.map Sc.V))) [] [] (.bq (if neg = true then !decide (a = b) else decide (a = b))) [] :=
  snd_quiet fun C st M ρ ac w hH h1 _ => by
    rw [okS_append] at h1
    have e1 := hH.evS (ev_of hx h1.1)
    have e2 := hH.evS (ev_of hy h1.2)
    simp only [RepS] at e1 e2
    obtain ⟨cs, e1, f1⟩ := e1
    obtain ⟨ds, e2, f2⟩ := e2
    rw [rep_sc f1] at e1
    rw [rep_sc f2] at e2
    have hq := equal_flat 8 t l h 10000 (by omega) a b ha hb w
    simp only [valSc, hs, if_true] at hq
    cases neg with
    | true =>
      refine ⟨.bool (!decide (a = b)), ?_, by simp only [RepS, if_true]⟩
      simp only [execOp, if_true, e1, e2, Sem.run_bind, run_eqGuard_agg w _ t x y _ _ hg, Result.andThen_ok, run_neq_struct, hq, Sem.run_pure]
    | false =>
      refine ⟨.bool (decide (a = b)), ?_, by simp only [RepS, Bool.false_eq_true, if_false]⟩
      simp only [execOp, Bool.false_eq_true, if_false, e1, e2, Sem.run_bind, run_eqGuard_agg w _ t x y _ _ hg, Result.andThen_ok, run_eql_struct, hq, Sem.run_pure]
end
section
variable {P : Program} {C : Ctx} {k : List Frm} {n : Nat} {sl : Slots} {tab : Tab} {Q : Exit → St → Prop} {all : Array Oper} {rest : List Oper}
theorem g_eqF {d : Nat} {x y : Operand} {t t' ty : TypeId} {ps : String} {af : Array Edge} {g0 : Option (Nat × Bool)} {gs : Slots} {md : Mode} (hC : C.low) (l : List SK) (a b : List Sc)
    (hx : ev sl x = some (.agg (a.map Sc.V))) (hy : ev sl y = some (.agg (b.map Sc.V))) (hs : isStc P t = true) (h : eqSh P 8 t = some l) (ha : okSKs l a = true) (hb : okSKs l b = true) (hg : P.eqGuardType P.depth t = false) (hm : metL all sl g0 = some gs) (hd : Nat.blt d n = true)
    (g : Goal P C (.ops all rest (nx md ⟨some d, gs ++ (rq x (.agg (a.map Sc.V)) ++ rq y (.agg (b.map Sc.V))), [], [], .bq (decide (a = b)), []⟩)) k n ((d, .bq (decide (a = b))) :: sl) tab Q) :
    Goal P C (.ops all (⟨some d, .binOp .eql t x y t', ty, ps, af, g0⟩ :: rest) md) k n sl tab Q := by
  have e1 := of_ev (st := ⟨n, sl, tab⟩) hx
  have e2 := of_ev (st := ⟨n, sl, tab⟩) hy
  have := metL_step hm (L_eqF (P := P) (neg := false) (ty := ty) (ps := ps) (af := af) (g := g0) (d := some d) (t' := t') e1.1 e2.1 hs h ha hb hg) (n := n) (tab := tab)
  exact g_law (L := ⟨some d, gs ++ (rq x (.agg (a.map Sc.V)) ++ rq y (.agg (b.map Sc.V))), [], [], .bq (decide (a = b)), []⟩) hC this.1 rfl ⟨by rw [okS_append, okS_append]; exact ⟨this.2, e1.2, e2.2⟩, trivial, rfl, hd⟩ g
theorem g_neF {d : Nat} {x y : Operand} {t t' ty : TypeId} {ps : String} {af : Array Edge} {g0 : Option (Nat × Bool)} {gs : Slots} {md : Mode} (hC : C.low) (l : List SK) (a b : List Sc)
    (hx : ev sl x = some (.agg (a.map Sc.V))) (hy : ev sl y = some (.agg (b.map Sc.V))) (hs : isStc P t = true) (h : eqSh P 8 t = some l) (ha : okSKs l a = true) (hb : okSKs l b = true) (hg : P.eqGuardType P.depth t = false) (hm : metL all sl g0 = some gs) (hd : Nat.blt d n = true)
    (g : Goal P C (.ops all rest (nx md ⟨some d, gs ++ (rq x (.agg (a.map Sc.V)) ++ rq y (.agg (b.map Sc.V))), [], [], .bq (!decide (a = b)), []⟩)) k n ((d, .bq (!decide (a = b))) :: sl) tab Q) :
    Goal P C (.ops all (⟨some d, .binOp .neq t x y t', ty, ps, af, g0⟩ :: rest) md) k n sl tab Q := by
  have e1 := of_ev (st := ⟨n, sl, tab⟩) hx
  have e2 := of_ev (st := ⟨n, sl, tab⟩) hy
  have := metL_step hm (L_eqF (P := P) (neg := true) (ty := ty) (ps := ps) (af := af) (g := g0) (d := some d) (t' := t') e1.1 e2.1 hs h ha hb hg) (n := n) (tab := tab)
  exact g_law (L := ⟨some d, gs ++ (rq x (.agg (a.map Sc.V)) ++ rq y (.agg (b.map Sc.V))), [], [], .bq (!decide (a = b)), []⟩) hC this.1 rfl ⟨by rw [okS_append, okS_append]; exact ⟨this.2, e1.2, e2.2⟩, trivial, rfl, hd⟩ g
end
end Hw
/- The engine, part BB: slices of strings. -/
namespace Hw
open Go
section
variable {P : Program} {d : Option Nat} {ty : TypeId} {ps : String} {af : Array Edge} {g : Option (Nat × Bool)} {x y : Operand} {t : TypeId}
theorem L_slTo {a : ByteArray} {j : Int} {k : IntKind} (hx : okc x (Sr a)) (hy : okc y (Kk k j)) (ht : P.underlying t = some .string) (h0 : 0 ≤ j) (h1 : j ≤ a.size) :
    Snd P ⟨d, .slice t x none (some y) none, ty, ps, af, g⟩ (rq x (Sr a) ++ rq y (Kk k j)) [] [] (Sr (a.extract 0 j.toNat)) [] :=
  snd_quiet fun C st M ρ b w hH hs _ => by
    rw [okS_append] at hs
    have e1 := hH.k (ev_of hx hs.1)
    have e2 := hH.k (ev_of hy hs.2)
    refine ⟨.string (a.extract 0 j.toNat), ?_, by simp only [RepS, RepV, RepPV]; exact ⟨trivial, rfl⟩⟩
    simp only [execOp, e1, e2, Option.map_none, Option.map_some, Sem.run_bind, run_sliceAt_string w t _ _ _ _ ht, run_slice_string_to_if w t a k j ht, if_pos (⟨h0, h1⟩ : 0 ≤ j ∧ j ≤ (a.size : Int)), Result.andThen_ok, Sem.run_pure]
theorem L_slFrom {a : ByteArray} {j : Int} {k : IntKind} (hx : okc x (Sr a)) (hy : okc y (Kk k j)) (ht : P.underlying t = some .string) (h0 : 0 ≤ j) (h1 : j ≤ a.size) :
    Snd P ⟨d, .slice t x (some y) none none, ty, ps, af, g⟩ (rq x (Sr a) ++ rq y (Kk k j)) [] [] (Sr (a.extract j.toNat a.size)) [] :=
  snd_quiet fun C st M ρ b w hH hs _ => by
    rw [okS_append] at hs
    have e1 := hH.k (ev_of hx hs.1)
    have e2 := hH.k (ev_of hy hs.2)
    refine ⟨.string (a.extract j.toNat a.size), ?_, by simp only [RepS, RepV, RepPV]; exact ⟨trivial, rfl⟩⟩
    simp only [execOp, e1, e2, Option.map_none, Option.map_some, Sem.run_bind, run_sliceAt_string w t _ _ _ _ ht, run_slice_string_from_if w t a k j ht, if_pos (⟨h0, h1⟩ : 0 ≤ j ∧ j ≤ (a.size : Int)), Result.andThen_ok, Sem.run_pure]
end
variable {P : Program} {C : Ctx} {k : List Frm} {n : Nat} {sl : Slots} {tab : Tab} {Q : Exit → St → Prop} {all : Array Oper} {rest : List Oper}
theorem g_slTo {d : Nat} {x y : Operand} {t ty : TypeId} {ps : String} {af : Array Edge} {g0 : Option (Nat × Bool)} {gs : Slots} {md : Mode} (hC : C.low) {a : ByteArray} {j : Int} {k0 : IntKind}
    (hx : ev sl x = some (Sr a)) (hy : ev sl y = some (Kk k0 j)) (ht : P.underlying t = some .string) (h0 : 0 ≤ j) (h1 : j ≤ a.size) (hm : metL all sl g0 = some gs) (hd : Nat.blt d n = true)
    (g : Goal P C (.ops all rest (nx md ⟨some d, gs ++ (rq x (Sr a) ++ rq y (Kk k0 j)), [], [], Sr (a.extract 0 j.toNat), []⟩)) k n ((d, Sr (a.extract 0 j.toNat)) :: sl) tab Q) :
    Goal P C (.ops all (⟨some d, .slice t x none (some y) none, ty, ps, af, g0⟩ :: rest) md) k n sl tab Q := by
  have e1 := of_ev (st := ⟨n, sl, tab⟩) hx
  have e2 := of_ev (st := ⟨n, sl, tab⟩) hy
  have := metL_step hm (L_slTo (P := P) (ty := ty) (ps := ps) (af := af) (g := g0) (d := some d) (t := t) e1.1 e2.1 ht h0 h1) (n := n) (tab := tab)
  exact g_law (L := ⟨some d, gs ++ (rq x (Sr a) ++ rq y (Kk k0 j)), [], [], Sr (a.extract 0 j.toNat), []⟩) hC this.1 rfl ⟨by rw [okS_append, okS_append]; exact ⟨this.2, e1.2, e2.2⟩, trivial, rfl, hd⟩ g
theorem g_slFrom {d : Nat} {x y : Operand} {t ty : TypeId} {ps : String} {af : Array Edge} {g0 : Option (Nat × Bool)} {gs : Slots} {md : Mode} (hC : C.low) {a : ByteArray} {j : Int} {k0 : IntKind}
    (hx : ev sl x = some (Sr a)) (hy : ev sl y = some (Kk k0 j)) (ht : P.underlying t = some .string) (h0 : 0 ≤ j) (h1 : j ≤ a.size) (hm : metL all sl g0 = some gs) (hd : Nat.blt d n = true)
    (g : Goal P C (.ops all rest (nx md ⟨some d, gs ++ (rq x (Sr a) ++ rq y (Kk k0 j)), [], [], Sr (a.extract j.toNat a.size), []⟩)) k n ((d, Sr (a.extract j.toNat a.size)) :: sl) tab Q) :
    Goal P C (.ops all (⟨some d, .slice t x (some y) none none, ty, ps, af, g0⟩ :: rest) md) k n sl tab Q := by
  have e1 := of_ev (st := ⟨n, sl, tab⟩) hx
  have e2 := of_ev (st := ⟨n, sl, tab⟩) hy
  have := metL_step hm (L_slFrom (P := P) (ty := ty) (ps := ps) (af := af) (g := g0) (d := some d) (t := t) e1.1 e2.1 ht h0 h1) (n := n) (tab := tab)
  exact g_law (L := ⟨some d, gs ++ (rq x (Sr a) ++ rq y (Kk k0 j)), [], [], Sr (a.extract j.toNat a.size), []⟩) hC this.1 rfl ⟨by rw [okS_append, okS_append]; exact ⟨this.2, e1.2, e2.2⟩, trivial, rfl, hd⟩ g
end Hw
/- The engine, part BC: a string's bytes as an array of the run's own. -/
namespace Hw
open Go
section
variable {P : Program} {d : Option Nat} {ty : TypeId} {ps : String} {af : Array Edge} {g : Option (Nat × Bool)} {x y : Operand} {t : TypeId}
theorem bytes_rows {M : Mem} {g : Nat → Option Value} : ∀ (l : List UInt8) (o : Nat), (∀ (j : Nat) b, l[j]? = some b → g (o + j) = some (.int .u8 b.toNat)) → RowsIn M g 1 (l.map fun b => [PV.k (.int .u8 b.toNat)]) o
  | [], _, _ => by simp only [List.map_nil, RowsIn]
  | b :: l, o, h => by
    simp only [List.map_cons, RowsIn, RowIn, RepPV]
    refine ⟨rfl, ⟨⟨_, by simpa using h 0 b rfl, rfl, rfl⟩, trivial⟩, bytes_rows l (o + 1) fun j c hj => ?_⟩
    have := h (j + 1) c (by simpa using hj)
    rwa [show o + 1 + j = o + (j + 1) by omega]
theorem L_s2b {id : Nat} {s : ByteArray} {src dst e : TypeId} (hx : okc x (Sr s)) (hs : P.underlying src = some .string) (hd' : P.underlying dst = some (.slice e)) (he : P.underlying e = some (.int .u8)) (hl : s.size ≤ maxLen) :
    Snd P ⟨d, .convert src dst x, ty, ps, af, g⟩ (rq x (Sr s)) [] [id] (.one (.ar id)) [(id, some (.arr 1 (bytesR s)))] := by
  intro C st M ρ a w hH h1 hT hF hd k Q hk
  have e1 := hH.k (ev_of hx h1)
  have hge := grownCap_ge w s.size 0 e
  have hmx := grownCap_le_maxLen w s.size 0 e hl
  have hrun : (execOp a.eval ⟨d, .convert src dst x, ty, ps, af, g⟩).run P w = .ok (.value (.slice (some ⟨w.heap.size, 0, none⟩) s.size (grownCap w s.size 0 e)))
      (w.drew.alloc (.cells (bytesRow s (grownCap w s.size 0 e)) e ((bytesRow s (grownCap w s.size 0 e)).size, (bytesRow s (grownCap w s.size 0 e)).size + 1))) := by
    simp only [execOp, e1, Sem.run_bind, run_bytes_of_string w src dst e s hs hd' he, Result.andThen_ok, Sem.run_pure]
  unfold Oper.wp
  rw [hrun, Oper.upon_value]
  generalize grownCap w s.size 0 e = cap at *
  have hsz : (bytesRow s cap).size = cap := by
    simp only [bytesRow, Array.size_append, Array.size_map, Array.size_replicate]
    have : s.data.size = s.size := rfl
    omega
  have hlen : (bytesR s).length = s.size := by simp only [bytesR, List.length_map, Array.length_toList]; rfl
  have hml : maxLen ≤ 9223372036854775807 := by decide
  generalize hW : w.drew.alloc (.cells (bytesRow s cap) e ((bytesRow s cap).size, (bytesRow s cap).size + 1)) = w'
  have hheap : w'.heap = w.heap.push (.cells (bytesRow s cap) e ((bytesRow s cap).size, (bytesRow s cap).size + 1)) := by rw [← hW]; rfl
  have hR : HoldsR M (upd ρ id (.slice (some ⟨w.heap.size, 0, none⟩) s.size cap)) w' id (.arr 1 (bytesR s)) := by
    refine ⟨some ⟨w.heap.size, 0, none⟩, cap, by rw [upd_same, hlen], by rw [hlen]; exact hge, by omega, .inr ⟨w.heap.size, 0, bytesRow s cap, e, _, rfl, by rw [hheap, Array.getElem?_push_size], fun i hi => ?_, by rw [hsz]; omega, bytes_rows _ 0 fun j b hj => ?_⟩⟩
    · simp only [Bool.and_eq_false_iff, decide_eq_false_iff_not]; omega
    have hlt := (List.getElem?_eq_some_iff.1 hj).1
    rw [Array.length_toList] at hlt
    rw [Array.getElem?_toList] at hj
    rw [Nat.zero_add, bytesRow, Array.getElem?_append_left (by rw [Array.size_map]; exact hlt), Array.getElem?_map, hj]
    rfl
  refine hk _ _ M _ (hH.step none (val := .slice (some ⟨w.heap.size, 0, none⟩) s.size cap) (fun b hb _ => by rw [hheap, Array.getElem?_push, if_neg (by omega)]) (by rw [hheap]; simp) (by rw [← hW]; rfl) (by rw [← hW]; rfl) (by rw [← hW]; rfl)
    (fun b hb => by simp only [Bk, blk, Option.some.injEq] at hb; exact .inl (by omega)) hF.1 hR (by simp only [RepS, RepV]; exact ⟨(upd_same _ _ _).symm, rfl⟩) hd)
end
variable {P : Program} {C : Ctx} {k : List Frm} {n : Nat} {sl : Slots} {tab : Tab} {Q : Exit → St → Prop} {all : Array Oper} {rest : List Oper}
theorem g_s2b {d : Nat} {x : Operand} {src dst e ty : TypeId} {ps : String} {af : Array Edge} {g0 : Option (Nat × Bool)} {gs : Slots} {md : Mode} (hC : C.low) {s : ByteArray}
    (hx : ev sl x = some (Sr s)) (hs : P.underlying src = some .string) (hd' : P.underlying dst = some (.slice e)) (he : P.underlying e = some (.int .u8)) (hl : s.size ≤ 140737488355328) (hm : metL all sl g0 = some gs) (hd : Nat.blt d n = true)
    (hf : (Nat.ble 100 (1000 + d) && freshB (1000 + d) ⟨n, sl, tab⟩) = true)
    (g : Goal P C (.ops all rest (nx md ⟨some d, gs ++ rq x (Sr s), [], [1000 + d], .one (.ar (1000 + d)), [(1000 + d, some (.arr 1 (bytesR s)))]⟩)) k n ((d, .one (.ar (1000 + d))) :: sl) ((1000 + d, some (.arr 1 (bytesR s))) :: tab) Q) :
    Goal P C (.ops all (⟨some d, .convert src dst x, ty, ps, af, g0⟩ :: rest) md) k n sl tab Q := by
  have e1 := of_ev (st := ⟨n, sl, tab⟩) hx
  have hml : 140737488355328 ≤ maxLen := by decide
  have := metL_step hm (L_s2b (P := P) (ty := ty) (ps := ps) (af := af) (g := g0) (d := some d) (id := 1000 + d) e1.1 hs hd' he (by omega)) (n := n) (tab := tab)
  exact g_law (L := ⟨some d, gs ++ rq x (Sr s), [], [1000 + d], .one (.ar (1000 + d)), [(1000 + d, some (.arr 1 (bytesR s)))]⟩) hC this.1 rfl ⟨by rw [okS_append]; exact ⟨this.2, e1.2⟩, trivial, fr_one hf, hd⟩ g
end Hw
/- The engine, part BJ: parts of strings and of slices; interfaces held against nil. -/
namespace Hw
open Go

section
variable {P : Program} {d : Option Nat} {ty : TypeId} {ps : String} {af : Array Edge} {g : Option (Nat × Bool)} {x y z : Operand} {t : TypeId}
theorem L_slMid {a : ByteArray} {i j : Int} {k k' : IntKind} (hx : okc x (Sr a)) (hy : okc y (Kk k i)) (hz : okc z (Kk k' j)) (ht : P.underlying t = some .string) (h0 : 0 ≤ i) (h1 : i ≤ j) (h2 : j ≤ a.size) :
    Snd P ⟨d, .slice t x (some y) (some z) none, ty, ps, af, g⟩ (rq x (Sr a) ++ rq y (Kk k i) ++ rq z (Kk k' j)) [] [] (Sr (a.extract i.toNat j.toNat)) [] :=
  snd_quiet fun C st M ρ b w hH hs _ => by
    rw [okS_append, okS_append] at hs
    have e1 := hH.k (ev_of hx hs.1.1)
    have e2 := hH.k (ev_of hy hs.1.2)
    have e3 := hH.k (ev_of hz hs.2)
    refine ⟨.string (a.extract i.toNat j.toNat), ?_, by simp only [RepS, RepV, RepPV]; exact ⟨trivial, rfl⟩⟩
    simp only [execOp, e1, e2, e3, Option.map_none, Option.map_some, Sem.run_bind, run_sliceAt_string w t _ _ _ _ ht, run_slice_string_if w t a k k' i j ht, if_pos (⟨by omega, h2⟩ : 0 ≤ j ∧ j ≤ (a.size : Int)), if_pos (⟨h0, h1⟩ : 0 ≤ i ∧ i ≤ j), Result.andThen_ok, Sem.run_pure]
/-- A part of a slice that nobody writes. -/
theorem rep_part {M : Mem} {ρ : Nat → Value} {e : Nat} {rows : List (List PV)} {a : Option Addr} {cap l h : Nat} (hr : RepV M ρ (.p (.sl e rows)) (.slice a rows.length cap)) (h1 : l ≤ h) (h2 : h ≤ rows.length) : RepV M ρ (.p (.sl e ((rows.take h).drop l))) (sliced a l h cap e) := by
  simp only [RepV, RepPV] at hr ⊢
  obtain ⟨a', cap', e1, e2, e3, e4⟩ := hr
  simp only [Value.slice.injEq] at e1
  obtain ⟨rfl, _, rfl⟩ := e1
  have hl : ((rows.take h).drop l).length = h - l := by rw [List.length_drop, List.length_take]; omega
  refine ⟨if cap = l then a else a.map (·.add (l * e)), cap - l, by rw [hl]; rfl, by omega, by omega, ?_⟩
  rcases e4 with rfl | ⟨b, o, rfl, e4⟩
  · left
    simp at h2; subst h2
    simp
  · by_cases hc : cap = l
    · left
      exact List.length_eq_zero_iff.1 (by omega)
    · right
      rw [if_neg hc]
      exact ⟨b, o + l * e, by simp [Addr.add], (e4.take h).drop l⟩
theorem elem_of {el : TypeId} {e : Nat} (h : elemSz P t = some (el, e)) : P.underlying t = some (.slice (P.elem t)) ∧ ∀ w : World, (Go.sizeOf (P.elem t)).run P w = .ok e w := by
  obtain ⟨ii, hu, hinf, hsz⟩ := elemSz_spec h
  have he : P.elem t = el := by simp [Program.elem, hu]
  rw [he]
  exact ⟨hu, fun w => by rw [run_sizeOf hinf, hsz]⟩
theorem L_partLH {e : Nat} {rows : List (List PV)} {i j : Int} {k k' : IntKind} {el : TypeId} (hx : okc x (.one (.p (.sl e rows)))) (hy : okc y (Kk k i)) (hz : okc z (Kk k' j)) (he : elemSz P t = some (el, e)) (h0 : 0 ≤ i) (h1 : i ≤ j) (h2 : j ≤ rows.length) :
    Snd P ⟨d, .slice t x (some y) (some z) none, ty, ps, af, g⟩ (rq x (.one (.p (.sl e rows))) ++ rq y (Kk k i) ++ rq z (Kk k' j)) [] [] (.one (.p (.sl e ((rows.take j.toNat).drop i.toNat)))) [] :=
  snd_quiet fun C st M ρ b w hH hs _ => by
    rw [okS_append, okS_append] at hs
    have e1 := hH.evS (ev_of hx hs.1.1)
    have e2 := hH.k (ev_of hy hs.1.2)
    have e3 := hH.k (ev_of hz hs.2)
    simp only [RepS] at e1
    have e1' := e1
    simp only [RepV, RepPV] at e1'
    obtain ⟨a, cap, f1, f2, f3, _⟩ := e1'
    rw [f1] at e1
    obtain ⟨hu, hsz⟩ := elem_of he
    refine ⟨sliced a i.toNat j.toNat cap e, ?_, by simp only [RepS]; exact rep_part e1 (by omega) (by omega)⟩
    simp only [execOp, f1, e2, e3, Option.map_none, Option.map_some, Sem.run_bind, run_sliceAt_slice w t _ _ _ _ hu, run_slice_lh w t a rows.length cap hu k k' i j h0 h1 (by omega), hsz, Result.andThen_ok, Sem.run_pure]
theorem L_partH {e : Nat} {rows : List (List PV)} {j : Int} {k' : IntKind} {el : TypeId} (hx : okc x (.one (.p (.sl e rows)))) (hz : okc z (Kk k' j)) (he : elemSz P t = some (el, e)) (h0 : 0 ≤ j) (h2 : j ≤ rows.length) :
    Snd P ⟨d, .slice t x none (some z) none, ty, ps, af, g⟩ (rq x (.one (.p (.sl e rows))) ++ rq z (Kk k' j)) [] [] (.one (.p (.sl e (rows.take j.toNat)))) [] :=
  snd_quiet fun C st M ρ b w hH hs _ => by
    rw [okS_append] at hs
    have e1 := hH.evS (ev_of hx hs.1)
    have e3 := hH.k (ev_of hz hs.2)
    simp only [RepS] at e1
    have e1' := e1
    simp only [RepV, RepPV] at e1'
    obtain ⟨a, cap, f1, f2, f3, _⟩ := e1'
    rw [f1] at e1
    obtain ⟨hu, hsz⟩ := elem_of he
    refine ⟨sliced a 0 j.toNat cap e, ?_, by simp only [RepS]; have := rep_part e1 (Nat.zero_le j.toNat) (by omega); simpa only [List.drop_zero] using this⟩
    simp only [execOp, f1, e3, Option.map_none, Option.map_some, Sem.run_bind, run_sliceAt_slice w t _ _ _ _ hu, run_slice_h w t a rows.length cap hu k' j h0 (by omega), hsz, Result.andThen_ok, Sem.run_pure]
theorem L_partL {e : Nat} {rows : List (List PV)} {i : Int} {k : IntKind} {el : TypeId} (hx : okc x (.one (.p (.sl e rows)))) (hy : okc y (Kk k i)) (he : elemSz P t = some (el, e)) (h0 : 0 ≤ i) (h2 : i ≤ rows.length) :
    Snd P ⟨d, .slice t x (some y) none none, ty, ps, af, g⟩ (rq x (.one (.p (.sl e rows))) ++ rq y (Kk k i)) [] [] (.one (.p (.sl e (rows.drop i.toNat)))) [] :=
  snd_quiet fun C st M ρ b w hH hs _ => by
    rw [okS_append] at hs
    have e1 := hH.evS (ev_of hx hs.1)
    have e2 := hH.k (ev_of hy hs.2)
    simp only [RepS] at e1
    have e1' := e1
    simp only [RepV, RepPV] at e1'
    obtain ⟨a, cap, f1, f2, f3, _⟩ := e1'
    rw [f1] at e1
    obtain ⟨hu, hsz⟩ := elem_of he
    refine ⟨sliced a i.toNat rows.length cap e, ?_, by simp only [RepS]; have := rep_part e1 (l := i.toNat) (h := rows.length) (by omega) (Nat.le_refl _); rwa [List.take_length] at this⟩
    simp only [execOp, f1, e2, Option.map_none, Option.map_some, Sem.run_bind, run_sliceAt_slice w t _ _ _ _ hu, run_slice_l w t a rows.length cap hu k i h0 (by omega), hsz, Result.andThen_ok, Sem.run_pure]
/-- An element of an array's value, the elements of one cell. -/
theorem L_index1 {vs : List V} {len : Nat} {el : TypeId} {i : Int} {k : IntKind} {v : V} (hx : okc x (.agg vs)) (hy : okc y (Kk k i)) (ht : P.underlying t = some (.array len el)) (he : (P.info? el).map (·.size) = some 1) (hs : shp P el = some none) (h0 : 0 ≤ i) (hi : i < len) (hv : vs[i.toNat]? = some v) :
    Snd P ⟨d, .index t x y, ty, ps, af, g⟩ (rq x (.agg vs) ++ rq y (Kk k i)) [] [] (.one v) [] :=
  snd_quiet fun C st M ρ a w hH h1 _ => by
    rw [okS_append] at h1
    have e1 := hH.evS (ev_of hx h1.1)
    have e2 := hH.k (ev_of hy h1.2)
    simp only [RepS] at e1
    obtain ⟨cs, e1, e3⟩ := e1
    obtain ⟨ii, hinf, hsz⟩ := Option.map_eq_some_iff.1 he
    obtain ⟨c, c1, c2⟩ := repVs_at e3 hv
    refine ⟨c, ?_, by simp only [RepS]; exact c2⟩
    simp only [execOp, e1, e2, Instr.index, asIntOf, Sem.run_bind, Sem.run_pure, Result.andThen_ok, run_underlying ht]
    rw [if_pos ⟨h0, hi⟩]
    simp [part, run_isAgg_one hs, run_sizeOf hinf, hsz, c1]
def isIfc (P : Program) (t : TypeId) : Bool := match P.underlying t with
  | some (.interface _) => true
  | _ => false
theorem isIfc_spec {P : Program} {t : TypeId} (h : isIfc P t = true) : ∃ ms, P.underlying t = some (.interface ms) := by
  unfold isIfc at h
  split at h
  · rename_i ms e; exact ⟨ms, e⟩
  · cases h
/-- An interface that holds something, against nil. -/
theorem L_ifc {t' : TypeId} {id : Nat} {neg : Bool} (hx : okc x (.one (.ar id))) (ht : isIfc P t = true) :
    Snd P ⟨d, .binOp (if neg = true then .neq else .eql) t x (.const .nilIface) t', ty, ps, af, g⟩ (rq x (.one (.ar id))) [(id, .ifc)] [] (Bo neg) [] :=
  snd_quiet fun C st M ρ a w hH h1 hT => by
    obtain ⟨ms, ht⟩ := isIfc_spec ht
    have e1 := hH.evS (ev_of hx h1)
    simp only [RepS, RepV] at e1
    obtain ⟨te, pe, hv⟩ := hH.tabs.res id _ hT.1
    rw [hv] at e1
    have h : ∀ q : Nat, (Op.equalIn (q + 1) t (.iface te pe) .nilIface).run P w = .ok false w := fun q => by simp [Op.equalIn, run_underlying ht]
    have e0 : a.eval (.const .nilIface) = .nilIface := rfl
    refine ⟨.bool neg, ?_, repB neg⟩
    cases neg with
    | true =>
      simp only [execOp, if_true, e1.1, e0, Sem.run_bind]
      simp [eqGuard, binOp, Op.equal, Op.maxDepth, h 9999, Sem.run_pure]
    | false =>
      simp only [execOp, Bool.false_eq_true, if_false, e1.1, e0, Sem.run_bind]
      simp [eqGuard, binOp, Op.equal, Op.maxDepth, h 9999, Sem.run_pure]
theorem L_ifn {t' : TypeId} {neg : Bool} (hx : okc x (.one (.p (.k .nilIface)))) (ht : isIfc P t = true) :
    Snd P ⟨d, .binOp (if neg = true then .neq else .eql) t x (.const .nilIface) t', ty, ps, af, g⟩ (rq x (.one (.p (.k .nilIface)))) [] [] (Bo (!neg)) [] :=
  snd_quiet fun C st M ρ a w hH h1 hT => by
    obtain ⟨ms, ht⟩ := isIfc_spec ht
    have e1 := hH.evS (ev_of hx h1)
    simp only [RepS, RepV, RepPV] at e1
    have h : ∀ q : Nat, (Op.equalIn (q + 1) t .nilIface .nilIface).run P w = .ok true w := fun q => by simp [Op.equalIn, run_underlying ht]
    have e0 : a.eval (.const .nilIface) = .nilIface := rfl
    refine ⟨.bool (!neg), ?_, repB (!neg)⟩
    cases neg with
    | true =>
      simp only [execOp, if_true, e1.1, e0, Sem.run_bind]
      simp [eqGuard, binOp, Op.equal, Op.maxDepth, h 9999, Sem.run_pure]
    | false =>
      simp only [execOp, Bool.false_eq_true, if_false, e1.1, e0, Sem.run_bind]
      simp [eqGuard, binOp, Op.equal, Op.maxDepth, h 9999, Sem.run_pure]
end
section
variable {P : Program} {C : Ctx} {k : List Frm} {n : Nat} {sl : Slots} {tab : Tab} {Q : Exit → St → Prop} {all : Array Oper} {rest : List Oper}
theorem g_slMid {d : Nat} {x y z : Operand} {t ty : TypeId} {ps : String} {af : Array Edge} {g0 : Option (Nat × Bool)} {gs : Slots} {md : Mode} (hC : C.low) {a : ByteArray} {i j : Int} {k0 k1 : IntKind}
    (hx : ev sl x = some (Sr a)) (hy : ev sl y = some (Kk k0 i)) (hz : ev sl z = some (Kk k1 j)) (ht : P.underlying t = some .string) (h0 : 0 ≤ i) (h1 : i ≤ j) (h2 : j ≤ a.size) (hm : metL all sl g0 = some gs) (hd : Nat.blt d n = true)
    (g : Goal P C (.ops all rest (nx md ⟨some d, gs ++ (rq x (Sr a) ++ rq y (Kk k0 i) ++ rq z (Kk k1 j)), [], [], Sr (a.extract i.toNat j.toNat), []⟩)) k n ((d, Sr (a.extract i.toNat j.toNat)) :: sl) tab Q) :
    Goal P C (.ops all (⟨some d, .slice t x (some y) (some z) none, ty, ps, af, g0⟩ :: rest) md) k n sl tab Q := by
  have e1 := of_ev (st := ⟨n, sl, tab⟩) hx
  have e2 := of_ev (st := ⟨n, sl, tab⟩) hy
  have e3 := of_ev (st := ⟨n, sl, tab⟩) hz
  have := metL_step hm (L_slMid (P := P) (ty := ty) (ps := ps) (af := af) (g := g0) (d := some d) (t := t) e1.1 e2.1 e3.1 ht h0 h1 h2) (n := n) (tab := tab)
  exact g_law (L := ⟨some d, gs ++ (rq x (Sr a) ++ rq y (Kk k0 i) ++ rq z (Kk k1 j)), [], [], Sr (a.extract i.toNat j.toNat), []⟩) hC this.1 rfl ⟨by rw [okS_append, okS_append, okS_append]; exact ⟨this.2, ⟨e1.2, e2.2⟩, e3.2⟩, trivial, rfl, hd⟩ g
theorem g_index1 {d : Nat} {x y : Operand} {t ty : TypeId} {ps : String} {af : Array Edge} {g0 : Option (Nat × Bool)} {gs : Slots} {md : Mode} (hC : C.low) {vs : List V} {len : Nat} {el : TypeId} {k0 : IntKind} {i : Int} {v : V}
    (hx : ev sl x = some (.agg vs)) (hy : ev sl y = some (Kk k0 i)) (ht : P.underlying t = some (.array len el)) (he : (P.info? el).map (·.size) = some 1) (hs : shp P el = some none) (h0 : 0 ≤ i) (hi : i < len) (hv : vs[i.toNat]? = some v) (hm : metL all sl g0 = some gs) (hd : Nat.blt d n = true)
    (g : Goal P C (.ops all rest (nx md ⟨some d, gs ++ (rq x (.agg vs) ++ rq y (Kk k0 i)), [], [], .one v, []⟩)) k n ((d, .one v) :: sl) tab Q) :
    Goal P C (.ops all (⟨some d, .index t x y, ty, ps, af, g0⟩ :: rest) md) k n sl tab Q := by
  have e1 := of_ev (st := ⟨n, sl, tab⟩) hx
  have e2 := of_ev (st := ⟨n, sl, tab⟩) hy
  have := metL_step hm (L_index1 (P := P) (ty := ty) (ps := ps) (af := af) (g := g0) (d := some d) (t := t) e1.1 e2.1 ht he hs h0 hi hv) (n := n) (tab := tab)
  exact g_law (L := ⟨some d, gs ++ (rq x (.agg vs) ++ rq y (Kk k0 i)), [], [], .one v, []⟩) hC this.1 rfl ⟨by rw [okS_append, okS_append]; exact ⟨this.2, e1.2, e2.2⟩, trivial, rfl, hd⟩ g
theorem g_partLH (T : Ty P) {d : Nat} {x y z : Operand} {t ty : TypeId} {ps : String} {af : Array Edge} {g0 : Option (Nat × Bool)} {gs : Slots} {md : Mode} (hC : C.low) {e : Nat} {rows : List (List PV)} (rows' : List (List PV)) {i j : Int} {k0 k1 : IntKind} {el : TypeId}
    (hx : ev sl x = some (.one (.p (.sl e rows)))) (hy : ev sl y = some (Kk k0 i)) (hz : ev sl z = some (Kk k1 j)) (he : T.es t = some (el, e)) (h0 : 0 ≤ i) (h1 : i ≤ j) (h2 : j ≤ rows.length) (hr : (rows.take j.toNat).drop i.toNat = rows') (hm : metL all sl g0 = some gs) (hd : Nat.blt d n = true)
    (g : Goal P C (.ops all rest (nx md ⟨some d, gs ++ (rq x (.one (.p (.sl e rows))) ++ rq y (Kk k0 i) ++ rq z (Kk k1 j)), [], [], .one (.p (.sl e rows')), []⟩)) k n ((d, .one (.p (.sl e rows'))) :: sl) tab Q) :
    Goal P C (.ops all (⟨some d, .slice t x (some y) (some z) none, ty, ps, af, g0⟩ :: rest) md) k n sl tab Q := by
  subst hr
  have e1 := of_ev (st := ⟨n, sl, tab⟩) hx
  have e2 := of_ev (st := ⟨n, sl, tab⟩) hy
  have e3 := of_ev (st := ⟨n, sl, tab⟩) hz
  have := metL_step hm (L_partLH (P := P) (ty := ty) (ps := ps) (af := af) (g := g0) (d := some d) (t := t) e1.1 e2.1 e3.1 (T.es_ok _ _ he) h0 h1 h2) (n := n) (tab := tab)
  exact g_law (L := ⟨some d, gs ++ (rq x (.one (.p (.sl e rows))) ++ rq y (Kk k0 i) ++ rq z (Kk k1 j)), [], [], .one (.p (.sl e ((rows.take j.toNat).drop i.toNat))), []⟩) hC this.1 rfl ⟨by rw [okS_append, okS_append, okS_append]; exact ⟨this.2, ⟨e1.2, e2.2⟩, e3.2⟩, trivial, rfl, hd⟩ g
theorem g_partH (T : Ty P) {d : Nat} {x z : Operand} {t ty : TypeId} {ps : String} {af : Array Edge} {g0 : Option (Nat × Bool)} {gs : Slots} {md : Mode} (hC : C.low) {e : Nat} {rows : List (List PV)} (rows' : List (List PV)) {j : Int} {k1 : IntKind} {el : TypeId}
    (hx : ev sl x = some (.one (.p (.sl e rows)))) (hz : ev sl z = some (Kk k1 j)) (he : T.es t = some (el, e)) (h0 : 0 ≤ j) (h2 : j ≤ rows.length) (hr : rows.take j.toNat = rows') (hm : metL all sl g0 = some gs) (hd : Nat.blt d n = true)
    (g : Goal P C (.ops all rest (nx md ⟨some d, gs ++ (rq x (.one (.p (.sl e rows))) ++ rq z (Kk k1 j)), [], [], .one (.p (.sl e rows')), []⟩)) k n ((d, .one (.p (.sl e rows'))) :: sl) tab Q) :
    Goal P C (.ops all (⟨some d, .slice t x none (some z) none, ty, ps, af, g0⟩ :: rest) md) k n sl tab Q := by
  subst hr
  have e1 := of_ev (st := ⟨n, sl, tab⟩) hx
  have e3 := of_ev (st := ⟨n, sl, tab⟩) hz
  have := metL_step hm (L_partH (P := P) (ty := ty) (ps := ps) (af := af) (g := g0) (d := some d) (t := t) e1.1 e3.1 (T.es_ok _ _ he) h0 h2) (n := n) (tab := tab)
  exact g_law (L := ⟨some d, gs ++ (rq x (.one (.p (.sl e rows))) ++ rq z (Kk k1 j)), [], [], .one (.p (.sl e (rows.take j.toNat))), []⟩) hC this.1 rfl ⟨by rw [okS_append, okS_append]; exact ⟨this.2, e1.2, e3.2⟩, trivial, rfl, hd⟩ g
theorem g_partL (T : Ty P) {d : Nat} {x y : Operand} {t ty : TypeId} {ps : String} {af : Array Edge} {g0 : Option (Nat × Bool)} {gs : Slots} {md : Mode} (hC : C.low) {e : Nat} {rows : List (List PV)} (rows' : List (List PV)) {i : Int} {k0 : IntKind} {el : TypeId}
    (hx : ev sl x = some (.one (.p (.sl e rows)))) (hy : ev sl y = some (Kk k0 i)) (he : T.es t = some (el, e)) (h0 : 0 ≤ i) (h2 : i ≤ rows.length) (hr : rows.drop i.toNat = rows') (hm : metL all sl g0 = some gs) (hd : Nat.blt d n = true)
    (g : Goal P C (.ops all rest (nx md ⟨some d, gs ++ (rq x (.one (.p (.sl e rows))) ++ rq y (Kk k0 i)), [], [], .one (.p (.sl e rows')), []⟩)) k n ((d, .one (.p (.sl e rows'))) :: sl) tab Q) :
    Goal P C (.ops all (⟨some d, .slice t x (some y) none none, ty, ps, af, g0⟩ :: rest) md) k n sl tab Q := by
  subst hr
  have e1 := of_ev (st := ⟨n, sl, tab⟩) hx
  have e2 := of_ev (st := ⟨n, sl, tab⟩) hy
  have := metL_step hm (L_partL (P := P) (ty := ty) (ps := ps) (af := af) (g := g0) (d := some d) (t := t) e1.1 e2.1 (T.es_ok _ _ he) h0 h2) (n := n) (tab := tab)
  exact g_law (L := ⟨some d, gs ++ (rq x (.one (.p (.sl e rows))) ++ rq y (Kk k0 i)), [], [], .one (.p (.sl e (rows.drop i.toNat))), []⟩) hC this.1 rfl ⟨by rw [okS_append, okS_append]; exact ⟨this.2, e1.2, e2.2⟩, trivial, rfl, hd⟩ g
theorem g_ifcE {d : Nat} {x : Operand} {t t' ty : TypeId} {ps : String} {af : Array Edge} {g0 : Option (Nat × Bool)} {gs : Slots} {md : Mode} (hC : C.low) {id : Nat}
    (hx : ev sl x = some (.one (.ar id))) (hT : tg tab id = some .ifc) (ht : isIfc P t = true) (hm : metL all sl g0 = some gs) (hd : Nat.blt d n = true)
    (g : Goal P C (.ops all rest (nx md ⟨some d, gs ++ rq x (.one (.ar id)), [(id, .ifc)], [], Bo false, []⟩)) k n ((d, Bo false) :: sl) tab Q) :
    Goal P C (.ops all (⟨some d, .binOp .eql t x (.const .nilIface) t', ty, ps, af, g0⟩ :: rest) md) k n sl tab Q := by
  have e1 := of_ev (st := ⟨n, sl, tab⟩) hx
  have := metL_step hm (L_ifc (P := P) (neg := false) (ty := ty) (ps := ps) (af := af) (g := g0) (d := some d) (t' := t') e1.1 ht) (n := n) (tab := tab)
  exact g_law (L := ⟨some d, gs ++ rq x (.one (.ar id)), [(id, .ifc)], [], Bo false, []⟩) hC this.1 rfl ⟨by rw [okS_append]; exact ⟨this.2, e1.2⟩, ⟨hT, trivial⟩, rfl, hd⟩ g
theorem g_ifcN {d : Nat} {x : Operand} {t t' ty : TypeId} {ps : String} {af : Array Edge} {g0 : Option (Nat × Bool)} {gs : Slots} {md : Mode} (hC : C.low) {id : Nat}
    (hx : ev sl x = some (.one (.ar id))) (hT : tg tab id = some .ifc) (ht : isIfc P t = true) (hm : metL all sl g0 = some gs) (hd : Nat.blt d n = true)
    (g : Goal P C (.ops all rest (nx md ⟨some d, gs ++ rq x (.one (.ar id)), [(id, .ifc)], [], Bo true, []⟩)) k n ((d, Bo true) :: sl) tab Q) :
    Goal P C (.ops all (⟨some d, .binOp .neq t x (.const .nilIface) t', ty, ps, af, g0⟩ :: rest) md) k n sl tab Q := by
  have e1 := of_ev (st := ⟨n, sl, tab⟩) hx
  have := metL_step hm (L_ifc (P := P) (neg := true) (ty := ty) (ps := ps) (af := af) (g := g0) (d := some d) (t' := t') e1.1 ht) (n := n) (tab := tab)
  exact g_law (L := ⟨some d, gs ++ rq x (.one (.ar id)), [(id, .ifc)], [], Bo true, []⟩) hC this.1 rfl ⟨by rw [okS_append]; exact ⟨this.2, e1.2⟩, ⟨hT, trivial⟩, rfl, hd⟩ g
theorem g_ifnE {d : Nat} {x : Operand} {t t' ty : TypeId} {ps : String} {af : Array Edge} {g0 : Option (Nat × Bool)} {gs : Slots} {md : Mode} (hC : C.low)
    (hx : ev sl x = some (.one (.p (.k .nilIface)))) (ht : isIfc P t = true) (hm : metL all sl g0 = some gs) (hd : Nat.blt d n = true)
    (g : Goal P C (.ops all rest (nx md ⟨some d, gs ++ rq x (.one (.p (.k .nilIface))), [], [], Bo true, []⟩)) k n ((d, Bo true) :: sl) tab Q) :
    Goal P C (.ops all (⟨some d, .binOp .eql t x (.const .nilIface) t', ty, ps, af, g0⟩ :: rest) md) k n sl tab Q := by
  have e1 := of_ev (st := ⟨n, sl, tab⟩) hx
  have := metL_step hm (L_ifn (P := P) (neg := false) (ty := ty) (ps := ps) (af := af) (g := g0) (d := some d) (t' := t') e1.1 ht) (n := n) (tab := tab)
  exact g_law (L := ⟨some d, gs ++ rq x (.one (.p (.k .nilIface))), [], [], Bo true, []⟩) hC this.1 rfl ⟨by rw [okS_append]; exact ⟨this.2, e1.2⟩, trivial, rfl, hd⟩ g
theorem g_ifnN {d : Nat} {x : Operand} {t t' ty : TypeId} {ps : String} {af : Array Edge} {g0 : Option (Nat × Bool)} {gs : Slots} {md : Mode} (hC : C.low)
    (hx : ev sl x = some (.one (.p (.k .nilIface)))) (ht : isIfc P t = true) (hm : metL all sl g0 = some gs) (hd : Nat.blt d n = true)
    (g : Goal P C (.ops all rest (nx md ⟨some d, gs ++ rq x (.one (.p (.k .nilIface))), [], [], Bo false, []⟩)) k n ((d, Bo false) :: sl) tab Q) :
    Goal P C (.ops all (⟨some d, .binOp .neq t x (.const .nilIface) t', ty, ps, af, g0⟩ :: rest) md) k n sl tab Q := by
  have e1 := of_ev (st := ⟨n, sl, tab⟩) hx
  have := metL_step hm (L_ifn (P := P) (neg := true) (ty := ty) (ps := ps) (af := af) (g := g0) (d := some d) (t' := t') e1.1 ht) (n := n) (tab := tab)
  exact g_law (L := ⟨some d, gs ++ rq x (.one (.p (.k .nilIface))), [], [], Bo false, []⟩) hC this.1 rfl ⟨by rw [okS_append]; exact ⟨this.2, e1.2⟩, trivial, rfl, hd⟩ g
end
end Hw
/- The engine, part BM: strings.Builder: what its functions do to its block and its buffer's, and nothing else. -/
namespace Hw
open Go Go.Proofs Go.Shelf Go.RowKit

/-- The builder's block and its buffer. -/
def BldAt (T e : TypeId) (b : Nat) (p v : Value) (s : ByteArray) (w : World) : Prop :=
  w.heap[b]? = some (.cells #[p, v] T (0, 0)) ∧ w.ownsRowF 0 e 1 v (Lib.strCells s).length (Lib.strCells s) ∧ v.ownBlock ≠ some b ∧ (s.size = 0 → v = .slice none 0 0)
/-- All blocks but b and v's stand; v' lies in a new block, or in v's. -/
structure Kp (b : Nat) (v v' : Value) (w w' : World) : Prop where
  block : ∀ c, c < w.heap.size → c ≠ b → v.ownBlock ≠ some c → w'.heap[c]? = w.heap[c]?
  size : w.heap.size ≤ w'.heap.size
  os : w'.os = w.os
  tape : w'.tape = w.tape
  output : w'.output = w.output
  own : ∀ g, v'.ownBlock = some g → w.heap.size ≤ g ∨ v.ownBlock = some g
theorem Kp.refl (b : Nat) (v : Value) (w : World) : Kp b v v w w := ⟨fun _ _ _ _ => rfl, Nat.le_refl _, rfl, rfl, rfl, fun _ h => .inr h⟩
theorem Kp.trans {b : Nat} {v v' v2 : Value} {w w' w2 : World} (h : Kp b v v' w w') (h2 : Kp b v' v2 w' w2) : Kp b v v2 w w2 :=
  ⟨fun c hc hb hv => (h2.block c (Nat.lt_of_lt_of_le hc h.size) hb fun e => (h.own c e).elim (fun h3 => by omega) hv).trans (h.block c hc hb hv), Nat.le_trans h.size h2.size, h2.os.trans h.os, h2.tape.trans h.tape, h2.output.trans h.output,
    fun g hg => (h2.own g hg).elim (fun h3 => .inl (Nat.le_trans h.size h3)) (h.own g)⟩
theorem Kp.set {b : Nat} (v : Value) (w : World) (j : Nat) (u : Value) : Kp b v v w (w.setCell ⟨b, j, none⟩ u) :=
  ⟨fun c _ hb _ => Below.heap_setCell _ _ _ _ hb, by simp [World.setCell], rfl, rfl, rfl, fun _ h => .inr h⟩
theorem Kp.grown {b : Nat} {v v' : Value} {w w' : World} (h : w.grownBy w' v.ownBlock) (hv : ∀ g, v'.ownBlock = some g → w.heap.size ≤ g ∨ v.ownBlock = some g) : Kp b v v' w w' :=
  ⟨fun c hc _ hne => h.block c hc fun e => hne e.symm, h.size, h.os, h.tape, h.output, hv⟩
theorem Kp.alloc (b : Nat) (v : Value) (w : World) (o : Obj) : Kp b v v w (w.alloc o) :=
  ⟨fun c hc _ _ => Lib.alloc_old w o c hc, by simp, rfl, rfl, rfl, fun _ h => .inr h⟩
theorem BldAt.atF {T e : TypeId} {b : Nat} {p v : Value} {s : ByteArray} {w : World} (h : BldAt T e b p v s w) : Lib.BuilderAtF T e 0 b p (Lib.strCells s) w := ⟨Nat.zero_le _, v, h.1, h.2.1, h.2.2.1⟩
theorem BldAt.lt {T e : TypeId} {b : Nat} {p v : Value} {s : ByteArray} {w : World} (h : BldAt T e b p v s w) : b < w.heap.size := h.atF.lt

theorem BldAt.used {T e : TypeId} {b : Nat} {p v : Value} {s : ByteArray} {w : World} (h : BldAt T e b p v s w) (q : Value) : BldAt T e b q v s (w.setCell ⟨b, 0, none⟩ q) := by
  obtain ⟨hb, hown, hne, hn0⟩ := h
  refine ⟨?_, ?_, hne, hn0⟩
  · simp [World.setCell, Array.getElem?_modify, hb]
  · exact hown.kept (row := some b) ⟨rfl, rfl, rfl, by simp [World.setCell], fun k _ hk => Below.heap_setCell _ _ _ _ (fun e => hk (by simp [e]))⟩ (Or.inr hne)
theorem BldAt.put {T e : TypeId} {b : Nat} {p v v' : Value} {s : ByteArray} {w : World} (hb : w.heap[b]? = some (.cells #[p, v] T (0, 0))) (hown : w.ownsRowF 0 e 1 v' (Lib.strCells s).length (Lib.strCells s)) (hTe : T ≠ e) (hn0 : s.size = 0 → v' = .slice none 0 0) :
    BldAt T e b p v' s (w.setCell ⟨b, 1, none⟩ v') := by
  have hne := Lib.ownBlock_neF hown hb hTe
  refine ⟨?_, ?_, hne, hn0⟩
  · simp [World.setCell, Array.getElem?_modify, hb]
  · exact hown.kept (row := some b) ⟨rfl, rfl, rfl, by simp [World.setCell], fun k _ hk => Below.heap_setCell _ _ _ _ (fun e => hk (by simp [e]))⟩ (Or.inr hne)

/-- A string behind an owned row: where it lies then. -/
theorem app_strX {P : Program} (w : World) (t u ty e : TypeId) (i : TypeInfo) (ht : P.underlying t = some (.slice e)) (hu : P.underlying u = some .string) (hi : P.info? e = some i) (hz : i.zero = some (.int .u8 0))
    (hsize : i.size = 1) (hby : i.bytes = 1) (v : Value) (n : Nat) (xs : List Value) (hown : w.ownsRowF 0 e 1 v n xs) (s : ByteArray) (h63 : n + s.size ≤ maxLen) (hbytes : n + s.size ≤ 140737488355328) :
    ∃ v' w', (Builtin.append_ #[t, u] ty #[v, .string s]).run P w = .ok v' w' ∧ w'.ownsRowF 0 e 1 v' (n + s.size) (xs ++ Lib.strCells s) ∧ w.grownBy w' v.ownBlock ∧ (∀ g, v'.ownBlock = some g → w.heap.size ≤ g ∨ v.ownBlock = some g) ∧ (v = .slice none 0 0 → s.size = 0 → v' = .slice none 0 0) := by
  obtain ⟨v', w', r1, r2, r3, r4⟩ := Lib.run_append_own_stringF (P := P) w 0 t u ty e i ht hu hi hz hsize hby v n xs hown s h63 hbytes (Nat.zero_le _)
  refine ⟨v', w', r1, r2, r3, ?_, fun x y => r4.2 ⟨x, y⟩⟩
  rcases hown.2 with ⟨rfl, rfl⟩ | ⟨g, cap, cur, fz, rfl, hbg, hg, hfz, hnc, hcm, hcs, htake⟩
  · obtain ⟨v2, w2, q1, q2, _⟩ := Lib.run_append_own_stringF (P := P) w w.heap.size t u ty e i ht hu hi hz hsize hby _ 0 xs ⟨hown.1, .inl ⟨rfl, rfl⟩⟩ s h63 hbytes (Nat.le_refl _)
    rw [r1] at q1
    simp only [Result.ok.injEq] at q1
    obtain ⟨rfl, rfl⟩ := q1
    exact fun g hg => .inl (q2.lt g hg).1
  · by_cases hroom : n + s.size ≤ cap
    · have hr := Lib.run_append_room_stringF (P := P) w t u ty e i ht hu hi hsize g n cap cur fz hg (by simpa using hfz) s hroom (by omega)
      rw [r1] at hr
      simp only [Result.ok.injEq] at hr
      obtain ⟨rfl, _⟩ := hr
      exact fun g' hg' => .inr hg'
    · have hr := Lib.run_append_grow_string (P := P) w t u ty e i (.int .u8 0) ht hu hi hz ⟨g, 0, none⟩ n cap xs (by rw [hsize]; simpa using hown.1) (hown.cells (g := g) rfl) s (by omega) (by simp only [maxLen] at h63; omega) (by rw [hby]; exact growslice_fits (by omega) (by omega))
      rw [r1] at hr
      simp only [Result.ok.injEq] at hr
      obtain ⟨rfl, _⟩ := hr
      intro g' hg'
      simp only [Value.ownBlock, Option.some.injEq] at hg'
      exact .inl (by omega)
/-- A slice's cells behind an owned row. -/
theorem app_slX {P : Program} (w : World) (t ty e : TypeId) (i : TypeInfo) (ht : P.underlying t = some (.slice e)) (hi : P.info? e = some i) (hz : i.zero = some (.int .u8 0))
    (hsize : i.size = 1) (hby : i.bytes = 1) (v : Value) (n : Nat) (xs : List Value) (hown : w.ownsRowF 0 e 1 v n xs) (a : Addr) (m c : Nat) (news : List Value) (hl : news.length = m * 1) (hnews : ∀ j u, news[j]? = some u → w.cell? (a.add j) = some u) (h1 : ∀ u ∈ news, u.oneCell' = true)
    (h63 : n + m ≤ maxLen) (hbytes : n + m ≤ 140737488355328) :
    ∃ v' w', (Builtin.append_ #[t, t] ty #[v, .slice (some a) m c]).run P w = .ok v' w' ∧ w'.ownsRowF 0 e 1 v' (n + m) (xs ++ news) ∧ w.grownBy w' v.ownBlock ∧ (∀ g, v'.ownBlock = some g → w.heap.size ≤ g ∨ v.ownBlock = some g) ∧ True := by
  obtain ⟨v', w', r1, r2, r3, r4⟩ := run_append_ownF (P := P) w 0 t ty e i (.int .u8 0) 1 1 ht hi hz hsize hby rfl (by decide) v n xs hown a m c news hl hnews h1 h63 (by omega) (Nat.zero_le _)
  refine ⟨v', w', r1, r2, r3, ?_, trivial⟩
  rcases hown.2 with ⟨rfl, rfl⟩ | ⟨g, cap, cur, fz, rfl, hbg, hg, hfz, hnc, hcm, hcs, htake⟩
  · obtain ⟨v2, w2, q1, q2, _⟩ := run_append_ownF (P := P) w w.heap.size t ty e i (.int .u8 0) 1 1 ht hi hz hsize hby rfl (by decide) _ 0 xs ⟨hown.1, .inl ⟨rfl, rfl⟩⟩ a m c news hl hnews h1 h63 (by omega) (Nat.le_refl _)
    rw [r1] at q1
    simp only [Result.ok.injEq] at q1
    obtain ⟨rfl, rfl⟩ := q1
    exact fun g hg => .inl (q2.lt g hg).1
  · by_cases hroom : n + m ≤ cap
    · have hr := run_append_roomF (P := P) w t ty e i ht hi g n cap cur fz hg (by rw [hsize]; exact hfz) a m c news (by rw [hsize]; exact hl) hnews h1 hroom (by rw [hsize, hl, hcs]; omega)
      rw [r1] at hr
      simp only [Result.ok.injEq] at hr
      obtain ⟨rfl, _⟩ := hr
      exact fun g' hg' => .inr hg'
    · have hr := run_append_grow (P := P) w t ty e i (.int .u8 0) ht hi hz ⟨g, 0, none⟩ n cap xs (by rw [hsize]; exact hown.1) (hown.cells (g := g) rfl) a m c news (by rw [hsize]; exact hl) hnews (by omega) (by simp only [maxLen] at h63; omega) (by rw [hby]; exact growslice_fits (by omega) (by omega))
      rw [r1] at hr
      simp only [Result.ok.injEq] at hr
      obtain ⟨rfl, _⟩ := hr
      intro g' hg'
      simp only [Value.ownBlock, Option.some.injEq] at hg'
      exact .inl (by omega)

section
variable {P : Program} {ρ : Ren}
/-- What the program says of a builder's functions (the body of copyCheck may be another one from seat to seat). -/
structure BldL (P : Program) (ρ : Ren) : Prop extends Lays.n169 P ρ where
  f166 : P.funcs[ρ.f 166]? = some (Body.n166 ρ)
  f167 : P.funcs[ρ.f 167]? = some (Body.n167 ρ)
  l170 : Lays.n170 P ρ
  e240 : ∀ args w, (callFunc (ρ.f 240) args).run P w = .ok (.enter (ρ.f 240) args) w
  chk : ∀ {b : Nat} {p v : Value} {s : ByteArray} {w : World}, (p = .pointer none ∨ p = .pointer (some ⟨b, 0, none⟩)) → BldAt (ρ.t 72) (ρ.t 5) b p v s w →
    Calls P (ρ.f 240) #[.pointer (some ⟨b, 0, none⟩)] w fun e w' => e = .returned (.tuple #[]) ∧ BldAt (ρ.t 72) (ρ.t 5) b (.pointer (some ⟨b, 0, none⟩)) v s w' ∧ Kp b v v w w'
  t4 : P.underlying (ρ.t 4) = some (TypeDesc.bool)
  a4 : ∀ w, (isAgg (ρ.t 4)).run P w = .ok false w
  z4 : ∀ w, (Go.sizeOf (ρ.t 4)).run P w = .ok 1 w
  v4 : ∀ w, (zeroValue (ρ.t 4)).run P w = .ok (Value.bool false) w
  t164 : P.underlying (ρ.t 164) = some (TypeDesc.unsafePointer)
  a164 : ∀ w, (isAgg (ρ.t 164)).run P w = .ok false w
  z164 : ∀ w, (Go.sizeOf (ρ.t 164)).run P w = .ok 1 w
  v164 : ∀ w, (zeroValue (ρ.t 164)).run P w = .ok (Value.pointer none) w

/-- The operation, for a walk. -/
theorem wp_app_str (w : World) {ops : Array Oper} {rest : List Oper} {o : Oper} {a : Act} {Q : Exit → Act → World → Prop} (hgd : o.guard = none) (sl x : Operand) (t u : TypeId)
    (ho : o.op = .call { callee := .builtin .append, args := #[sl, x], argTypes := #[t, u] }) (e : TypeId) (i : TypeInfo) (ht : P.underlying t = some (.slice e)) (hu : P.underlying u = some .string) (hi : P.info? e = some i) (hz : i.zero = some (.int .u8 0))
    (hsize : i.size = 1) (hby : i.bytes = 1) (v : Value) (n : Nat) (xs : List Value) (hs : a.eval sl = v) (hown : w.ownsRowF 0 e 1 v n xs) (s : ByteArray) (hx : a.eval x = .string s) (h63 : n + s.size ≤ maxLen) (hbytes : n + s.size ≤ 140737488355328)
    (h : ∀ v' w', w'.ownsRowF 0 e 1 v' (n + s.size) (xs ++ Lib.strCells s) → w.grownBy w' v.ownBlock → (∀ g, v'.ownBlock = some g → w.heap.size ≤ g ∨ v.ownBlock = some g) → (v = .slice none 0 0 → s.size = 0 → v' = .slice none 0 0) → wpList P ops Q rest (a.put o.dst v') w') : wpList P ops Q (o :: rest) a w := by
  refine wpList_plain hgd fun K hK => ?_
  obtain ⟨v', w', hr, h2, h3, h4, h5⟩ := app_strX (P := P) w t u o.type e i ht hu hi hz hsize hby v n xs hown s h63 hbytes
  unfold Oper.wp execOp
  simp only [ho, resolve, invoke, builtin, Sem.run_bind, Sem.run_pure, Result.andThen_ok, List.map_toArray, List.map_cons, List.map_nil, hs, hx, hr]
  exact hK _ _ (h v' w' h2 h3 h4 h5)
theorem wp_app_sl (w : World) {ops : Array Oper} {rest : List Oper} {o : Oper} {a : Act} {Q : Exit → Act → World → Prop} (hgd : o.guard = none) (sl x : Operand) (t : TypeId)
    (ho : o.op = .call { callee := .builtin .append, args := #[sl, x], argTypes := #[t, t] }) (e : TypeId) (i : TypeInfo) (ht : P.underlying t = some (.slice e)) (hi : P.info? e = some i) (hz : i.zero = some (.int .u8 0))
    (hsize : i.size = 1) (hby : i.bytes = 1) (v : Value) (n : Nat) (xs : List Value) (hs : a.eval sl = v) (hown : w.ownsRowF 0 e 1 v n xs) (ad : Addr) (m c : Nat) (news : List Value) (hx : a.eval x = .slice (some ad) m c) (hl : news.length = m * 1)
    (hnews : ∀ j u, news[j]? = some u → w.cell? (ad.add j) = some u) (h1 : ∀ u ∈ news, u.oneCell' = true) (h63 : n + m ≤ maxLen) (hbytes : n + m ≤ 140737488355328)
    (h : ∀ v' w', w'.ownsRowF 0 e 1 v' (n + m) (xs ++ news) → w.grownBy w' v.ownBlock → (∀ g, v'.ownBlock = some g → w.heap.size ≤ g ∨ v.ownBlock = some g) → wpList P ops Q rest (a.put o.dst v') w') : wpList P ops Q (o :: rest) a w := by
  refine wpList_plain hgd fun K hK => ?_
  obtain ⟨v', w', hr, h2, h3, h4, _⟩ := app_slX (P := P) w t o.type e i ht hi hz hsize hby v n xs hown ad m c news hl hnews h1 h63 hbytes
  unfold Oper.wp execOp
  simp only [ho, resolve, invoke, builtin, Sem.run_bind, Sem.run_pure, Result.andThen_ok, List.map_toArray, List.map_cons, List.map_nil, hs, hx, hr]
  exact hK _ _ (h v' w' h2 h3 h4)

theorem app0 {s t : ByteArray} (h : (s ++ t).size = 0) : s.size = 0 ∧ t.size = 0 := by rw [size_app] at h; omega
theorem strCells_app (s t : ByteArray) : Lib.strCells (s ++ t) = Lib.strCells s ++ Lib.strCells t := by
  simp [Lib.strCells, ByteArray.data_append]

set_option maxHeartbeats 2000000 in
set_option maxRecDepth 100000 in
theorem bld_ws (L : BldL P ρ) (X : Builder.Extra P ρ) {b : Nat} {p v : Value} {s : ByteArray} {w : World} (hp : p = .pointer none ∨ p = .pointer (some ⟨b, 0, none⟩)) (h : BldAt (ρ.t 72) (ρ.t 5) b p v s w) (t : ByteArray) (hlen : s.size + t.size ≤ 140737488355328) :
    Calls P (ρ.f 166) #[.pointer (some ⟨b, 0, none⟩), .string t] w fun e w' => e = .returned (.tuple #[.int .i64 t.size, .nilIface]) ∧ ∃ v', BldAt (ρ.t 72) (ρ.t 5) b (.pointer (some ⟨b, 0, none⟩)) v' (s ++ t) w' ∧ Kp b v v' w w' := by
  obtain ⟨i0, hi, hz0, hz1, hz2⟩ := info_parts X.infoByte
  have mixed := L.mixed
  have t72 := L.t72; have a72 := L.a72; have z72 := L.z72; have v72 := L.v72; have u72 := run_underlying L.t72
  have t70 := L.t70; have a70 := L.a70; have z70 := L.z70; have v70 := L.v70; have u70 := run_underlying L.t70
  have t37 := L.t37; have a37 := L.a37; have z37 := L.z37; have v37 := L.v37; have u37 := run_underlying L.t37
  have t3 := L.t3; have a3 := L.a3; have z3 := L.z3; have v3 := L.v3; have u3 := run_underlying L.t3
  have t9 := L.t9; have a9 := L.a9; have z9 := L.z9; have v9 := L.v9; have u9 := run_underlying L.t9
  have t4 := L.t4; have a4 := L.a4; have z4 := L.z4; have v4 := L.v4; have u4 := run_underlying L.t4
  have t164 := L.t164; have a164 := L.a164; have z164 := L.z164; have v164 := L.v164; have u164 := run_underlying L.t164
  have t5 := X.t5; have a5 := X.a5; have z5 := X.z5; have v5 := X.v5; have u5 := run_underlying X.t5
  have e240 := L.e240
  go_enter L.f166, Body.n166_ntmps ρ
  go_wp2_with (go_at_fn (ρ.f 240); refine (L.chk hp h).mono ?_)
  rintro e w1 ⟨rfl, h1, k1⟩
  have hlt := h1.lt
  obtain ⟨hbk, hown, hne, hn0⟩ := h1
  have c0 : w1.cell? ⟨b, 0, none⟩ = some (.pointer (some ⟨b, 0, none⟩)) := by rw [Lib.cell_of_heap hbk]; rfl
  have c1 : w1.cell? ⟨b, 1, none⟩ = some v := by rw [Lib.cell_of_heap hbk]; rfl
  go_wp2_with (at_builtin; refine wp_app_str _ rfl _ _ (ρ.t 37) (ρ.t 9) rfl (ρ.t 5) i0 L.t37 L.t9 hi hz0 hz1 hz2 _ _ _ rfl hown t rfl ?c3 ?c4 ?_)
  case c3 => unfold maxLen; rw [Lib.strCells_length]; omega
  case c4 => rw [Lib.strCells_length]; omega
  intro v' w2 hown' hgrow hv' hv0
  have hb2 : w2.heap[b]? = some (.cells #[.pointer (some ⟨b, 0, none⟩), v] (ρ.t 72) (0, 0)) := by
    rw [hgrow.block b hlt (fun e => hne e.symm)]
    exact hbk
  have d0 : w2.cell? ⟨b, 0, none⟩ = some (.pointer (some ⟨b, 0, none⟩)) := by rw [Lib.cell_of_heap hb2]; rfl
  have d1 : w2.cell? ⟨b, 1, none⟩ = some v := by rw [Lib.cell_of_heap hb2]; rfl
  have f1 : w2.frozen? ⟨b, 1, none⟩ = false := Lib.frozen_of_heap hb2 1
  have k2 : Kp b v v' w1 w2 := Kp.grown hgrow hv'
  obtain ⟨ao, n', cap, rfl⟩ : ∃ ao n' cap, v' = .slice ao n' cap := by
    rcases hown'.2 with ⟨hv, _⟩ | ⟨g, cap, cur, fz, hv, _⟩
    · exact ⟨_, _, _, hv⟩
    · exact ⟨_, _, _, hv⟩
  go_wp2
  go_ret2
  refine ⟨rfl, _, BldAt.put hb2 (s := s ++ t) ?_ X.neB5 (fun h0 => hv0 (hn0 (app0 h0).1) (ByteArray.size_eq_zero_iff.1 (app0 h0).2)), (k1.trans k2).trans (Kp.set _ _ _ _)⟩
  rw [strCells_app, List.length_append, Lib.strCells_length t]
  exact hown'

set_option maxHeartbeats 2000000 in
set_option maxRecDepth 100000 in
theorem bld_wb (L : BldL P ρ) (X : Builder.Extra P ρ) {b : Nat} {p v : Value} {s : ByteArray} {w : World} (hp : p = .pointer none ∨ p = .pointer (some ⟨b, 0, none⟩)) (h : BldAt (ρ.t 72) (ρ.t 5) b p v s w) (c : UInt8) (hlen : s.size + 1 ≤ 140737488355328) :
    Calls P (ρ.f 167) #[.pointer (some ⟨b, 0, none⟩), .int .u8 c.toNat] w fun e w' => e = .returned .nilIface ∧ ∃ v', BldAt (ρ.t 72) (ρ.t 5) b (.pointer (some ⟨b, 0, none⟩)) v' (s ++ ⟨#[c]⟩) w' ∧ Kp b v v' w w' := by
  obtain ⟨i0, hi, hz0, hz1, hz2⟩ := info_parts X.infoByte
  have mixed := L.mixed
  have t72 := L.t72; have a72 := L.a72; have z72 := L.z72; have v72 := L.v72; have u72 := run_underlying L.t72
  have t70 := L.t70; have a70 := L.a70; have z70 := L.z70; have v70 := L.v70; have u70 := run_underlying L.t70
  have t5 := X.t5; have a5 := X.a5; have z5 := X.z5; have v5 := X.v5; have u5 := run_underlying X.t5
  have t37 := L.t37; have a37 := L.a37; have z37 := L.z37; have v37 := L.v37; have u37 := run_underlying L.t37
  have t9 := L.t9; have a9 := L.a9; have z9 := L.z9; have v9 := L.v9; have u9 := run_underlying L.t9
  have t4 := L.t4; have a4 := L.a4; have z4 := L.z4; have v4 := L.v4; have u4 := run_underlying L.t4
  have t164 := L.t164; have a164 := L.a164; have z164 := L.z164; have v164 := L.v164; have u164 := run_underlying L.t164
  have e240 := L.e240
  go_enter L.f167, Body.n167_ntmps ρ
  go_wp2_with (go_at_fn (ρ.f 240); refine (L.chk hp h).mono ?_)
  rintro e w1 ⟨rfl, h1, k1⟩
  have hlt := h1.lt
  obtain ⟨hbk, hown, hne, hn0⟩ := h1
  have c0 : w1.cell? ⟨b, 0, none⟩ = some (.pointer (some ⟨b, 0, none⟩)) := by rw [Lib.cell_of_heap hbk]; rfl
  have c1 : w1.cell? ⟨b, 1, none⟩ = some v := by rw [Lib.cell_of_heap hbk]; rfl
  go_wp2_with (at_builtin; refine wp_app_sl _ rfl _ _ (ρ.t 37) rfl (ρ.t 5) i0 L.t37 hi hz0 hz1 hz2 _ _ _ rfl (hown.alloc _) ⟨w1.heap.size, 0, none⟩ 1 1 [.int .u8 c.toNat] rfl rfl ?c1 ?c2 ?c3 ?c4 ?_)
  case c1 =>
    intro j u hj
    match j, hj with
    | 0, hj => simp at hj; subst hj; simp [Addr.add]
  case c2 => intro u hu; simp at hu; subst hu; rfl
  case c3 => unfold maxLen; rw [Lib.strCells_length]; omega
  case c4 => rw [Lib.strCells_length]; omega
  intro v' w2 hown' hgrow hv'
  have hb2 : w2.heap[b]? = some (.cells #[.pointer (some ⟨b, 0, none⟩), v] (ρ.t 72) (0, 0)) := by
    rw [hgrow.block b (by simp; omega) (fun e => hne e.symm), Lib.alloc_old w1 _ b hlt]
    exact hbk
  have d0 : w2.cell? ⟨b, 0, none⟩ = some (.pointer (some ⟨b, 0, none⟩)) := by rw [Lib.cell_of_heap hb2]; rfl
  have d1 : w2.cell? ⟨b, 1, none⟩ = some v := by rw [Lib.cell_of_heap hb2]; rfl
  have f1 : w2.frozen? ⟨b, 1, none⟩ = false := Lib.frozen_of_heap hb2 1
  have k2 := (Kp.alloc b v w1 _).trans (Kp.grown (b := b) hgrow (fun g hg => (hv' g hg).imp (fun h => by simpa using h) id))
  obtain ⟨ao, n', cap, rfl⟩ : ∃ ao n' cap, v' = .slice ao n' cap := by
    rcases hown'.2 with ⟨hv, _⟩ | ⟨g, cap, cur, fz, hv, _⟩
    · exact ⟨_, _, _, hv⟩
    · exact ⟨_, _, _, hv⟩
  go_wp2
  go_ret
  refine ⟨rfl, _, BldAt.put hb2 (s := s ++ ⟨#[c]⟩) ?_ X.neB5 (fun h0 => absurd h0 (by rw [size_app]; exact Nat.succ_ne_zero _)), (k1.trans k2).trans (Kp.set _ _ _ _)⟩
  rw [strCells_app, List.length_append]
  exact hown'
theorem bld_len (L : BldL P ρ) {b : Nat} {p v : Value} {s : ByteArray} {w : World} (hp : p = .pointer none ∨ p = .pointer (some ⟨b, 0, none⟩)) (h : BldAt (ρ.t 72) (ρ.t 5) b p v s w) :
    Calls P (ρ.f 170) #[.pointer (some ⟨b, 0, none⟩)] w fun e w' => e = .returned (.int .i64 s.size) ∧ w' = w := by
  have := Any.Builder_Len_f L.l170 0 b (Lib.strCells s) w (by
    rcases hp with rfl | rfl
    · exact .inl h.atF
    · exact .inr h.atF)
  rw [Lib.strCells_length] at this
  exact this
theorem Kp.freeze {b g : Nat} {v : Value} (hv : v.ownBlock = some g) (w : World) (n : Nat) : Kp b v v w (w.drew.freeze ⟨g, 0, none⟩ n) := by
  unfold World.freeze
  split
  · exact ⟨fun _ _ _ _ => rfl, Nat.le_refl _, rfl, rfl, rfl, fun _ h => .inr h⟩
  · refine ⟨fun c _ _ hne => ?_, by rw [Array.size_modify]; exact Nat.le_refl _, rfl, rfl, rfl, fun _ h => .inr h⟩
    rw [hv] at hne
    simp only [Array.getElem?_modify]
    rw [if_neg (fun e => hne (by rw [e]))]
    rfl
set_option maxHeartbeats 1000000 in
set_option maxRecDepth 100000 in
theorem bld_str (L : BldL P ρ) (X : Builder.Extra P ρ) {b : Nat} {p v : Value} {s : ByteArray} {w : World} (h : BldAt (ρ.t 72) (ρ.t 5) b p v s w) :
    Calls P (ρ.f 169) #[.pointer (some ⟨b, 0, none⟩)] w fun e w' => e = .returned (.string s) ∧ Kp b v v w w' := by
  obtain ⟨hbk, hown, hne, hn0⟩ := h
  by_cases h0 : s.size = 0
  · have hv := hn0 h0
    subst hv
    have hs : s = ⟨#[]⟩ := ByteArray.size_eq_zero_iff.1 h0
    refine (Any.Builder_String_nil L.ton169 X w.heap.size b p w hbk).mono ?_
    rintro e w' ⟨rfl, hb⟩
    exact ⟨by rw [hs], fun c hc _ _ => hb.block c hc, hb.size, hb.os, hb.tape, hb.output, fun _ h => .inr h⟩
  have hl : s.data.toList ≠ [] := fun e => h0 (by rw [← Lib.strCells_length, Lib.strCells, e]; rfl)
  have hsz : s.data.toList.length = s.size := by rw [Array.length_toList]; rfl
  rw [Lib.strCells_length] at hown
  obtain ⟨g, cap, cur, fz, rfl, hg, hfz, hnc, hcm, hcs, htake⟩ : ∃ g cap cur fz, v = .slice (some ⟨g, 0, none⟩) s.size cap ∧ w.heap[g]? = some (.cells cur (ρ.t 5) fz) ∧ fz.2 ≤ s.size * 1 ∧ s.size ≤ cap ∧ cap ≤ maxLen ∧ cur.size = cap * 1 ∧ cur.toList.take (s.size * 1) = Lib.strCells s := by
    rcases hown.2 with ⟨_, hz⟩ | ⟨g, cap, cur, fz, hv, _, r⟩
    · exact absurd hz h0
    · exact ⟨g, cap, cur, fz, hv, r⟩
  have c1 : w.drew.cell? ⟨b, 1, none⟩ = some (.slice (some ⟨g, 0, none⟩) s.size cap) := by
    have : w.drew.heap[b]? = some (.cells #[p, .slice (some ⟨g, 0, none⟩) s.size cap] (ρ.t 72) (0, 0)) := hbk
    rw [Lib.cell_of_heap this]; rfl
  have hSD : (Builtin.unsafeSliceData_ #[(ρ.t 37)] (ρ.t 127) #[.slice (some ⟨g, 0, none⟩) s.size cap]).run P w.drew = .ok (.pointer (some ⟨g, 0, none⟩)) w.drew :=
    Lib.run_unsafeSliceData_row _ _ _ _ _ _ (by omega)
  have hUS : (Builtin.unsafeString_ #[(ρ.t 127), (ρ.t 3)] (ρ.t 9) #[.pointer (some ⟨g, 0, none⟩), .int .i64 s.size]).run P w.drew = .ok (.string s) (w.drew.freeze ⟨g, 0, none⟩ s.size) := by
    have := Lib.run_unsafeString_row (P := P) w.drew (ρ.t 127) (ρ.t 3) (ρ.t 9) (ρ.t 5) L.t127 X.cellsByte g cur.size (by have hg' : w.drew.heap[g]? = some (.cells cur (ρ.t 5) fz) := hg; simp [World.shape?, hg']) s.data.toList hl (by omega) (by unfold maxLen at hcm; omega) (fun j x hx => by
      have := hown.cells (g := g) rfl j (.int .u8 x.toNat) (by simp [Lib.strCells, hx])
      exact this)
    rw [hsz] at this
    exact this
  have mixed := L.mixed
  have t72 := L.t72; have a72 := L.a72; have z72 := L.z72; have v72 := L.v72; have u72 := run_underlying L.t72
  have t70 := L.t70; have a70 := L.a70; have z70 := L.z70; have v70 := L.v70; have u70 := run_underlying L.t70
  have t37 := L.t37; have a37 := L.a37; have z37 := L.z37; have v37 := L.v37; have u37 := run_underlying L.t37
  have t127 := L.t127; have a127 := L.a127; have z127 := L.z127; have v127 := L.v127; have u127 := run_underlying L.t127
  have t3 := L.t3; have a3 := L.a3; have z3 := L.z3; have v3 := L.v3; have u3 := run_underlying L.t3
  have t9 := L.t9; have a9 := L.a9; have z9 := L.z9; have v9 := L.v9; have u9 := run_underlying L.t9
  have t5 := X.t5; have a5 := X.a5; have z5 := X.z5; have v5 := X.v5; have u5 := run_underlying X.t5
  go_enter L.f169, Body.n169_ntmps ρ
  go_wp2
  go_region_o
  all_goals (go_wp2; go_ret; exact ⟨rfl, Kp.freeze rfl w _⟩)
end

/-! ### As contracts -/
theorem own_blk (v : Value) (h : ∃ (a : Option Addr) (n c : Nat), v = .slice a n c) : blk v = v.ownBlock := by
  obtain ⟨a, n, c, rfl⟩ := h
  cases a <;> rfl
theorem owned_sl {w : World} {e : TypeId} {v : Value} {n : Nat} {xs : List Value} (h : w.ownsRowF 0 e 1 v n xs) : ∃ (a : Option Addr) (n c : Nat), v = .slice a n c := by
  rcases h.2 with ⟨hv, _⟩ | ⟨g, cap, cur, fz, hv, _⟩
  · exact ⟨_, _, _, hv⟩
  · exact ⟨_, _, _, hv⟩
/-- What a builder's word says of the blocks. -/
theorem bk_bld {b : Nat} {v : Value} {c : Nat} (hv : ∃ (a : Option Addr) (n c : Nat), v = .slice a n c) : Bk (.tuple [Value.pointer (some ⟨b, 0, none⟩), v].toArray) c ↔ c = b ∨ v.ownBlock = some c := by
  rw [← own_blk v hv]
  constructor
  · rintro ⟨x, hx, hb⟩
    have hx' : x = Value.pointer (some ⟨b, 0, none⟩) ∨ x = v := by simpa using hx
    rcases hx' with rfl | rfl
    · simp only [blk, Option.some.injEq] at hb; exact .inl hb.symm
    · exact .inr hb
  · rintro (rfl | h)
    · exact ⟨Value.pointer (some ⟨c, 0, none⟩), by simp, rfl⟩
    · exact ⟨v, by simp, h⟩

/-- A builder's function: what it is called with, besides; how it leaves the builder. -/
theorem fn_bld {P : Program} {f : FuncId} {T e : TypeId} {b : Nat} {s s' : ByteArray} {av : List Value} {r : Value} (hc : CallOK P f)
    (h : ∀ (p v : Value) (w : World), GOw w → (p = .pointer none ∨ p = .pointer (some ⟨b, 0, none⟩)) → BldAt T e b p v s w → Calls P f (.pointer (some ⟨b, 0, none⟩) :: av).toArray w fun x w' => x = .returned r ∧
      ∃ p' v', (p' = .pointer none ∨ p' = .pointer (some ⟨b, 0, none⟩)) ∧ BldAt T e b p' v' s' w' ∧ Kp b v v' w w')
    {res : S} (hr : ∀ M ρ, RepS M ρ res r) : FnOK P f (.one (.p (.k (.pointer (some ⟨b, 0, none⟩)))) :: av.map fun a => .one (.p (.k a))) [(0, .bld T e b s)] res [(1, .bld T e b s')] := by
  refine ⟨hc, fun M ρ w xs hx ht hI hG => ?_⟩
  match xs, hx with
  | [], hx => simp [RepSs] at hx
  | x :: xs, hx =>
    simp only [RepSs, RepS, RepV, RepPV] at hx
    obtain ⟨⟨rfl, _⟩, hxs⟩ := hx
    obtain rfl := reps_k hxs
    obtain ⟨p, v, h1, hp, hb⟩ := ht.res 0 (.bld T e b s) (by simp [tb, tg])
    have hv := owned_sl hb.2.1
    have hown : ∀ c, Owns (tb [(0, .bld T e b s)]) ρ c ↔ c = b ∨ v.ownBlock = some c := fun c => by
      rw [← bk_bld hv, ← h1]
      constructor
      · rintro ⟨i, r, hi, hbk⟩
        simp only [tb, tg_cons] at hi
        split at hi
        · rename_i e; rw [e]; exact hbk
        · cases hi
      · exact fun hbk => ⟨0, .bld T e b s, by simp [tb, tg], hbk⟩
    refine (h p v w (gow_of hI hG) hp hb).mono fun ex w' ⟨he, p', v', hp', hb', hk⟩ => ?_
    have hv' := owned_sl hb'.2.1
    have w1 : upd ρ 1 (.tuple [Value.pointer (some ⟨b, 0, none⟩), v'].toArray) 1 = .tuple [Value.pointer (some ⟨b, 0, none⟩), v'].toArray := upd_same _ _ _
    have one : ∀ i q, tg (tb [(1, .bld T e b s')]) i = some q → i = 1 ∧ q = .bld T e b s' := fun i q hi => by
      simp only [tb, tg_cons] at hi
      split at hi
      · rename_i e; exact ⟨e.symm, (Option.some.inj hi).symm⟩
      · cases hi
    have mI : ∀ c o u, M c o = some u → c ≠ b ∧ v.ownBlock ≠ some c := fun c o u hu => by
      have hn : ¬ Owns (tb [(0, .bld T e b s)]) ρ c := fun ⟨i, q, hi, hbk⟩ => by rw [ht.own i q c hi hbk o] at hu; cases hu
      rw [hown] at hn
      exact ⟨fun e => hn (.inl e), fun e => hn (.inr e)⟩
    have nowM : ∀ c, c = b ∨ v'.ownBlock = some c → ∀ o, M c o = none := fun c hc o => by
      cases hm : M c o with
      | none => rfl
      | some u =>
        have := mI c o u hm
        have hlt := cell_lt (hI c o u hm)
        rcases hc with rfl | hc
        · exact absurd rfl this.1
        · rcases hk.own c hc with h3 | h3
          · omega
          · exact absurd h3 this.2
    refine ⟨r, M, upd ρ 1 (.tuple [Value.pointer (some ⟨b, 0, none⟩), v'].toArray), he, hr _ _, ⟨fun i q hi => ?_, fun i j ri rj c hi hj hne => ?_, fun i q c hi hc o => ?_⟩, fun c o u hu => ?_, MLe.refl M, fun c o u hu => .inl hu, fun c hc => ?_, fun c hc hn => ?_, hk.size, hk.os, hk.tape, hk.output, fun id hid => ?_⟩
    · obtain ⟨rfl, rfl⟩ := one i q hi
      exact ⟨p', v', w1, hp', hb'⟩
    · exact absurd ((one i ri hi).1.trans (one j rj hj).1.symm) hne
    · obtain ⟨rfl, rfl⟩ := one i q hi
      rw [w1, bk_bld hv'] at hc
      exact nowM c hc o
    · rw [cell_of_heap (hk.block c (cell_lt (hI c o u hu)) (mI c o u hu).1 (mI c o u hu).2)]; exact hI c o u hu
    · obtain ⟨i, q, hi, hbk⟩ := hc
      obtain ⟨rfl, rfl⟩ := one i q hi
      rw [w1, bk_bld hv'] at hbk
      rw [hown]
      rcases hbk with h3 | h3
      · exact .inr (.inl h3)
      · exact (hk.own c h3).imp id .inr
    · rw [hown] at hn
      exact hk.block c hc (fun e => hn (.inl e)) fun e => hn (.inr e)
    · simp only [RL.ids, List.mem_cons, List.mem_nil_iff, or_false] at hid
      subst hid; exact upd_other (by decide)
/-- A builder's function that ends it. -/
theorem fn_bldX {P : Program} {f : FuncId} {T e : TypeId} {b : Nat} {s : ByteArray} {r : Value} (hc : CallOK P f)
    (h : ∀ (p v : Value) (w : World), GOw w → (p = .pointer none ∨ p = .pointer (some ⟨b, 0, none⟩)) → BldAt T e b p v s w → Calls P f #[.pointer (some ⟨b, 0, none⟩)] w fun x w' => x = .returned r ∧ Kp b v v w w')
    {res : S} (hr : ∀ M ρ, RepS M ρ res r) : FnOK P f [.one (.p (.k (.pointer (some ⟨b, 0, none⟩))))] [(0, .bld T e b s)] res [] := by
  refine ⟨hc, fun M ρ w xs hx ht hI hG => ?_⟩
  match xs, hx with
  | [], hx => simp [RepSs] at hx
  | _ :: _ :: _, hx => simp [RepSs] at hx
  | [x], hx =>
    simp only [RepSs, RepS, RepV, RepPV] at hx
    obtain ⟨⟨rfl, _⟩, _⟩ := hx
    obtain ⟨p, v, h1, hp, hb⟩ := ht.res 0 (.bld T e b s) (by simp [tb, tg])
    have hv := owned_sl hb.2.1
    have hown : ∀ c, Owns (tb [(0, .bld T e b s)]) ρ c ↔ c = b ∨ v.ownBlock = some c := fun c => by
      rw [← bk_bld hv, ← h1]
      constructor
      · rintro ⟨i, r, hi, hbk⟩
        simp only [tb, tg_cons] at hi
        split at hi
        · rename_i e; rw [e]; exact hbk
        · cases hi
      · exact fun hbk => ⟨0, .bld T e b s, by simp [tb, tg], hbk⟩
    have mI : ∀ c o u, M c o = some u → c ≠ b ∧ v.ownBlock ≠ some c := fun c o u hu => by
      have hn : ¬ Owns (tb [(0, .bld T e b s)]) ρ c := fun ⟨i, q, hi, hbk⟩ => by rw [ht.own i q c hi hbk o] at hu; cases hu
      rw [hown] at hn
      exact ⟨fun e => hn (.inl e), fun e => hn (.inr e)⟩
    refine (h p v w (gow_of hI hG) hp hb).mono fun ex w' ⟨he, hk⟩ => ?_
    refine ⟨r, M, ρ, he, hr _ _, ⟨fun i q hi => (by cases hi), fun i j ri rj c hi => (by cases hi), fun i q c hi => (by cases hi)⟩, fun c o u hu => ?_, MLe.refl M, fun c o u hu => .inl hu, fun c hc => ?_, fun c hc hn => ?_, hk.size, hk.os, hk.tape, hk.output, fun id hid => rfl⟩
    · rw [cell_of_heap (hk.block c (cell_lt (hI c o u hu)) (mI c o u hu).1 (mI c o u hu).2)]; exact hI c o u hu
    · obtain ⟨i, q, hi, _⟩ := hc; cases hi
    · rw [hown] at hn
      exact hk.block c hc (fun e => hn (.inl e)) fun e => hn (.inr e)
/-- A builder's pointer. -/
abbrev Bp (b : Nat) : S := .one (.p (.k (.pointer (some ⟨b, 0, none⟩))))
section
variable {P : Program} {C : Ctx} {k : List Frm} {n : Nat} {sl : Slots} {tab : Tab} {Q : Exit → St → Prop} {all : Array Oper} {rest : List Oper}
/-- A builder's variable. -/
theorem g_newBld {d : Nat} {t ty : TypeId} {ps : String} {af : Array Edge} (hC : C.low) (e : TypeId) (hz : zeroV P t = some [.p (.k (.pointer none)), .p (.k (.slice none 0 0))]) (hd : Nat.blt d n = true) (hf : freshB (1000 + d) ⟨n, sl, tab⟩ = true)
    (g : ∀ b : Nat, Goal P C (.ops all rest none) k n ((d, Bp b) :: sl) ((1000 + d, some (.bld t e b ByteArray.empty)) :: tab) Q) : Goal P C (.ops all (⟨some d, .alloc t, ty, ps, af, none⟩ :: rest) none) k n sl tab Q := by
  refine fun M ρ a w hH => wpList_step fun K hK => ?_
  simp only [Region.wanted, if_true]
  have hfr : Fresh C (1000 + d) ⟨n, sl, tab⟩ := fresh_of hf (hC.none (by omega))
  obtain ⟨zv, hz1, hz2, _⟩ := zeroV_spec hz M ρ w
  have hz4 : zv.cells = #[Value.pointer none, .slice none 0 0] := by
    generalize hL : zv.cells.toList = L at hz2
    match L, hz2 with
    | [], hz2 => simp [RepVs] at hz2
    | [_], hz2 => simp [RepVs] at hz2
    | _ :: _ :: _ :: _, hz2 => simp [RepVs] at hz2
    | [x, y], hz2 =>
      simp only [RepVs, RepV, RepPV] at hz2
      rw [hz2.1.1, hz2.2.1.1] at hL
      rw [← Array.toArray_toList (xs := zv.cells), hL]
  have hrun : (execOp a.eval ⟨some d, .alloc t, ty, ps, af, none⟩).run P w = .ok (.value (.pointer (some ⟨w.heap.size, 0, none⟩))) (w.alloc (.cells zv.cells t)) := by
    simp [execOp, Instr.alloc, newVar, newRow, hz1]
  unfold Oper.wp
  rw [hrun, Oper.upon_value]
  refine hK _ _ (g w.heap.size M _ _ _ (hH.alloc (st := ⟨n, sl, tab⟩) (d := some d) (v := Bp w.heap.size) (id := 1000 + d) (r' := .bld t e w.heap.size ByteArray.empty) (val := .tuple [Value.pointer (some ⟨w.heap.size, 0, none⟩), .slice none 0 0].toArray) (fun b hb => ?_) hfr
    ⟨.pointer none, .slice none 0 0, upd_same _ _ _, .inl rfl, by rw [hz4]; exact heap_push_new w _, ⟨rfl, .inl ⟨rfl, rfl⟩⟩, by simp [Value.ownBlock], fun _ => rfl⟩ ?_ hd))
  · rw [bk_bld ⟨_, _, _, rfl⟩] at hb
    rcases hb with rfl | hb
    · rfl
    · cases hb
  · simp only [RepS, RepV, RepPV]; exact ⟨trivial, rfl⟩
end
end Hw
