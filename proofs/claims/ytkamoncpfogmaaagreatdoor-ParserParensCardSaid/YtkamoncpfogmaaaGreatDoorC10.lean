/- The engine and the contracts. -/
import Derived.Test.YtkamoncpfogmaaaGreatDoorC9
import Derived.Test.YtkamoncpfogmaaaGreatDoorC2
import Derived.Test.YtkamoncpfogmaaaGreatDoorC8
import Derived.Test.YtkamoncpfogmaaaGreatDoorC6
import Derived.Test.YtkamoncpfogmaaaGreatDoorC7
import Derived.Test.YtkamoncpfogmaaaGreatDoorE3
import Derived.Lib.LaidTab
set_option linter.unusedVariables false
set_option linter.unusedSimpArgs false
namespace Hw.Pa
open Go Go.Proofs Hw.M

theorem parens_join {s : Str} (hs : s.size ≤ 2000) {l : List Tok} (hl : tokensS s = (l, (0, 0), 0)) :
    okJ l ∧ l.length ≤ 2001 ∧ (accJ l 0 (⟨#[]⟩ : ByteArray)).size ≤ 65536 ∧ (descTop (accJ l 0 (⟨#[]⟩ : ByteArray))).1 = (descTop s).1 ∧ (descTop (accJ l 0 (⟨#[]⟩ : ByteArray))).2.2 = (descTop s).2.2 := by
  have hc : ∃ o q, l = o ++ [⟨5, (⟨#[]⟩ : ByteArray), 0, q.1, q.2⟩] ∧ InvT o q ∧ o.length ≤ s.size := by
    rcases tokens_cases s (by omega) with ⟨o, q, h1, h2, h3⟩ | ⟨q, h1⟩
    · rw [hl] at h1
      simp only [Prod.mk.injEq, and_true] at h1
      exact ⟨o, q, h1, h2, h3⟩
    · rw [hl] at h1
      simp only [Prod.mk.injEq] at h1
      omega
  obtain ⟨o, q, he, hI, hlen⟩ := hc
  have hll : l.length = o.length + 1 := by rw [he]; simp
  have hok : okJ l := fun j u hu => by
    rw [he] at hu
    rcases Nat.lt_or_ge j o.length with h | h
    · rw [List.getElem?_append_left h] at hu
      obtain ⟨h1, h2, _⟩ := hI.each u (List.mem_of_getElem? hu)
      unfold okAt
      rw [h1, decide_eq_false h2]
      rfl
    · have hj := (List.getElem?_eq_some_iff.1 hu).1
      rw [List.length_append, List.length_singleton] at hj
      rw [List.getElem?_append_right h, show j - o.length = 0 by omega] at hu
      simp only [List.getElem?_cons_zero, Option.some.injEq] at hu
      subst hu
      have hv : validF ⟨5, (⟨#[]⟩ : ByteArray), 0, q.1, q.2⟩ = true := by unfold validF; simp
      unfold okAt
      rw [hv, decide_eq_false (show ¬ ((j : Int) < (l.length : Int) - 1) by omega)]
      simp
  have hsz : (accJ l 0 (⟨#[]⟩ : ByteArray)).size ≤ 65536 := by
    rw [accJ_len]
    have h1 := joinL_len l 0
    have h3 := tokens_sz s
    rw [hl] at h3
    simp only at h3
    omega
  obtain ⟨o2, e1, e2⟩ := join_back hok hsz
  have hw : withEnd l = l := by
    unfold withEnd
    rw [if_pos]
    rw [he]
    simp
  rw [hw] at e2
  have hlen2 : o2.length = l.length := by have := congrArg List.length e2; simpa using this
  have hg : GoodL l := by rw [he]; exact tok_good hI (by omega)
  have hag : AG (l.length + 1) l o2 := fun k _ => (keys_get e2 k).symm
  have hcc := desc_cc hag (10 * l.length + 13) (10 * o2.length + 13)
  have hout := desc_out (l := o2) (f := 10 * o2.length + 13) (by omega)
  have hout1 := desc_out (l := l) (f := 10 * l.length + 13) (by omega)
  have h0 : 0 < l.length := by omega
  have hrg : RA l (descA l (10 * l.length + 13)) := by
    rw [← er_desc]
    exact .er (.go (.one hg h0 _) fun _ _ hk => .go (.name hg hk) fun _ _ hk => .go (.one hg hk _) fun _ _ hk => items_rg hg _ _ _ _ hk)
  have hkk : ∀ j, j < l.length → ∃ t u, l[j]? = some t ∧ o2[j]? = some u ∧ t.k = u.k := fun j hj => by
    obtain ⟨t, ht⟩ := exists_at hj
    obtain ⟨u, hu⟩ := exists_at (l := o2) (i := j) (by omega)
    have h := keys_get e2 j
    rw [ht, hu] at h
    simp only [Option.map_some, Option.some.injEq, keyT, Prod.mk.injEq] at h
    exact ⟨t, u, ht, hu, h.1.symm⟩
  have hT : descTop (accJ l 0 (⟨#[]⟩ : ByteArray)) = topD o2 := by unfold descTop; rw [e1]; exact if_pos rfl
  have hT1 : descTop s = topD l := by unfold descTop; rw [hl]; exact if_pos rfl
  rw [hT, hT1]
  refine ⟨hok, by omega, hsz, ?_⟩
  unfold topD
  cases hx : descA l (10 * l.length + 13) with
  | out => exact absurd hx hout1
  | no j =>
    have hj := hrg.2 j hx
    obtain ⟨t, u, ht, hu, hk⟩ := hkk j hj
    rcases (hcc.2 j hx).1 (by omega) with h | h
    · exact absurd h hout
    · rw [h, hx]
      simp only [ht, hu, hk]
      exact ⟨trivial, trivial⟩
  | ok x j =>
    have hj := hrg.1 x j hx
    obtain ⟨t, u, ht, hu, hk⟩ := hkk j hj
    rcases (hcc.1 x j hx).1 (by omega) with h | h
    · exact absurd h hout
    · rw [h, hx]
      simp only [ht, hu, hk]
      split
      · split
        · exact ⟨rfl, rfl⟩
        · exact ⟨rfl, rfl⟩
      · exact ⟨rfl, rfl⟩
end Hw.Pa
/- The engine, part BW: a call that gives every lent resource back as it was: nothing counts as written. -/
namespace Hw
open Go
theorem Holds.shift {C : Ctx} {st st' : St} {M : Mem} {ρ : Nat → Value} {a : Act} {w : World} (h : Holds C st M ρ a w) (hn : st'.n = st.n) (hs : st'.sl = st.sl) (ht : ∀ i r, tg st'.tab i = some r → tg st.tab i = some r) : Holds C st' M ρ a w where
  dfr := h.dfr
  sz := by rw [hn]; exact h.sz
  slots := by rw [hs]; exact h.slots
  tabs := ⟨fun i r e => h.tabs.res i r (ht i r e), fun i j ri rj b e1 e2 => h.tabs.dis i j ri rj b (ht i ri e1) (ht j rj e2), fun i r b e => h.tabs.own i r b (ht i r e)⟩
  ownf := fun i r b e => h.ownf i r b (ht i r e)
  run := h.run
  keep := h.keep
theorem tg_offs_not {ids : List Nat} {tab : Tab} {i : Nat} (h : i ∉ ids) : tg (offs ids ++ tab) i = tg tab i := by
  induction ids with
  | nil => rfl
  | cons j ids ih =>
    simp only [List.mem_cons, not_or] at h
    show tg ((j, none) :: (offs ids ++ tab)) i = _
    rw [tg_cons]
    split
    · rename_i e; exact absurd e.symm (by simpa using h.1)
    · exact ih h.2
theorem tg_back {X : RL} {ids : List Nat} {tab : Tab} {i : Nat} {r : Res} (hX : ∀ j s, (j, s) ∈ X → tg tab j = some s) (hi : i ∈ ids → i ∈ X.ids) (hr : tg tab i = some r) : tg (tb X ++ (offs ids ++ tab)) i = some r := by
  induction X with
  | nil =>
    show tg (offs ids ++ tab) i = some r
    rw [tg_offs_not (fun h => by cases hi h)]
    exact hr
  | cons x X ih =>
    obtain ⟨j, s⟩ := x
    show tg ((j, some s) :: (tb X ++ (offs ids ++ tab))) i = some r
    rw [tg_cons]
    split
    · rename_i e
      subst e
      have := hX _ s List.mem_cons_self
      rw [hr] at this
      simp only [Option.some.injEq] at this
      rw [this]
    · rename_i e
      refine ih (fun j s h => hX j s (List.mem_cons_of_mem _ h)) fun h => ?_
      have := hi h
      rcases List.mem_cons.1 this with e2 | e2
      · exact absurd e2.symm (by simpa using e)
      · exact e2
theorem ids_ren (σ : Nat → Nat) : ∀ R : RL, (R.ren σ).ids = R.ids.map σ
  | [] => rfl
  | (i, r) :: R => by simp only [RL.ren, RL.ids, List.map_cons, ids_ren σ R]
section
variable {P : Program} {d : Option Nat} {ty : TypeId} {ps : String} {af : Array Edge} {g : Option (Nat × Bool)}
theorem L_callK {f : FuncId} {args : List S} {R : RL} {res : S} (h : FnOK P f args R res R) (σ : Nat → Nat) {x : Operand} {l : List Operand} {ts : Array TypeId} {first caps : List V} {ss : List S}
    (hx : okc x (.one (.cl f first caps))) (hl : okcs l ss) (hle : LeSs (ones first ++ ss ++ ones caps) (Ss.ren σ args)) (hi : injB σ R.ids = true)
    (hc : cloS (R.ids ++ R.ids) res = true) (hcR : cloRL (R.ids ++ R.ids) R = true) :
    Snd P ⟨d, .call ⟨.value x, l.toArray, ts⟩, ty, ps, af, g⟩ (rq x (.one (.cl f first caps)) ++ rqs l ss) (R.ren σ) ((newIds R R).map σ) (res.ren σ) [] := by
  intro C st M ρ a w hH h1 hT hF hd k Q hk
  refine L_call h σ hx hl hle hi hi hc hcR C st M ρ a w hH h1 hT hF hd k Q fun a' w' M' ρ' hH' => hk a' w' M' ρ' ?_
  refine hH'.shift rfl rfl fun i r hr => ?_
  have hr : tg st.tab i = some r := hr
  show tg ((tb (R.ren σ) ++ offs (R.ids.map σ)) ++ st.tab) i = some r
  rw [List.append_assoc]
  exact tg_back (fun j s hm => okT_mem hT hm) (fun h => by rw [ids_ren]; exact h) hr
end
section
variable {P : Program} {C : Ctx} {k : List Frm} {n : Nat} {sl : Slots} {tab : Tab} {Q : Exit → St → Prop} {all : Array Oper} {rest : List Oper}
theorem g_callK {d : Option Nat} {x : Operand} {l : List Operand} {ts : Array TypeId} {ty : TypeId} {ps : String} {af : Array Edge} {g0 : Option (Nat × Bool)} {gs : Slots} {md : Mode} (hC : C.low) {f : FuncId} {args ss : List S} {first caps : List V} {res : S} {R : RL}
    (h : FnOK P f args R res R) (σ : Nat → Nat) (hx : ev sl x = some (.one (.cl f first caps))) (hl : evs sl l = some ss) (ha : LeSs (ones first ++ ss ++ ones caps) (Ss.ren σ args)) (hi : injB σ R.ids = true)
    (hc : cloS (R.ids ++ R.ids) res = true) (hcR : cloRL (R.ids ++ R.ids) R = true) (hT : rdT tab (R.ren σ) = R.ren σ) (hfr : allB (fun id => Nat.ble 100 id && freshB id ⟨n, sl, tab⟩) ((newIds R R).map σ) = true) (hm : metL all sl g0 = some gs) (hd : dok d n = true)
    (g : Goal P C (.ops all rest (nx md ⟨d, gs ++ (rq x (.one (.cl f first caps)) ++ rqs l ss), R.ren σ, (newIds R R).map σ, res.ren σ, []⟩)) k n (app d (res.ren σ) ([]) ⟨n, sl, tab⟩).sl ([] ++ tab) Q) :
    Goal P C (.ops all (⟨d, .call ⟨.value x, l.toArray, ts⟩, ty, ps, af, g0⟩ :: rest) md) k n sl tab Q := by
  have e1 := of_ev (st := ⟨n, sl, tab⟩) hx
  have e2 := of_evs (st := ⟨n, sl, tab⟩) hl
  have := metL_step hm (L_callK (ty := ty) (ps := ps) (af := af) (g := g0) (d := d) (ts := ts) h σ e1.1 e2.1 ha hi hc hcR) (n := n) (tab := tab)
  exact g_law (L := ⟨d, gs ++ (rq x (.one (.cl f first caps)) ++ rqs l ss), R.ren σ, (newIds R R).map σ, res.ren σ, []⟩) hC this.1 rfl ⟨by rw [okS_append, okS_append]; exact ⟨this.2, e1.2, e2.2⟩, rdT_ok hT, hfr, hd⟩ g
end
end Hw
namespace Hw.Pa
open Go Go.Proofs Hw.M

theorem u8r (how : Nat) : (how : Int).tmod 3 = ((how % 3 : Nat) : Int) := rfl
set_option maxHeartbeats 4000000 in
theorem full_ok : ∀ (m : Nat) (x : Ex) (how : Nat), sizeOf x < m → vE x = true → cntE x ≤ 1000 → how < 256 → FnOK Tryz.prog 19 [aggS (exprC x), Kk .u8 (how : Int)] [] (Sr (fullS x how)) [] := by
  intro m
  induction m with
  | zero => intro x how h; omega
  | succ m ih =>
  intro x how hm hv hc hh
  obtain ⟨op, n, s, l⟩ := x
  have hv' := hv
  simp only [vE, Bool.and_eq_true] at hv'
  obtain ⟨hl6, hn, hp2, har⟩ := node_facts hv'.1
  have hs40 := node_size hv'.1
  have hs41 : (Ex.mk op n s l).s.size ≤ 40 := hs40
  simp only [cntE] at hc
  have hF : ∀ (i : Nat) (x : Ex), l[i]? = some x → FnOK Tryz.prog 19 [aggS (exprC x), Kk .u8 ((how / 3 : Nat) : Int)] [] (Sr (fullS x (how / 3))) [] := fun i x hx => by
    have h1 := size_at hx
    have h2 : cntE x ≤ cntEs l := by
      have := cntEs_take hx
      have := cntEs_le l (i + 1)
      omega
    refine ih x (how / 3) ?_ (vEs_at hv'.2 hx) (by omega) (by omega)
    simp only [Ex.mk.sizeOf_spec] at hm
    omega
  have hZ : ∀ (i : Nat) (x : Ex), l[i]? = some x → (fullS x (how / 3)).size ≤ 1000000 := fun i x hx => by
    have h1 := full_size x (how / 3) (vEs_at hv'.2 hx)
    have h2 : cntE x ≤ cntEs l := by
      have := cntEs_take hx
      have := cntEs_le l (i + 1)
      omega
    omega
  have hps := parts_size l how hv'.2
  have hL := list_ok (.mk op n s l) how hh hF hZ (by simp only [Ex.l]; omega) hl6
  have hP := fun i x (hx : l[i]? = some x) => part_ok (.mk op n s l) how i hx hh (hF i x hx) (hZ i x hx)
  have hr := u8r how
  have hpl := partsF_len l how
  have hacc := accC_size (partsF l how) 0 (⟨#[]⟩ : ByteArray)
  have g0 := getD_size (partsF l how) 0
  have g2 := get2_size (partsF l how)
  have hlst : (lstC (partsF l how)).size ≤ 1000000 := by
    unfold lstC
    rw [size_app, size_app]
    have h0 : ((⟨#[]⟩ : ByteArray) : Str).size = 0 := rfl
    have h1 : ((⟨#[40]⟩ : ByteArray) : Str).size = 1 := rfl
    have h2 : ((⟨#[41]⟩ : ByteArray) : Str).size = 1 := rfl
    omega
  simp only [fullS]
  simp only [Ex.l] at hL
  have key : ∀ (ol cl : Str), opn how = ol → cls how = cl → ((how % 3 = 1 ∧ ol = (⟨#[40, 40]⟩ : ByteArray) ∧ cl = (⟨#[41, 41]⟩ : ByteArray)) ∨ (how % 3 = 2 ∧ ol = ⟨#[40, 32, 35, 32, 115, 111, 10]⟩ ∧ cl = ⟨#[9, 41]⟩) ∨ (how % 3 = 0 ∧ ol = (⟨#[40]⟩ : ByteArray) ∧ cl = (⟨#[41]⟩ : ByteArray))) := by
    intro ol cl h1 h2
    subst h1 h2
    unfold opn cls
    have : how % 3 = 0 ∨ how % 3 = 1 ∨ how % 3 = 2 := by omega
    rcases this with h | h | h <;> simp [h]
  have key := key _ _ rfl rfl
  generalize hps' : partsF l how = ps at hL hps hpl hacc g0 g2 hlst ⊢
  have hat : ∀ (i : Nat) (x : Ex), l[i]? = some x → ps[i]? = some (opn how ++ fullS x (how / 3) ++ cls how) := fun i x hx => by rw [← hps']; exact partsF_at how hx
  simp only [fullR, full5] at hL hP
  generalize opn how = ol at key hL hP hat
  generalize cls how = cl at key hL hP hat
  clear hps' hF hZ ih hm
  by_cases q1 : op = 1
  · subst q1
    rw [show ownF 1 n s ps = itoaB n from rfl]
    obtain ⟨n0, n1⟩ := hn rfl
    have hD := dec01_ok (n.natAbs + 1) n (Nat.lt_succ_self _) n0 (by omega)
    rcases key with ⟨hm3, rfl, rfl⟩ | ⟨hm3, rfl, rfl⟩ | ⟨hm3, rfl, rfl⟩
    all_goals
      refine fn_ok T Tryz.func19 (by kernel_rfl) rfl rfl rfl rfl fun C hC => ?_
      repeat' first | refine g_go T hC true 400 rfl rfl ?_ | (exfalso; simp [Ex.op, Ex.n] at h; done) | refine g_cond rfl (fun h => ?_) (fun h => ?_) | refine g_end T hC (by kernel_rfl) ?_ | refine g_splitD (fun h => ?_) (fun h => ?_) | (refine g_rem hC rfl rfl (by decide) rfl rfl ?_; rw [hr, hm3]) | refine g_call hC (hD) rfl rfl (LeSs.refl _) rfl rfl rfl ?_ | refine g_retl T (.inl rfl) rfl ?_
      exact g_fin ⟨.inl rfl, id, _, rfl, .refl _, trivial, rfl, rfl⟩
  by_cases q2 : op = 2
  · subst q2
    by_cases q : n = 1
    · subst q
      rw [show ownF 2 1 s ps = (⟨#[116, 114, 117, 101]⟩ : ByteArray) from rfl]
      rcases key with ⟨hm3, rfl, rfl⟩ | ⟨hm3, rfl, rfl⟩ | ⟨hm3, rfl, rfl⟩
      all_goals
        refine fn_ok T Tryz.func19 (by kernel_rfl) rfl rfl rfl rfl fun C hC => ?_
        repeat' first | refine g_go T hC true 400 rfl rfl ?_ | (exfalso; simp [Ex.op, Ex.n] at h; done) | refine g_cond rfl (fun h => ?_) (fun h => ?_) | refine g_end T hC (by kernel_rfl) ?_ | refine g_splitD (fun h => ?_) (fun h => ?_) | (refine g_rem hC rfl rfl (by decide) rfl rfl ?_; rw [hr, hm3]) | refine g_retl T (.inl rfl) rfl ?_
        exact g_fin ⟨.inl rfl, id, _, rfl, .refl _, trivial, rfl, rfl⟩
    · rw [show ownF 2 n s ps = (⟨#[102, 97, 108, 115, 101]⟩ : ByteArray) from if_neg q]
      rcases key with ⟨hm3, rfl, rfl⟩ | ⟨hm3, rfl, rfl⟩ | ⟨hm3, rfl, rfl⟩
      all_goals
        refine fn_ok T Tryz.func19 (by kernel_rfl) rfl rfl rfl rfl fun C hC => ?_
        repeat' first | refine g_go T hC true 400 rfl rfl ?_ | (exfalso; simp [Ex.op, Ex.n, q] at h; done) | refine g_cond rfl (fun h => ?_) (fun h => ?_) | refine g_end T hC (by kernel_rfl) ?_ | refine g_splitD (fun h => ?_) (fun h => ?_) | (refine g_rem hC rfl rfl (by decide) rfl rfl ?_; rw [hr, hm3]) | refine g_retl T (.inl rfl) rfl ?_
        exact g_fin ⟨.inl rfl, id, _, rfl, .refl _, trivial, rfl, rfl⟩
  by_cases q3 : op = 3
  · subst q3
    rw [show ownF 3 n s ps = (⟨#[110, 105, 108]⟩ : ByteArray) from rfl]
    rcases key with ⟨hm3, rfl, rfl⟩ | ⟨hm3, rfl, rfl⟩ | ⟨hm3, rfl, rfl⟩
    all_goals
      refine fn_ok T Tryz.func19 (by kernel_rfl) rfl rfl rfl rfl fun C hC => ?_
      repeat' first | refine g_go T hC true 400 rfl rfl ?_ | (exfalso; simp [Ex.op, Ex.n] at h; done) | refine g_cond rfl (fun h => ?_) (fun h => ?_) | refine g_end T hC (by kernel_rfl) ?_ | refine g_splitD (fun h => ?_) (fun h => ?_) | (refine g_rem hC rfl rfl (by decide) rfl rfl ?_; rw [hr, hm3]) | refine g_retl T (.inl rfl) rfl ?_
      exact g_fin ⟨.inl rfl, id, _, rfl, .refl _, trivial, rfl, rfl⟩
  by_cases q4 : op = 4
  · subst q4
    rw [show ownF 4 n s ps = s from rfl]
    rcases key with ⟨hm3, rfl, rfl⟩ | ⟨hm3, rfl, rfl⟩ | ⟨hm3, rfl, rfl⟩
    all_goals
      refine fn_ok T Tryz.func19 (by kernel_rfl) rfl rfl rfl rfl fun C hC => ?_
      repeat' first | refine g_go T hC true 400 rfl rfl ?_ | (exfalso; simp [Ex.op, Ex.n] at h; done) | refine g_cond rfl (fun h => ?_) (fun h => ?_) | refine g_end T hC (by kernel_rfl) ?_ | refine g_splitD (fun h => ?_) (fun h => ?_) | (refine g_rem hC rfl rfl (by decide) rfl rfl ?_; rw [hr, hm3]) | refine g_retl T (.inl rfl) rfl ?_
      exact g_fin ⟨.inl rfl, id, _, rfl, .refl _, trivial, rfl, rfl⟩
  by_cases q6 : op = 6
  · subst q6
    rw [show ownF 6 n s ps = (⟨#[110, 101, 119, 32]⟩ : ByteArray) ++ s from rfl]
    have hk : ((⟨#[110, 101, 119, 32]⟩ : ByteArray) : Str).size = 4 := rfl
    rcases key with ⟨hm3, rfl, rfl⟩ | ⟨hm3, rfl, rfl⟩ | ⟨hm3, rfl, rfl⟩
    all_goals
      refine fn_ok T Tryz.func19 (by kernel_rfl) rfl rfl rfl rfl fun C hC => ?_
      repeat' first | refine g_go T hC true 400 rfl rfl ?_ | (exfalso; simp [Ex.op, Ex.n] at h; done) | refine g_cond rfl (fun h => ?_) (fun h => ?_) | refine g_end T hC (by kernel_rfl) ?_ | refine g_splitD (fun h => ?_) (fun h => ?_) | (refine g_rem hC rfl rfl (by decide) rfl rfl ?_; rw [hr, hm3]) | (refine g_cat hC rfl rfl (by omega) rfl rfl ?_) | refine g_retl T (.inl rfl) rfl ?_
      exact g_fin ⟨.inl rfl, id, _, rfl, .refl _, trivial, rfl, rfl⟩
  by_cases q5 : op = 5
  · subst q5
    rw [show ownF 5 n s ps = ps.getD 0 (⟨#[]⟩ : ByteArray) ++ (⟨#[32, 46, 32]⟩ : ByteArray) ++ s from rfl]
    have hk : ((⟨#[32, 46, 32]⟩ : ByteArray) : Str).size = 3 := rfl
    have hl1 : ∃ a, l = [a] := by
      have := har (by decide)
      have h1 : l.length = 1 := by have e : partsS 5 = 1 := rfl; omega
      match l, h1 with
      | [a], _ => exact ⟨a, rfl⟩
    obtain ⟨a, rfl⟩ := hl1
    have hP0 := hP 0 a rfl
    have h0p := hat 0 a rfl
    have hg : ps.getD 0 (⟨#[]⟩ : ByteArray) = ol ++ fullS a (how / 3) ++ cl := by rw [List.getD_eq_getElem?_getD, h0p]; rfl
    rw [hg] at g0 ⊢
    rcases key with ⟨hm3, rfl, rfl⟩ | ⟨hm3, rfl, rfl⟩ | ⟨hm3, rfl, rfl⟩
    all_goals
      refine fn_ok T Tryz.func19 (by kernel_rfl) rfl rfl rfl rfl fun C hC => ?_
      repeat' first | refine g_go T hC true 400 rfl rfl ?_ | (exfalso; simp [Ex.op, Ex.n] at h; done) | refine g_cond rfl (fun h => ?_) (fun h => ?_) | refine g_end T hC (by kernel_rfl) ?_ | refine g_splitD (fun h => ?_) (fun h => ?_) | (refine g_rem hC rfl rfl (by decide) rfl rfl ?_; rw [hr, hm3]) | refine g_callK hC (hP0) (nm [1005, 1002, 1003, 1006]) rfl rfl (LeSs.refl _) rfl rfl rfl rfl rfl rfl rfl ?_ | (refine g_cat hC rfl rfl (by omega) rfl rfl ?_) | (refine g_cat hC rfl rfl (by rw [size_app]; omega) rfl rfl ?_) | refine g_retl T (.inl rfl) rfl ?_
      exact g_fin ⟨.inl rfl, id, _, rfl, .refl _, trivial, rfl, rfl⟩
  by_cases q7 : op = 7
  · subst q7
    rw [show ownF 7 n s ps = s ++ (⟨#[32]⟩ : ByteArray) ++ lstC ps from rfl]
    have hk : ((⟨#[32]⟩ : ByteArray) : Str).size = 1 := rfl
    rcases key with ⟨hm3, rfl, rfl⟩ | ⟨hm3, rfl, rfl⟩ | ⟨hm3, rfl, rfl⟩
    all_goals
      refine fn_ok T Tryz.func19 (by kernel_rfl) rfl rfl rfl rfl fun C hC => ?_
      repeat' first | refine g_go T hC true 400 rfl rfl ?_ | (exfalso; simp [Ex.op, Ex.n] at h; done) | refine g_cond rfl (fun h => ?_) (fun h => ?_) | refine g_end T hC (by kernel_rfl) ?_ | refine g_splitD (fun h => ?_) (fun h => ?_) | (refine g_rem hC rfl rfl (by decide) rfl rfl ?_; rw [hr, hm3]) | (refine g_cat hC rfl rfl (by omega) rfl rfl ?_) | refine g_callK hC (hL) (nm [1005, 1002, 1003, 1006, 1007]) rfl rfl (LeSs.refl _) rfl rfl rfl rfl rfl rfl rfl ?_ | (refine g_cat hC rfl rfl (by rw [size_app]; omega) rfl rfl ?_) | refine g_retl T (.inl rfl) rfl ?_
      exact g_fin ⟨.inl rfl, id, _, rfl, .refl _, trivial, rfl, rfl⟩
  by_cases q21 : op = 21
  · subst q21
    rw [show ownF 21 n s ps = (⟨#[105, 102]⟩ : ByteArray) ++ lstC ps from rfl]
    have hk : ((⟨#[105, 102]⟩ : ByteArray) : Str).size = 2 := rfl
    rcases key with ⟨hm3, rfl, rfl⟩ | ⟨hm3, rfl, rfl⟩ | ⟨hm3, rfl, rfl⟩
    all_goals
      refine fn_ok T Tryz.func19 (by kernel_rfl) rfl rfl rfl rfl fun C hC => ?_
      repeat' first | refine g_go T hC true 400 rfl rfl ?_ | (exfalso; simp [Ex.op, Ex.n] at h; done) | refine g_cond rfl (fun h => ?_) (fun h => ?_) | refine g_end T hC (by kernel_rfl) ?_ | refine g_splitD (fun h => ?_) (fun h => ?_) | (refine g_rem hC rfl rfl (by decide) rfl rfl ?_; rw [hr, hm3]) | refine g_callK hC (hL) (nm [1005, 1002, 1003, 1006, 1007]) rfl rfl (LeSs.refl _) rfl rfl rfl rfl rfl rfl rfl ?_ | (refine g_cat hC rfl rfl (by omega) rfl rfl ?_) | refine g_retl T (.inl rfl) rfl ?_
      exact g_fin ⟨.inl rfl, id, _, rfl, .refl _, trivial, rfl, rfl⟩
  by_cases q22 : op = 22
  · subst q22
    rw [show ownF 22 n s ps = (⟨#[109, 97, 120]⟩ : ByteArray) ++ lstC ps from rfl]
    have hk : ((⟨#[109, 97, 120]⟩ : ByteArray) : Str).size = 3 := rfl
    rcases key with ⟨hm3, rfl, rfl⟩ | ⟨hm3, rfl, rfl⟩ | ⟨hm3, rfl, rfl⟩
    all_goals
      refine fn_ok T Tryz.func19 (by kernel_rfl) rfl rfl rfl rfl fun C hC => ?_
      repeat' first | refine g_go T hC true 400 rfl rfl ?_ | (exfalso; simp [Ex.op, Ex.n] at h; done) | refine g_cond rfl (fun h => ?_) (fun h => ?_) | refine g_end T hC (by kernel_rfl) ?_ | refine g_splitD (fun h => ?_) (fun h => ?_) | (refine g_rem hC rfl rfl (by decide) rfl rfl ?_; rw [hr, hm3]) | refine g_callK hC (hL) (nm [1005, 1002, 1003, 1006, 1007]) rfl rfl (LeSs.refl _) rfl rfl rfl rfl rfl rfl rfl ?_ | (refine g_cat hC rfl rfl (by omega) rfl rfl ?_) | refine g_retl T (.inl rfl) rfl ?_
      exact g_fin ⟨.inl rfl, id, _, rfl, .refl _, trivial, rfl, rfl⟩
  by_cases q23 : op = 23
  · subst q23
    rw [show ownF 23 n s ps = (⟨#[109, 105, 110]⟩ : ByteArray) ++ lstC ps from rfl]
    have hk : ((⟨#[109, 105, 110]⟩ : ByteArray) : Str).size = 3 := rfl
    rcases key with ⟨hm3, rfl, rfl⟩ | ⟨hm3, rfl, rfl⟩ | ⟨hm3, rfl, rfl⟩
    all_goals
      refine fn_ok T Tryz.func19 (by kernel_rfl) rfl rfl rfl rfl fun C hC => ?_
      repeat' first | refine g_go T hC true 400 rfl rfl ?_ | (exfalso; simp [Ex.op, Ex.n] at h; done) | refine g_cond rfl (fun h => ?_) (fun h => ?_) | refine g_end T hC (by kernel_rfl) ?_ | refine g_splitD (fun h => ?_) (fun h => ?_) | (refine g_rem hC rfl rfl (by decide) rfl rfl ?_; rw [hr, hm3]) | refine g_callK hC (hL) (nm [1005, 1002, 1003, 1006, 1007]) rfl rfl (LeSs.refl _) rfl rfl rfl rfl rfl rfl rfl ?_ | (refine g_cat hC rfl rfl (by omega) rfl rfl ?_) | refine g_retl T (.inl rfl) rfl ?_
      exact g_fin ⟨.inl rfl, id, _, rfl, .refl _, trivial, rfl, rfl⟩
  by_cases q24 : op = 24
  · subst q24
    rw [show ownF 24 n s ps = (⟨#[108, 111, 103]⟩ : ByteArray) ++ lstC ps from rfl]
    have hk : ((⟨#[108, 111, 103]⟩ : ByteArray) : Str).size = 3 := rfl
    rcases key with ⟨hm3, rfl, rfl⟩ | ⟨hm3, rfl, rfl⟩ | ⟨hm3, rfl, rfl⟩
    all_goals
      refine fn_ok T Tryz.func19 (by kernel_rfl) rfl rfl rfl rfl fun C hC => ?_
      repeat' first | refine g_go T hC true 400 rfl rfl ?_ | (exfalso; simp [Ex.op, Ex.n] at h; done) | refine g_cond rfl (fun h => ?_) (fun h => ?_) | refine g_end T hC (by kernel_rfl) ?_ | refine g_splitD (fun h => ?_) (fun h => ?_) | (refine g_rem hC rfl rfl (by decide) rfl rfl ?_; rw [hr, hm3]) | refine g_callK hC (hL) (nm [1005, 1002, 1003, 1006, 1007]) rfl rfl (LeSs.refl _) rfl rfl rfl rfl rfl rfl rfl ?_ | (refine g_cat hC rfl rfl (by omega) rfl rfl ?_) | refine g_retl T (.inl rfl) rfl ?_
      exact g_fin ⟨.inl rfl, id, _, rfl, .refl _, trivial, rfl, rfl⟩
  by_cases q18 : op = 18
  · subst q18
    rw [show ownF 18 n s ps = (⟨#[110, 111, 116, 32]⟩ : ByteArray) ++ ps.getD 0 (⟨#[]⟩ : ByteArray) from rfl]
    have hk : ((⟨#[110, 111, 116, 32]⟩ : ByteArray) : Str).size = 4 := rfl
    have hl1 : ∃ a, l = [a] := by
      have := har (by decide)
      have h1 : l.length = 1 := by have e : partsS 18 = 1 := rfl; omega
      match l, h1 with
      | [a], _ => exact ⟨a, rfl⟩
    obtain ⟨a, rfl⟩ := hl1
    have hP0 := hP 0 a rfl
    have h0p := hat 0 a rfl
    have hg : ps.getD 0 (⟨#[]⟩ : ByteArray) = ol ++ fullS a (how / 3) ++ cl := by rw [List.getD_eq_getElem?_getD, h0p]; rfl
    rw [hg] at g0 ⊢
    rcases key with ⟨hm3, rfl, rfl⟩ | ⟨hm3, rfl, rfl⟩ | ⟨hm3, rfl, rfl⟩
    all_goals
      refine fn_ok T Tryz.func19 (by kernel_rfl) rfl rfl rfl rfl fun C hC => ?_
      repeat' first | refine g_go T hC true 400 rfl rfl ?_ | (exfalso; simp [Ex.op, Ex.n] at h; done) | refine g_cond rfl (fun h => ?_) (fun h => ?_) | refine g_end T hC (by kernel_rfl) ?_ | refine g_splitD (fun h => ?_) (fun h => ?_) | (refine g_rem hC rfl rfl (by decide) rfl rfl ?_; rw [hr, hm3]) | refine g_callK hC (hP0) (nm [1005, 1002, 1003, 1006]) rfl rfl (LeSs.refl _) rfl rfl rfl rfl rfl rfl rfl ?_ | (refine g_cat hC rfl rfl (by omega) rfl rfl ?_) | refine g_retl T (.inl rfl) rfl ?_
      exact g_fin ⟨.inl rfl, id, _, rfl, .refl _, trivial, rfl, rfl⟩
  by_cases q8 : op = 8
  · subst q8
    rw [show ownF 8 n s ps = (⟨#[45]⟩ : ByteArray) ++ ps.getD 0 (⟨#[]⟩ : ByteArray) from rfl]
    have hk : ((⟨#[45]⟩ : ByteArray) : Str).size = 1 := rfl
    have hl1 : ∃ a, l = [a] := by
      have := har (by decide)
      have h1 : l.length = 1 := by have e : partsS 8 = 1 := rfl; omega
      match l, h1 with
      | [a], _ => exact ⟨a, rfl⟩
    obtain ⟨a, rfl⟩ := hl1
    have hP0 := hP 0 a rfl
    have h0p := hat 0 a rfl
    have hg : ps.getD 0 (⟨#[]⟩ : ByteArray) = ol ++ fullS a (how / 3) ++ cl := by rw [List.getD_eq_getElem?_getD, h0p]; rfl
    rw [hg] at g0 ⊢
    rcases key with ⟨hm3, rfl, rfl⟩ | ⟨hm3, rfl, rfl⟩ | ⟨hm3, rfl, rfl⟩
    all_goals
      refine fn_ok T Tryz.func19 (by kernel_rfl) rfl rfl rfl rfl fun C hC => ?_
      repeat' first | refine g_go T hC true 400 rfl rfl ?_ | (exfalso; simp [Ex.op, Ex.n] at h; done) | refine g_cond rfl (fun h => ?_) (fun h => ?_) | refine g_end T hC (by kernel_rfl) ?_ | refine g_splitD (fun h => ?_) (fun h => ?_) | (refine g_rem hC rfl rfl (by decide) rfl rfl ?_; rw [hr, hm3]) | refine g_callK hC (hP0) (nm [1005, 1002, 1003, 1006]) rfl rfl (LeSs.refl _) rfl rfl rfl rfl rfl rfl rfl ?_ | (refine g_cat hC rfl rfl (by omega) rfl rfl ?_) | refine g_retl T (.inl rfl) rfl ?_
      exact g_fin ⟨.inl rfl, id, _, rfl, .refl _, trivial, rfl, rfl⟩
  have hown : ownF op n s ps = ps.getD 0 (⟨#[]⟩ : ByteArray) ++ sgnS op ++ ps.getD 1 (⟨#[]⟩ : ByteArray) := by unfold ownF; rw [if_neg q1, if_neg q2, if_neg q3, if_neg q4, if_neg q6, if_neg q5, if_neg q7, if_neg q21, if_neg q22, if_neg q23, if_neg q24, if_neg q18, if_neg q8]
  rw [hown]
  have hpo : partsS op = 2 := by
    unfold partsS at hp2 ⊢
    repeat' split
    all_goals (simp_all <;> omega)
  have hl2 : ∃ a b, l = [a, b] := by
    have := har (by omega)
    have h1 : l.length = 2 := by omega
    match l, h1 with
    | [a, b], _ => exact ⟨a, b, rfl⟩
  obtain ⟨a, b, rfl⟩ := hl2
  have hP0 := hP 0 a rfl
  have hP1 := hP 1 b rfl
  have hS := rsign_ok op
  have h0p := hat 0 a rfl
  have h1p := hat 1 b rfl
  have hg : ps.getD 0 (⟨#[]⟩ : ByteArray) = ol ++ fullS a (how / 3) ++ cl := by rw [List.getD_eq_getElem?_getD, h0p]; rfl
  have hg1 : ps.getD 1 (⟨#[]⟩ : ByteArray) = ol ++ fullS b (how / 3) ++ cl := by rw [List.getD_eq_getElem?_getD, h1p]; rfl
  rw [hg, hg1] at g2 ⊢
  have hsg : (sgnS op).size ≤ 3 := by
    unfold sgnS
    split
    · rename_i x hx
      have hm := List.mem_of_find?_eq_some hx
      have : ∀ x ∈ signT, x.2.2.size ≤ 3 := by decide
      exact this x hm
    · show 0 ≤ 3; decide
  rcases key with ⟨hm3, rfl, rfl⟩ | ⟨hm3, rfl, rfl⟩ | ⟨hm3, rfl, rfl⟩
  all_goals
    refine fn_ok T Tryz.func19 (by kernel_rfl) rfl rfl rfl rfl fun C hC => ?_
    repeat' first | refine g_go T hC true 400 rfl rfl ?_ | (exfalso; simp [Ex.op, q1, q2, q3, q4, q5, q6, q7, q8, q18, q21, q22, q23, q24] at h; done) | refine g_cond rfl (fun h => ?_) (fun h => ?_) | refine g_end T hC (by kernel_rfl) ?_ | refine g_splitD (fun h => ?_) (fun h => ?_) | (refine g_rem hC rfl rfl (by decide) rfl rfl ?_; rw [hr, hm3]) | refine g_callK hC (hP0) (nm [1005, 1002, 1003, 1006]) rfl rfl (LeSs.refl _) rfl rfl rfl rfl rfl rfl rfl ?_ | refine g_call hC (hS) rfl rfl (LeSs.refl _) rfl rfl rfl ?_ | (refine g_cat hC rfl rfl (by omega) rfl rfl ?_) | refine g_callK hC (hP1) (nm [1005, 1002, 1003, 1006]) rfl rfl (LeSs.refl _) rfl rfl rfl rfl rfl rfl rfl ?_ | (refine g_cat hC rfl rfl (by rw [size_app]; omega) rfl rfl ?_) | refine g_retl T (.inl rfl) rfl ?_
    exact g_fin ⟨.inl rfl, id, _, rfl, .refl _, trivial, rfl, rfl⟩
end Hw.Pa
namespace Hw.Pa
open Go Go.Proofs Hw.M

section
variable {s : Str} {l o : List Tok} {i : Nat} {t : Tok} (hS : Stop s l o i t)
include hS
theorem Stop.only {j : Nat} {u : Tok} (hu : l[j]? = some u) (h1 : u.ln = t.ln) (h2 : u.cl = t.cl) : j = i := by
  rcases Nat.lt_trichotomy j i with h | h | h
  · exact absurd ⟨h1, h2⟩ (hS.first h hu)
  · exact h
  · exfalso
    obtain ⟨q, e, hI⟩ := hS.eq
    by_cases hj : j < o.length
    · rw [e, List.getElem?_append_left hj] at hu
      have hv : o[i + (j - i - 1) + 1]? = some u := by rw [show i + (j - i - 1) + 1 = j by omega]; exact hu
      have := hS.asc (j - i - 1) i t u hS.at_ hv
      unfold ltP posT at this
      simp only at this
      omega
    · rw [e, List.getElem?_append_right (by omega)] at hu
      have hlt := (List.getElem?_eq_some_iff.1 hu).1
      simp only [List.length_singleton] at hlt
      rw [show j - o.length = 0 by omega] at hu
      simp only [List.getElem?_cons_zero, Option.some.injEq] at hu
      subst hu
      have := (hI.each t (List.mem_of_getElem? hS.at_)).2.2.2.2
      unfold ltP posT at this
      simp only at this h1 h2
      omega
end
end Hw.Pa
namespace Hw.Pa
open Go Go.Proofs Hw.M

theorem tokens_place0 {s : Str} (hs : s.size ≤ 2000) (h0 : (tokensS s).2.2 = 0) : (tokensS s).2.1 = (0, 0) := by
  rcases tokens_cases s (by omega) with ⟨o, q, h1, _, _⟩ | ⟨q, h1⟩
  · rw [h1]
  · rw [h1] at h0
    simp at h0
theorem parensE0 {x : Ex} {how : Nat} {s : Str} (hs : s.size ≤ 2000) (hA : exprOk x = false) (h0 : ¬ (tokensS s).2.2 = 0) : FnOK Tryz.prog 5 [aggS (exprC x), Kk .u8 (how : Int), Sr s] [] (.bq true) [] := by
  have hT := lexTokens_ok s (by omega)
  generalize tokensS s = R2 at hT h0
  obtain ⟨l, ⟨q1, q2⟩, f⟩ := R2
  simp only at hT h0
  have hE := expr_ok x
  rw [hA] at hE
  refine fn_ok T Tryz.func5 (by kernel_rfl) rfl rfl rfl rfl fun C hC => ?_
  repeat' first | refine g_go T hC true 400 rfl rfl ?_ | (exfalso; simp at h; contradiction) | (exfalso; have h2 := of_decide_eq_false h; omega) | (exfalso; have h2 := of_decide_eq_true h; omega) | (exfalso; simp at h; done) | refine g_cond rfl (fun h => ?_) (fun h => ?_) | refine g_splitG rfl rfl rfl (fun h => ?_) (fun h => ?_) | refine g_splitP rfl rfl (fun h => ?_) (fun h => ?_) | refine g_call hC (awake10_ok) rfl rfl (LeSs.refl _) rfl rfl rfl ?_ | refine g_call hC (hE) rfl rfl (LeSs.refl _) rfl rfl rfl ?_ | refine g_call hC (hT) rfl rfl (LeSs.refl _) rfl rfl rfl ?_ | refine g_retl T (.inl rfl) rfl ?_
  all_goals first
        | rfl
        | exact decide_eq_true rfl
        | (simp; done)
        | (exfalso; simp_all; done)
        | (simp_all; done)
theorem parensT0 {x : Ex} {how : Nat} {s : Str} (hs : s.size ≤ 2000) (hA : exprOk x = false) (h0 : (tokensS s).2.2 = 0) : FnOK Tryz.prog 5 [aggS (exprC x), Kk .u8 (how : Int), Sr s] [] (.bq true) [] := by
  have hT := lexTokens_ok s (by omega)
  have hPg := parserParse_ok s (by omega)
  have hpl := tokens_place0 hs h0
  have hpj := @parens_join s hs
  have hbg := descTop_bg s (.inl hs)
  generalize tokensS s = R2 at hT h0 hpj hpl
  obtain ⟨l, ⟨q1, q2⟩, f⟩ := R2
  simp only [Prod.mk.injEq] at hT h0 hpl
  obtain ⟨rfl, rfl⟩ := hpl
  subst h0
  obtain ⟨hokJ, hlen, hz, hd1, hd2⟩ := hpj rfl
  have hJ := lJoin_yes l (by omega) hokJ hz
  have hPh := parserParse_ok (accJ l 0 (⟨#[]⟩ : ByteArray)) (by omega)
  have hL := big_ok (descTop s).1 hbg
  have hS := rsame09_ok (descTop s).1 (descTop s).1
  rw [sameD_refl] at hS
  clear hpj hbg
  generalize accJ l 0 (⟨#[]⟩ : ByteArray) = A1 at hz hd1 hd2 hJ hPh
  generalize descTop A1 = R5 at hd1 hd2 hPh
  generalize descTop s = R1 at hd1 hd2 hPg hL hS
  obtain ⟨x1, ⟨p1, p2⟩, e1⟩ := R1
  obtain ⟨x5, ⟨b1, b2⟩, k5⟩ := R5
  simp only at hd1 hd2 hPg hPh hL hS
  subst hd1
  subst hd2
  have hE := expr_ok x
  rw [hA] at hE
  refine fn_ok T Tryz.func5 (by kernel_rfl) rfl rfl rfl rfl fun C hC => ?_
  repeat' first | refine g_go T hC true 400 rfl rfl ?_ | (exfalso; simp at h; contradiction) | (exfalso; have h2 := of_decide_eq_false h; omega) | (exfalso; have h2 := of_decide_eq_true h; omega) | (exfalso; simp at h; done) | refine g_cond rfl (fun h => ?_) (fun h => ?_) | refine g_splitG rfl rfl rfl (fun h => ?_) (fun h => ?_) | refine g_splitP rfl rfl (fun h => ?_) (fun h => ?_) | refine g_call hC (awake10_ok) rfl rfl (LeSs.refl _) rfl rfl rfl ?_ | refine g_call hC (hE) rfl rfl (LeSs.refl _) rfl rfl rfl ?_ | refine g_call hC (hT) rfl rfl (LeSs.refl _) rfl rfl rfl ?_ | refine g_call hC (hJ) rfl rfl (LeSs.refl _) rfl rfl rfl ?_ | refine g_call hC (hPg) rfl rfl (LeSs.refl _) rfl rfl rfl ?_ | refine g_call hC (hPh) rfl rfl (LeSs.refl _) rfl rfl rfl ?_ | refine g_call hC (hL) rfl rfl (LeSs.refl _) rfl rfl rfl ?_ | refine g_call hC (hS) rfl rfl (LeSs.refl _) rfl rfl rfl ?_ | refine g_retq T (.inl rfl) rfl ?_ | refine g_retl T (.inl rfl) rfl ?_
  all_goals first
        | rfl
        | exact decide_eq_true rfl
        | (simp; done)
        | (exfalso; simp_all; done)
        | (simp_all; done)
theorem parensE1 {x : Ex} {how : Nat} {s : Str} (hs : s.size ≤ 2000) (hA : exprOk x = true) (hA2 : 60 < countS x 1) (h0 : ¬ (tokensS s).2.2 = 0) : FnOK Tryz.prog 5 [aggS (exprC x), Kk .u8 (how : Int), Sr s] [] (.bq true) [] := by
  have hT := lexTokens_ok s (by omega)
  generalize tokensS s = R2 at hT h0
  obtain ⟨l, ⟨q1, q2⟩, f⟩ := R2
  simp only at hT h0
  have hE := expr_ok x
  rw [hA] at hE
  have hSz := rsizeY_ok x hA
  refine fn_ok T Tryz.func5 (by kernel_rfl) rfl rfl rfl rfl fun C hC => ?_
  repeat' first | refine g_go T hC true 400 rfl rfl ?_ | (exfalso; simp at h; contradiction) | (exfalso; have h2 := of_decide_eq_false h; omega) | (exfalso; have h2 := of_decide_eq_true h; omega) | (exfalso; simp at h; done) | refine g_cond rfl (fun h => ?_) (fun h => ?_) | refine g_splitG rfl rfl rfl (fun h => ?_) (fun h => ?_) | refine g_splitP rfl rfl (fun h => ?_) (fun h => ?_) | refine g_call hC (awake10_ok) rfl rfl (LeSs.refl _) rfl rfl rfl ?_ | refine g_call hC (hE) rfl rfl (LeSs.refl _) rfl rfl rfl ?_ | refine g_call hC (hSz) rfl rfl (LeSs.refl _) rfl rfl rfl ?_ | refine g_call hC (hT) rfl rfl (LeSs.refl _) rfl rfl rfl ?_ | refine g_retl T (.inl rfl) rfl ?_
  all_goals first
        | rfl
        | exact decide_eq_true rfl
        | (simp; done)
        | (exfalso; simp_all; done)
        | (simp_all; done)
theorem parensT1 {x : Ex} {how : Nat} {s : Str} (hs : s.size ≤ 2000) (hA : exprOk x = true) (hA2 : 60 < countS x 1) (h0 : (tokensS s).2.2 = 0) : FnOK Tryz.prog 5 [aggS (exprC x), Kk .u8 (how : Int), Sr s] [] (.bq true) [] := by
  have hT := lexTokens_ok s (by omega)
  have hPg := parserParse_ok s (by omega)
  have hpl := tokens_place0 hs h0
  have hpj := @parens_join s hs
  have hbg := descTop_bg s (.inl hs)
  generalize tokensS s = R2 at hT h0 hpj hpl
  obtain ⟨l, ⟨q1, q2⟩, f⟩ := R2
  simp only [Prod.mk.injEq] at hT h0 hpl
  obtain ⟨rfl, rfl⟩ := hpl
  subst h0
  obtain ⟨hokJ, hlen, hz, hd1, hd2⟩ := hpj rfl
  have hJ := lJoin_yes l (by omega) hokJ hz
  have hPh := parserParse_ok (accJ l 0 (⟨#[]⟩ : ByteArray)) (by omega)
  have hL := big_ok (descTop s).1 hbg
  have hS := rsame09_ok (descTop s).1 (descTop s).1
  rw [sameD_refl] at hS
  clear hpj hbg
  generalize accJ l 0 (⟨#[]⟩ : ByteArray) = A1 at hz hd1 hd2 hJ hPh
  generalize descTop A1 = R5 at hd1 hd2 hPh
  generalize descTop s = R1 at hd1 hd2 hPg hL hS
  obtain ⟨x1, ⟨p1, p2⟩, e1⟩ := R1
  obtain ⟨x5, ⟨b1, b2⟩, k5⟩ := R5
  simp only at hd1 hd2 hPg hPh hL hS
  subst hd1
  subst hd2
  have hE := expr_ok x
  rw [hA] at hE
  have hSz := rsizeY_ok x hA
  refine fn_ok T Tryz.func5 (by kernel_rfl) rfl rfl rfl rfl fun C hC => ?_
  repeat' first | refine g_go T hC true 400 rfl rfl ?_ | (exfalso; simp at h; contradiction) | (exfalso; have h2 := of_decide_eq_false h; omega) | (exfalso; have h2 := of_decide_eq_true h; omega) | (exfalso; simp at h; done) | refine g_cond rfl (fun h => ?_) (fun h => ?_) | refine g_splitG rfl rfl rfl (fun h => ?_) (fun h => ?_) | refine g_splitP rfl rfl (fun h => ?_) (fun h => ?_) | refine g_call hC (awake10_ok) rfl rfl (LeSs.refl _) rfl rfl rfl ?_ | refine g_call hC (hE) rfl rfl (LeSs.refl _) rfl rfl rfl ?_ | refine g_call hC (hSz) rfl rfl (LeSs.refl _) rfl rfl rfl ?_ | refine g_call hC (hT) rfl rfl (LeSs.refl _) rfl rfl rfl ?_ | refine g_call hC (hJ) rfl rfl (LeSs.refl _) rfl rfl rfl ?_ | refine g_call hC (hPg) rfl rfl (LeSs.refl _) rfl rfl rfl ?_ | refine g_call hC (hPh) rfl rfl (LeSs.refl _) rfl rfl rfl ?_ | refine g_call hC (hL) rfl rfl (LeSs.refl _) rfl rfl rfl ?_ | refine g_call hC (hS) rfl rfl (LeSs.refl _) rfl rfl rfl ?_ | refine g_retq T (.inl rfl) rfl ?_ | refine g_retl T (.inl rfl) rfl ?_
  all_goals first
        | rfl
        | exact decide_eq_true rfl
        | (simp; done)
        | (exfalso; simp_all; done)
        | (simp_all; done)
theorem parensE2 {x : Ex} {how : Nat} {s : Str} (hs : s.size ≤ 2000) (hA : exprOk x = true) (hA2 : countS x 1 ≤ 60) (hh : how < 256) (h0 : ¬ (tokensS s).2.2 = 0) : FnOK Tryz.prog 5 [aggS (exprC x), Kk .u8 (how : Int), Sr s] [] (.bq true) [] := by
  have hT := lexTokens_ok s (by omega)
  generalize tokensS s = R2 at hT h0
  obtain ⟨l, ⟨q1, q2⟩, f⟩ := R2
  simp only at hT h0
  have hE := expr_ok x
  rw [hA] at hE
  have hSz := rsizeY_ok x hA
  have hcn := size_cnt hA2
  have hvE : vE x = true := vE_of x 1 (of_decide_eq_true hA)
  have hFu := full_ok (sizeOf x + 1) x how (Nat.lt_succ_self _) hvE (by omega) hh
  have hfz := full_size x how hvE
  have hPx := parserExpr_ok (fullS x how) (by omega)
  rw [full_top how hA hcn] at hPx
  have hLa := large_ok x (exprOk_cnt hA).1 (exprOk_cnt hA).2
  have hSx := rsameExpr_ok (sizeOf x + 1) x x (Nat.lt_succ_self _)
  rw [sameE_refl (sizeOf x + 1) x (Nat.lt_succ_self _)] at hSx
  clear hfz hvE hcn
  refine fn_ok T Tryz.func5 (by kernel_rfl) rfl rfl rfl rfl fun C hC => ?_
  repeat' first | refine g_go T hC true 400 rfl rfl ?_ | (exfalso; simp at h; contradiction) | (exfalso; have h2 := of_decide_eq_false h; omega) | (exfalso; have h2 := of_decide_eq_true h; omega) | (exfalso; simp at h; done) | refine g_cond rfl (fun h => ?_) (fun h => ?_) | refine g_splitG rfl rfl rfl (fun h => ?_) (fun h => ?_) | refine g_splitP rfl rfl (fun h => ?_) (fun h => ?_) | refine g_call hC (awake10_ok) rfl rfl (LeSs.refl _) rfl rfl rfl ?_ | refine g_call hC (hE) rfl rfl (LeSs.refl _) rfl rfl rfl ?_ | refine g_call hC (hSz) rfl rfl (LeSs.refl _) rfl rfl rfl ?_ | refine g_call hC (hFu) rfl rfl (LeSs.refl _) rfl rfl rfl ?_ | refine g_call hC (hPx) rfl rfl (LeSs.refl _) rfl rfl rfl ?_ | refine g_call hC (hLa) rfl rfl (LeSs.refl _) rfl rfl rfl ?_ | refine g_call hC (hSx) rfl rfl (LeSs.refl _) rfl rfl rfl ?_ | refine g_call hC (hT) rfl rfl (LeSs.refl _) rfl rfl rfl ?_ | refine g_retl T (.inl rfl) rfl ?_
  all_goals first
        | rfl
        | exact decide_eq_true rfl
        | (simp; done)
        | (exfalso; simp_all; done)
        | (simp_all; done)
theorem parensT2 {x : Ex} {how : Nat} {s : Str} (hs : s.size ≤ 2000) (hA : exprOk x = true) (hA2 : countS x 1 ≤ 60) (hh : how < 256) (h0 : (tokensS s).2.2 = 0) : FnOK Tryz.prog 5 [aggS (exprC x), Kk .u8 (how : Int), Sr s] [] (.bq true) [] := by
  have hT := lexTokens_ok s (by omega)
  have hPg := parserParse_ok s (by omega)
  have hpl := tokens_place0 hs h0
  have hpj := @parens_join s hs
  have hbg := descTop_bg s (.inl hs)
  generalize tokensS s = R2 at hT h0 hpj hpl
  obtain ⟨l, ⟨q1, q2⟩, f⟩ := R2
  simp only [Prod.mk.injEq] at hT h0 hpl
  obtain ⟨rfl, rfl⟩ := hpl
  subst h0
  obtain ⟨hokJ, hlen, hz, hd1, hd2⟩ := hpj rfl
  have hJ := lJoin_yes l (by omega) hokJ hz
  have hPh := parserParse_ok (accJ l 0 (⟨#[]⟩ : ByteArray)) (by omega)
  have hL := big_ok (descTop s).1 hbg
  have hS := rsame09_ok (descTop s).1 (descTop s).1
  rw [sameD_refl] at hS
  clear hpj hbg
  generalize accJ l 0 (⟨#[]⟩ : ByteArray) = A1 at hz hd1 hd2 hJ hPh
  generalize descTop A1 = R5 at hd1 hd2 hPh
  generalize descTop s = R1 at hd1 hd2 hPg hL hS
  obtain ⟨x1, ⟨p1, p2⟩, e1⟩ := R1
  obtain ⟨x5, ⟨b1, b2⟩, k5⟩ := R5
  simp only at hd1 hd2 hPg hPh hL hS
  subst hd1
  subst hd2
  have hE := expr_ok x
  rw [hA] at hE
  have hSz := rsizeY_ok x hA
  have hcn := size_cnt hA2
  have hvE : vE x = true := vE_of x 1 (of_decide_eq_true hA)
  have hFu := full_ok (sizeOf x + 1) x how (Nat.lt_succ_self _) hvE (by omega) hh
  have hfz := full_size x how hvE
  have hPx := parserExpr_ok (fullS x how) (by omega)
  rw [full_top how hA hcn] at hPx
  have hLa := large_ok x (exprOk_cnt hA).1 (exprOk_cnt hA).2
  have hSx := rsameExpr_ok (sizeOf x + 1) x x (Nat.lt_succ_self _)
  rw [sameE_refl (sizeOf x + 1) x (Nat.lt_succ_self _)] at hSx
  clear hfz hvE hcn
  refine fn_ok T Tryz.func5 (by kernel_rfl) rfl rfl rfl rfl fun C hC => ?_
  repeat' first | refine g_go T hC true 400 rfl rfl ?_ | (exfalso; simp at h; contradiction) | (exfalso; have h2 := of_decide_eq_false h; omega) | (exfalso; have h2 := of_decide_eq_true h; omega) | (exfalso; simp at h; done) | refine g_cond rfl (fun h => ?_) (fun h => ?_) | refine g_splitG rfl rfl rfl (fun h => ?_) (fun h => ?_) | refine g_splitP rfl rfl (fun h => ?_) (fun h => ?_) | refine g_call hC (awake10_ok) rfl rfl (LeSs.refl _) rfl rfl rfl ?_ | refine g_call hC (hE) rfl rfl (LeSs.refl _) rfl rfl rfl ?_ | refine g_call hC (hSz) rfl rfl (LeSs.refl _) rfl rfl rfl ?_ | refine g_call hC (hFu) rfl rfl (LeSs.refl _) rfl rfl rfl ?_ | refine g_call hC (hPx) rfl rfl (LeSs.refl _) rfl rfl rfl ?_ | refine g_call hC (hLa) rfl rfl (LeSs.refl _) rfl rfl rfl ?_ | refine g_call hC (hSx) rfl rfl (LeSs.refl _) rfl rfl rfl ?_ | refine g_call hC (hT) rfl rfl (LeSs.refl _) rfl rfl rfl ?_ | refine g_call hC (hJ) rfl rfl (LeSs.refl _) rfl rfl rfl ?_ | refine g_call hC (hPg) rfl rfl (LeSs.refl _) rfl rfl rfl ?_ | refine g_call hC (hPh) rfl rfl (LeSs.refl _) rfl rfl rfl ?_ | refine g_call hC (hL) rfl rfl (LeSs.refl _) rfl rfl rfl ?_ | refine g_call hC (hS) rfl rfl (LeSs.refl _) rfl rfl rfl ?_ | refine g_retq T (.inl rfl) rfl ?_ | refine g_retl T (.inl rfl) rfl ?_
  all_goals first
        | rfl
        | exact decide_eq_true rfl
        | (simp; done)
        | (exfalso; simp_all; done)
        | (simp_all; done)
theorem parserParens_ok (x : Ex) (how : Nat) (hh : how < 256) (s : Str) : FnOK Tryz.prog 5 [aggS (exprC x), Kk .u8 (how : Int), Sr s] [] (.bq true) [] := by
  by_cases hs : s.size ≤ 2000
  · by_cases hA : exprOk x = true
    · by_cases hA2 : countS x 1 ≤ 60
      · by_cases h0 : (tokensS s).2.2 = 0
        · exact parensT2 hs hA hA2 hh h0
        · exact parensE2 hs hA hA2 hh h0
      · by_cases h0 : (tokensS s).2.2 = 0
        · exact parensT1 hs hA (by omega) h0
        · exact parensE1 hs hA (by omega) h0
    · rw [Bool.not_eq_true] at hA
      by_cases h0 : (tokensS s).2.2 = 0
      · exact parensT0 hs hA h0
      · exact parensE0 hs hA h0
  · refine fn_ok T Tryz.func5 (by kernel_rfl) rfl rfl rfl rfl fun C hC => ?_
    repeat' first | refine g_go T hC true 400 rfl rfl ?_ | (exfalso; simp at h; contradiction) | (exfalso; have h2 := of_decide_eq_false h; omega) | (exfalso; simp at h; done) | refine g_cond rfl (fun h => ?_) (fun h => ?_) | refine g_splitG rfl rfl rfl (fun h => ?_) (fun h => ?_) | refine g_splitP rfl rfl (fun h => ?_) (fun h => ?_) | refine g_call hC (awake10_ok) rfl rfl (LeSs.refl _) rfl rfl rfl ?_ | refine g_retl T (.inl rfl) rfl ?_
    all_goals rfl
theorem u8_wf {b : Int} (hw : (Lit.int .u8 b).wf = true) : 0 ≤ b ∧ b ≤ 255 := by
  simp [Lit.wf, IntKind.min, IntKind.max, IntKind.bits, IntKind.signed] at hw
  omega
abbrev U8 := {n : Int // 0 ≤ n ∧ n ≤ 255}
theorem parserParens_row (x : Ex) (c : U8) (s : Str) : FnOK Tryz.prog 5 [aggS (exprC x), .one (.p (.k (.int .u8 c.1))), Sr s] [] (.bq true) [] := by
  obtain ⟨n, hn⟩ := c
  have h := parserParens_ok x n.toNat (by omega) s
  have e : ((n.toNat : Nat) : Int) = n := Int.toNat_of_nonneg hn.1
  rw [e] at h
  exact h
end Hw.Pa
/- A laid variable that holds an interface value. -/
namespace Hw
open Go Go.Proofs
theorem iface_cell {P : Program} {W : World} {name nm : String} {d : DataW Unit} {rest : List (String × DataW Unit)} {g : Nat} {t : TypeId} {ms : Array (String × TypeId)}
    (hg : P.globalNamed name = some g) (hty : (P.globals[g]?).map (·.type) = some t) (ht : P.underlying t = some (.interface ms)) (h : laidMet P ((name, .iface nm d) :: rest) W) : ∃ u v, memOf W g 0 = some (.iface u v) := by
  obtain ⟨ps, ⟨g', t', cs, fuel, p, q, hg', ht', hvar, hd, _, _⟩, _⟩ := h
  obtain rfl := Option.some.inj (hg.symm.trans hg')
  obtain rfl := Option.some.inj (hty.symm.trans ht')
  have hc := World.var?_cell hg hvar 0
  unfold memOf
  rw [hc]
  cases fuel with
  | zero => simp [DataW.trod] at hd
  | succ fuel =>
    rw [← Array.getElem?_toList]
    generalize cs.toList = l at hd
    match l, hd with
    | [], hd => simp [DataW.trod, ht] at hd
    | v :: w :: r, hd => simp [DataW.trod, ht] at hd
    | [v], hd =>
      cases v with
      | iface u x => exact ⟨u, x, rfl⟩
      | _ => simp [DataW.trod, ht] at hd
end Hw
