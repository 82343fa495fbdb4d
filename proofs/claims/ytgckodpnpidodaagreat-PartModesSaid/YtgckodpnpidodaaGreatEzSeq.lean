import Derived.Test.YtgckodpnpidodaaGreatEzWr2
import Derived.Test.YtgckodpnpidodaaGreatEzCode
set_option linter.all false
/- A region in the order of its text. -/
set_option linter.unusedVariables false
set_option linter.unusedSimpArgs false
namespace Go.Ez

/-- A call's function is sound. -/
def SoundF (P : Program) (call : CallF) : Prop := ∀ f args H v H', call f args H = some (v, H') → OkFunc P f ∧ ∀ (μ : Mu) (w : World) (args' : List Value), Rel μ H w → VRels μ args args' →
  (∀ b, H.next ≤ b → b < H'.next → μ b = none) → Calls P f args'.toArray w (fun e w' => ∃ v' μ', e = .returned v' ∧ Rel μ' H' w' ∧ Step μ H w μ' H' w' ∧ VRel μ' v v')

section
variable {μ : Mu} {P : Program} {call : CallF}

theorem getD_rel {T T' : List Value} (h : VRels μ T T') (t : Nat) : VRel μ (T.getD t undef) (T'.getD t undef) := by
  rw [List.getD_eq_getElem?_getD, List.getD_eq_getElem?_getD]
  cases ht : T[t]? with
  | some v =>
    obtain ⟨v', hv', hr⟩ := h.get t v ht
    rw [hv']; exact hr
  | none =>
    have : T'[t]? = none := by
      rw [List.getElem?_eq_none_iff] at ht ⊢
      rw [← h.length]; exact ht
    rw [this]; exact VRel.undef

theorem opds_of {T : List Value} {a : Act} (h : VRels μ T a.tmps.toList) (o : Oper) : Opds μ o (ev T) a.eval where
  rel := fun x _ hok => by
    cases x with
    | tmp t =>
      have := getD_rel h t
      simpa [ev, Act.eval] using this
    | const v => exact .of_plainV hok
    | global g => cases hok
    | func f => exact .func _ _ _ _ _ rfl rfl (by intro i h; simp at h) (by intro i h; simp at h)
  const := fun v => ⟨rfl, rfl⟩
  func := fun f => ⟨rfl, rfl⟩

theorem put_rel {T : List Value} {a : Act} (h : VRels μ T a.tmps.toList) (dst : Option Tmp) {v v' : Value} (hv : VRel μ v v') : VRels μ (putA T dst v) (a.put dst v').tmps.toList := by
  cases dst with
  | none => exact h
  | some d => simp only [putA, Act.put, Array.toList_setIfInBounds]; exact h.set d hv

@[simp] theorem put_defers (a : Act) (dst : Option Tmp) (v : Value) : (a.put dst v).defers = a.defers := by cases dst <;> rfl

/-- A row is an operation's. -/
structure RowIs (P : Program) (ops : Array Oper) (o : Oper) (r : Row) : Prop where
  dst : r.dst = o.dst
  op : r.op = prepOp P o
  guard : r.guard = o.guard.map fun g => ((ops[g.1]?).bind (·.dst), g.2)

theorem rowOf_is (P : Program) (ops : Array Oper) (o : Oper) : RowIs P ops o (rowOf P ops o) := ⟨rfl, rfl, rfl⟩

theorem wanted_eq {ops : Array Oper} {o : Oper} {r : Row} (hr : RowIs P ops o r) {T : List Value} {a : Act} (h : ∀ t : Nat, (∃ j w, o.guard = some (j, w) ∧ (ops[j]?).bind (·.dst) = some t) → match T[t]?, a.tmps[t]? with
    | some v, some v' => VRel μ v v'
    | none, none => True
    | _, _ => False) :
    wantedA r T = Region.wanted o (yielded ops a.tmps) := by
  unfold wantedA Region.wanted
  rw [hr.guard]
  cases hg : o.guard with
  | none => rfl
  | some g =>
    obtain ⟨j, want⟩ := g
    simp only [Option.map_some]
    cases hd : (ops[j]?).bind (·.dst) with
    | none => simp [yielded, hd]
    | some t =>
      have ht := h t ⟨j, want, hg, hd⟩
      simp only [yielded, hd, Option.bind_some]
      cases h1 : T[t]? with
      | none =>
        cases h2 : a.tmps[t]? with
        | none => simp
        | some v' => rw [h1, h2] at ht; exact ht.elim
      | some v =>
        cases h2 : a.tmps[t]? with
        | none => rw [h1, h2] at ht; exact ht.elim
        | some v' =>
          rw [h1, h2] at ht
          simp only at ht
          cases ht <;> first | (simp; done) | (rename_i b; cases b <;> cases want <;> rfl)

theorem rel_at {T : List Value} {a : Act} (h : VRels μ T a.tmps.toList) (t : Nat) : match T[t]?, a.tmps[t]? with
    | some v, some v' => VRel μ v v'
    | none, none => True
    | _, _ => False := by
  cases ht : T[t]? with
  | some v =>
    obtain ⟨v', hv', hr⟩ := h.get t v ht
    have : a.tmps[t]? = some v' := by simpa using hv'
    rw [this]; exact hr
  | none =>
    have : a.tmps[t]? = none := by
      rw [List.getElem?_eq_none_iff] at ht
      have := h.length
      simp at this ⊢; omega
    rw [this]; trivial

/-- One operation. -/
theorem op_wp (hs : SoundF P call) {H : AH} {w : World} (hR : Rel μ H w) {o : Oper} {op : ROp} (hp : prepOp P o = some op) {T : List Value} {a : Act} (hρ : Opds μ o (ev T) a.eval) {v : Value} {H' : AH}
    (h : runOp P call T H op = some (v, H')) (hfree : ∀ b, H.next ≤ b → b < H'.next → μ b = none) {K : Act → World → Prop} {Q : Exit → Act → World → Prop}
    (hK : ∀ μ' v' w', Rel μ' H' w' → Step μ H w μ' H' w' → VRel μ' v v' → K (a.put o.dst v') w') : o.wp P a w K Q := by
  unfold Oper.wp
  cases op with
  | pur p =>
    obtain ⟨u, hu, h⟩ := bind_some h
    cases h
    obtain ⟨v', h1, h2⟩ := pur_sim P w hp hρ hu
    rw [h1]
    exact hK μ v' w hR Step.refl h2
  | rd r =>
    obtain ⟨u, hu, h⟩ := bind_some h
    cases h
    obtain ⟨v', h1, h2⟩ := rd_sim P hR hp hρ hu
    rw [h1]
    exact hK μ v' w hR Step.refl h2
  | new n =>
    obtain ⟨⟨B, f⟩, hu, h⟩ := bind_some h
    cases h
    obtain ⟨obj, w', h1, h2, h3, h4, h5, h6, h7⟩ := new_sim P w hp hρ hu
    rw [h1]
    obtain ⟨k1, k2, k3⟩ := hR.link (hfree _ (Nat.le_refl _) (by simp)) h6 h2 h3 h4 h5 h7
    exact hK _ _ w' k1 k2 k3
  | wr wo =>
    rcases wr_sim P hR hp hρ (fun f args H r hr => (hs f args H r.1 r.2 hr).1) h hfree with ⟨μ', v', w', nx, h1, h2, h3, h4, h5⟩ | ⟨f, args, args', h1, h2, h3⟩
    · rw [h1]
      rcases h2 with rfl | ⟨rfl, rfl⟩
      · exact hK μ' v' w' h3 h4 h5
      · exact hK μ' undef w' h3 h4 h5
    · rw [h3]
      simp only [Oper.upon]
      refine ((hs f args H v H' h1).2 μ w args' hR h2 hfree).mono ?_
      rintro e w' ⟨v', μ', rfl, k1, k2, k3⟩
      exact hK μ' v' w' k1 k2 k3

theorem runOp_next (hs : ∀ f args H v H', call f args H = some (v, H') → H.next ≤ H'.next) {T : List Value} {H H' : AH} {op : ROp} {v : Value} (h : runOp P call T H op = some (v, H')) : H.next ≤ H'.next := by
  cases op with
  | pur p => obtain ⟨u, hu, h⟩ := bind_some h; cases h; exact Nat.le_refl _
  | rd r => obtain ⟨u, hu, h⟩ := bind_some h; cases h; exact Nat.le_refl _
  | new n => obtain ⟨u, hu, h⟩ := bind_some h; cases h; simp
  | wr wo =>
    have st : ∀ {b o : Nat} {xs : List Value} {H H' : AH}, stCells H b o xs = some H' → H'.next = H.next := by
      intro b o xs H H' h
      unfold stCells at h
      split at h
      · obtain ⟨_, h⟩ := bif_some h; cases h; rfl
      · cases h
    have app : ∀ {size bytes : Nat} {s : Value} {n : Nat} {xs : List Value} {H H' : AH} {v : Value}, appendA H size bytes s n xs = some (v, H') → H.next ≤ H'.next := by
      intro size bytes s n xs H H' v h
      unfold appendA at h
      split at h
      · split at h
        · cases h; exact Nat.le_refl _
        · obtain ⟨_, h⟩ := ite_some h; cases h; simp
      · split at h
        · cases h; exact Nat.le_refl _
        · split at h
          · split at h
            · obtain ⟨_, h⟩ := ite_some h
              obtain ⟨H1, h1, h⟩ := bind_some h
              cases h
              rw [st h1]; exact Nat.le_refl _
            · obtain ⟨_, h⟩ := ite_some h
              simp only [Option.some.injEq, Prod.mk.injEq] at h
              obtain ⟨_, rfl⟩ := h
              split <;> simp
          · cases h
      · cases h
    cases wo with
    | st n a x =>
      obtain ⟨H1, h1, h⟩ := bind_some h
      cases h
      unfold stV at h1
      split at h1
      · obtain ⟨_, h1⟩ := bif_some h1; rw [st h1]; exact Nat.le_refl _
      · cases h1
    | append size bytes s x => obtain ⟨⟨n, xs⟩, _, h⟩ := bind_some h; exact app h
    | appendZ size bytes zs s x =>
      simp only [runOp, WrOp.run] at h
      split at h
      · obtain ⟨_, h⟩ := ite_some h; exact app h
      · cases h
    | clear zs x =>
      obtain ⟨H1, h1, h⟩ := bind_some h
      cases h
      unfold clearA at h1
      split at h1
      · cases h1; exact Nat.le_refl _
      · split at h1
        · cases h1; exact Nat.le_refl _
        · rw [st h1]; exact Nat.le_refl _
      · cases h1
    | update m k v =>
      obtain ⟨H1, h1, h⟩ := bind_some h
      cases h
      unfold updateA at h1
      split at h1
      · split at h1
        · obtain ⟨_, h1⟩ := ite_some' h1
          obtain ⟨r, _, h1⟩ := bind_some h1
          split at h1 <;> cases h1 <;> exact Nat.le_refl _
        · cases h1
      · cases h1
    | call f args => exact hs _ _ _ _ _ h
    | callv f args =>
      simp only [runOp, WrOp.run] at h
      split at h
      · exact hs _ _ _ _ _ h
      · cases h
    | invoke r name args =>
      simp only [runOp, WrOp.run] at h
      split at h
      · obtain ⟨_, _, h⟩ := bind_some h; exact hs _ _ _ _ _ h
      · cases h

theorem runSeq_next (hs : ∀ f args H v H', call f args H = some (v, H') → H.next ≤ H'.next) : ∀ {rows : List Row} {T : List Value} {H H' : AH} {T' : List Value}, runSeq P call rows T H = some (T', H') → H.next ≤ H'.next := by
  intro rows
  induction rows with
  | nil => intro T H H' T' h; cases h; exact Nat.le_refl _
  | cons r rows ih =>
    intro T H H' T' h
    simp only [runSeq] at h
    cases hw : wantedA r T with
    | true =>
      rw [hw, cond_true] at h
      split at h
      · cases h
      · obtain ⟨⟨v, H1⟩, hrun, h⟩ := bind_some h
        exact Nat.le_trans (runOp_next hs hrun) (ih h)
    | false =>
      rw [hw, cond_false] at h
      exact ih h

/-- A region in the order of its text. -/
theorem seq_wp (hs : SoundF P call) (hn : ∀ f args H v H', call f args H = some (v, H') → H.next ≤ H'.next) {ops : Array Oper} {Q : Exit → Act → World → Prop} :
    ∀ (rows : List Row) (k : Nat) (μ : Mu) (T : List Value) (H : AH) (a : Act) (w : World) (T' : List Value) (H' : AH),
    rows.length + k = ops.size → (∀ (i : Nat) (r : Row) (o : Oper), rows[i]? = some r → ops[k + i]? = some o → RowIs P ops o r) →
    runSeq P call rows T H = some (T', H') → Rel μ H w → VRels μ T a.tmps.toList → (∀ b, H.next ≤ b → b < H'.next → μ b = none) →
    (∀ μ' a' w', Rel μ' H' w' → Step μ H w μ' H' w' → VRels μ' T' a'.tmps.toList → a'.defers = a.defers → Q .normal a' w') →
    H.next ≤ H'.next ∧ wpOps P ops Q ((List.range ops.size).drop k) a w := by
  intro rows
  induction rows with
  | nil =>
    intro k μ T H a w T' H' hk hrow h hR hT hfree hQ
    cases h
    refine ⟨Nat.le_refl _, ?_⟩
    rw [List.drop_of_length_le (by simp at hk ⊢; omega)]
    exact hQ μ a w hR Step.refl hT rfl
  | cons r rows ih =>
    intro k μ T H a w T' H' hk hrow h hR hT hfree hQ
    simp only [List.length_cons] at hk
    have hkl : k < ops.size := by omega
    have ho : ops[k]? = some ops[k] := by simp [hkl]
    have hri := hrow 0 r ops[k] rfl (by simpa using ho)
    have hdrop : (List.range ops.size).drop k = k :: (List.range ops.size).drop (k + 1) := by
      rw [List.drop_eq_getElem_cons (by simpa using hkl)]; simp
    rw [hdrop]
    have hrow' : ∀ (i : Nat) (r : Row) (o : Oper), rows[i]? = some r → ops[(k + 1) + i]? = some o → RowIs P ops o r := fun i r o h1 h2 => hrow (i + 1) r o (by simpa using h1) (by rw [← h2]; congr 1; omega)
    have hw := wanted_eq (μ := μ) hri (T := T) (a := a) (fun t _ => rel_at hT t)
    simp only [runSeq] at h
    simp only [wpOps, ho]
    cases hwa : wantedA r T with
    | true =>
      rw [hwa, cond_true] at h
      rw [← hw, hwa]
      simp only [if_true]
      rw [hri.op] at h
      split at h
      · cases h
      · rename_i op hop
        obtain ⟨⟨v, H1⟩, hrun, h⟩ := bind_some h
        simp only at h
        have hn1 := runOp_next hn hrun
        -- the rest says that the numbers rise
        have key : H1.next ≤ H'.next := runSeq_next hn h
        refine ⟨Nat.le_trans hn1 key, .inl ?_⟩
        refine op_wp hs hR hop (opds_of hT _) hrun (fun b h1 h2 => hfree b h1 (Nat.lt_of_lt_of_le h2 key)) ?_
        intro μ' v' w' k1 k2 k3
        rw [hri.dst] at h
        refine (ih (k + 1) μ' (putA T ops[k].dst v) H1 (a.put ops[k].dst v') w' T' H' (by omega) hrow' h k1 (put_rel (hT.mono k2.ext) _ k3) ?_ ?_).2
        · intro b h1 h2
          rw [k2.out b (.inr h1)]
          exact hfree b (by omega) h2
        · intro μ2 a2 w2 q1 q2 q3 q4
          exact hQ μ2 a2 w2 q1 (k2.trans q2 k1.fresh) q3 (by rw [q4]; simp)
    | false =>
      rw [hwa, cond_false] at h
      rw [← hw, hwa]
      simp only [Bool.false_eq_true, if_false]
      rw [hri.dst] at h
      exact ih (k + 1) μ (putA T ops[k].dst undef) H (a.put ops[k].dst undef) w T' H' (by omega) hrow' h hR (put_rel hT _ VRel.undef) hfree (fun μ2 a2 w2 q1 q2 q3 q4 => hQ μ2 a2 w2 q1 q2 q3 (by rw [q4]; simp))
end
end Go.Ez
