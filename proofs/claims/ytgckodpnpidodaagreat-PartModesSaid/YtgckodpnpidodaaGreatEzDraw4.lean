import Derived.Test.YtgckodpnpidodaaGreatEzDraw3
set_option linter.all false
/- A region whose order is open: whatever the order. -/
set_option linter.unusedVariables false
set_option linter.unusedSimpArgs false
namespace Go.Ez

/-- How many are not listed. -/
def unl (f : Nat → Bool) : Nat → Nat
  | 0 => 0
  | k + 1 => unl f k + (if f k then 0 else 1)
theorem unl_set {f g : Nat → Bool} {i : Nat} (hg : ∀ x, g x = if x = i then true else f x) (hi : f i = false) : ∀ k, unl g k + (if i < k then 1 else 0) = unl f k := by
  intro k
  induction k with
  | zero => simp [unl]
  | succ k ih =>
    simp only [unl]
    rw [hg k]
    by_cases e : k = i
    · subst e
      simp only [Nat.lt_irrefl, if_false] at ih
      simp [hi]; omega
    · have : (i < k + 1) ↔ i < k := by omega
      simp only [e, if_false, this]
      omega
theorem unl_zero {f : Nat → Bool} : ∀ {k : Nat}, unl f k = 0 → ∀ i, i < k → f i = true := by
  intro k
  induction k with
  | zero => intro _ i hi; omega
  | succ k ih =>
    intro h i hi
    simp only [unl] at h
    rcases Nat.lt_or_ge i k with h1 | h1
    · exact ih (by omega) i h1
    · have : i = k := by omega
      subst this
      cases hf : f i with
      | true => rfl
      | false => rw [hf] at h; simp at h

section
variable {P : Program} {call : CallF} {ops : Array Oper} {rows : List Row} {S : Nat → DSt} {V : Nat → Value}

abbrev Lof (listed : Array Bool) : Nat → Bool := fun i => listed.getD i false

structure DInv (t : Trace P call ops rows S V) (μ0 : Mu) (w0 : World) (a0 : Act) (listed : Array Bool) (a : Act) (w : World) (μ : Mu) (p : Nat) : Prop where
  sz : listed.size = ops.size
  closed : Trace.Closed ops (Lof listed)
  prog : ∀ (i : Nat) (r : Row), rows[i]? = some r → r.wr = true → (Lof listed i = true ↔ i < p)
  canon : p = 0 ∨ kw (kindsOf rows) (p - 1) = true
  ple : p ≤ rows.length
  dfr : a.defers = a0.defers
  tsz : a.tmps.size = (S 0).T.length
  tm : ∀ x, VRel μ (vl rows V (S 0).T (Lof listed) rows.length x) (a.tmps.getD x undef)
  rel : Rel μ (S p).H w
  un : ∀ i, i < rows.length → Lof listed i = false → ∀ b, (S i).H.next ≤ b → b < (S (i + 1)).H.next → μ b = none
  late : ∀ (i : Nat) (r : Row) (n : NewOp) (B : Blk) (f : Form), rows[i]? = some r → r.op = some (.new n) → wantedA r (S i).T = true → n.made (ev (S i).T) = some (B, f) → Lof listed i = false → i < p → (S p).H.get (S i).H.next = some B
  early : ∀ (i : Nat) (r : Row) (n : NewOp) (B : Blk) (f : Form), rows[i]? = some r → r.op = some (.new n) → wantedA r (S i).T = true → n.made (ev (S i).T) = some (B, f) → Lof listed i = true → p ≤ i →
    ∃ m, μ (S i).H.next = some m ∧ BlkRel μ m w B
  anch : Anch μ0 (S 0).H w0 (S rows.length).H.next μ (S p).H w

namespace Trace
theorem nextLe (t : Trace P call ops rows S V) (hn : ∀ f args H v H', call f args H = some (v, H') → H.next ≤ H'.next) {i : Nat} (hi : i < rows.length) : (S i).H.next ≤ (S (i + 1)).H.next := by
  obtain ⟨r, hr⟩ : ∃ r, rows[i]? = some r := ⟨rows[i], by simp [hi]⟩
  rcases (t.val i r hr).2 with ⟨_, _, he⟩ | ⟨_, op, _, hrun⟩
  · rw [he]; exact Nat.le_refl _
  · exact runOp_next hn hrun
theorem nextMono (t : Trace P call ops rows S V) (hn : ∀ f args H v H', call f args H = some (v, H') → H.next ≤ H'.next) : ∀ {j i : Nat}, i ≤ j → j ≤ rows.length → (S i).H.next ≤ (S j).H.next := by
  intro j
  induction j with
  | zero => intro i h _; have : i = 0 := by omega
            subst this; exact Nat.le_refl _
  | succ j ih =>
    intro i h1 h2
    rcases Nat.lt_or_ge j i with h | h
    · have : i = j + 1 := by omega
      subst this; exact Nat.le_refl _
    · exact Nat.le_trans (ih h (by omega)) (t.nextLe hn (by omega))

/-- A row that neither writes nor calls: what it does to the heap. -/
theorem nonWr (t : Trace P call ops rows S V) {i : Nat} {r : Row} (hr : rows[i]? = some r) (hw : r.wr = false) :
    (S (i + 1)).H = (S i).H ∨ ∃ n B f, r.op = some (.new n) ∧ wantedA r (S i).T = true ∧ n.made (ev (S i).T) = some (B, f) ∧ V i = f.val (S i).H.next ∧ (S (i + 1)).H = (S i).H.alloc B := by
  rcases (t.val i r hr).2 with ⟨_, _, he⟩ | ⟨hwa, op, hop, hrun⟩
  · exact .inl he
  · cases op with
    | pur q => obtain ⟨u, hu, hh⟩ := bind_some hrun; simp only [Option.some.injEq, Prod.mk.injEq] at hh; exact .inl hh.2.symm
    | rd q => obtain ⟨u, hu, hh⟩ := bind_some hrun; simp only [Option.some.injEq, Prod.mk.injEq] at hh; exact .inl hh.2.symm
    | new n =>
      obtain ⟨⟨B, f⟩, hu, hh⟩ := bind_some hrun
      simp only [Option.some.injEq, Prod.mk.injEq] at hh
      exact .inr ⟨n, B, f, hop, hwa, hu, hh.1.symm, hh.2.symm⟩
    | wr wo => simp [Row.wr, hop] at hw
end Trace

/-- The heap goes on past rows that neither write nor call. -/
theorem DInv.ahead {t : Trace P call ops rows S V} {μ0 : Mu} {w0 : World} {a0 : Act} {listed : Array Bool} {a : Act} {w : World} {μ : Mu} {p : Nat} (I : DInv t μ0 w0 a0 listed a w μ p) :
    ∀ q, p ≤ q → q ≤ rows.length → (∀ k r, p ≤ k → k < q → rows[k]? = some r → r.wr = false) →
      Rel μ (S q).H w ∧ Anch μ0 (S 0).H w0 (S rows.length).H.next μ (S q).H w ∧
      (∀ (i : Nat) (r : Row) (n : NewOp) (B : Blk) (f : Form), rows[i]? = some r → r.op = some (.new n) → wantedA r (S i).T = true → n.made (ev (S i).T) = some (B, f) → Lof listed i = false → i < q → (S q).H.get (S i).H.next = some B) := by
  intro q
  induction q with
  | zero =>
    intro h _ _
    have : p = 0 := by omega
    subst this
    exact ⟨I.rel, I.anch, I.late⟩
  | succ q ih =>
    intro h1 h2 hk
    rcases Nat.lt_or_ge q p with h | h
    · have : p = q + 1 := by omega
      subst this
      exact ⟨I.rel, I.anch, I.late⟩
    · obtain ⟨r1, r2, r3⟩ := ih h (by omega) (fun k r k1 k2 k3 => hk k r k1 (by omega) k3)
      obtain ⟨r, hr⟩ : ∃ r, rows[q]? = some r := ⟨rows[q], by simp [show q < rows.length by omega]⟩
      have hnw := hk q r h (by omega) hr
      rcases t.nonWr hr hnw with he | ⟨n, B, f, hop, hwa, hmade, hv, he⟩
      · rw [he]
        refine ⟨r1, r2, fun i r' n B f e1 e2 e3 e4 e5 e6 => ?_⟩
        rcases Nat.lt_or_ge i q with hi | hi
        · exact r3 i r' n B f e1 e2 e3 e4 e5 hi
        · have : i = q := by omega
          subst this
          rw [hr] at e1
          cases e1
          -- it laid a block after all
          rcases (t.val i r hr).2 with ⟨h, _⟩ | ⟨_, op, hop', hrun⟩
          · rw [e3] at h; cases h
          · rw [e2] at hop'
            cases hop'
            obtain ⟨u, hu, hh⟩ := bind_some hrun
            rw [e4] at hu
            cases hu
            simp only [Option.some.injEq, Prod.mk.injEq] at hh
            have := congrArg AH.next (hh.2.trans he)
            simp at this
      · rw [he]
        refine ⟨r1.allocUn fun m hm => ?_, r2.alloc B, fun i r' n' B' f' e1 e2 e3 e4 e5 e6 => ?_⟩
        · cases hL : Lof listed q with
          | true =>
            obtain ⟨m', k1, k2⟩ := I.early q r n B f hr hop hwa hmade hL h
            rw [hm] at k1
            cases k1
            exact k2
          | false =>
            have := I.un q (by omega) hL (S q).H.next (Nat.le_refl _) (by rw [he]; simp)
            rw [hm] at this; cases this
        · rcases Nat.lt_or_ge i q with hi | hi
          · have hg := r3 i r' n' B' f' e1 e2 e3 e4 e5 hi
            have : (S i).H.next ≠ (S q).H.next := by
              intro e
              rw [e, r1.fresh _ (Nat.le_refl _)] at hg
              cases hg
            rw [AH.get_alloc, if_neg this]; exact hg
          · have : i = q := by omega
            subst this
            rw [hr] at e1
            cases e1
            rw [hop] at e2
            cases e2
            rw [hmade] at e4
            cases e4
            rw [AH.get_alloc, if_pos rfl]

theorem lof_set {listed : Array Bool} {j : Nat} (hj : j < listed.size) : ∀ x, Lof (listed.setIfInBounds j true) x = if x = j then true else Lof listed x := by
  intro x
  unfold Lof
  by_cases e : x = j
  · subst e; simp [hj]
  · rw [if_neg e]; exact getD_set_ne false (Ne.symm e)

/-- **One operation comes up, whichever: what holds of the region holds behind it.** -/
theorem DInv.go {t : Trace P call ops rows S V} (hs : SoundF P call) (hn : ∀ f args H v H', call f args H = some (v, H') → H.next ≤ H'.next) {μ0 : Mu} {w0 : World} {a0 : Act} {listed : Array Bool} {a : Act} {w : World} {μ : Mu} {p : Nat}
    (I : DInv t μ0 w0 a0 listed a w μ p) {j : Nat} (hj : j ∈ Region.ready .any ops listed) {K : Act → World → Prop} {Q : Exit → Act → World → Prop}
    (hK : ∀ a' w' μ' p', DInv t μ0 w0 a0 (listed.setIfInBounds j true) a' w' μ' p' → K a' w') : wpOp P ops Q j K a w := by
  obtain ⟨hjun, oj, hoj, hpre⟩ := mem_ready.1 hj
  have hjo : j < ops.size := by
    rcases Nat.lt_or_ge j ops.size with h | h
    · exact h
    · simp [h] at hoj
  have hjl : j < rows.length := by rw [t.len]; exact hjo
  have hLj : Lof listed j = false := by
    unfold Lof
    have : j < listed.size := by rw [I.sz]; exact hjo
    simp [this] at hjun ⊢; exact hjun
  obtain ⟨r, hr⟩ := t.rowAt hjo
  obtain ⟨oj', hoj', hri⟩ := t.opAt hr
  rw [hoj] at hoj'
  cases hoj'
  have hpre' : ∀ e ∈ oj.after.toList, Region.binds .any e = true → Lof listed e.on = true := fun e he hb => hpre e (by simpa using he) hb
  have hset := lof_set (listed := listed) (j := j) (by rw [I.sz]; exact hjo)
  -- what the operation looks at
  have hlook : ∀ x, x ∈ oj.looksAt ops → VRel μ ((S j).T.getD x undef) (a.tmps.getD x undef) := fun x hx => by
    have := I.tm x
    rw [t.vl_look I.closed hoj hpre' hLj hx] at this
    exact this
  have hlenT := (t.tmps j (by omega)).1
  have hρ : Opds μ oj (ev (S j).T) a.eval :=
    { rel := fun x hx hok => by
        cases x with
        | tmp x =>
          have hx' : x ∈ oj.looksAt ops := by
            unfold Oper.looksAt
            refine List.mem_append_left _ (List.mem_filterMap.2 ⟨.tmp x, hx, rfl⟩)
          exact hlook x hx'
        | const v => exact .of_plainV hok
        | global g => cases hok
        | func f => exact .func _ _ _ _ _ rfl rfl (by intro i h; simp at h) (by intro i h; simp at h)
      const := fun v => ⟨rfl, rfl⟩
      func := fun f => ⟨rfl, rfl⟩ }
  have hw := wanted_eq (μ := μ) hri (T := (S j).T) (a := a) (fun x ⟨g, want, hg, hd⟩ => by
    have hx' : x ∈ oj.looksAt ops := by
      unfold Oper.looksAt
      refine List.mem_append_right _ ?_
      rw [hg]
      simp only [hd]
      simp
    have hl := hlook x hx'
    by_cases hlt : x < (S 0).T.length
    · have e1 : (S j).T[x]? = some ((S j).T.getD x undef) := by
        rw [List.getD_eq_getElem?_getD]
        have : x < (S j).T.length := by rw [hlenT]; exact hlt
        simp [this]
      have e2 : a.tmps[x]? = some (a.tmps.getD x undef) := by
        have : x < a.tmps.size := by rw [I.tsz]; exact hlt
        simp [this]
      rw [e1, e2]; exact hl
    · have e1 : (S j).T[x]? = none := by rw [List.getElem?_eq_none_iff, hlenT]; omega
      have e2 : a.tmps[x]? = none := by rw [Array.getElem?_eq_none_iff, I.tsz]; omega
      rw [e1, e2]; trivial)
  -- the parts that do not hang on what the operation is
  have hcl' : Trace.Closed ops (Lof (listed.setIfInBounds j true)) := fun i o ho hL e he hb => by
    rw [hset] at hL ⊢
    by_cases e1 : e.on = j
    · rw [if_pos e1]
    · rw [if_neg e1]
      by_cases e2 : i = j
      · subst e2
        rw [hoj] at ho
        cases ho
        exact hpre' e he hb
      · rw [if_neg e2] at hL
        exact I.closed i o ho hL e he hb
  have htm : ∀ {μ' : Mu} {v' : Value}, Sub μ μ' → VRel μ' (V j) v' → ∀ x, VRel μ' (vl rows V (S 0).T (Lof (listed.setIfInBounds j true)) rows.length x) ((a.put oj.dst v').tmps.getD x undef) := by
    intro μ' v' hsub hv x
    rw [t.vl_add I.closed hoj hr hLj hset x, hri.dst]
    have hx := (I.tm x).mono hsub
    cases hd : oj.dst with
    | none => simp only [Act.put]; rw [if_neg (by simp)]; exact hx
    | some d =>
      simp only [Act.put]
      by_cases hc : some d = some x ∧ x < (S 0).T.length
      · rw [if_pos hc]
        obtain ⟨h1, h2⟩ := hc
        cases h1
        have hxs : x < a.tmps.size := by rw [I.tsz]; exact h2
        simp [hxs]; exact hv
      · rw [if_neg hc]
        by_cases hdx : d = x
        · subst hdx
          have hnd : a.tmps.size ≤ d := by rw [I.tsz]; exact Nat.le_of_not_lt fun h => hc ⟨rfl, h⟩
          simp only [Array.getD_eq_getD_getElem?] at hx ⊢
          rw [Array.getElem?_eq_none hnd] at hx
          rw [Array.getElem?_eq_none (by simpa using hnd)]
          exact hx
        · simp only [Array.getD_eq_getD_getElem?] at hx ⊢
          rw [Array.getElem?_setIfInBounds_ne hdx]
          exact hx
  have htsz : ∀ v', (a.put oj.dst v').tmps.size = (S 0).T.length := fun v' => by
    rw [← I.tsz]; cases oj.dst <;> simp [Act.put]
  have hidx : ∀ {i : Nat}, i < rows.length → (S i).H.next ≤ (S rows.length).H.next := fun {i} hi => t.nextMono hn (by omega) (Nat.le_refl _)
  -- what neither writes nor calls, the blocks as they were
  have quiet : ∀ {v' : Value}, r.wr = false → (∀ n B f, r.op = some (.new n) → wantedA r (S j).T = true → n.made (ev (S j).T) = some (B, f) → False) → VRel μ (V j) v' → K (a.put oj.dst v') w := by
    intro v' hnw hnn hv
    refine hK _ _ μ p
      { sz := by simp [I.sz]
        closed := hcl'
        prog := fun i r' hr' hwr => by
          have : i ≠ j := by intro e; subst e; rw [hr] at hr'; cases hr'; rw [hnw] at hwr; cases hwr
          rw [hset, if_neg this]; exact I.prog i r' hr' hwr
        canon := I.canon
        ple := I.ple
        dfr := by rw [put_defers]; exact I.dfr
        tsz := htsz _
        tm := htm (Sub.refl _) hv
        rel := I.rel
        un := fun i hi hL b h1 h2 => by
          rw [hset] at hL
          by_cases e : i = j
          · rw [if_pos e] at hL; cases hL
          · rw [if_neg e] at hL; exact I.un i hi hL b h1 h2
        late := fun i r' n B f e1 e2 e3 e4 e5 e6 => by
          rw [hset] at e5
          by_cases e : i = j
          · rw [if_pos e] at e5; cases e5
          · rw [if_neg e] at e5; exact I.late i r' n B f e1 e2 e3 e4 e5 e6
        early := fun i r' n B f e1 e2 e3 e4 e5 e6 => by
          rw [hset] at e5
          by_cases e : i = j
          · subst e; rw [hr] at e1; cases e1; exact (hnn n B f e2 e3 e4).elim
          · rw [if_neg e] at e5; exact I.early i r' n B f e1 e2 e3 e4 e5 e6
        anch := I.anch }
  -- all writers ahead of a writer have been carried out
  have wrAt : ∀ {i : Nat}, kw (kindsOf rows) i = true → ∃ r, rows[i]? = some r ∧ r.wr = true := fun {i} h => by
    cases hri2 : rows[i]? with
    | none =>
      unfold kw kindsOf at h
      rw [List.getD_eq_getElem?_getD, List.getElem?_map, hri2] at h
      cases h
    | some r2 => exact ⟨r2, rfl, by rw [← kw_at hri2]; exact h⟩
  have hcanonL : p = 0 ∨ ∃ r2, rows[p - 1]? = some r2 ∧ r2.wr = true ∧ Lof listed (p - 1) = true ∧ 0 < p := by
    rcases I.canon with h | h
    · exact .inl h
    · rcases Nat.eq_zero_or_pos p with h0 | h0
      · exact .inl h0
      · obtain ⟨r2, h1, h2⟩ := wrAt h
        exact .inr ⟨r2, h1, h2, (I.prog _ _ h1 h2).2 (by omega), h0⟩
  have wrfin : r.wr = true → ∀ {μ' : Mu} {v' : Value} {w' : World}, (∀ {X : Prop}, (Rel μ (S j).H w → X) → X) → Rel μ' (S (j + 1)).H w' → Step μ (S j).H w μ' (S (j + 1)).H w' → VRel μ' (V j) v' → K (a.put oj.dst v') w' := by
    intro hwr μ' v' w' _ hR' hst hv
    have hpj : p ≤ j := by
      rcases hcanonL with h | ⟨r2, h1, h2, h3, h4⟩
      · omega
      · rcases Nat.lt_or_ge j p with hlt | hge
        · exfalso
          rcases Nat.eq_or_lt_of_le (show j ≤ p - 1 by omega) with e | hlt2
          · rw [← e, hLj] at h3; cases h3
          · obtain ⟨o2, ho2, _⟩ := t.opAt h1
            rcases t.pair hlt2 hoj ho2 with hh | ⟨_, hh⟩
            · have := t.ord I.closed ho2 (I.closed _ _ ho2 h3) hh
              rw [hLj] at this; cases this
            · exact hh ⟨by rw [kw_at hr]; exact hwr, by rw [kw_at h1]; exact h2⟩
        · exact hge
    have hnone : ∀ k r2, p ≤ k → k < j → rows[k]? = some r2 → r2.wr = false := by
      intro k r2 k1 k2 hk
      cases hw2 : r2.wr with
      | false => rfl
      | true =>
        exfalso
        obtain ⟨o2, ho2, _⟩ := t.opAt hk
        rcases t.pair k2 ho2 hoj with hh | ⟨_, hh⟩
        · have := t.ord I.closed hoj hpre' hh
          have := (I.prog k r2 hk hw2).1 this
          omega
        · exact hh ⟨by rw [kw_at hk]; exact hw2, by rw [kw_at hr]; exact hwr⟩
    obtain ⟨r1, r2, r3⟩ := I.ahead j hpj (by omega) hnone
    have hnj := t.nextLe hn hjl
    refine hK _ _ μ' (j + 1)
      { sz := by simp [I.sz]
        closed := hcl'
        prog := fun i r' hr' hwr' => by
          rw [hset]
          by_cases e : i = j
          · subst e; simp
          · rw [if_neg e, I.prog i r' hr' hwr']
            constructor
            · intro h; omega
            · intro h
              rcases Nat.lt_or_ge i p with h1 | h1
              · exact h1
              · have := hnone i r' h1 (by omega) hr'
                rw [hwr'] at this; cases this
        canon := .inr (by simp only [Nat.add_sub_cancel]; rw [kw_at hr]; exact hwr)
        ple := by omega
        dfr := by rw [put_defers]; exact I.dfr
        tsz := htsz _
        tm := htm hst.ext hv
        rel := hR'
        un := fun i hi hL b h1 h2 => by
          rw [hset] at hL
          by_cases e : i = j
          · rw [if_pos e] at hL; cases hL
          · rw [if_neg e] at hL
            have h0 := I.un i hi hL b h1 h2
            rcases Nat.lt_or_ge i j with hij | hij
            · have := t.nextMono hn (show i + 1 ≤ j by omega) (by omega)
              rw [hst.out b (.inl (by omega))]; exact h0
            · have := t.nextMono hn (show j + 1 ≤ i by omega) (by omega)
              rw [hst.out b (.inr (by omega))]; exact h0
        late := fun i r' n B f e1 e2 e3 e4 e5 e6 => by
          rw [hset] at e5
          by_cases e : i = j
          · rw [if_pos e] at e5; cases e5
          · rw [if_neg e] at e5
            have hg := r3 i r' n B f e1 e2 e3 e4 e5 (by omega)
            have hil : i < rows.length := by omega
            have hrange : (S i).H.next < (S (i + 1)).H.next := by
              rcases (t.val i r' e1).2 with ⟨h, _⟩ | ⟨_, op, hop', hrun⟩
              · rw [e3] at h; cases h
              · rw [e2] at hop'
                cases hop'
                obtain ⟨u, hu, hh⟩ := bind_some hrun
                simp only [Option.some.injEq, Prod.mk.injEq] at hh
                rw [← hh.2]; simp
            have hu := I.un i hil e5 (S i).H.next (Nat.le_refl _) hrange
            have := t.nextMono hn (show i + 1 ≤ j by omega) (by omega)
            rw [hst.unm _ (by omega) hu]; exact hg
        early := fun i r' n B f e1 e2 e3 e4 e5 e6 => by
          rw [hset] at e5
          by_cases e : i = j
          · omega
          · rw [if_neg e] at e5
            obtain ⟨m, q1, q2⟩ := I.early i r' n B f e1 e2 e3 e4 e5 (by omega)
            refine ⟨m, hst.ext _ _ q1, q2.mono hst.ext ?_⟩
            have hge := t.nextMono hn (show j ≤ i by omega) (by have := t.rowLt e1; rw [← t.len] at this; omega)
            refine hst.keep _ (r1.inw _ m q1) fun b mb hg hro hmb e7 => ?_
            rcases r1.inj b (S i).H.next mb m (.inl hg) (.inr hge) hmb q1 e7 with h | ⟨h, _⟩
            · subst h; exact hg (r1.fresh _ hge)
            · exact hro h
        anch := r2.step hst r1.fresh (t.nextMono hn (by omega) (Nat.le_refl _)) }
  have wrRel : r.wr = true → Rel μ (S j).H w := by
    intro hwr
    have hpj : p ≤ j := by
      rcases hcanonL with h | ⟨r2, h1, h2, h3, h4⟩
      · omega
      · rcases Nat.lt_or_ge j p with hlt | hge
        · exfalso
          rcases Nat.eq_or_lt_of_le (show j ≤ p - 1 by omega) with e | hlt2
          · rw [← e, hLj] at h3; cases h3
          · obtain ⟨o2, ho2, _⟩ := t.opAt h1
            rcases t.pair hlt2 hoj ho2 with hh | ⟨_, hh⟩
            · have := t.ord I.closed ho2 (I.closed _ _ ho2 h3) hh
              rw [hLj] at this; cases this
            · exact hh ⟨by rw [kw_at hr]; exact hwr, by rw [kw_at h1]; exact h2⟩
        · exact hge
    refine (I.ahead j hpj (by omega) fun k r2 k1 k2 hk => ?_).1
    cases hw2 : r2.wr with
    | false => rfl
    | true =>
      exfalso
      obtain ⟨o2, ho2, _⟩ := t.opAt hk
      rcases t.pair k2 ho2 hoj with hh | ⟨_, hh⟩
      · have := t.ord I.closed hoj hpre' hh
        have := (I.prog k r2 hk hw2).1 this
        omega
      · exact hh ⟨by rw [kw_at hk]; exact hw2, by rw [kw_at hr]; exact hwr⟩
  unfold wpOp
  simp only [hoj]
  rw [← hw]
  cases hwa : wantedA r (S j).T with
  | false =>
    simp only [Bool.false_eq_true, if_false]
    rcases (t.val j r hr).2 with ⟨_, hv, he⟩ | ⟨h, _⟩
    · cases hwr : r.wr with
      | false => exact quiet hwr (fun n B f _ h _ => by rw [hwa] at h; cases h) (by rw [hv]; exact VRel.undef)
      | true =>
        have hR1 := wrRel hwr
        exact wrfin hwr (fun f => f hR1) (by rw [he]; exact hR1) (by rw [he]; exact Step.refl) (by rw [hv]; exact VRel.undef)
    · rw [hwa] at h; cases h
  | true =>
    simp only [if_true]
    left
    rcases (t.val j r hr).2 with ⟨h, _⟩ | ⟨_, op, hop, hrun⟩
    · rw [hwa] at h; cases h
    · have hpo : prepOp P oj = some op := by rw [← hri.op]; exact hop
      cases op with
      | pur q =>
        obtain ⟨u, hu, hh⟩ := bind_some hrun
        simp only [Option.some.injEq, Prod.mk.injEq] at hh
        obtain ⟨v', h1, h2⟩ := pur_sim P w hpo hρ hu
        unfold Oper.wp
        rw [h1]
        exact quiet (by simp [Row.wr, hop]) (fun n B f h _ _ => by rw [hop] at h; cases h) (by rw [← hh.1]; exact h2)
      | rd q =>
        have hv : validB (kindsOf rows) (masksF ops.toList []) j p = true := by
          unfold validB
          rw [List.all_eq_true]
          intro k hk
          cases hkw : kw (kindsOf rows) k with
          | false => simp
          | true =>
            obtain ⟨r2, h1, h2⟩ := wrAt hkw
            obtain ⟨o2, ho2, _⟩ := t.opAt h1
            simp only [Bool.not_true, Bool.false_or, Bool.and_eq_true, Bool.or_eq_true, Bool.not_eq_true']
            refine ⟨?_, ?_⟩
            · cases hb : ordB (masksF ops.toList []) k j with
              | false => exact .inl rfl
              | true =>
                right
                rw [Nat.blt_eq]
                exact (I.prog k r2 h1 h2).1 (t.ord I.closed hoj hpre' hb)
            · cases hb : ordB (masksF ops.toList []) j k with
              | false => exact .inl rfl
              | true =>
                right
                refine Nat.ble_eq_true_of_le ?_
                rcases Nat.lt_or_ge k p with h | h
                · have hLk := (I.prog k r2 h1 h2).2 h
                  have := t.ord I.closed ho2 (I.closed _ _ ho2 hLk) hb
                  rw [hLj] at this; cases this
                · exact h
        have hrd := t.read hr hop hwa I.ple I.canon hv
        obtain ⟨v', h1, h2⟩ := rd_sim P I.rel hpo hρ hrd
        unfold Oper.wp
        rw [h1]
        exact quiet (by simp [Row.wr, hop]) (fun n B f h _ _ => by rw [hop] at h; cases h) h2
      | new n =>
        obtain ⟨⟨B, f⟩, hmade, hh⟩ := bind_some hrun
        simp only [Option.some.injEq, Prod.mk.injEq] at hh
        obtain ⟨hV, hH⟩ := hh
        obtain ⟨obj, w', h1, h2, h3, h4, h5, h6, h7⟩ := new_sim P w hpo hρ hmade
        unfold Oper.wp
        rw [h1]
        simp only [Oper.upon]
        have hnw : r.wr = false := by simp [Row.wr, hop]
        have hb0 : μ (S j).H.next = none := I.un j hjl hLj _ (Nat.le_refl _) (by rw [← hH]; simp)
        have hsub : Sub μ (μ.upd (S j).H.next ⟨w.heap.size, 0, 0, 0⟩) := Mu.upd_sub hb0
        have hobj : w'.heap[w.heap.size]? = some obj := by rw [h2]; simp
        have hnext0 : (S 0).H.next ≤ (S j).H.next := t.nextMono hn (Nat.zero_le _) (by omega)
        have hhi : (S j).H.next < (S rows.length).H.next := by
          have := t.nextMono hn (show j + 1 ≤ rows.length by omega) (Nat.le_refl _)
          rw [← hH] at this
          simp at this; omega
        refine hK _ _ (μ.upd (S j).H.next ⟨w.heap.size, 0, 0, 0⟩) p
          { sz := by simp [I.sz]
            closed := hcl'
            prog := fun i r' hr' hwr => by
              have : i ≠ j := by intro e; subst e; rw [hr] at hr'; cases hr'; rw [hnw] at hwr; cases hwr
              rw [hset, if_neg this]; exact I.prog i r' hr' hwr
            canon := I.canon
            ple := I.ple
            dfr := by rw [put_defers]; exact I.dfr
            tsz := htsz _
            tm := htm hsub (by rw [← hV]; exact form_rel h7 (Mu.upd_self _ _ _))
            rel := I.rel.linkAt hb0 rfl h2 (fun B' hB' => by
              rcases Nat.lt_or_ge j p with hjp | hjp
              · have := I.late j r n B f hr hop hwa hmade hLj hjp
                rw [hB'] at this
                cases this
                exact newOk_blk h6 hobj hsub
              · have := I.rel.fresh (S j).H.next (t.nextMono hn hjp (by omega))
                rw [hB'] at this; cases this)
            un := fun i hi hL b k1 k2 => by
              rw [hset] at hL
              by_cases e : i = j
              · rw [if_pos e] at hL; cases hL
              · rw [if_neg e] at hL
                have h0 := I.un i hi hL b k1 k2
                have hne : b ≠ (S j).H.next := by
                  intro e2
                  subst e2
                  rcases Nat.lt_or_ge i j with hij | hij
                  · have := t.nextMono hn (show i + 1 ≤ j by omega) (by omega)
                    omega
                  · have := t.nextMono hn (show j + 1 ≤ i by omega) (by omega)
                    rw [← hH] at this
                    simp at this; omega
                rw [Mu.upd_ne _ _ hne]; exact h0
            late := fun i r' n' B' f' e1 e2 e3 e4 e5 e6 => by
              rw [hset] at e5
              by_cases e : i = j
              · rw [if_pos e] at e5; cases e5
              · rw [if_neg e] at e5; exact I.late i r' n' B' f' e1 e2 e3 e4 e5 e6
            early := fun i r' n' B' f' e1 e2 e3 e4 e5 e6 => by
              rw [hset] at e5
              by_cases e : i = j
              · subst e
                rw [hr] at e1; cases e1
                rw [hop] at e2; cases e2
                rw [hmade] at e4; cases e4
                exact ⟨_, Mu.upd_self _ _ _, newOk_blk h6 hobj hsub⟩
              · rw [if_neg e] at e5
                obtain ⟨m, q1, q2⟩ := I.early i r' n' B' f' e1 e2 e3 e4 e5 e6
                refine ⟨m, hsub _ _ q1, q2.mono hsub ?_⟩
                have := I.rel.inw _ m q1
                rw [h2, Array.getElem?_push]; simp [show ¬ m.rb = w.heap.size by omega]
            anch := I.anch.linkAt hb0 hnext0 hhi rfl h2 h3 h4 h5 }
      | wr wo =>
        have hwr : r.wr = true := by simp [Row.wr, hop]
        have hR1 := wrRel hwr
        refine op_wp hs hR1 hpo hρ hrun (fun b k1 k2 => I.un j hjl hLj b k1 k2) ?_
        intro μ' v' w' q1 q2 q3
        exact wrfin hwr (fun f => f hR1) q1 q2 q3
end
end Go.Ez
