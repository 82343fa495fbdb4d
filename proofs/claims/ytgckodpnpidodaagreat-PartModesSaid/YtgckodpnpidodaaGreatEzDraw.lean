import Derived.Test.YtgckodpnpidodaaGreatEzSeq
set_option linter.all false
/- A region whose order is open: one run in the order of its text, and what is checked beside it, stand for every order. -/
set_option linter.unusedVariables false
set_option linter.unusedSimpArgs false
namespace Go.Ez

/-! ### What comes ahead of what -/
theorem maskOf_bit (acc : List Nat) (o : Oper) (i : Nat) : (maskOf acc o).testBit i = true ↔ ∃ e ∈ o.after.toList, Region.binds .any e = true ∧ (e.on = i ∨ (acc.getD e.on 0).testBit i = true) := by
  unfold maskOf
  have gen : ∀ (l : List Edge) (s : Nat), (l.foldl (fun s e => bif Region.binds .any e then s ||| 2 ^ e.on ||| acc.getD e.on 0 else s) s).testBit i = true ↔ s.testBit i = true ∨ ∃ e ∈ l, Region.binds .any e = true ∧ (e.on = i ∨ (acc.getD e.on 0).testBit i = true) := by
    intro l
    induction l with
    | nil => intro s; simp
    | cons e l ih =>
      intro s
      rw [List.foldl_cons, ih]
      cases hb : Region.binds .any e with
      | false => simp [hb]
      | true =>
        simp only [cond_true, Nat.testBit_or, Bool.or_eq_true, Nat.testBit_two_pow, decide_eq_true_eq, List.mem_cons, exists_eq_or_imp, hb, true_and]
        constructor
        · rintro (((h | h) | h) | h)
          · exact .inl h
          · exact .inr (.inl (.inl h))
          · exact .inr (.inl (.inr h))
          · exact .inr (.inr h)
        · rintro (h | (h | h) | h)
          · exact .inl (.inl (.inl h))
          · exact .inl (.inl (.inr h))
          · exact .inl (.inr h)
          · exact .inr h
  rw [gen]; simp

theorem masksF_prefix : ∀ (l : List Oper) (acc : List Nat) (i : Nat), i < acc.length → (masksF l acc)[i]? = acc[i]? := by
  intro l
  induction l with
  | nil => intro acc i _; rfl
  | cons o l ih =>
    intro acc i hi
    rw [masksF, ih _ _ (by simp; omega), List.getElem?_append_left hi]

theorem masksF_at : ∀ (l : List Oper) (acc : List Nat) (i : Nat) (o : Oper), l[i]? = some o → ∃ pre : List Nat, pre.length = acc.length + i ∧ (∀ k, k < pre.length → pre[k]? = (masksF l acc)[k]?) ∧ (masksF l acc)[acc.length + i]? = some (maskOf pre o) := by
  intro l
  induction l with
  | nil => intro acc i o h; simp at h
  | cons x l ih =>
    intro acc i o h
    cases i with
    | zero =>
      simp at h
      subst h
      refine ⟨acc, rfl, fun k hk => ?_, ?_⟩
      · rw [masksF_prefix _ _ _ hk]
      · rw [masksF, masksF_prefix _ _ _ (by simp)]; simp
    | succ i =>
      obtain ⟨pre, h1, h2, h3⟩ := ih (acc ++ [maskOf acc x]) i o (by simpa using h)
      simp only [List.length_append, List.length_cons, List.length_nil] at h1 h3
      refine ⟨pre, by omega, h2, ?_⟩
      rw [masksF, ← h3]
      congr 1; omega

/-- What is closed under 'comes directly ahead' is closed under 'comes ahead'. -/
theorem ord_closed {l : List Oper} {L : Nat → Prop} (hcl : ∀ j o, l[j]? = some o → L j → ∀ e ∈ o.after.toList, Region.binds .any e = true → L e.on)
    (hback : ∀ j o, l[j]? = some o → ∀ e ∈ o.after.toList, Region.binds .any e = true → e.on < j) :
    ∀ (j : Nat) (o : Oper) (i : Nat), l[j]? = some o → (∀ e ∈ o.after.toList, Region.binds .any e = true → L e.on) → ordB (masksF l []) i j = true → L i := by
  intro j
  induction j using Nat.strongRecOn with
  | _ j ih =>
    intro o i ho hpre hord
    obtain ⟨pre, h1, h2, h3⟩ := masksF_at l [] j o ho
    simp only [List.length_nil, Nat.zero_add] at h1 h3
    unfold ordB at hord
    rw [List.getD_eq_getElem?_getD, h3] at hord
    simp only [Option.getD_some] at hord
    obtain ⟨e, he, hb, hc⟩ := (maskOf_bit pre o i).1 hord
    rcases hc with rfl | hc
    · exact hpre e he hb
    · have hlt := hback j o ho e he hb
      have hj : j < l.length := by
        rcases Nat.lt_or_ge j l.length with h | h
        · exact h
        · simp [h] at ho
      have ho2 : l[e.on]? = some l[e.on] := by simp [show e.on < l.length by omega]
      refine ih e.on hlt l[e.on] i ho2 (fun e' he' hb' => hcl e.on _ ho2 (hpre e he hb) e' he' hb') ?_
      unfold ordB
      rw [List.getD_eq_getElem?_getD, ← h2 e.on (by omega), ← List.getD_eq_getElem?_getD]
      exact hc

/-! ### The run -/
section
variable {P : Program} {call : CallF}

theorem stepD_cases {r : Row} {s s' : DSt} (h : stepD P call r s = some s') : s'.i = s.i + 1 ∧ ∃ v, s'.T = putA s.T r.dst v ∧
    ((wantedA r s.T = false ∧ v = undef ∧ s'.H = s.H) ∨ (wantedA r s.T = true ∧ ∃ op, r.op = some op ∧ runOp P call s.T s.H op = some (v, s'.H))) := by
  unfold stepD at h
  cases hw : wantedA r s.T with
  | true =>
    rw [hw, cond_true] at h
    split at h
    · cases h
    · rename_i rd hop
      obtain ⟨v, hv, h⟩ := bind_some h
      obtain ⟨_, h⟩ := bif_some h
      cases h
      exact ⟨rfl, v, rfl, .inr ⟨rfl, _, hop, by simp [runOp, hv]⟩⟩
    · rename_i w hop
      obtain ⟨⟨v, H1⟩, hv, h⟩ := bind_some h
      obtain ⟨_, h⟩ := bif_some h
      cases h
      exact ⟨rfl, v, rfl, .inr ⟨rfl, _, hop, by simp [runOp, hv]⟩⟩
    · rename_i op _ _ hop
      obtain ⟨⟨v, H1⟩, hv, h⟩ := bind_some h
      cases h
      exact ⟨rfl, v, rfl, .inr ⟨rfl, _, hop, hv⟩⟩
  | false =>
    rw [hw, cond_false] at h
    cases hwr : r.wr with
    | true =>
      rw [hwr, cond_true] at h
      obtain ⟨_, h⟩ := bif_some h
      cases h
      exact ⟨rfl, undef, rfl, .inl ⟨rfl, rfl, rfl⟩⟩
    | false =>
      rw [hwr, cond_false] at h
      cases h
      exact ⟨rfl, undef, rfl, .inl ⟨rfl, rfl, rfl⟩⟩

theorem runD_trace : ∀ {rows : List Row} {s s' : DSt}, runD P call rows s = some s' → ∃ S : Nat → DSt, S 0 = s ∧ S rows.length = s' ∧ ∀ (i : Nat) (r : Row), rows[i]? = some r → stepD P call r (S i) = some (S (i + 1)) := by
  intro rows
  induction rows with
  | nil => intro s s' h; cases h; exact ⟨fun _ => s, rfl, rfl, fun i r h => by simp at h⟩
  | cons r rows ih =>
    intro s s' h
    obtain ⟨s1, h1, h⟩ := bind_some h
    obtain ⟨S, k1, k2, k3⟩ := ih h
    refine ⟨fun i => match i with | 0 => s | i + 1 => S i, rfl, k2, fun i x hx => ?_⟩
    cases i with
    | zero => simp at hx; subst hx; simpa [k1] using h1
    | succ i => exact k3 i x (by simpa using hx)

/-- All that is told of a region's run. -/
structure Trace (P : Program) (call : CallF) (ops : Array Oper) (rows : List Row) (S : Nat → DSt) (V : Nat → Value) : Prop where
  len : rows.length = ops.size
  row : ∀ (i : Nat) (r : Row) (o : Oper), rows[i]? = some r → ops[i]? = some o → RowIs P ops o r
  step : ∀ (i : Nat) (r : Row), rows[i]? = some r → stepD P call r (S i) = some (S (i + 1))
  i0 : (S 0).i = 0
  h0 : (S 0).hist = [(0, (S 0).H)]
  p0 : (S 0).pend = []
  val : ∀ (i : Nat) (r : Row), rows[i]? = some r → (S (i + 1)).T = putA (S i).T r.dst (V i) ∧
    ((wantedA r (S i).T = false ∧ V i = undef ∧ (S (i + 1)).H = (S i).H) ∨ (wantedA r (S i).T = true ∧ ∃ op, r.op = some op ∧ runOp P call (S i).T (S i).H op = some (V i, (S (i + 1)).H)))
  ok : okDraw ops (kindsOf rows) (masksF ops.toList []) = true
  vs : ∀ (j : Nat) (r : Row) (rd : RdOp), rows[j]? = some r → r.op = some (.rd rd) → r.vs = placesOf (kindsOf rows) (masksF ops.toList []) j


theorem all_zip {p : Value → Value → Bool} (hp : ∀ a b, p a b = true → a = b) : ∀ {l l' : List Value}, l.length = l'.length → (l.zip l').all (fun x => p x.1 x.2) = true → l = l' := by
  intro l
  induction l with
  | nil => intro l' h _; cases l' with
    | nil => rfl
    | cons _ _ => simp at h
  | cons a l ih =>
    intro l' h hall
    cases l' with
    | nil => simp at h
    | cons b l' =>
      simp only [List.zip_cons_cons, List.all_cons, Bool.and_eq_true] at hall
      rw [hp a b hall.1, ih (by simpa using h) hall.2]

theorem arr_zip {p : Value → Value → Bool} (hp : ∀ a b, p a b = true → a = b) {x y : Array Value} (h : Nat.beq x.size y.size = true) (hall : (x.toList.zip y.toList).all (fun x => p x.1 x.2) = true) : x = y :=
  Array.toList_inj.1 (all_zip hp (by simpa using Nat.eq_of_beq_eq_true h) hall)

theorem veq_sound : ∀ (n : Nat) (a b : Value), veq n a b = true → a = b := by
  intro n
  induction n with
  | zero =>
    intro a b h
    unfold veq at h
    split at h <;> first
      | (cases h; done)
      | rfl
      | (simp only [Bool.and_eq_true, decide_eq_true_eq, beq_iff_eq] at h; obtain ⟨⟨h1, h2⟩, h3⟩ := h; rw [h1, Nat.eq_of_beq_eq_true h2, Nat.eq_of_beq_eq_true h3])
      | (simp only [Bool.and_eq_true, decide_eq_true_eq, beq_iff_eq] at h; obtain ⟨h1, h2⟩ := h; rw [h1, h2])
      | (simp only [decide_eq_true_eq] at h; exact congrArg Value.string (ByteArray.ext (Array.toList_inj.1 h)))
      | (simp only [decide_eq_true_eq, beq_iff_eq] at h; rw [h])
      | (rename_i hn; cases hn; done)
  | succ n ih =>
    intro a b h
    unfold veq at h
    split at h <;> first
      | (cases h; done)
      | rfl
      | (simp only [decide_eq_true_eq] at h; exact congrArg Value.string (ByteArray.ext (Array.toList_inj.1 h)))
      | (simp only [Bool.and_eq_true, decide_eq_true_eq, beq_iff_eq] at h; obtain ⟨⟨h1, h2⟩, h3⟩ := h; rw [h1, Nat.eq_of_beq_eq_true h2, Nat.eq_of_beq_eq_true h3])
      | (rename_i hq; cases hq; simp only [Bool.and_eq_true] at h; obtain ⟨⟨⟨⟨h1, h2⟩, h3⟩, h4⟩, h5⟩ := h; rw [Nat.eq_of_beq_eq_true h1, arr_zip ih h2 h4, arr_zip ih h3 h5])
      | (rename_i hq; cases hq; simp only [Bool.and_eq_true] at h; obtain ⟨h1, h2⟩ := h; rw [arr_zip ih h1 h2])
      | (rename_i hq; cases hq; simp only [Bool.and_eq_true] at h; obtain ⟨h1, h2⟩ := h; rw [Nat.eq_of_beq_eq_true h1, ih _ _ h2])
      | (simp only [Bool.and_eq_true, decide_eq_true_eq, beq_iff_eq] at h; obtain ⟨h1, h2⟩ := h; rw [h1, h2])
      | (simp only [decide_eq_true_eq, beq_iff_eq] at h; rw [h])

theorem chk_some {H : AH} {q : Rd} {v : Value} (h : chk H q v = true) : q.run H = some v := by
  unfold chk at h
  split at h
  · rename_i u hu; rw [hu, veq_sound _ _ _ h]
  · cases h

/-- What a step keeps and checks. -/
theorem stepD_hist {r : Row} {s s' : DSt} (h : stepD P call r s = some s') :
    (∀ x, x ∈ s.hist → x ∈ s'.hist) ∧ (∀ x, x ∈ s.pend → x ∈ s'.pend) ∧ (r.wr = true → (s.i + 1, s'.H) ∈ s'.hist) ∧
    (r.wr = true → ∀ x, x ∈ s.pend → x.1.contains (s.i + 1) = true → x.2.1.run s'.H = some x.2.2) ∧
    (∀ rd v, r.op = some (.rd rd) → wantedA r s.T = true → (rd.rd (ev s.T)).run s.H = some v → (r.vs, rd.rd (ev s.T), v) ∈ s'.pend ∧ ∀ x, x ∈ s.hist → r.vs.contains x.1 = true → (rd.rd (ev s.T)).run x.2 = some v) := by
  unfold stepD at h
  have allp : ∀ {H' : AH}, s.pend.all (fun p => !(p.1.contains (s.i + 1)) || chk H' p.2.1 p.2.2) = true → ∀ x, x ∈ s.pend → x.1.contains (s.i + 1) = true → x.2.1.run H' = some x.2.2 := by
    intro H' hall x hx hc
    have := List.all_eq_true.1 hall x hx
    rw [hc] at this
    exact chk_some (by simpa using this)
  cases hw : wantedA r s.T with
  | true =>
    rw [hw, cond_true] at h
    split at h
    · cases h
    · rename_i rd hop
      have hnw : r.wr = false := by simp [Row.wr, hop]
      obtain ⟨v, hv, h⟩ := bind_some h
      obtain ⟨hall, h⟩ := bif_some h
      cases h
      refine ⟨fun x hx => hx, fun x hx => List.mem_cons_of_mem _ hx, fun h => (by rw [hnw] at h; cases h), fun h => (by rw [hnw] at h; cases h), fun rd' v' hop' _ hv' => ?_⟩
      rw [hop] at hop'
      cases hop'
      rw [hv] at hv'
      cases hv'
      refine ⟨List.mem_cons_self .., fun x hx hc => ?_⟩
      have := List.all_eq_true.1 hall x hx
      rw [hc] at this
      exact chk_some (by simpa using this)
    · rename_i wo hop
      obtain ⟨⟨v, H1⟩, hv, h⟩ := bind_some h
      obtain ⟨hall, h⟩ := bif_some h
      cases h
      exact ⟨fun x hx => List.mem_cons_of_mem _ hx, fun x hx => hx, fun _ => List.mem_cons_self .., fun _ => allp hall, fun rd' v' hop' => (by rw [hop] at hop'; cases hop')⟩
    · rename_i op hne1 hne2 hop
      have hnw : r.wr = false := by
        unfold Row.wr
        rw [hop]
        cases op <;> first | rfl | (exact (hne2 _ hop).elim) | (exact (hne2 _ rfl).elim)
      obtain ⟨⟨v, H1⟩, hv, h⟩ := bind_some h
      cases h
      refine ⟨fun x hx => hx, fun x hx => hx, fun h => (by rw [hnw] at h; cases h), fun h => (by rw [hnw] at h; cases h), fun rd' v' hop' => ?_⟩
      rw [hop] at hop'
      cases hop'
      first | exact (hne1 _ hop).elim | exact (hne1 _ rfl).elim
  | false =>
    rw [hw, cond_false] at h
    cases hwr : r.wr with
    | true =>
      rw [hwr, cond_true] at h
      obtain ⟨hall, h⟩ := bif_some h
      cases h
      exact ⟨fun x hx => List.mem_cons_of_mem _ hx, fun x hx => hx, fun _ => List.mem_cons_self .., fun _ => allp hall, fun rd' v' _ h => (by cases h)⟩
    | false =>
      rw [hwr, cond_false] at h
      cases h
      exact ⟨fun x hx => hx, fun x hx => hx, fun h => (by cases h), fun h => (by cases h), fun rd' v' _ h => (by cases h)⟩

theorem kw_at {rows : List Row} {i : Nat} {r : Row} (h : rows[i]? = some r) : kw (kindsOf rows) i = r.wr := by
  unfold kw kindsOf
  rw [List.getD_eq_getElem?_getD, List.getElem?_map, h]; rfl
theorem kst_at {rows : List Row} {i : Nat} {r : Row} (h : rows[i]? = some r) : kst (kindsOf rows) i = r.still := by
  unfold kst kindsOf
  rw [List.getD_eq_getElem?_getD, List.getElem?_map, h]; rfl

namespace Trace
variable {ops : Array Oper} {rows : List Row} {S : Nat → DSt} {V : Nat → Value}

theorem at_ (t : Trace P call ops rows S V) : ∀ i, i ≤ rows.length → (S i).i = i := by
  intro i
  induction i with
  | zero => intro _; exact t.i0
  | succ i ih =>
    intro hi
    have hr : rows[i]? = some rows[i] := by simp [show i < rows.length by omega]
    rw [(stepD_cases (t.step i _ hr)).1, ih (by omega)]

theorem hist (t : Trace P call ops rows S V) : ∀ i, i ≤ rows.length → ∀ p, p ≤ i → (p = 0 ∨ kw (kindsOf rows) (p - 1) = true) → (p, (S p).H) ∈ (S i).hist := by
  intro i
  induction i with
  | zero =>
    intro _ p hp _
    have : p = 0 := by omega
    subst this
    rw [t.h0]; simp
  | succ i ih =>
    intro hi p hp hc
    have hr : rows[i]? = some rows[i] := by simp [show i < rows.length by omega]
    obtain ⟨h1, h2, h3, h4, h5⟩ := stepD_hist (t.step i _ hr)
    rcases Nat.lt_or_ge i p with hlt | hge
    · have : p = i + 1 := by omega
      subst this
      rcases hc with hc | hc
      · omega
      · simp only [Nat.add_sub_cancel] at hc
        rw [kw_at hr] at hc
        have := h3 hc
        rwa [t.at_ i (by omega)] at this
    · exact h1 _ (ih (by omega) p hge hc)

theorem pend (t : Trace P call ops rows S V) {j : Nat} {x : List Nat × Rd × Value} (hx : x ∈ (S j).pend) : ∀ i, j ≤ i → i ≤ rows.length → x ∈ (S i).pend := by
  intro i
  induction i with
  | zero => intro hji _; have : j = 0 := by omega
            subst this; exact hx
  | succ i ih =>
    intro hji hi
    rcases Nat.lt_or_ge i j with h | h
    · have : j = i + 1 := by omega
      subst this; exact hx
    · have hr : rows[i]? = some rows[i] := by simp [show i < rows.length by omega]
      exact (stepD_hist (t.step i _ hr)).2.1 _ (ih h (by omega))

theorem stillH (t : Trace P call ops rows S V) {p : Nat} : ∀ j, p ≤ j → j ≤ rows.length → (∀ k, p ≤ k → k < j → kst (kindsOf rows) k = true) → (S p).H = (S j).H := by
  intro j
  induction j with
  | zero => intro hp _ _; have : p = 0 := by omega
            subst this; rfl
  | succ j ih =>
    intro hp hj hk
    rcases Nat.lt_or_ge j p with h | h
    · have : p = j + 1 := by omega
      subst this; rfl
    · have hr : rows[j]? = some rows[j] := by simp [show j < rows.length by omega]
      rw [ih h (by omega) fun k h1 h2 => hk k h1 (by omega)]
      have hs := hk j h (by omega)
      rw [kst_at hr] at hs
      rcases (t.val j _ hr).2 with ⟨_, _, he⟩ | ⟨_, op, hop, hrun⟩
      · exact he.symm
      · unfold Row.still at hs
        rw [hop] at hs
        cases op with
        | pur q => obtain ⟨u, hu, hh⟩ := bind_some hrun; simp only [Option.some.injEq, Prod.mk.injEq] at hh; exact hh.2
        | rd q => obtain ⟨u, hu, hh⟩ := bind_some hrun; simp only [Option.some.injEq, Prod.mk.injEq] at hh; exact hh.2
        | _ => cases hs

/-- A read reads the same at each place at which the machine may be. -/
theorem read (t : Trace P call ops rows S V) {j : Nat} {r : Row} {rd : RdOp} (hr : rows[j]? = some r) (hop : r.op = some (.rd rd)) (hw : wantedA r (S j).T = true)
    {p : Nat} (hp : p ≤ rows.length) (hc : p = 0 ∨ kw (kindsOf rows) (p - 1) = true) (hv : validB (kindsOf rows) (masksF ops.toList []) j p = true) :
    (rd.rd (ev (S j).T)).run (S p).H = some (V j) := by
  have hj : j < rows.length := by
    rcases Nat.lt_or_ge j rows.length with h | h
    · exact h
    · simp [h] at hr
  have hrun : (rd.rd (ev (S j).T)).run (S j).H = some (V j) := by
    rcases (t.val j _ hr).2 with ⟨h, _⟩ | ⟨_, op, hop', hrun⟩
    · rw [hw] at h; cases h
    · rw [hop] at hop'
      cases hop'
      obtain ⟨u, hu, hh⟩ := bind_some hrun
      simp only [Option.some.injEq, Prod.mk.injEq] at hh
      rw [← hh.1]
      exact hu
  obtain ⟨h1, h2, h3, h4, h5⟩ := stepD_hist (t.step j _ hr)
  obtain ⟨h6, h7⟩ := h5 rd (V j) hop hw hrun
  have hkl : (kindsOf rows).length = rows.length := by simp [kindsOf]
  by_cases hmem : r.vs.contains p = true
  · rcases Nat.lt_or_ge j p with hlt | hge
    · -- later
      rcases hc with hc | hc
      · omega
      · obtain ⟨r2, hr2⟩ : ∃ r2, rows[p - 1]? = some r2 := ⟨rows[p - 1], by simp [show p - 1 < rows.length by omega]⟩
        rw [kw_at hr2] at hc
        have hne : p - 1 ≠ j := by
          intro e
          have : r2 = r := by
            have h := hr2; rw [e, hr] at h; cases h; rfl
          rw [this] at hc
          simp [Row.wr, hop] at hc
        have hpd := t.pend h6 (p - 1) (by omega) (by omega)
        have := (stepD_hist (t.step (p - 1) _ hr2)).2.2.2.1 hc _ hpd (by rw [t.at_ (p - 1) (by omega), show p - 1 + 1 = p by omega]; exact hmem)
        rwa [show p - 1 + 1 = p by omega] at this
    · exact h7 _ (t.hist j (by omega) p hge hc) hmem
  · rw [t.vs j r rd hr hop] at hmem
    unfold placesOf at hmem
    simp only [List.contains_eq_mem, List.mem_filter, List.mem_range, hkl, decide_eq_true_eq, Bool.and_eq_true, Bool.not_eq_true'] at hmem
    have hz : (Nat.beq p 0 || kw (kindsOf rows) (p - 1)) = true := by
      rcases hc with h | h
      · subst h; rfl
      · rw [h]; simp
    have hskip : (Nat.ble p j && (List.range j).all fun k => Nat.blt k p || kst (kindsOf rows) k) = true := by
      cases hb : (Nat.ble p j && (List.range j).all fun k => Nat.blt k p || kst (kindsOf rows) k) with
      | true => rfl
      | false => exact absurd ⟨by omega, ⟨hz, hv⟩, hb⟩ hmem
    simp only [Bool.and_eq_true] at hskip
    have hpj := Nat.le_of_ble_eq_true hskip.1
    rw [t.stillH j hpj (by omega) fun k hk1 hk2 => ?_]
    · exact hrun
    · have := List.all_eq_true.1 hskip.2 k (by simpa using hk2)
      simp only [Bool.or_eq_true] at this
      rcases this with h | h
      · rw [Nat.blt_eq] at h; omega
      · exact h
end Trace
end
end Go.Ez
