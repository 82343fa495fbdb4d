import Derived.Test.YtgckodpnpidodaaGreatEzDraw4
import Derived.LoopN
set_option linter.all false
/- **The deterministic interpreter is sound**: where it yields a result, the machine's call yields it, whatever the tape. -/
set_option linter.unusedVariables false
set_option linter.unusedSimpArgs false
namespace Go.Ez

theorem Rel.heap {μ : Mu} {H : AH} {w w' : World} (hR : Rel μ H w) (h : w'.heap = w.heap) : Rel μ H w' where
  blk := fun b B m hg hm => (hR.blk b B m hg hm).mono (Sub.refl _) (by rw [h])
  inj := hR.inj
  fresh := hR.fresh
  inw := fun b m hm => by rw [h]; exact hR.inw b m hm

section
variable {P : Program} {call : CallF} {ops : Array Oper} {rows : List Row} {S : Nat → DSt} {V : Nat → Value}

theorem all_listed {listed : Array Bool} (hsz : listed.size = ops.size) (hback : ∀ (j : Nat) (o : Oper), ops[j]? = some o → ∀ e ∈ o.after.toList, Region.binds .any e = true → e.on < j)
    (h : Region.ready .any ops listed = []) : ∀ i, i < ops.size → Lof listed i = true := by
  intro i
  induction i using Nat.strongRecOn with
  | _ i ih =>
    intro hi
    cases hL : Lof listed i with
    | true => rfl
    | false =>
      exfalso
      have ho : ops[i]? = some ops[i] := by simp [hi]
      have : i ∈ Region.ready .any ops listed := by
        rw [mem_ready]
        refine ⟨?_, ops[i], ho, fun e he hb => ?_⟩
        · unfold Lof at hL
          have : i < listed.size := by rw [hsz]; exact hi
          simp [this] at hL ⊢; exact hL
        · have hlt := hback i _ ho e (by simpa using he) hb
          exact ih e.on hlt (by omega)
      rw [h] at this
      cases this

theorem draw_any {t : Trace P call ops rows S V} (hs : SoundF P call) (hn : ∀ f args H v H', call f args H = some (v, H') → H.next ≤ H'.next) {μ0 : Mu} {w0 : World} {a0 : Act} {Q : Exit → Act → World → Prop}
    (hQ : ∀ listed a w μ p, DInv t μ0 w0 a0 listed a w μ p → (∀ i, i < ops.size → Lof listed i = true) → Q .normal a w) :
    ∀ (fuel : Nat) (listed : Array Bool) (a : Act) (w : World) (μ : Mu) (p : Nat), DInv t μ0 w0 a0 listed a w μ p → unl (Lof listed) ops.size ≤ fuel → wpAny P .any ops Q fuel listed a w := by
  intro fuel
  induction fuel with
  | zero =>
    intro listed a w μ p I hu
    have hall := unl_zero (Nat.le_zero.1 hu)
    refine ⟨?_, hQ _ _ _ _ _ I hall⟩
    cases hr : Region.ready .any ops listed with
    | nil => rfl
    | cons i l =>
      have := (mem_ready.1 (show i ∈ Region.ready .any ops listed by rw [hr]; simp))
      have hi : i < ops.size := by
        obtain ⟨_, o, ho, _⟩ := this
        rcases Nat.lt_or_ge i ops.size with h | h
        · exact h
        · simp [h] at ho
      have h1 := hall i hi
      have h2 := this.1
      unfold Lof at h1
      have : i < listed.size := by rw [I.sz]; exact hi
      simp [this] at h1 h2
      rw [h1] at h2; cases h2
  | succ fuel ih =>
    intro listed a w μ p I hu
    refine ⟨fun hr => hQ _ _ _ _ _ I (all_listed I.sz (fun j o ho => t.back ho) hr), fun i hi => ?_⟩
    have hio : i < ops.size := by
      obtain ⟨_, o, ho, _⟩ := mem_ready.1 hi
      rcases Nat.lt_or_ge i ops.size with h | h
      · exact h
      · simp [h] at ho
    have hLi : Lof listed i = false := by
      have h2 := (mem_ready.1 hi).1
      unfold Lof
      have : i < listed.size := by rw [I.sz]; exact hio
      simp [this] at h2 ⊢; exact h2
    refine I.go hs hn hi fun a' w' μ' p' I' => ih _ a' w' μ' p' I' ?_
    have := unl_set (lof_set (listed := listed) (j := i) (by rw [I.sz]; exact hio)) hLi ops.size
    rw [if_pos hio] at this
    omega

/-- What is asked of what stands behind. -/
def Next (μ : Mu) (H : AH) (w : World) (T' : List Value) (H' : AH) (a : Act) (Q : Act → World → Prop) : Prop :=
  ∀ μ' a' w', Rel μ' H' w' → Step μ H w μ' H' w' → VRels μ' T' a'.tmps.toList → a'.defers = a.defers → Q a' w'

/-- A region whose order is open. -/
theorem draw_wp (hmx : P.follows .mixedOrders = true) (hs : SoundF P call) (hn : ∀ f args H v H', call f args H = some (v, H') → H.next ≤ H'.next) {id : Nat} {Q : Exit → Act → World → Prop}
    (t : Trace P call ops rows S V) {μ : Mu} {T : List Value} {H : AH} {a : Act} {w : World} {T' : List Value} {H' : AH} (hH0 : (S 0).H = H) (hT0 : (S 0).T = T) (hHn : (S rows.length).H = H') (hTn : (S rows.length).T = T')
    (hR : Rel μ H w) (hT : VRels μ T a.tmps.toList) (hfree : ∀ b, H.next ≤ b → b < H'.next → μ b = none) (hQ : Next μ H w T' H' a (Q .normal)) : H.next ≤ H'.next ∧ (Code.region id ops true).wp P Q a w := by
  have hlen : rows.length = ops.size := t.len
  have hnx : H.next ≤ H'.next := by
    rw [← hH0, ← hHn]; exact t.nextMono hn (Nat.zero_le _) (Nat.le_refl _)
  refine ⟨hnx, wp_region_any hmx ?_⟩
  have hLno : ∀ i, Lof (Array.replicate ops.size false) i = false := fun i => by
    unfold Lof
    simp only [Array.getD_eq_getD_getElem?, Array.getElem?_replicate]
    split <;> rfl
  have hvl0 : ∀ k x, vl rows V (S 0).T (Lof (Array.replicate ops.size false)) k x = T.getD x undef := by
    intro k
    induction k with
    | zero => intro x; rw [vl, hT0]
    | succ k ih =>
      intro x
      unfold vl
      split
      · rw [if_neg (by rw [hLno]; simp)]; exact ih x
      · exact ih x
  refine draw_any (t := t) hs hn (μ0 := μ) (w0 := w) (a0 := a) ?_ ops.size _ a _ μ 0 ?_ ?_
  · -- at the end
    intro listed a' w' μ' p I hall
    obtain ⟨r1, r2, _⟩ := I.ahead rows.length I.ple (Nat.le_refl _) (fun k r k1 k2 hr => by
      cases hw : r.wr with
      | false => rfl
      | true =>
        have := (I.prog k r hr hw).1 (hall k (by rw [← hlen]; exact k2))
        omega)
    refine hQ μ' a' w' (by rw [← hHn]; exact r1) (by rw [← hHn, ← hH0]; exact r2.toStep) ?_ I.dfr
    have hvl := fun x => t.vl_all (L := Lof listed) (fun i hi => hall i (by rw [← hlen]; exact hi)) x
    have hl := (t.tmps rows.length (Nat.le_refl _)).1
    rw [← hTn]
    refine All2.of_get (by rw [hl, ← I.tsz]; simp) fun i v v' h1 h2 => ?_
    have := I.tm i
    rw [hvl i] at this
    rw [List.getD_eq_getElem?_getD, h1] at this
    have h2' : a'.tmps[i]? = some v' := by simpa using h2
    rw [Array.getD_eq_getD_getElem?, h2'] at this
    exact this
  · -- at the beginning
    exact
      { sz := by simp
        closed := fun j o ho hL => by rw [hLno] at hL; cases hL
        prog := fun i r hr hw => by rw [hLno]; simp
        canon := .inl rfl
        ple := Nat.zero_le _
        dfr := rfl
        tsz := by rw [hT0]; have := hT.length; simp at this; omega
        tm := fun x => by
          rw [hvl0]
          have := getD_rel hT x
          simpa using this
        rel := by rw [hH0]; exact hR.heap rfl
        un := fun i hi _ b h1 h2 => by
          refine hfree b ?_ ?_
          · have := t.nextMono hn (show 0 ≤ i by omega) (by omega); rw [hH0] at this; omega
          · have := t.nextMono hn (show i + 1 ≤ rows.length by omega) (Nat.le_refl _); rw [hHn] at this; omega
        late := fun i r n B f _ _ _ _ _ h => by omega
        early := fun i r n B f _ _ _ _ h _ => by rw [hLno] at h; cases h
        anch := by
          rw [hH0, hHn]
          exact Anch.start hfree rfl rfl rfl rfl }
  · have : ∀ k, unl (Lof (Array.replicate ops.size false)) k = k := by
      intro k
      induction k with
      | zero => rfl
      | succ k ih => rw [unl, ih, hLno]; simp
    rw [this]; exact Nat.le_refl _

theorem rowVs_same (ks : List (Bool × Bool)) (ms : List Nat) (r : Row) (j : Nat) : (rowVs ks ms r j).wr = r.wr ∧ (rowVs ks ms r j).still = r.still := by
  unfold rowVs
  split <;> exact ⟨rfl, rfl⟩
theorem kinds_rowVs (ks : List (Bool × Bool)) (ms : List Nat) (rows : List Row) : kindsOf (rows.mapIdx fun j r => rowVs ks ms r j) = kindsOf rows := by
  unfold kindsOf
  apply List.ext_getElem?
  intro i
  simp only [List.getElem?_map, List.getElem?_mapIdx, Option.map_map]
  cases rows[i]? with
  | none => rfl
  | some r =>
    simp only [Option.map_some, Function.comp]
    rw [(rowVs_same ks ms r i).1, (rowVs_same ks ms r i).2]

/-- A region. -/
theorem region_wp (hmx : P.follows .mixedOrders = true) (hs : SoundF P call) (hn : ∀ f args H v H', call f args H = some (v, H') → H.next ≤ H'.next) {id : Nat} {draw : Bool} {Q : Exit → Act → World → Prop}
    {μ : Mu} {T : List Value} {H : AH} {a : Act} {w : World} {T' : List Value} {H' : AH} (h : runRegion P call ops draw T H = some (T', H')) (hR : Rel μ H w) (hT : VRels μ T a.tmps.toList)
    (hfree : ∀ b, H.next ≤ b → b < H'.next → μ b = none) (hQ : Next μ H w T' H' a (Q .normal)) : H.next ≤ H'.next ∧ (Code.region id ops draw).wp P Q a w := by
  unfold runRegion at h
  obtain ⟨rows, hrows, h⟩ := bind_some h
  cases draw with
  | false =>
    simp only [cond_false] at h
    unfold rowsOf at hrows
    simp only [cond_false, Option.some.injEq] at hrows
    subst hrows
    obtain ⟨h1, h2⟩ := seq_wp hs hn (ops := ops) (Q := Q) (ops.toList.map (rowOf P ops)) 0 μ T H a w T' H' (by simp) (fun i r o hr ho => by
      rw [List.getElem?_map] at hr
      simp only [Nat.zero_add] at ho
      have ho' : ops.toList[i]? = some o := by simpa using ho
      rw [ho'] at hr
      cases hr
      exact rowOf_is P ops o) h hR hT hfree hQ
    exact ⟨h1, wp_region (by simpa using h2)⟩
  | true =>
    simp only [cond_true] at h
    obtain ⟨s, hrun, h⟩ := bind_some h
    cases h
    unfold rowsOf at hrows
    simp only [cond_true] at hrows
    obtain ⟨hok, hrows⟩ := bif_some hrows
    cases hrows
    obtain ⟨S, hS0, hSn, hstep⟩ := runD_trace hrun
    -- the kinds are the same
    have hopEq : ∀ (ks : List (Bool × Bool)) (ms : List Nat) (r : Row) (j : Nat), (rowVs ks ms r j).op = r.op ∧ (rowVs ks ms r j).dst = r.dst ∧ (rowVs ks ms r j).guard = r.guard := fun ks ms r j => by
      unfold rowVs
      split <;> exact ⟨rfl, rfl, rfl⟩
    generalize hks : kindsOf (ops.toList.map (rowOf P ops)) = ks at *
    generalize hms : masksF ops.toList [] = ms at *
    have hkinds : kindsOf ((ops.toList.map (rowOf P ops)).mapIdx fun j r => rowVs ks ms r j) = ks := by
      rw [kinds_rowVs, hks]
    have hval : ∀ i : Nat, ∃ v : Value, ∀ r, ((ops.toList.map (rowOf P ops)).mapIdx fun j r => rowVs ks ms r j)[i]? = some r → (S (i + 1)).T = putA (S i).T r.dst v ∧
        ((wantedA r (S i).T = false ∧ v = undef ∧ (S (i + 1)).H = (S i).H) ∨ (wantedA r (S i).T = true ∧ ∃ op, r.op = some op ∧ runOp P call (S i).T (S i).H op = some (v, (S (i + 1)).H))) := by
      intro i
      cases hr : ((ops.toList.map (rowOf P ops)).mapIdx fun j r => rowVs ks ms r j)[i]? with
      | none => exact ⟨undef, fun r h => by cases h⟩
      | some r =>
        obtain ⟨_, v, h1, h2⟩ := stepD_cases (hstep i r hr)
        exact ⟨v, fun r' h => by cases h; exact ⟨h1, h2⟩⟩
    let V : Nat → Value := fun i => Classical.choose (hval i)
    have hV : ∀ i r, ((ops.toList.map (rowOf P ops)).mapIdx fun j r => rowVs ks ms r j)[i]? = some r → _ := fun i r hr => Classical.choose_spec (hval i) r hr
    have t : Trace P call ops ((ops.toList.map (rowOf P ops)).mapIdx fun j r => rowVs ks ms r j) S V :=
      { len := by simp
        row := fun i r o hr ho => by
          have ho' : ops.toList[i]? = some o := by simpa using ho
          simp only [List.getElem?_mapIdx, List.getElem?_map, ho', Option.map_some, Option.some.injEq] at hr
          subst hr
          obtain ⟨e1, e2, e3⟩ := hopEq ks ms (rowOf P ops o) i
          exact ⟨e2, e1, e3⟩
        step := hstep
        i0 := by rw [hS0]
        h0 := by rw [hS0]
        p0 := by rw [hS0]
        val := hV
        ok := by rw [hkinds, hms]; exact hok
        vs := fun j r rd hr hop => by
          rw [hkinds, hms]
          simp only [List.getElem?_mapIdx, List.getElem?_map] at hr
          cases ho : ops.toList[j]? with
          | none => rw [ho] at hr; cases hr
          | some o =>
            rw [ho] at hr
            simp only [Option.map_some, Option.some.injEq] at hr
            subst hr
            obtain ⟨e1, _, _⟩ := hopEq ks ms (rowOf P ops o) j
            rw [e1] at hop
            unfold rowVs
            rw [hop] }
    exact draw_wp hmx hs hn t (by rw [hS0]) (by rw [hS0]) (by rw [hSn]) (by rw [hSn]) hR hT hfree hQ

def EExit.real : EExit → Exit
  | .normal => .normal
  | .exit id => .exit id
  | .ret => .ret

theorem runRegion_next (hn : ∀ f args H v H', call f args H = some (v, H') → H.next ≤ H'.next) {draw : Bool} {T : List Value} {H : AH} {x : List Value × AH} (h : runRegion P call ops draw T H = some x) : H.next ≤ x.2.next := by
  unfold runRegion at h
  obtain ⟨rows, _, h⟩ := bind_some h
  cases draw with
  | false => exact runSeq_next hn h
  | true =>
    simp only [cond_true] at h
    obtain ⟨s, hrun, h⟩ := bind_some h
    cases h
    have : ∀ {rows : List Row} {s s' : DSt}, runD P call rows s = some s' → s.H.next ≤ s'.H.next := by
      intro rows
      induction rows with
      | nil => intro s s' h; cases h; exact Nat.le_refl _
      | cons r rows ih =>
        intro s s' h
        obtain ⟨s1, h1, h⟩ := bind_some h
        obtain ⟨_, v, _, h2⟩ := stepD_cases h1
        refine Nat.le_trans ?_ (ih h)
        rcases h2 with ⟨_, _, he⟩ | ⟨_, op, _, hrun⟩
        · rw [he]; exact Nat.le_refl _
        · exact runOp_next hn hrun
    exact this hrun

theorem loopC_next {f : List Value → AH → Out} (hf : ∀ T H x, f T H = some x → H.next ≤ x.2.2.next) : ∀ {n : Nat} {T : List Value} {H : AH} {x : EExit × List Value × AH}, loopC f n T H = some x → H.next ≤ x.2.2.next := by
  intro n
  induction n with
  | zero => intro T H x h; cases h
  | succ n ih =>
    intro T H x h
    simp only [loopC] at h
    obtain ⟨y, hy, h⟩ := bind_some h
    have h1 := hf _ _ _ hy
    split at h
    · exact Nat.le_trans h1 (ih h)
    · cases h; exact h1

theorem execC_next (hn : ∀ f args H v H', call f args H = some (v, H') → H.next ≤ H'.next) {n : Nat} : ∀ {c : Code} {T : List Value} {H : AH} {x : EExit × List Value × AH}, execC P call n c T H = some x → H.next ≤ x.2.2.next := by
  intro c
  induction c with
  | skip => intro T H x h; cases h; exact Nat.le_refl _
  | region id ops draw =>
    intro T H x h
    obtain ⟨y, hy, h⟩ := bind_some h
    cases h
    exact runRegion_next hn hy
  | seq a b iha ihb =>
    intro T H x h
    obtain ⟨y, hy, h⟩ := bind_some h
    have h1 := iha hy
    split at h
    · exact Nat.le_trans h1 (ihb h)
    · cases h; exact h1
  | cond c a b iha ihb =>
    intro T H x h
    obtain ⟨_, h⟩ := bif_some h
    split at h
    · exact iha h
    · exact ihb h
    · cases h
  | block id a iha =>
    intro T H x h
    obtain ⟨y, hy, h⟩ := bind_some h
    have h1 := iha hy
    split at h
    · rename_i id' T' H'
      cases hb : Nat.beq id' id <;> rw [hb] at h <;> cases h <;> exact h1
    · cases h; exact h1
  | loop a iha =>
    intro T H x h
    exact loopC_next (fun T H x h => iha h) h
  | exit id => intro T H x h; cases h; exact Nat.le_refl _
  | ret => intro T H x h; cases h; exact Nat.le_refl _
  | _ => intro T H x h; cases h

/-- **Code.** -/
theorem exec_wp (hmx : P.follows .mixedOrders = true) (hs : SoundF P call) (hn : ∀ f args H v H', call f args H = some (v, H') → H.next ≤ H'.next) {n : Nat} : ∀ (c : Code) (μ : Mu) (T : List Value) (H : AH) (a : Act) (w : World) (x : EExit) (T' : List Value) (H' : AH) (Q : Exit → Act → World → Prop),
    execC P call n c T H = some (x, T', H') → Rel μ H w → VRels μ T a.tmps.toList → (∀ b, H.next ≤ b → b < H'.next → μ b = none) → Next μ H w T' H' a (Q x.real) → c.wp P Q a w := by
  intro c
  induction c with
  | skip => intro μ T H a w x T' H' Q h hR hT hfree hQ; cases h; exact wp_skip (hQ μ a w hR Step.refl hT rfl)
  | region id ops draw =>
    intro μ T H a w x T' H' Q h hR hT hfree hQ
    obtain ⟨⟨T1, H1⟩, hy, h⟩ := bind_some h
    cases h
    exact (region_wp hmx hs hn hy hR hT hfree hQ).2
  | seq c1 c2 ih1 ih2 =>
    intro μ T H a w x T' H' Q h hR hT hfree hQ
    obtain ⟨⟨y, T1, H1⟩, hy, h⟩ := bind_some h
    have hn1 := execC_next hn hy
    refine wp_seq ?_
    split at h
    · rename_i T2 H2 he
      cases he
      have hn2 := execC_next hn h
      refine ih1 μ T H a w .normal T1 H1 _ hy hR hT (fun b h1 h2 => hfree b h1 (Nat.lt_of_lt_of_le h2 hn2)) ?_
      intro μ1 a1 w1 q1 q2 q3 q4
      show c2.wp P Q a1 w1
      refine ih2 μ1 T1 H1 a1 w1 x T' H' Q h q1 q3 (fun b h1 h2 => ?_) ?_
      · rw [q2.out b (.inr h1)]; exact hfree b (Nat.le_trans hn1 h1) h2
      · intro μ2 a2 w2 r1 r2 r3 r4
        exact hQ μ2 a2 w2 r1 (q2.trans r2 q1.fresh) r3 (r4.trans q4)
    · rename_i hne
      cases h
      refine ih1 μ T H a w x T' H' _ hy hR hT hfree ?_
      intro μ1 a1 w1 q1 q2 q3 q4
      have := hQ μ1 a1 w1 q1 q2 q3 q4
      cases x with
      | normal => exact (hne _ _ rfl).elim
      | exit id => exact this
      | ret => exact this
  | cond c c1 c2 ih1 ih2 =>
    intro μ T H a w x T' H' Q h hR hT hfree hQ
    obtain ⟨hok, h⟩ := bif_some h
    have hc := (opds_of hT { dst := none, op := .move c, type := 0, pos := "", after := #[], guard := none }).rel c (by simp [Op.operands]) hok
    split at h
    · rename_i ec; rw [ec] at hc
      generalize hrc : a.eval c = rc at hc; cases hc
      exact wp_cond_true hrc (ih1 μ T H a w x T' H' Q h hR hT hfree hQ)
    · rename_i ec; rw [ec] at hc
      generalize hrc : a.eval c = rc at hc; cases hc
      exact wp_cond_false hrc (ih2 μ T H a w x T' H' Q h hR hT hfree hQ)
    · cases h
  | block id c1 ih1 =>
    intro μ T H a w x T' H' Q h hR hT hfree hQ
    obtain ⟨⟨y, T1, H1⟩, hy, h⟩ := bind_some h
    refine wp_block ?_
    split at h
    · rename_i id' T2 H2 he
      cases he
      cases hb : Nat.beq id' id with
      | true =>
        rw [hb, cond_true] at h
        cases h
        refine ih1 μ T H a w (.exit id') _ _ _ hy hR hT hfree ?_
        intro μ1 a1 w1 q1 q2 q3 q4
        show Exit.inBlock id Q (.exit id') a1 w1
        simp only [Exit.inBlock]
        rw [if_pos (Nat.eq_of_beq_eq_true hb)]
        exact hQ μ1 a1 w1 q1 q2 q3 q4
      | false =>
        rw [hb, cond_false] at h
        cases h
        refine ih1 μ T H a w (.exit id') _ _ _ hy hR hT hfree ?_
        intro μ1 a1 w1 q1 q2 q3 q4
        show Exit.inBlock id Q (.exit id') a1 w1
        simp only [Exit.inBlock]
        rw [if_neg (by intro e; subst e; simp at hb)]
        exact hQ μ1 a1 w1 q1 q2 q3 q4
    · rename_i hne
      cases h
      refine ih1 μ T H a w x T' H' _ hy hR hT hfree ?_
      intro μ1 a1 w1 q1 q2 q3 q4
      have := hQ μ1 a1 w1 q1 q2 q3 q4
      cases x with
      | normal => exact this
      | exit id => exact (hne _ _ _ rfl).elim
      | ret => exact this
  | loop c1 ih1 =>
    intro μ T H a w x T' H' Q h hR hT hfree hQ
    have key : ∀ (m : Nat) (μ : Mu) (T : List Value) (H : AH) (a : Act) (w : World), loopC (execC P call n c1) m T H = some (x, T', H') → Rel μ H w → VRels μ T a.tmps.toList → (∀ b, H.next ≤ b → b < H'.next → μ b = none) → Next μ H w T' H' a (Q x.real) →
        Code.rounds P c1 Q m a w := by
      intro m
      induction m with
      | zero => intro μ T H a w h; cases h
      | succ m ihm =>
        intro μ T H a w h hR hT hfree hQ
        simp only [loopC] at h
        obtain ⟨⟨y, T1, H1⟩, hy, h⟩ := bind_some h
        have hn1 := execC_next hn hy
        rw [rounds_succ]
        split at h
        · rename_i T2 H2 he
          cases he
          have hn2 : H1.next ≤ H'.next := loopC_next (fun T H x h => execC_next hn h) h
          refine ih1 μ T H a w .normal T1 H1 _ hy hR hT (fun b h1 h2 => hfree b h1 (Nat.lt_of_lt_of_le h2 hn2)) ?_
          intro μ1 a1 w1 q1 q2 q3 q4
          show Code.rounds P c1 Q m a1 w1
          refine ihm μ1 T1 H1 a1 w1 h q1 q3 (fun b h1 h2 => ?_) ?_
          · rw [q2.out b (.inr h1)]; exact hfree b (Nat.le_trans hn1 h1) h2
          · intro μ2 a2 w2 r1 r2 r3 r4
            exact hQ μ2 a2 w2 r1 (q2.trans r2 q1.fresh) r3 (r4.trans q4)
        · rename_i hne
          cases h
          refine ih1 μ T H a w x T' H' _ hy hR hT hfree ?_
          intro μ1 a1 w1 q1 q2 q3 q4
          have := hQ μ1 a1 w1 q1 q2 q3 q4
          cases x with
          | normal => exact (hne _ _ rfl).elim
          | exit id => exact this
          | ret => exact this
    exact wp_loop_rounds n (key n μ T H a w h hR hT hfree hQ)
  | exit id => intro μ T H a w x T' H' Q h hR hT hfree hQ; cases h; exact wp_exit (hQ μ a w hR Step.refl hT rfl)
  | ret => intro μ T H a w x T' H' Q h hR hT hfree hQ; cases h; exact wp_ret (hQ μ a w hR Step.refl hT rfl)
  | _ => intro μ T H a w x T' H' Q h; cases h
end
end Go.Ez
