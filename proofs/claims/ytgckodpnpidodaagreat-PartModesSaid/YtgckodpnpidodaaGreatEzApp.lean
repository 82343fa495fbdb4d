import Derived.Test.YtgckodpnpidodaaGreatEzMem
set_option linter.all false
/- append, make: the interpreter's and the machine's. -/
set_option linter.unusedVariables false
set_option linter.unusedSimpArgs false
namespace Go.Ez
section
variable {μ : Mu} {H : AH} {w : World}

theorem VRel.nilSlice_inv {n c : Nat} {v' : Value} (h : VRel μ (.slice none n c) v') : n = 0 ∧ c = 0 ∧ v' = .slice none 0 0 := by
  cases h; exact ⟨rfl, rfl, rfl⟩
theorem VRel.slice_inv' {b o n c : Nat} {sp : Option Nat} {v' : Value} (h : VRel μ (.slice (some ⟨b, o, sp⟩) n c) v') :
    (sp = none ∧ ∃ m o' c', μ b = some m ∧ SliceAt m o n c o' c' ∧ v' = .slice (some ⟨m.rb, o', none⟩) n c') ∨ ∃ s a e, sp = some s ∧ n = 0 ∧ c = 0 ∧ v' = .slice (some a) 0 e := by
  cases h with
  | slice _ _ _ _ o' c' m h hs => exact .inl ⟨rfl, m, o', c', h, hs, rfl⟩
  | wild _ _ s a e => exact .inr ⟨s, a, e, rfl, rfl, rfl, rfl⟩
theorem VRel.slice_inv {b o n c : Nat} {v' : Value} (h : VRel μ (.slice (some ⟨b, o, none⟩) n c) v') :
    True ∧ ∃ m o' c', μ b = some m ∧ SliceAt m o n c o' c' ∧ v' = .slice (some ⟨m.rb, o', none⟩) n c' := by
  rcases h.slice_inv' with ⟨_, h⟩ | ⟨s, a, e, h, _⟩
  · exact ⟨trivial, h⟩
  · cases h

theorem src_sim (P : Program) (hR : Rel μ H w) {size n : Nat} {x x' : Value} {xs : List Value} (h : srcA H size x = some (n, xs)) (hx : VRel μ x x') :
    (Builtin.lenOf x').run P w = .ok n w ∧ ∃ xs', (Builtin.firstCells size n x').run P w = .ok xs'.toArray w ∧ VRels μ xs xs' := by
  unfold srcA at h
  split at h
  · cases hx
    cases h
    exact ⟨rfl, [], rfl, .nil⟩
  · rename_i b o k c
    obtain ⟨-, m, o', c', hm, hs, rfl⟩ := hx.slice_inv
    split at h
    · rename_i hk
      cases h
      subst hk
      refine ⟨rfl, [], ?_, .nil⟩
      simp [Builtin.firstCells, loadCells, loadCellsFrom, pure, Sem.run]
    · rename_i hk
      cases hl : ldCells H b o (k * size) with
      | none => rw [hl] at h; simp at h
      | some l =>
        rw [hl] at h
        cases h
        refine ⟨rfl, ?_⟩
        have ho : o' = m.at_ + o := by
          unfold SliceAt at hs
          split at hs
          · exact hs.2.1
          · exact hs.2.1 (by omega)
        subst ho
        rcases Nat.eq_zero_or_pos (n * size) with hz | hz
        · refine ⟨[], ?_, ?_⟩
          · simp [Builtin.firstCells, hz, loadCells, loadCellsFrom, pure, Sem.run]
          · unfold ldCells at hl
            split at hl
            · cases hb : Nat.ble (o + n * size) _ <;> rw [hb] at hl <;> simp at hl
              subst hl; rw [hz]; simp; exact .nil
            · simp at hl
        · obtain ⟨l', hrun, hrel⟩ := ldCells_sim P hR hl hm hz
          exact ⟨l', by simpa [Builtin.firstCells] using hrun, hrel⟩
  · cases h
    rcases hx.slice_inv' with ⟨h, _⟩ | ⟨s, a, e, _, _, _, rfl⟩
    · cases h
    · exact ⟨rfl, [], by simp [Builtin.firstCells, loadCells, loadCellsFrom, pure, Sem.run], .nil⟩
  · simp at h

theorem zeroCells_toList (zs : Array Value) (n : Nat) : (Builtin.zeroCells zs n).toList = zerosA zs.toList n := by
  unfold Builtin.zeroCells zerosA
  simp only [Array.toList_map, Array.toList_range]
  induction n with
  | zero => simp
  | succ n ih =>
    rw [List.replicate_succ', List.flatten_append, ← ih]
    simp only [List.flatten_cons, List.flatten_nil, List.append_nil]
    rw [Nat.succ_mul, List.range_add, List.map_append]
    congr 1
    apply List.ext_getElem
    · simp
    · intro i h1 h2
      simp only [List.length_map, List.length_range] at h1
      simp only [List.getElem_map, List.getElem_range, Array.getElem_toList]
      rw [Nat.mul_comm n, Nat.mul_add_mod, Nat.mod_eq_of_lt h1]
      simp [h1]

theorem VRels.zeros {zs zs' : List Value} (h : VRels μ zs zs') (n : Nat) : VRels μ (zerosA zs n) (zerosA zs' n) := by
  unfold zerosA
  induction n with
  | zero => simp; exact .nil
  | succ n ih => simp only [List.replicate_succ, List.flatten_cons]; exact h.append ih

theorem zerosA_length (zs : List Value) (n : Nat) : (zerosA zs n).length = n * zs.length := by
  unfold zerosA; simp

/-- Cells of a new block. -/
theorem Rel.newCellsBlk (hR : Rel μ H w) (hfree : μ H.next = none) {cs cs' : List Value} (hcs : VRels μ cs cs') {g lim : Nat} {c : Array Value} {el : TypeId} {w' : World}
    (hc : ∀ (i : Nat) (v : Value), cs'[i]? = some v → c[i]? = some v) (hlen : cs.length ≤ c.size) (hg : 0 < g → lim ≤ c.size ∧ cs.length ≤ lim)
    (hgot : w'.heap = w.heap.push (.cells c el)) (hos : w'.os = w.os) (htape : w'.tape = w.tape) (hout : w'.output = w.output) :
    let m : Spot := ⟨w.heap.size, 0, g, lim⟩
    Rel (μ.upd H.next m) (H.alloc (.cells cs false g)) w' ∧ Step μ H w (μ.upd H.next m) (H.alloc (.cells cs false g)) w' := by
  refine hR.newBlk hfree rfl hgot hos htape hout ?_ (by intro _ _ h; cases h)
  refine ⟨c, el, (0, 0), by rw [hgot]; simp, fun i v hv => ?_, rfl, fun _ => ⟨rfl, by simpa using hlen, fun h => by simpa using hg h⟩⟩
  obtain ⟨v', hv', hr⟩ := hcs.get i v hv
  exact ⟨v', by simpa using hc i v' hv', hr.mono (Mu.upd_sub hfree)⟩

/-- The machine appends in place, the interpreter lays a new block. -/
theorem Rel.appendIn (hR : Rel μ H w) (hfree : μ H.next = none) {b : Nat} {cs : List Value} {g : Nat} {m : Spot} (hg : H.get b = some (.cells cs false g)) (hm : μ b = some m)
    {c c' : Array Value} {el : TypeId} (hw : w.heap[m.rb]? = some (.cells c el (0, 0))) {w' : World} (hwr : Wrote w w' m.rb (.cells c' el (0, 0))) (hsz : c'.size = c.size)
    {new : List Value} {o' : Nat} (hg0 : 0 < g) (ho' : m.at_ ≤ o') (hlim : o' + new.length ≤ m.lim)
    (hnew : ∀ (i : Nat) (v : Value), new[i]? = some v → ∃ v', c'[o' + i]? = some v' ∧ VRel μ v v') :
    let m' : Spot := ⟨m.rb, o', g, m.lim⟩
    let H' := (H.alloc (.cells new false g)).kill b
    Rel (μ.upd H.next m') H' w' ∧ Step μ H w (μ.upd H.next m') H' w' := by
  intro m' H'
  have hb : b < H.next := by
    rcases Nat.lt_or_ge b H.next with h | h
    · exact h
    · rw [hR.fresh b h] at hg; cases hg
  have hbn : b ≠ H.next := by omega
  have hnro : ¬ RoAt H b := by rintro ⟨cs, g', h⟩; rw [hg] at h; cases h
  obtain ⟨c0, el0, fr0, k1, k2, k3, k4⟩ := hR.blk b _ m hg hm
  rw [hw] at k1
  cases k1
  obtain ⟨_, k5, k6⟩ := k4 rfl
  have k7 := k6 hg0
  have hsub : Sub μ (μ.upd H.next m') := Mu.upd_sub hfree
  have hget : ∀ x, H'.get x = if x = b then none else if x = H.next then some (.cells new false g) else H.get x := fun x => by
    simp only [H', AH.get_kill, AH.get_alloc]
  have hnext : H'.next = H.next + 1 := rfl
  have hro : ∀ x, x ≠ b → x ≠ H.next → (RoAt H' x ↔ RoAt H x) := fun x h1 h2 => by
    unfold RoAt; simp [hget, h1, h2]
  have hlv : ∀ x, x ≠ H.next → Live H' x → Live H x ∧ x ≠ b := fun x hx hl => by
    unfold Live at *
    rw [hget, hnext] at hl
    by_cases e : x = b
    · subst e; simp at hl; omega
    · simp only [e, hx, if_false] at hl
      refine ⟨?_, e⟩
      rcases hl with h | h
      · exact .inl h
      · exact .inr (by omega)
  have hne : ∀ x mx, x ≠ b → Live H x → μ x = some mx → mx.rb ≠ m.rb := fun x mx hx hl hmx e => by
    rcases hR.inj x b mx m hl (.inl (by rw [hg]; simp)) hmx hm e with h | h
    · exact hx h
    · exact hnro h.2
  refine ⟨⟨fun x B mx hgx hmx => ?_, fun x y mx my hx hy hmx hmy e => ?_, fun x hx => ?_, fun x mx hmx => ?_⟩, ⟨hsub, fun x hx => ?_, by rw [hnext]; omega, fun x hx hn => ?_, fun x hx hn => ?_, fun x hx hn => ?_, by rw [hwr.size]; exact Nat.le_refl _, fun rb hrb hno => ?_, fun x mx hx1 hx2 hmx => ?_, hwr.os, hwr.tape, hwr.output⟩⟩
  · rw [hget] at hgx
    by_cases e : x = b
    · simp [e] at hgx
    · rw [if_neg e] at hgx
      by_cases e2 : x = H.next
      · subst e2
        rw [if_pos rfl] at hgx
        cases hgx
        rw [Mu.upd_self] at hmx
        cases hmx
        refine ⟨c', el, (0, 0), hwr.got, fun i v hv => let ⟨v', a1, a2⟩ := hnew i v hv; ⟨v', a1, a2.mono hsub⟩, rfl, fun _ => ⟨rfl, ?_, fun _ => ⟨?_, hlim⟩⟩⟩
        · show o' + new.length ≤ c'.size; omega
        · show m.lim ≤ c'.size; omega
      · rw [if_neg e2] at hgx
        rw [Mu.upd_ne _ _ e2] at hmx
        exact (hR.blk x B mx hgx hmx).mono hsub (hwr.other _ (hne x mx e (.inl (by rw [hgx]; simp)) hmx))
  · by_cases e1 : x = H.next
    · by_cases e2 : y = H.next
      · exact .inl (e1.trans e2.symm)
      · subst e1
        rw [Mu.upd_self] at hmx
        cases hmx
        rw [Mu.upd_ne _ _ e2] at hmy
        have ⟨l1, l2⟩ := hlv y e2 hy
        exact absurd e.symm (hne y my l2 l1 hmy)
    · by_cases e2 : y = H.next
      · subst e2
        rw [Mu.upd_self] at hmy
        cases hmy
        rw [Mu.upd_ne _ _ e1] at hmx
        have ⟨l1, l2⟩ := hlv x e1 hx
        exact absurd e (hne x mx l2 l1 hmx)
      · rw [Mu.upd_ne _ _ e1] at hmx
        rw [Mu.upd_ne _ _ e2] at hmy
        have ⟨l1, l2⟩ := hlv x e1 hx
        have ⟨l3, l4⟩ := hlv y e2 hy
        rw [hro x l2 e1, hro y l4 e2]
        exact hR.inj x y mx my l1 l3 hmx hmy e
  · rw [hnext] at hx
    rw [hget, if_neg (by omega), if_neg (by omega)]
    exact hR.fresh x (by omega)
  · rw [hwr.size]
    by_cases e : x = H.next
    · subst e; rw [Mu.upd_self] at hmx; cases hmx; exact hR.inw b m hm
    · rw [Mu.upd_ne _ _ e] at hmx; exact hR.inw x mx hmx
  · rw [hnext] at hx; exact Mu.upd_ne _ _ (by omega)
  · have : x ≠ b := by intro e; subst e; rw [hm] at hn; cases hn
    rw [hget, if_neg this, if_neg (by omega)]
  · rw [hget]
    split
    · rfl
    · rw [if_neg (by omega)]; exact hn
  · have : x ≠ b := by intro e; subst e; rw [hget] at hn; simp at hn
    exact hro x this (by omega)
  · have : rb ≠ m.rb := fun e => hno b m (by rw [hg]; simp) hnro hm e.symm
    exact hwr.other rb this
  · rw [hnext] at hx2
    have : x = H.next := by omega
    subst this
    rw [Mu.upd_self] at hmx
    cases hmx
    exact .inr ⟨b, m, by rw [hg]; simp, hnro, hm, rfl⟩

theorem Rel.kill (hR : Rel μ H w) (b : Nat) : Rel μ (H.kill b) w where
  blk := fun x B m hg hm => by
    rw [AH.get_kill] at hg
    by_cases e : x = b
    · simp [e] at hg
    · rw [if_neg e] at hg; exact hR.blk x B m hg hm
  inj := fun x y mx my hx hy hmx hmy e => by
    have lv : ∀ z, Live (H.kill b) z → Live H z := fun z hz => by
      unfold Live at *
      rw [AH.get_kill, AH.next_kill] at hz
      by_cases e : z = b
      · simp only [e, if_true, ne_eq, not_true, false_or] at hz ⊢; exact .inr hz
      · simpa [e] using hz
    have hfr := fun z (hz : H.next ≤ z) => hR.fresh z hz
    rcases hR.inj x y mx my (lv x hx) (lv y hy) hmx hmy e with h | ⟨h1, h2⟩
    · exact .inl h
    · right
      have keepRo : ∀ z, Live (H.kill b) z → RoAt H z → RoAt (H.kill b) z := fun z hz ⟨cs, g, hr⟩ => by
        have : z ≠ b := by
          intro e
          subst e
          unfold Live at hz
          rw [AH.get_kill, AH.next_kill] at hz
          simp at hz
          rw [hR.fresh z hz] at hr
          cases hr
        exact ⟨cs, g, by rw [AH.get_kill, if_neg this]; exact hr⟩
      exact ⟨keepRo x hx h1, keepRo y hy h2⟩
  fresh := fun x hx => by
    rw [AH.get_kill]
    split
    · rfl
    · exact hR.fresh x hx
  inw := hR.inw

theorem Rel.killStep (hR : Rel μ H w) {b : Nat} (hb : μ b ≠ none) : Step μ H w μ (H.kill b) w where
  ext := Sub.refl _
  out := fun _ _ => rfl
  next := Nat.le_refl _
  unm := fun x hx hn => by
    have : x ≠ b := by intro e; subst e; exact hb hn
    rw [AH.get_kill, if_neg this]
  dead := fun x hx hn => by rw [AH.get_kill]; split; rfl; exact hn
  ro := fun x hx hn => by
    have : x ≠ b := by intro e; subst e; rw [AH.get_kill] at hn; simp at hn
    unfold RoAt; simp [AH.get_kill, this]
  size := Nat.le_refl _
  keep := fun _ _ _ => rfl
  newrb := fun x m h h' => by rw [AH.next_kill] at h'; omega
  os := rfl
  tape := rfl
  output := rfl

theorem VRels.allCell {μ : Mu} {l l' : List Value} (h : VRels μ l l') (ha : l.all isCell = true) : l'.all isCell = true := by
  induction h with
  | nil => rfl
  | cons h t ih =>
    simp only [List.all_cons, Bool.and_eq_true] at ha ⊢
    exact ⟨h.isCell ha.1, ih ha.2⟩

/-- What an operation that yields a value comes to. -/
def SimV (P : Program) (μ : Mu) (H : AH) (w : World) (v : Value) (H' : AH) (s : Sem Value) : Prop :=
  ∃ μ' v' w', s.run P w = .ok v' w' ∧ Rel μ' H' w' ∧ Step μ H w μ' H' w' ∧ VRel μ' v v'

theorem growBy_le (need : Nat) : ∀ (k c : Nat), c ≤ need → Builtin.growBy need k c ≤ need + need / 4 + 256 := by
  intro k
  induction k with
  | zero => intro c h; simp [Builtin.growBy]; omega
  | succ k ih =>
    intro c h
    simp only [Builtin.growBy]
    split
    · omega
    · rename_i hc
      rcases Nat.lt_or_ge (c + (c + 768) / 4) need with h1 | h1
      · exact ih _ (by omega)
      · have : ∀ k, Builtin.growBy need k (c + (c + 768) / 4) = c + (c + 768) / 4 := fun k => by
          cases k with
          | zero => rfl
          | succ k => simp only [Builtin.growBy]; rw [if_pos (by omega)]
        rw [this]; omega
theorem nextslicecap_le (need old : Nat) (h : old < need) : Builtin.nextslicecap need old ≤ need + need / 4 + 256 := by
  unfold Builtin.nextslicecap
  split
  · omega
  · split
    · omega
    · exact growBy_le need 4 old (by omega)


/-- How append runs where there is room. -/
theorem append_room (P : Program) {argTypes : Array TypeId} {T sT xT elem : TypeId} {i : TypeInfo} {base : Option Addr} {m c n size : Nat} {x' : Value} {xs' : List Value}
    (h0 : argTypes[0]? = some sT) (h1 : argTypes[1]? = some xT) (hsT : P.underlying sT = some (.slice elem)) {e2 : TypeId} (hxT : P.underlying xT = some (.slice e2))
    (hi : P.info? elem = some i) (hsize : i.size = size) (hlen : (Builtin.lenOf x').run P w = .ok n w) (hcells : (Builtin.firstCells size n x').run P w = .ok xs'.toArray w) (hroom : m + n ≤ c) :
    (Builtin.append_ argTypes T #[.slice base m c, x']).run P w =
      ((match base with | some a => storeCells (a.add (m * size)) xs' | none => pure ()).run P w).andThen fun _ w' => .ok (.slice base (m + n) c) w' := by
  subst hsize
  unfold Builtin.append_
  simp only [h0, h1]
  cases base <;> simp [underlying, hsT, hxT, sizeOf, typeInfo, hi, hlen, hcells, hroom, program, pure, Sem.run]

theorem append_grow (P : Program) {argTypes : Array TypeId} {T sT xT elem : TypeId} {i : TypeInfo} {z : Value} {base : Option Addr} {m c n size : Nat} {x' : Value} {old xs' : List Value}
    (h0 : argTypes[0]? = some sT) (h1 : argTypes[1]? = some xT) (hsT : P.underlying sT = some (.slice elem)) {e2 : TypeId} (hxT : P.underlying xT = some (.slice e2))
    (hi : P.info? elem = some i) (hsize : i.size = size) (hz : i.zero = some z) (hlen : (Builtin.lenOf x').run P w = .ok n w) (hcells : (Builtin.firstCells size n x').run P w = .ok xs'.toArray w) (hroom : c < m + n)
    (hold : (Builtin.firstCells size m (.slice base m c)).run P w = .ok old.toArray w)
    (hb : (m + n) * i.bytes ≤ 140737488351232) (hm : m + n ≤ 70368744177664) (hbytes : i.bytes ≤ 1048576) (hcells' : ∀ w1 : World, w1.heap = w.heap → (Builtin.firstCells size n x').run P w1 = .ok xs'.toArray w1)
    (hold' : ∀ w1 : World, w1.heap = w.heap → (Builtin.firstCells size m (.slice base m c)).run P w1 = .ok old.toArray w1) :
    ∃ newCap w', m + n ≤ newCap ∧ (Builtin.append_ argTypes T #[.slice base m c, x']).run P w = .ok (.slice (some ⟨w.heap.size, 0, none⟩) (m + n) newCap) w' ∧
      w'.heap = w.heap.push (.cells (old.toArray ++ (xs'.toArray ++ Builtin.zeroCells z.cells (newCap - (m + n)))) elem) ∧ w'.os = w.os ∧ w'.tape = w.tape ∧ w'.output = w.output := by
  subst hsize
  have hn : ¬ (m + n ≤ c) := by omega
  have hcap := nextslicecap_le (m + n) c hroom
  have hlim : Builtin.nextslicecap (m + n) c * i.bytes ≤ 281474976710656 := by
    have h1 : Builtin.nextslicecap (m + n) c * i.bytes ≤ ((m + n) + (m + n) / 4 + 256) * i.bytes := Nat.mul_le_mul_right _ hcap
    have e : ((m + n) + (m + n) / 4 + 256) * i.bytes = (m + n) * i.bytes + (m + n) / 4 * i.bytes + 256 * i.bytes := by rw [Nat.add_mul, Nat.add_mul]
    have e4 : 4 * ((m + n) / 4 * i.bytes) ≤ (m + n) * i.bytes := by
      rw [← Nat.mul_assoc]; exact Nat.mul_le_mul_right _ (by omega)
    omega
  have hmax : ¬ ((m + n : Nat) : Int) > IntKind.i64.max := by simp [IntKind.max, IntKind.signed, IntKind.bits]; omega
  have hmax' : ¬ ((m : Int) + (n : Int) > IntKind.i64.max) := by simp [IntKind.max, IntKind.signed, IntKind.bits]; omega
  have c1 := hcells' w.drew rfl
  have o1 := hold' w.drew rfl
  have hlim' : ¬ Builtin.nextslicecap (m + n) c * i.bytes > 2 ^ 48 := by omega
  refine ⟨Question.cut (.appendCap (m + n) c elem) (w.tape w.drawn (.appendCap (m + n) c elem)), w.drew.alloc (.cells (old.toArray ++ (xs'.toArray ++ Builtin.zeroCells z.cells (Question.cut (.appendCap (m + n) c elem) (w.tape w.drawn (.appendCap (m + n) c elem)) - (m + n)))) elem), ?_, ?_, rfl, rfl, rfl, rfl⟩
  · simp only [Question.cut]; omega
  · unfold Builtin.append_
    simp only [h0, h1]
    simp [underlying, hsT, hxT, sizeOf, typeInfo, hi, hlen, hn, hmax', hlim', program, pure, Sem.run, choose, Question.forced, zeroValue, hz, newRow, newObj]
    rw [if_neg (by omega)]
    simp [o1, c1]


/-- How an append runs: where there is room, and where there is none. -/
structure AppRuns (P : Program) (w : World) (size n : Nat) (elem : TypeId) (z : Value) (xs' : List Value) (run : Value → Sem Value) (bytes : Nat) : Prop where
  room : ∀ base m c, m + n ≤ c → (run (.slice base m c)).run P w =
      ((match base with | some a => storeCells (a.add (m * size)) xs' | none => pure ()).run P w).andThen fun _ w' => .ok (.slice base (m + n) c) w'
  grow : ∀ base m c (old : List Value), c < m + n → (m + n) * bytes ≤ 140737488351232 → m + n ≤ 70368744177664 → bytes ≤ 1048576 →
      (∀ w1 : World, w1.heap = w.heap → (Builtin.firstCells size m (.slice base m c)).run P w1 = .ok old.toArray w1) →
      ∃ newCap w', m + n ≤ newCap ∧ (run (.slice base m c)).run P w = .ok (.slice (some ⟨w.heap.size, 0, none⟩) (m + n) newCap) w' ∧
        w'.heap = w.heap.push (.cells (old.toArray ++ (xs'.toArray ++ Builtin.zeroCells z.cells (newCap - (m + n)))) elem) ∧ w'.os = w.os ∧ w'.tape = w.tape ∧ w'.output = w.output

theorem appendA_sim (P : Program) (hR : Rel μ H w) {size bytes n : Nat} {s s' : Value} {xs xs' : List Value} {v : Value} {H' : AH} {elem : TypeId} {z : Value} {run : Value → Sem Value}
    (hzl : z.cells.size = size) (hrun : AppRuns P w size n elem z xs' run bytes)
    (h : appendA H size bytes s n xs = some (v, H')) (hs : VRel μ s s') (hxs : VRels μ xs xs') (hxl : xs.length = n * size)
    (hfree : ∀ b, H.next ≤ b → b < H'.next → μ b = none) :
    SimV P μ H w v H' (run s') := by
  have hl := hxs.length
  unfold appendA at h
  split at h
  · -- a nil slice
    cases hs
    split at h
    · rename_i hn
      subst hn
      cases h
      refine ⟨μ, _, w, ?_, hR, Step.refl, .nilSlice⟩
      rw [hrun.room none 0 0 (by omega)]
      simp [pure, Sem.run]
    · rename_i hn
      split at h
      · rename_i hb
        obtain ⟨hb1, hb2, hb3, hb4⟩ := hb
        cases h
        have hf : μ H.next = none := hfree _ (Nat.le_refl _) (by simp)
        obtain ⟨nc, w', hnc, hr, hheap, hos, htape, hout⟩ := hrun.grow none 0 0 [] (by omega) (by simpa using hb1) (by simpa using hb2) hb3 (fun w1 _ => by simp [Builtin.firstCells, pure, Sem.run])
        simp only [Nat.zero_add] at hnc hr hheap
        have hzc : (Builtin.zeroCells z.cells (nc - n)).size = (nc - n) * size := by
          simp [Builtin.zeroCells, hzl]
        have e1 : nc * size = n * size + (nc - n) * size := by rw [← Nat.add_mul]; congr 1; omega
        obtain ⟨k1, k2⟩ := hR.newCellsBlk (g := size) (lim := nc * size) (c := (#[] : Array Value) ++ (xs'.toArray ++ Builtin.zeroCells z.cells (nc - n))) hf hxs (w' := w') (fun i v hv => by
            have hi : i < xs'.length := by
              rcases Nat.lt_or_ge i xs'.length with h | h
              · exact h
              · simp [h] at hv
            rw [Array.empty_append, Array.getElem?_append, if_pos (by simpa using hi)]
            simpa using hv) (by simp; omega) (fun _ => ⟨by simp [hzc]; omega, by omega⟩) hheap hos htape hout
        refine ⟨_, _, w', hr, k1, k2, ?_⟩
        refine .slice _ _ _ _ _ _ _ (Mu.upd_self _ _ _) ⟨Nat.le_refl _, ?_⟩
        rw [if_neg (by show ¬ size = 0; omega)]
        exact ⟨fun _ => rfl, Nat.zero_le _, hnc, by show 0 + nc * size ≤ nc * size; omega⟩
      · cases h
  · rename_i b o m c
    obtain ⟨-, sp, o', c', hm, hsl, rfl⟩ := hs.slice_inv
    have hmc : m ≤ c := hsl.1
    have hcc' : c ≤ c' := by
      have h2 := hsl.2
      split at h2
      · omega
      · exact h2.2.2.1
    split at h
    · rename_i hn
      subst hn
      cases h
      refine ⟨μ, _, w, ?_, hR, Step.refl, .slice _ _ _ _ _ _ _ hm hsl⟩
      rw [hrun.room _ _ _ (by omega)]
      have : xs' = [] := by
        have : xs'.length = 0 := by rw [← hl, hxl]; simp
        exact List.eq_nil_of_length_eq_zero this
      subst this
      simp [storeCells, pure, Sem.run]
    · rename_i hn
      split at h
      · rename_i cs ro g hg
        split at h
        · -- in place, in both
          rename_i hroom
          split at h
          · rename_i hw
            obtain ⟨rfl, hgs⟩ := hw
            cases hst : stCells H b (o + m * size) xs with
            | none => rw [hst] at h; simp at h
            | some H1 =>
              rw [hst] at h
              simp only [Option.bind_some, Option.some.injEq, Prod.mk.injEq] at h
              obtain ⟨rfl, rfl⟩ := h
              obtain ⟨w', hr, k1, k2⟩ := stCells_sim P hR hst hm hxs
              have ho : o' = sp.at_ + o := by
                have h2 := hsl.2
                split at h2
                · exact h2.1
                · exact h2.1 (by omega)
              subst ho
              refine ⟨μ, _, w', ?_, k1, k2, .slice _ _ _ _ _ _ _ hm ⟨by omega, hsl.2⟩⟩
              rw [hrun.room _ _ _ (by omega)]
              simp only [add_none]
              rw [Nat.add_assoc, hr]
              rfl
          · cases h
        · rename_i hroom
          split at h
          · rename_i hb
            obtain ⟨hb1, hb2, hb3, hb4, hb5, hb6, hb7⟩ := hb
            simp only [Option.some.injEq, Prod.mk.injEq] at h
            obtain ⟨rfl, hH'⟩ := h
            obtain ⟨c0, el0, fr0, k1, k2, k3, k4⟩ := hR.blk b _ sp hg hm
            have hnext : H'.next = H.next + 1 := by rw [← hH']; split <;> rfl
            have hf : μ H.next = none := hfree _ (Nat.le_refl _) (by omega)
            -- the old elements
            have hms : (cs.drop o).take (m * size) = [] ∨ o' = sp.at_ + o := by
              rcases Nat.eq_zero_or_pos m with h0 | h0
              · left; subst h0; simp
              · right
                have h2 := hsl.2
                split at h2
                · exact h2.1
                · exact h2.1 (by omega)
            obtain ⟨old', hold, holdrel⟩ : ∃ old' : List Value, (∀ w1 : World, w1.heap = w.heap → (Builtin.firstCells size m (.slice (some ⟨sp.rb, o', none⟩) m c')).run P w1 = .ok old'.toArray w1) ∧ VRels μ ((cs.drop o).take (m * size)) old' := by
              rcases Nat.eq_zero_or_pos m with h0 | h0
              · subst h0
                refine ⟨[], fun w1 _ => ?_, by simp; exact .nil⟩
                simp [Builtin.firstCells, loadCells, loadCellsFrom, pure, Sem.run]
              · have ho : o' = sp.at_ + o := by
                  have h2 := hsl.2
                  split at h2
                  · exact h2.1
                  · exact h2.1 (by omega)
                subst ho
                obtain ⟨c1, el1, fr1, j1, j2, j3, j4, j5⟩ := hR.cellsAt hg hm
                have hpos : 0 < m * size := Nat.mul_pos h0 hb4
                have hne : ¬ cs.length = 0 := by omega
                rw [if_neg hne] at j2
                refine ⟨(c1.toList.drop (sp.at_ + o)).take (m * size), fun w1 hw1 => ?_, ?_⟩
                · exact loadCells_run P sp.rb (sp.at_ + o) el1 fr1 w1 c1 (by rw [hw1]; exact j1) (m * size) (by omega)
                · have := (j3.drop o).take (m * size)
                  have e2 : (((c1.toList.drop sp.at_).take cs.length).drop o).take (m * size) = ((c1.toList.drop (sp.at_ + o)).take (m * size)) := by
                    rw [List.drop_take, List.drop_drop, List.take_take]
                    congr 1
                    omega
                  rw [← e2]; exact this
            have holdlen : ((cs.drop o).take (m * size)).length = m * size := by simp; omega
            have hnewrel : VRels μ ((cs.drop o).take (m * size) ++ xs) (old' ++ xs') := holdrel.append hxs
            have hol := holdrel.length
            have hol2 : old'.length = m * size := by rw [← hol]; exact holdlen
            have hnewlen : ((cs.drop o).take (m * size) ++ xs).length = (m + n) * size := by rw [List.length_append, holdlen, hxl, Nat.add_mul]
            rcases Nat.lt_or_ge c' (m + n) with hgrow | hin
            · -- the machine lays a new row
              obtain ⟨nc, w', hnc, hr, hheap, hos, htape, hout⟩ := hrun.grow _ m c' old' hgrow hb1 hb2 hb3 hold
              have hzc : (Builtin.zeroCells z.cells (nc - (m + n))).size = (nc - (m + n)) * size := by
                simp [Builtin.zeroCells, hzl]
              have e1 : nc * size = (m + n) * size + (nc - (m + n)) * size := by rw [← Nat.add_mul]; congr 1; omega
              have e3 : (old' ++ xs').length = (m + n) * size := by rw [← hnewrel.length]; exact hnewlen
              obtain ⟨q1, q2⟩ := hR.newCellsBlk (g := size) (lim := nc * size) (c := (old'.toArray ++ (xs'.toArray ++ Builtin.zeroCells z.cells (nc - (m + n))))) hf hnewrel (w' := w') (fun i v hv => by
                  have hi : i < (old' ++ xs').length := by
                    rcases Nat.lt_or_ge i (old' ++ xs').length with h | h
                    · exact h
                    · rw [List.getElem?_eq_none h] at hv; cases hv
                  rw [← Array.append_assoc, Array.getElem?_append]
                  have hi' : i < (old'.toArray ++ xs'.toArray).size := by simpa using hi
                  rw [if_pos hi']
                  simpa using hv) (by
                    rw [hnewlen]; simp only [Array.size_append, List.size_toArray, hzc]
                    have := e3; rw [List.length_append] at this; omega) (fun _ => ⟨by
                    simp only [Array.size_append, List.size_toArray, hzc]
                    have := e3; rw [List.length_append] at this; omega, by omega⟩) hheap hos htape hout
              have hv : VRel (μ.upd H.next ⟨w.heap.size, 0, size, nc * size⟩) (.slice (some ⟨H.next, 0, none⟩) (m + n) (m + n)) (.slice (some ⟨w.heap.size, 0, none⟩) (m + n) nc) := by
                refine .slice _ _ _ _ _ _ _ (Mu.upd_self _ _ _) ⟨Nat.le_refl _, ?_⟩
                rw [if_neg (by show ¬ size = 0; omega)]
                exact ⟨fun _ => rfl, Nat.zero_le _, hnc, by show 0 + nc * size ≤ nc * size; omega⟩
              by_cases hg0 : g = 0
              · rw [if_pos hg0] at hH'
                subst hH'
                exact ⟨_, _, w', hr, q1, q2, hv⟩
              · rw [if_neg hg0] at hH'
                subst hH'
                have hbn : b < H.next := by
                  rcases Nat.lt_or_ge b H.next with h | h
                  · exact h
                  · rw [hR.fresh b h] at hg; cases hg
                have hmb : (μ.upd H.next ⟨w.heap.size, 0, size, nc * size⟩) b ≠ none := by rw [Mu.upd_ne _ _ (by omega), hm]; simp
                exact ⟨_, _, w', hr, q1.kill b, q2.trans (q1.killStep hmb) q1.fresh, hv⟩
            · -- in place in the machine alone
              have hg0 : ¬ g = 0 := by
                intro e
                have h2 := hsl.2
                rw [k3, e, if_pos rfl] at h2
                omega
              obtain ⟨hgs, rfl⟩ : g = size ∧ ro = false := by
                rcases hb7 with h | h
                · exact absurd h hg0
                · exact h
              rw [if_neg hg0] at hH'
              obtain ⟨rfl, j5, j6⟩ := k4 rfl
              have j7 := j6 (by omega)
              have hs2 := hsl.2
              rw [k3, if_neg hg0] at hs2
              obtain ⟨s1, s2, s3, s4⟩ := hs2
              have hlim2 : o' + (m + n) * size ≤ sp.lim := by
                have : (m + n) * size ≤ c' * size := Nat.mul_le_mul_right _ hin
                rw [hgs] at s4; omega
              have hall' : xs'.all isCell = true := by
                exact hxs.allCell hb6
              obtain ⟨w', hr, hwr⟩ := storeCells_run P sp.rb (o' + m * size) el0 xs' 0 w c0 k1 (by rw [← hl, hxl]; rw [Nat.add_mul] at hlim2; omega) hall'
              have e3 : (old' ++ xs').length = (m + n) * size := by rw [← hnewrel.length]; exact hnewlen
              obtain ⟨q1, q2⟩ := hR.appendIn hf hg hm k1 hwr (by simp [setMany_length]) (new := (cs.drop o).take (m * size) ++ xs) (o' := o') (by omega) s2 (by rw [hnewlen]; exact hlim2) (fun i v hv => by
                obtain ⟨v', hv', hrel⟩ := hnewrel.get i v hv
                refine ⟨v', ?_, hrel⟩
                simp only [List.getElem?_toArray, Nat.add_zero]
                rw [setMany_get _ _ _ _ (by simp; rw [← hl, hxl]; rw [Nat.add_mul] at hlim2; omega)]
                rw [List.getElem?_append] at hv'
                by_cases hi : i < old'.length
                · rw [if_pos hi] at hv'
                  have hno : ¬ (o' + m * size ≤ o' + i ∧ o' + i < o' + m * size + xs'.length) := by omega
                  rw [if_neg hno]
                  -- an old element
                  have h0 : 0 < m := by
                    rcases Nat.eq_zero_or_pos m with h | h
                    · rw [h, Nat.zero_mul] at hol2; omega
                    · exact h
                  have ho : o' = sp.at_ + o := s1 (by omega)
                  have := hold w rfl
                  simp only [Builtin.firstCells] at this
                  rw [loadCells_run P sp.rb o' el0 (0, 0) w c0 k1 (m * size) (by rw [Nat.add_mul] at hlim2; omega)] at this
                  have e4 : old' = (c0.toList.drop o').take (m * size) := by
                    have := congrArg (fun r : Result (Array Value) => match r with | .ok a _ => a.toList | _ => []) this
                    simpa using this.symm
                  rw [e4, List.getElem?_take, List.getElem?_drop] at hv'
                  split at hv'
                  · exact hv'
                  · cases hv'
                · rw [if_neg hi] at hv'
                  have hi2 : i < (old' ++ xs').length := by
                    rcases Nat.lt_or_ge i (old' ++ xs').length with h | h
                    · exact h
                    · rw [List.getElem?_eq_none (by rw [List.length_append] at h; omega)] at hv'
                      cases hv'
                  rw [if_pos (by rw [List.length_append] at hi2; omega)]
                  rw [← hv']; congr 1; omega)
              subst hgs
              rw [hH'] at q1 q2
              refine ⟨_, .slice (some ⟨sp.rb, o', none⟩) (m + n) c', w', ?_, q1, q2, ?_⟩
              · rw [hrun.room _ _ _ hin]
                simp only [add_none]
                rw [hr]
                rfl
              · refine .slice _ _ _ _ _ _ ⟨sp.rb, o', g, sp.lim⟩ (Mu.upd_self _ _ _) ⟨Nat.le_refl _, ?_⟩
                rw [if_neg (by show ¬ g = 0; omega)]
                exact ⟨fun _ => rfl, Nat.le_refl _, hin, s4⟩
          · cases h
      · cases h
  · cases h
end
end Go.Ez
