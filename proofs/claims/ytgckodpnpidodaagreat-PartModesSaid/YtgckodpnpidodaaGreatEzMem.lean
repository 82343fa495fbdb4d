import Derived.Test.YtgckodpnpidodaaGreatEzOps
set_option linter.all false
/- Memory: what the interpreter reads and writes is what the machine reads and writes. -/
set_option linter.unusedVariables false
set_option linter.unusedSimpArgs false
namespace Go.Ez

/-! ### setMany -/
theorem setMany_length (xs : List Value) : ∀ (cs : List Value) (o : Nat), (setMany cs o xs).length = cs.length := by
  induction xs with
  | nil => intro cs o; rfl
  | cons x xs ih => intro cs o; rw [setMany, ih]; simp

theorem setMany_get (xs : List Value) : ∀ (cs : List Value) (o i : Nat), o + xs.length ≤ cs.length →
    (setMany cs o xs)[i]? = if o ≤ i ∧ i < o + xs.length then xs[i - o]? else cs[i]? := by
  induction xs with
  | nil => intro cs o i h; rw [setMany, if_neg (by simp only [List.length_nil]; omega)]
  | cons x xs ih =>
    intro cs o i h
    simp only [List.length_cons] at h
    rw [setMany, ih _ _ _ (by simp; omega)]
    simp only [List.length_cons]
    by_cases h1 : o + 1 ≤ i ∧ i < o + 1 + xs.length
    · have h2 : o ≤ i ∧ i < o + (xs.length + 1) := by omega
      rw [if_pos h1, if_pos h2]
      obtain ⟨k, rfl⟩ : ∃ k, i = o + 1 + k := ⟨i - (o + 1), by omega⟩
      have e1 : o + 1 + k - (o + 1) = k := by omega
      have e2 : o + 1 + k - o = k + 1 := by omega
      rw [e1, e2]; simp
    · rw [if_neg h1]
      by_cases h3 : i = o
      · subst h3
        have h2 : i ≤ i ∧ i < i + (xs.length + 1) := by omega
        rw [if_pos h2]
        have : i < cs.length := by omega
        simp [this]
      · have h2 : ¬ (o ≤ i ∧ i < o + (xs.length + 1)) := by omega
        rw [if_neg h2]
        rw [List.getElem?_set_ne (by omega)]

theorem setMany_rel {μ : Mu} {xs xs' : List Value} (h : VRels μ xs xs') : ∀ {cs cs' : List Value} (o : Nat), VRels μ cs cs' → VRels μ (setMany cs o xs) (setMany cs' o xs') := by
  induction h with
  | nil => intro cs cs' o h; exact h
  | cons h _ ih => intro cs cs' o hc; exact ih _ (hc.set o h)

/-! ### A write into one block of the world -/
structure Wrote (w w' : World) (rb : Nat) (o : Obj) : Prop where
  got : w'.heap[rb]? = some o
  other : ∀ k, k ≠ rb → w'.heap[k]? = w.heap[k]?
  size : w'.heap.size = w.heap.size
  os : w'.os = w.os
  tape : w'.tape = w.tape
  output : w'.output = w.output

theorem isCell_store {v : Value} (h : isCell v = true) {α : Type} (P : Program) (m : Mode) (a : Addr) (k : Sem α) (w : World) :
    (Sem.store m a v k).run P w = match w.cell? a with
      | some _ => if w.frozen? a then .halt (.unsupported (.unsafePointer "a write to bytes that a string shares")) w else k.run P (w.setCell a v)
      | none => match w.farStore P a v (m == .atomic) with
        | .ok (w, _) => k.run P w
        | .error h => .halt h w := by
  cases v <;> first | rfl | (simp [isCell] at h)

theorem heap_modify_get {h : Array Obj} {rb : Nat} {f : Obj → Obj} {o : Obj} (ho : h[rb]? = some o) (k : Nat) : (h.modify rb f)[k]? = if k = rb then some (f o) else h[k]? := by
  rw [Array.getElem?_modify]
  by_cases hk : k = rb
  · subst hk; simp [ho]
  · simp [hk, Ne.symm hk]

theorem add_none (b o : Nat) (i : Nat) : (Addr.add ⟨b, o, none⟩ i) = ⟨b, o + i, none⟩ := by
  unfold Addr.add
  split
  · rename_i h; subst h; rfl
  · rfl

theorem storeCells_run (P : Program) (rb o : Nat) (el : TypeId) : ∀ (vs : List Value) (i : Nat) (w : World) (c : Array Value),
    w.heap[rb]? = some (.cells c el (0, 0)) → o + i + vs.length ≤ c.size → vs.all isCell = true →
    ∃ w', (storeCells ⟨rb, o, none⟩ vs i).run P w = .ok () w' ∧ Wrote w w' rb (.cells (setMany c.toList (o + i) vs).toArray el (0, 0)) := by
  intro vs
  induction vs with
  | nil =>
    intro i w c hw _ _
    refine ⟨w, rfl, ?_, fun _ _ => rfl, rfl, rfl, rfl, rfl⟩
    simpa [setMany] using hw
  | cons v vs ih =>
    intro i w c hw hl hc
    simp only [List.length_cons] at hl
    simp only [List.all_cons, Bool.and_eq_true] at hc
    have hcell : w.cell? ⟨rb, o + i, none⟩ = some (c[o + i]'(by omega)) := by
      simp only [World.cell?, hw]
      simp
    have hfz : w.frozen? ⟨rb, o + i, none⟩ = false := by
      simp [World.frozen?, hw]
    have hset : (w.setCell ⟨rb, o + i, none⟩ v).heap[rb]? = some (.cells (c.setIfInBounds (o + i) v) el (0, 0)) := by
      simp only [World.setCell]
      rw [heap_modify_get hw]
      simp
    obtain ⟨w', hrun, hwr⟩ := ih (i + 1) (w.setCell ⟨rb, o + i, none⟩ v) (c.setIfInBounds (o + i) v) hset (by simp; omega) hc.2
    refine ⟨w', ?_, ?_⟩
    · simp only [storeCells, Sem.run_bind]
      rw [add_none]
      simp only [store]
      rw [isCell_store hc.1]
      simp only [hcell, hfz, Sem.run]
      exact hrun
    · refine ⟨?_, fun k hk => ?_, ?_, hwr.os, hwr.tape, hwr.output⟩
      · rw [hwr.got]
        have : o + (i + 1) = o + i + 1 := by omega
        rw [this]
        simp only [setMany]
        congr 4
        simp
      · rw [hwr.other k hk]
        simp only [World.setCell]
        rw [heap_modify_get hw, if_neg hk]
      · rw [hwr.size]; simp [World.setCell]

theorem loadCellsFrom_run (P : Program) (rb o : Nat) (el : TypeId) (fr : Nat × Nat) (w : World) (c : Array Value) (hw : w.heap[rb]? = some (.cells c el fr)) :
    ∀ (n i : Nat) (acc : Array Value), o + i + n ≤ c.size →
    (loadCellsFrom ⟨rb, o, none⟩ i n acc).run P w = .ok (acc ++ (c.toList.drop (o + i)).take n |>.toList.toArray) w := by
  intro n
  induction n with
  | zero => intro i acc h; simp [loadCellsFrom, pure, Sem.run]
  | succ n ih =>
    intro i acc h
    have hcell : w.cell? ⟨rb, o + i, none⟩ = some (c[o + i]'(by omega)) := by
      simp only [World.cell?, hw]
      simp
    simp only [loadCellsFrom, Sem.run_bind]
    rw [add_none]
    simp only [load, Sem.run, hcell, Result.andThen_ok]
    rw [ih (i + 1) _ (by omega)]
    congr 1
    have e : o + (i + 1) = o + i + 1 := by omega
    rw [e]
    have hd : c.toList.drop (o + i) = c[o + i]'(by omega) :: c.toList.drop (o + i + 1) := by
      rw [List.drop_eq_getElem_cons (by simp; omega)]
      simp
    rw [hd]
    simp

theorem loadCells_run (P : Program) (rb o : Nat) (el : TypeId) (fr : Nat × Nat) (w : World) (c : Array Value) (hw : w.heap[rb]? = some (.cells c el fr)) (n : Nat) (h : o + n ≤ c.size) :
    (loadCells ⟨rb, o, none⟩ n).run P w = .ok ((c.toList.drop o).take n).toArray w := by
  rw [loadCells, loadCellsFrom_run P rb o el fr w c hw n 0 #[] (by omega)]
  simp

/-! ### Reading -/
section
variable {μ : Mu} {H : AH} {w : World}

theorem Rel.cellsAt (hR : Rel μ H w) {b : Nat} {cs : List Value} {ro : Bool} {g : Nat} {m : Spot} (hg : H.get b = some (.cells cs ro g)) (hm : μ b = some m) :
    ∃ (c : Array Value) (el : TypeId) (fr : Nat × Nat), w.heap[m.rb]? = some (.cells c el fr) ∧ m.at_ + cs.length ≤ c.size + (if cs.length = 0 then m.at_ else 0) ∧
      VRels μ cs ((c.toList.drop m.at_).take cs.length) ∧ m.esz = g ∧ (ro = false → fr = (0, 0) ∧ m.at_ + cs.length ≤ c.size ∧ (0 < g → m.lim ≤ c.size ∧ m.at_ + cs.length ≤ m.lim)) := by
  obtain ⟨c, el, fr, h1, h2, h3, h4⟩ := hR.blk b _ m hg hm
  have hlen : cs.length = 0 ∨ m.at_ + cs.length ≤ c.size := by
    rcases Nat.eq_zero_or_pos cs.length with h | h
    · exact .inl h
    · right
      obtain ⟨v', hv', _⟩ := h2 (cs.length - 1) (cs[cs.length - 1]'(by omega)) (by simp [show cs.length - 1 < cs.length by omega])
      have : m.at_ + (cs.length - 1) < c.size := by
        rcases Nat.lt_or_ge (m.at_ + (cs.length - 1)) c.size with h | h
        · exact h
        · simp [h] at hv'
      omega
  refine ⟨c, el, fr, h1, ?_, ?_, h3, h4⟩
  · rcases hlen with h | h
    · simp [h]
    · split <;> omega
  · refine All2.of_get ?_ fun i v v' hv hv' => ?_
    · rcases hlen with h | h
      · simp [h]
      · simp; omega
    · obtain ⟨u, hu, hr⟩ := h2 i v hv
      have hi : i < cs.length := by
        rcases Nat.lt_or_ge i cs.length with h | h
        · exact h
        · simp [h] at hv
      rw [List.getElem?_take, if_pos hi, List.getElem?_drop] at hv'
      have : c[m.at_ + i]? = some v' := by simpa using hv'
      rw [hu] at this
      cases this
      exact hr

theorem ldCells_sim (P : Program) (hR : Rel μ H w) {b o n : Nat} {l : List Value} {m : Spot} (h : ldCells H b o n = some l) (hm : μ b = some m) (hn : 0 < n) :
    ∃ l', (loadCells ⟨m.rb, m.at_ + o, none⟩ n).run P w = .ok l'.toArray w ∧ VRels μ l l' := by
  unfold ldCells at h
  split at h
  · rename_i cs ro g hg
    obtain ⟨c, el, fr, h1, h2, h3, h4, h5⟩ := hR.cellsAt hg hm
    by_cases hle : o + n ≤ cs.length
    · have e : Nat.ble (o + n) cs.length = true := Nat.ble_eq_true_of_le hle
      rw [e] at h
      simp only [cond_true, Option.some.injEq] at h
      subst h
      have hcs : ¬ cs.length = 0 := by omega
      rw [if_neg hcs] at h2
      refine ⟨_, loadCells_run P m.rb (m.at_ + o) el fr w c h1 n (by omega), ?_⟩
      have := (h3.drop o).take n
      have e2 : (((c.toList.drop m.at_).take cs.length).drop o).take n = ((c.toList.drop (m.at_ + o)).take n) := by
        rw [List.drop_take, List.drop_drop, List.take_take]
        congr 1
        omega
      rw [← e2]; exact this
    · have e : Nat.ble (o + n) cs.length = false := by
        cases hb : Nat.ble (o + n) cs.length with
        | false => rfl
        | true => exact absurd (Nat.le_of_ble_eq_true hb) hle
      rw [e] at h
      simp at h
  · simp at h

theorem ld1_sim (P : Program) (hR : Rel μ H w) {a a' v : Value} (h : ld1 H a = some v) (ha : VRel μ a a') :
    ∃ A v', a' = .pointer (some A) ∧ w.cell? A = some v' ∧ VRel μ v v' := by
  unfold ld1 at h
  split at h
  · rename_i b o
    cases ha with
    | ptr _ _ m hm =>
      split at h
      · rename_i cs ro g hg
        obtain ⟨c, el, fr, h1, h2, h3, h4⟩ := hR.blk b _ m hg hm
        obtain ⟨v', hv', hr⟩ := h2 o v h
        refine ⟨_, v', rfl, ?_, hr⟩
        simp only [World.cell?, h1]
        simpa using hv'
      · simp at h
  · simp at h

/-! ### Writing -/
theorem Rel.writeBlk (hR : Rel μ H w) {b : Nat} {cs cs' : List Value} {g : Nat} {m : Spot} (hg : H.get b = some (.cells cs false g)) (hm : μ b = some m)
    {c c' : Array Value} {el : TypeId} (hw : w.heap[m.rb]? = some (.cells c el (0, 0))) {w' : World} (hwr : Wrote w w' m.rb (.cells c' el (0, 0))) (hsz : c'.size = c.size)
    (hlen : cs'.length = cs.length) (hcs : ∀ (i : Nat) (v : Value), cs'[i]? = some v → ∃ v', c'[m.at_ + i]? = some v' ∧ VRel μ v v') :
    Rel μ (H.set b (.cells cs' false g)) w' ∧ Step μ H w μ (H.set b (.cells cs' false g)) w' := by
  have hb : b < H.next := by
    rcases Nat.lt_or_ge b H.next with h | h
    · exact h
    · rw [hR.fresh b h] at hg; cases hg
  have hnro : ¬ RoAt H b := by rintro ⟨cs, g', h⟩; rw [hg] at h; cases h
  obtain ⟨c0, el0, fr0, k1, k2, k3, k4⟩ := hR.blk b _ m hg hm
  rw [hw] at k1
  cases k1
  obtain ⟨_, k5, k6⟩ := k4 rfl
  have hro : ∀ b2, RoAt (H.set b (.cells cs' false g)) b2 ↔ RoAt H b2 := fun b2 => by
    unfold RoAt
    by_cases e : b2 = b
    · subst e; simp [AH.get_set, hg]
    · simp [AH.get_set, e]
  have hlive : ∀ b2, Live (H.set b (.cells cs' false g)) b2 ↔ Live H b2 := fun b2 => by
    unfold Live
    by_cases e : b2 = b
    · subst e; simp [AH.get_set, hg]
    · simp [AH.get_set, e]
  refine ⟨⟨fun b2 B m2 hg2 hm2 => ?_, fun b1 b2 m1 m2 h1 h2 => ?_, fun b2 h2 => ?_, fun b2 m2 hm2 => ?_⟩, ⟨Sub.refl _, fun _ _ => rfl, by simp, fun b2 h2 hn => ?_, fun b2 h2 hn => ?_, fun b2 _ _ => hro b2, by rw [hwr.size]; exact Nat.le_refl _, fun rb hrb hno => ?_, fun b2 m2 h2 h3 => ?_, hwr.os, hwr.tape, hwr.output⟩⟩
  · rw [AH.get_set] at hg2
    by_cases e : b2 = b
    · subst e
      rw [if_pos rfl] at hg2
      cases hg2
      rw [hm] at hm2
      cases hm2
      exact ⟨c', el, (0, 0), hwr.got, hcs, k3, fun _ => ⟨rfl, by omega, fun h => by have := k6 h; omega⟩⟩
    · rw [if_neg e] at hg2
      have hne : m2.rb ≠ m.rb := fun e2 => by
        rcases hR.inj b2 b m2 m (.inl (by rw [hg2]; simp)) (.inl (by rw [hg]; simp)) hm2 hm e2 with h | h
        · exact e h
        · exact hnro h.2
      have := hR.blk b2 B m2 hg2 hm2
      cases B with
      | cells cs2 ro2 g2 => simpa only [BlkRel, hwr.other _ hne] using this
      | map es ck => simpa only [BlkRel, hwr.other _ hne] using this
  · rw [hlive] at h1 h2
    rw [hro, hro]
    exact hR.inj b1 b2 m1 m2 h1 h2
  · rw [AH.next_set] at h2
    rw [AH.get_set, if_neg (by omega)]
    exact hR.fresh b2 h2
  · rw [hwr.size]; exact hR.inw b2 m2 hm2
  · have : b2 ≠ b := by intro e; subst e; rw [hm] at hn; cases hn
    rw [AH.get_set, if_neg this]
  · have : b2 ≠ b := by intro e; subst e; rw [hg] at hn; cases hn
    rw [AH.get_set, if_neg this]; exact hn
  · have : rb ≠ m.rb := fun e => hno b m (by rw [hg]; simp) hnro hm e.symm
    exact hwr.other rb this
  · simp at h3; omega

theorem stCells_sim (P : Program) (hR : Rel μ H w) {b o : Nat} {xs xs' : List Value} {H' : AH} {m : Spot} (h : stCells H b o xs = some H') (hm : μ b = some m) (hx : VRels μ xs xs') :
    ∃ w', (storeCells ⟨m.rb, m.at_ + o, none⟩ xs').run P w = .ok () w' ∧ Rel μ H' w' ∧ Step μ H w μ H' w' := by
  unfold stCells at h
  split at h
  · rename_i cs g hg
    cases hle : Nat.ble (o + xs.length) cs.length with
    | false => rw [hle] at h; simp at h
    | true =>
      rw [hle] at h
      cases hall : xs.all isCell with
      | false => rw [hall] at h; simp at h
      | true =>
        rw [hall] at h
        simp only [Bool.and_self, cond_true, Option.some.injEq] at h
        subst h
        have hle' : o + xs.length ≤ cs.length := Nat.le_of_ble_eq_true hle
        obtain ⟨c, el, fr, h1, h2, h3, h4⟩ := hR.blk b _ m hg hm
        obtain ⟨rfl, h5, h6⟩ := h4 rfl
        have hall' : xs'.all isCell = true := by
          clear hle hle'
          induction hx with
          | nil => rfl
          | cons h t ih =>
            simp only [List.all_cons, Bool.and_eq_true] at hall ⊢
            exact ⟨h.isCell hall.1, ih hall.2⟩
        have hl := hx.length
        obtain ⟨w', hrun, hwr⟩ := storeCells_run P m.rb (m.at_ + o) el xs' 0 w c h1 (by omega) hall'
        refine ⟨w', hrun, ?_⟩
        refine hR.writeBlk hg hm h1 hwr (by simp [setMany_length]) (setMany_length _ _ _) fun i v hv => ?_
        rw [setMany_get _ _ _ _ hle'] at hv
        simp only [List.getElem?_toArray, Nat.add_zero]
        rw [setMany_get _ _ _ _ (by simp; omega)]
        by_cases hi : o ≤ i ∧ i < o + xs.length
        · rw [if_pos hi] at hv
          rw [if_pos (by omega)]
          obtain ⟨v', hv', hr⟩ := hx.get _ _ hv
          exact ⟨v', by rw [← hv']; congr 1; omega, hr⟩
        · rw [if_neg hi] at hv
          rw [if_neg (by omega)]
          obtain ⟨v', hv', hr⟩ := h2 i v hv
          exact ⟨v', by simpa using hv', hr⟩
  · simp at h

/-! ### New blocks -/
def Mu.upd (μ : Mu) (b : Nat) (m : Spot) : Mu := fun c => if c = b then some m else μ c
theorem Mu.upd_self (μ : Mu) (b : Nat) (m : Spot) : μ.upd b m b = some m := by simp [Mu.upd]
theorem Mu.upd_ne (μ : Mu) {b c : Nat} (m : Spot) (h : c ≠ b) : μ.upd b m c = μ c := by simp [Mu.upd, h]
theorem Mu.upd_sub {μ : Mu} {b : Nat} {m : Spot} (h : μ b = none) : Sub μ (μ.upd b m) := fun c m' hc => by
  have : c ≠ b := by intro e; subst e; rw [h] at hc; cases hc
  rw [Mu.upd_ne _ _ this]; exact hc

theorem BlkRel.mono {μ μ' : Mu} (hs : Sub μ μ') {m : Spot} {w w' : World} {B : Blk} (hw : w'.heap[m.rb]? = w.heap[m.rb]?) (h : BlkRel μ m w B) : BlkRel μ' m w' B := by
  cases B with
  | cells cs ro g =>
    obtain ⟨c, el, fr, h1, h2, h3, h4⟩ := h
    exact ⟨c, el, fr, hw.trans h1, fun i v hv => let ⟨v', a, b⟩ := h2 i v hv; ⟨v', a, b.mono hs⟩, h3, h4⟩
  | map es ck =>
    obtain ⟨es', h1, h2⟩ := h
    exact ⟨es', hw.trans h1, h2.mono fun a b ⟨x, y, z⟩ => ⟨x.mono hs, y.mono hs, z⟩⟩

/-- A block is laid in the world; it is linked to the next number. -/
theorem Rel.newBlk (hR : Rel μ H w) (hfree : μ H.next = none) {B : Blk} {o : Obj} {m : Spot} (hrb : m.rb = w.heap.size) {w' : World}
    (hgot : w'.heap = w.heap.push o) (hos : w'.os = w.os) (htape : w'.tape = w.tape) (hout : w'.output = w.output)
    (hB : BlkRel (μ.upd H.next m) m w' B) (hnro : ∀ cs g, B ≠ .cells cs true g) :
    Rel (μ.upd H.next m) (H.alloc B) w' ∧ Step μ H w (μ.upd H.next m) (H.alloc B) w' := by
  have hsub : Sub μ (μ.upd H.next m) := Mu.upd_sub hfree
  have hold : ∀ k, k < w.heap.size → w'.heap[k]? = w.heap[k]? := fun k hk => by
    rw [hgot, Array.getElem?_push]; simp [show ¬ k = w.heap.size by omega]
  have hro : ∀ b2, b2 ≠ H.next → (RoAt (H.alloc B) b2 ↔ RoAt H b2) := fun b2 e => by
    unfold RoAt; simp [AH.get_alloc, e]
  refine ⟨⟨fun b2 B2 m2 hg2 hm2 => ?_, fun b1 b2 m1 m2 h1 h2 hm1 hm2 e => ?_, fun b2 h2 => ?_, fun b2 m2 hm2 => ?_⟩, ⟨hsub, fun b2 h2 => ?_, by simp, fun b2 h2 hn => ?_, fun b2 h2 hn => ?_, fun b2 h2 _ => hro b2 (by omega), by rw [hgot]; simp, fun rb hrb2 hno => hold rb hrb2, fun b2 m2 h2 h3 hm2 => ?_, hos, htape, hout⟩⟩
  · rw [AH.get_alloc] at hg2
    by_cases e : b2 = H.next
    · subst e
      rw [if_pos rfl] at hg2
      cases hg2
      rw [Mu.upd_self] at hm2
      cases hm2
      exact hB
    · rw [if_neg e] at hg2
      rw [Mu.upd_ne _ _ e] at hm2
      exact (hR.blk b2 B2 m2 hg2 hm2).mono hsub (hold _ (hR.inw b2 m2 hm2))
  · have lv : ∀ b, b ≠ H.next → Live (H.alloc B) b → Live H b := fun b hb hl => by
      unfold Live at *
      rw [AH.get_alloc, if_neg hb, AH.next_alloc] at hl
      rcases hl with hl | hl
      · exact .inl hl
      · exact .inr (by omega)
    by_cases e1 : b1 = H.next
    · by_cases e2 : b2 = H.next
      · exact .inl (e1.trans e2.symm)
      · subst e1
        rw [Mu.upd_self] at hm1
        cases hm1
        rw [Mu.upd_ne _ _ e2] at hm2
        have := hR.inw b2 m2 hm2
        omega
    · by_cases e2 : b2 = H.next
      · subst e2
        rw [Mu.upd_self] at hm2
        cases hm2
        rw [Mu.upd_ne _ _ e1] at hm1
        have := hR.inw b1 m1 hm1
        omega
      · rw [Mu.upd_ne _ _ e1] at hm1
        rw [Mu.upd_ne _ _ e2] at hm2
        rw [hro _ e1, hro _ e2]
        exact hR.inj b1 b2 m1 m2 (lv b1 e1 h1) (lv b2 e2 h2) hm1 hm2 e
  · rw [AH.next_alloc] at h2
    rw [AH.get_alloc, if_neg (by omega)]
    exact hR.fresh b2 (by omega)
  · rw [hgot, Array.size_push]
    by_cases e : b2 = H.next
    · subst e; rw [Mu.upd_self] at hm2; cases hm2; omega
    · rw [Mu.upd_ne _ _ e] at hm2
      have := hR.inw b2 m2 hm2
      omega
  · rw [AH.next_alloc] at h2
    exact Mu.upd_ne _ _ (by omega)
  · rw [AH.get_alloc, if_neg (by omega)]
  · rw [AH.get_alloc, if_neg (by omega)]; exact hn
  · rw [AH.next_alloc] at h3
    have : b2 = H.next := by omega
    subst this
    rw [Mu.upd_self] at hm2
    cases hm2
    exact .inl (by omega)
end
end Go.Ez
