import Derived.Test.YtgckodpnpidodaaGreatEzStep
set_option linter.all false
/- Blocks with colours, slices that are owned: what a heap holds, what a call may change. -/
set_option linter.all false
namespace Go.Ez

/-- To each block its colour. -/
abbrev Col := Nat → List Nat
/-- Of a colour, or below it: a colour's end is its root. -/
def Under (c x : List Nat) : Prop := ∃ t, x = t ++ c
theorem Under.refl (c : List Nat) : Under c c := ⟨[], rfl⟩
theorem Under.cons {c x : List Nat} {k : Nat} (h : Under (k :: c) x) : Under c x := let ⟨t, h⟩ := h; ⟨t ++ [k], by simp [h]⟩
theorem Under.trans {a b c : List Nat} (h : Under a b) (k : Under b c) : Under a c := by
  obtain ⟨t, rfl⟩ := h; obtain ⟨s, rfl⟩ := k; exact ⟨s ++ t, by simp⟩
theorem Under.apart {c x : List Nat} {j k : Nat} (h : Under (j :: c) x) (h' : Under (k :: c) x) : j = k := by
  obtain ⟨t, rfl⟩ := h; obtain ⟨s, e⟩ := h'
  have := List.append_inj' (s₁ := t) (t₁ := j :: c) (s₂ := s) (t₂ := k :: c) e rfl
  simpa using this.2
theorem Under.self {c : List Nat} {k : Nat} (h : Under (k :: c) c) : False := by
  obtain ⟨t, e⟩ := h
  have := congrArg List.length e
  simp at this; omega

/-- From a heap to a later one: blocks of colours that are not in D stand. -/
structure Stp (D : List Nat → Prop) (col : Col) (H : AH) (col' : Col) (H' : AH) : Prop where
  next : H.next ≤ H'.next
  cl : ∀ b, b < H.next → col' b = col b
  get : ∀ b, b < H.next → ¬ D (col b) → H'.get b = H.get b
  fresh : (∀ b, H.next ≤ b → col b = []) → ∀ b, H'.next ≤ b → col' b = []
theorem Stp.refl (D : List Nat → Prop) (col : Col) (H : AH) : Stp D col H col H := ⟨Nat.le_refl _, fun _ _ => rfl, fun _ _ _ => rfl, fun h => h⟩
theorem Stp.trans {D : List Nat → Prop} {c c' c'' : Col} {H H' H'' : AH} (h : Stp D c H c' H') (k : Stp D c' H' c'' H'') : Stp D c H c'' H'' :=
  ⟨Nat.le_trans h.next k.next, fun b hb => (k.cl b (Nat.lt_of_lt_of_le hb h.next)).trans (h.cl b hb),
   fun b hb hd => (k.get b (Nat.lt_of_lt_of_le hb h.next) (by rw [h.cl b hb]; exact hd)).trans (h.get b hb hd), fun hf => k.fresh (h.fresh hf)⟩
theorem Stp.mono {D E : List Nat → Prop} {c c' : Col} {H H' : AH} (h : Stp D c H c' H') (hde : ∀ x, D x → E x) : Stp E c H c' H' :=
  ⟨h.next, h.cl, fun b hb he => h.get b hb fun hd => he (hde _ hd), h.fresh⟩
theorem Stp.keep {D : List Nat → Prop} {c c' : Col} {H H' : AH} (h : Stp D c H c' H') (hd : ∀ x, ¬ D x) : Keep H.next H H' := ⟨h.next, fun b hb => h.get b hb (hd _)⟩
theorem Keep.stp {H H' : AH} (h : Keep H.next H H') (D : List Nat → Prop) (c : Col) : Stp D c H c H' := ⟨h.next, fun _ _ => rfl, fun b hb _ => h.get b hb, fun hf b hb => hf b (Nat.le_trans h.next hb)⟩

/-- A block. -/
structure Bk (H : AH) (col : Col) (c : List Nat) (b : Nat) (cs : List Value) (g : Nat) : Prop where
  lt : b < H.next
  cl : col b = c
  get : H.get b = some (.cells cs false g)
theorem Bk.fr {H H' : AH} {col col' : Col} {c : List Nat} {b g : Nat} {cs : List Value} (h : Bk H col c b cs g) {D : List Nat → Prop} (s : Stp D col H col' H') (hd : ¬ D c) : Bk H' col' c b cs g :=
  ⟨Nat.lt_of_lt_of_le h.lt s.next, (s.cl b h.lt).trans h.cl, (s.get b h.lt (by rw [h.cl]; exact hd)).trans h.get⟩
theorem Bk.up {H : AH} {col : Col} {c : List Nat} {b g N : Nat} {cs : List Value} (h : Bk H col c b cs g) (hN : H.next ≤ N) : Bk (H.up N) col c b cs g := ⟨Nat.lt_of_lt_of_le h.lt hN, h.cl, h.get⟩
theorem Bk.ne {H : AH} {col : Col} {c d : List Nat} {b b' g g' : Nat} {cs cs' : List Value} (h : Bk H col c b cs g) (h' : Bk H col d b' cs' g') (hcd : c ≠ d) : b ≠ b' := fun e => hcd (by rw [← h.cl, ← h'.cl, e])
/-- One block is written. -/
theorem Wrote1.stp {H H' : AH} {b : Nat} {B : Blk} (s : Wrote1 H H' b B) (col : Col) : Stp (fun x => x = col b) col H col H' :=
  ⟨by rw [s.next]; exact Nat.le_refl _, fun _ _ => rfl, fun a ha hd => s.other a fun e => hd (by rw [e]), fun hf b hb => hf b (by rw [s.next] at hb; exact hb)⟩
theorem Bk.wrote {H H' : AH} {col : Col} {c : List Nat} {b g g' : Nat} {cs cs' : List Value} (h : Bk H col c b cs g) (s : Wrote1 H H' b (.cells cs' false g')) : Bk H' col c b cs' g' ∧ Stp (fun x => x = c) col H col H' :=
  ⟨⟨by rw [s.next]; exact h.lt, h.cl, s.at_⟩, by have := s.stp col; rw [h.cl] at this; exact this⟩
theorem Bk.other {H H' : AH} {col : Col} {c : List Nat} {b a g : Nat} {cs : List Value} {B : Blk} (h : Bk H col c b cs g) (s : Wrote1 H H' a B) (hne : b ≠ a) : Bk H' col c b cs g :=
  ⟨by rw [s.next]; exact h.lt, h.cl, s.far h.get hne⟩
/-- A new block, and its colour. -/
def setC (col : Col) (b : Nat) (c : List Nat) : Col := fun x => if x = b then c else col x
theorem New1.bk {H H' : AH} {b g : Nat} {cs : List Value} (a : New1 H H' b (.cells cs false g)) (D : List Nat → Prop) (col : Col) (c : List Nat) : Bk H' (setC col b c) c b cs g ∧ Stp D col H (setC col b c) H' := by
  refine ⟨⟨by rw [a.next, a.num]; omega, by simp [setC], a.at_⟩, ⟨by rw [a.next]; omega, fun x hx => ?_, fun x hx _ => a.keep.get x hx, fun hf x hx => ?_⟩⟩
  · have : x ≠ b := by rw [a.num]; omega
    simp [setC, this]
  · have : x ≠ b := by rw [a.num]; rw [a.next] at hx; omega
    simp [setC, this]; exact hf x (by rw [a.next] at hx; omega)

/-- A slice that alone stands over its cells (of some size each). -/
structure Sl (H : AH) (col : Col) (c : List Nat) (a : Option Addr) (n cap size : Nat) (cs : List Value) : Prop where
  len : cs.length = n * size
  of : (a = none ∧ n = 0 ∧ cap = 0) ∨ ∃ b o ds g, a = some ⟨b, o, none⟩ ∧ Bk H col c b ds g ∧ (g = 0 ∨ g = size) ∧ n ≤ cap ∧ o + cap * size ≤ ds.length ∧ (ds.drop o).take (n * size) = cs
theorem Sl.nil {H : AH} {col : Col} {c : List Nat} {size : Nat} : Sl H col c none 0 0 size [] := ⟨by simp, .inl ⟨rfl, rfl, rfl⟩⟩
theorem Sl.fr {H H' : AH} {col col' : Col} {c : List Nat} {a : Option Addr} {n cap size : Nat} {cs : List Value} (h : Sl H col c a n cap size cs) {D : List Nat → Prop} (s : Stp D col H col' H') (hd : ¬ D c) : Sl H' col' c a n cap size cs :=
  ⟨h.len, h.of.imp id fun ⟨b, o, ds, g, h1, h2, h3⟩ => ⟨b, o, ds, g, h1, h2.fr s hd, h3⟩⟩
theorem Sl.up {H : AH} {col : Col} {c : List Nat} {a : Option Addr} {n cap size N : Nat} {cs : List Value} (h : Sl H col c a n cap size cs) (hN : H.next ≤ N) : Sl (H.up N) col c a n cap size cs :=
  ⟨h.len, h.of.imp id fun ⟨b, o, ds, g, h1, h2, h3⟩ => ⟨b, o, ds, g, h1, h2.up hN, h3⟩⟩
/-- The cells of the i-th. -/
theorem Sl.at_ {H : AH} {col : Col} {c : List Nat} {a : Option Addr} {n cap size i : Nat} {cs : List Value} (h : Sl H col c a n cap size cs) (hi : i < n) :
    ∃ b o ds g, a = some ⟨b, o, none⟩ ∧ Bk H col c b ds g ∧ o + (i + 1) * size ≤ ds.length ∧ ∀ k, k < size → ds[o + i * size + k]? = cs[i * size + k]? := by
  rcases h.of with ⟨_, h, _⟩ | ⟨b, o, ds, g, h1, h2, _, h3, h4, h5⟩
  · omega
  · have h6 : (i + 1) * size ≤ n * size := Nat.mul_le_mul_right _ hi
    have h7 : n * size ≤ cap * size := Nat.mul_le_mul_right _ h3
    have h8 : (i + 1) * size = i * size + size := Nat.succ_mul _ _
    refine ⟨b, o, ds, g, h1, h2, by omega, fun k hk => ?_⟩
    rw [← h5, List.getElem?_take, if_pos (by omega), List.getElem?_drop, Nat.add_assoc]
theorem Sl.chunk {H : AH} {col : Col} {c : List Nat} {a : Option Addr} {n cap size i : Nat} {cs : List Value} (h : Sl H col c a n cap size cs) (hi : i < n) :
    ∃ b o ds g, a = some ⟨b, o, none⟩ ∧ Bk H col c b ds g ∧ o + i * size + size ≤ ds.length ∧ (ds.drop (o + i * size)).take size = (cs.drop (i * size)).take size := by
  obtain ⟨b, o, ds, g, h1, h2, h3, h4⟩ := h.at_ hi
  have h8 : (i + 1) * size = i * size + size := Nat.succ_mul _ _
  refine ⟨b, o, ds, g, h1, h2, by omega, ?_⟩
  apply List.ext_getElem?
  intro k
  rw [List.getElem?_take, List.getElem?_take]
  by_cases hk : k < size
  · rw [if_pos hk, if_pos hk, List.getElem?_drop, List.getElem?_drop]; exact h4 k hk
  · rw [if_neg hk, if_neg hk]

/-! ### Lists of equal pieces -/
theorem flat_len {α : Type} {enc : α → List Value} {size : Nat} (he : ∀ x, (enc x).length = size) : ∀ l : List α, (l.flatMap enc).length = l.length * size
  | [] => by simp
  | x :: l => by simp only [List.flatMap_cons, List.length_append, he, flat_len he l, List.length_cons, Nat.succ_mul]; omega
theorem flat_get {α : Type} {enc : α → List Value} {size : Nat} (he : ∀ x, (enc x).length = size) : ∀ (l : List α) (i k : Nat) (x : α), l[i]? = some x → k < size → (l.flatMap enc)[i * size + k]? = (enc x)[k]?
  | [], i, k, x, h, _ => by simp at h
  | y :: l, 0, k, x, h, hk => by
    simp only [List.getElem?_cons_zero, Option.some.injEq] at h
    subst h
    simp only [Nat.zero_mul, Nat.zero_add, List.flatMap_cons]
    rw [List.getElem?_append_left (by rw [he]; exact hk)]
  | y :: l, i + 1, k, x, h, hk => by
    simp only [List.getElem?_cons_succ] at h
    rw [List.flatMap_cons, List.getElem?_append_right (by rw [he, Nat.succ_mul]; omega), he, ← flat_get he l i k x h hk]
    congr 1
    rw [Nat.succ_mul]; omega
theorem flat_chunk {α : Type} {enc : α → List Value} {size : Nat} (he : ∀ x, (enc x).length = size) (l : List α) (i : Nat) (x : α) (h : l[i]? = some x) : ((l.flatMap enc).drop (i * size)).take size = enc x := by
  apply List.ext_getElem?
  intro k
  rw [List.getElem?_take]
  by_cases hk : k < size
  · rw [if_pos hk, List.getElem?_drop, flat_get he l i k x h hk]
  · rw [if_neg hk, List.getElem?_eq_none (by rw [he]; omega)]

theorem setMany_lenX : ∀ (xs cs : List Value) (o : Nat), (setMany cs o xs).length = cs.length
  | [], cs, o => rfl
  | x :: xs, cs, o => by simp only [setMany, setMany_lenX xs, List.length_set]
theorem setMany_getX : ∀ (xs cs : List Value) (o i : Nat), o + xs.length ≤ cs.length → (setMany cs o xs)[i]? = if o ≤ i ∧ i < o + xs.length then xs[i - o]? else cs[i]?
  | [], cs, o, i, _ => by
    simp only [setMany, List.length_nil, Nat.add_zero]
    rw [if_neg (by omega)]
  | x :: xs, cs, o, i, h => by
    simp only [List.length_cons] at h
    simp only [setMany]
    rw [setMany_getX xs _ (o + 1) i (by simp; omega)]
    by_cases h1 : o + 1 ≤ i ∧ i < o + 1 + xs.length
    · rw [if_pos h1, if_pos (by simp only [List.length_cons]; omega)]
      have : i - o = (i - (o + 1)) + 1 := by omega
      rw [this, List.getElem?_cons_succ]
    · rw [if_neg h1]
      by_cases h2 : i = o
      · subst h2
        rw [if_pos (by simp only [List.length_cons]; omega), Nat.sub_self, List.getElem?_cons_zero, List.getElem?_set_self (by omega)]
      · rw [if_neg (by simp only [List.length_cons]; omega), List.getElem?_set_ne (Ne.symm h2)]
/-- In equal pieces, one is another one. -/
theorem flat_set {α : Type} {enc : α → List Value} {size : Nat} (he : ∀ x, (enc x).length = size) (l : List α) (i : Nat) (x : α) (hi : i < l.length) : setMany (l.flatMap enc) (i * size) (enc x) = (l.set i x).flatMap enc := by
  have hs : 0 < size ∨ size = 0 := by omega
  apply List.ext_getElem?
  intro j
  have hle : (i + 1) * size ≤ l.length * size := Nat.mul_le_mul_right _ hi
  have h8 : (i + 1) * size = i * size + size := Nat.succ_mul _ _
  rw [setMany_getX _ _ _ _ (by rw [he, flat_len he]; omega), he]
  rcases hs with hs | hs
  · by_cases hj : j < l.length * size
    · have e : j = j / size * size + j % size := by rw [Nat.mul_comm]; exact (Nat.div_add_mod j size).symm
      have hq : j / size < l.length := by
        apply Nat.div_lt_of_lt_mul; rw [Nat.mul_comm]; exact hj
      have hm : j % size < size := Nat.mod_lt _ hs
      by_cases hij : j / size = i
      · rw [if_pos (by rw [← hij]; omega)]
        have h1 : (l.set i x)[i]? = some x := by simp [hi]
        rw [show j = i * size + j % size by rw [← hij]; exact e, flat_get he _ i _ x h1 hm]
        congr 1; omega
      · have hne : ¬ (i * size ≤ j ∧ j < i * size + size) := by
          intro ⟨h1, h2⟩
          have : j / size = i := by
            apply Nat.div_eq_of_lt_le
            · exact h1
            · rw [Nat.succ_mul]; exact h2
          exact hij this
        rw [if_neg hne]
        have h1 : l[j / size]? = some l[j / size] := by simp [hq]
        have h2 : (l.set i x)[j / size]? = some l[j / size] := by rw [List.getElem?_set_ne (Ne.symm hij)]; exact h1
        rw [e, flat_get he _ _ _ _ h1 hm, flat_get he _ _ _ _ h2 hm]
    · rw [if_neg (by omega), List.getElem?_eq_none (by rw [flat_len he]; omega), List.getElem?_eq_none (by rw [flat_len he, List.length_set]; omega)]
  · subst hs
    rw [if_neg (by omega), List.getElem?_eq_none (by rw [flat_len he]; omega), List.getElem?_eq_none (by rw [flat_len he]; omega)]

/-! ### Slices of things -/
/-- A slice of things, each of some cells. -/
def SlE {α : Type} (enc : α → List Value) (size : Nat) (H : AH) (col : Col) (c : List Nat) (a : Option Addr) (n cap : Nat) (l : List α) : Prop :=
  n = l.length ∧ Sl H col c a n cap size (l.flatMap enc)
section
variable {α : Type} {enc : α → List Value} {size : Nat} {H H' : AH} {col col' : Col} {c : List Nat} {a : Option Addr} {n cap : Nat} {l : List α}
theorem SlE.nil : SlE enc size H col c none 0 0 [] := ⟨rfl, Sl.nil⟩
theorem SlE.fr (h : SlE enc size H col c a n cap l) {D : List Nat → Prop} (s : Stp D col H col' H') (hd : ¬ D c) : SlE enc size H' col' c a n cap l := ⟨h.1, h.2.fr s hd⟩
theorem SlE.up {N : Nat} (h : SlE enc size H col c a n cap l) (hN : H.next ≤ N) : SlE enc size (H.up N) col c a n cap l := ⟨h.1, h.2.up hN⟩
/-- The i-th one's place. -/
theorem SlE.at_ (he : ∀ x, (enc x).length = size) (h : SlE enc size H col c a n cap l) {i : Nat} {x : α} (hx : l[i]? = some x) :
    ∃ b o ds g, a = some ⟨b, o, none⟩ ∧ Bk H col c b ds g ∧ o + i * size + size ≤ ds.length ∧ (ds.drop (o + i * size)).take size = enc x ∧ (∀ k, k < size → ds[o + i * size + k]? = (enc x)[k]?) ∧
      (∀ y H1 col1, Bk H1 col1 c b (setMany ds (o + i * size) (enc y)) g → SlE enc size H1 col1 c a n cap (l.set i y)) := by
  have hi : i < n := by
    rw [h.1]
    rcases Nat.lt_or_ge i l.length with h | h
    · exact h
    · rw [List.getElem?_eq_none h] at hx; cases hx
  rcases h.2.of with ⟨_, h0, _⟩ | ⟨b, o, ds, g, h1, h2, hg, h3, h4, h5⟩
  · omega
  · have h6 : (i + 1) * size ≤ n * size := Nat.mul_le_mul_right _ hi
    have h7 : n * size ≤ cap * size := Nat.mul_le_mul_right _ h3
    have h8 : (i + 1) * size = i * size + size := Nat.succ_mul _ _
    have hk : ∀ k, k < size → ds[o + i * size + k]? = (enc x)[k]? := fun k hk => by
      rw [← flat_get he l i k x hx hk, ← h5, List.getElem?_take, if_pos (by omega), List.getElem?_drop, Nat.add_assoc]
    refine ⟨b, o, ds, g, h1, h2, by omega, ?_, hk, fun y H1 col1 hb => ⟨by rw [List.length_set]; exact h.1, by rw [flat_len he, List.length_set, ← h.1], .inr ⟨b, o, _, g, h1, hb, hg, h3, by rw [setMany_lenX]; exact h4, ?_⟩⟩⟩
    · apply List.ext_getElem?
      intro k
      rw [List.getElem?_take]
      by_cases hk' : k < size
      · rw [if_pos hk', List.getElem?_drop]; exact hk k hk'
      · rw [if_neg hk', List.getElem?_eq_none (by rw [he]; omega)]
    · rw [← flat_set he l i y (by rw [← h.1]; exact hi), ← h5]
      apply List.ext_getElem?
      intro k
      rw [List.getElem?_take]
      have hlen : ((ds.drop o).take (n * size)).length = n * size := by simp; omega
      rw [setMany_getX _ _ _ _ (by rw [he, hlen]; omega), he]
      by_cases hk' : k < n * size
      · rw [if_pos hk', List.getElem?_drop, setMany_getX _ _ _ _ (by rw [he]; omega), he, List.getElem?_take, if_pos hk', List.getElem?_drop]
        by_cases hr : i * size ≤ k ∧ k < i * size + size
        · rw [if_pos (by omega), if_pos hr]; congr 1; omega
        · rw [if_neg (by omega), if_neg hr]
      · rw [if_neg hk', if_neg (by omega), List.getElem?_take, if_neg hk']
end
end Go.Ez
