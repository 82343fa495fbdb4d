import Derived.Test.YtgckodpnpidodaaGreatEzNum
set_option linter.all false
/- Slices that are only read. -/
set_option linter.all false
namespace Go.Ez
/-- A slice of things that may be read. -/
def RdE {α : Type} (enc : α → List Value) (size : Nat) (H : AH) (col : Col) (c : List Nat) (a : Option Addr) (n cap : Nat) (l : List α) : Prop :=
  n = l.length ∧ ((a = none ∧ n = 0 ∧ cap = 0) ∨ ∃ b o ds ro g, a = some ⟨b, o, none⟩ ∧ b < H.next ∧ col b = c ∧ H.get b = some (.cells ds ro g) ∧ o + n * size ≤ ds.length ∧ ∀ i x, l[i]? = some x → (ds.drop (o + i * size)).take size = enc x)
section
variable {α : Type} {enc : α → List Value} {size : Nat} {H H' : AH} {col col' : Col} {c : List Nat} {a : Option Addr} {n cap : Nat} {l : List α}
theorem SlE.rd (he : ∀ x, (enc x).length = size) (h : SlE enc size H col c a n cap l) : RdE enc size H col c a n cap l := by
  refine ⟨h.1, ?_⟩
  rcases h.2.of with ⟨e, h0, h1⟩ | ⟨b, o, ds, g, h1, h2, hg, h3, h4, h5⟩
  · exact .inl ⟨e, h0, h1⟩
  · have h6 : n * size ≤ cap * size := Nat.mul_le_mul_right _ h3
    refine .inr ⟨b, o, ds, false, g, h1, h2.lt, h2.cl, h2.get, by omega, fun i x hx => ?_⟩
    obtain ⟨b', o', ds', g', e1, e2, _, e4, _⟩ := h.at_ he hx
    rw [h1] at e1
    cases e1
    have := e2.get.symm.trans h2.get
    cases this
    exact e4
theorem RdE.fr (h : RdE enc size H col c a n cap l) {D : List Nat → Prop} (s : Stp D col H col' H') (hd : ¬ D c) : RdE enc size H' col' c a n cap l :=
  ⟨h.1, h.2.imp id fun ⟨b, o, ds, ro, g, h1, h2, h3, h4, h5⟩ => ⟨b, o, ds, ro, g, h1, Nat.lt_of_lt_of_le h2 s.next, (s.cl b h2).trans h3, (s.get b h2 (by rw [h3]; exact hd)).trans h4, h5⟩⟩
theorem RdE.up (h : RdE enc size H col c a n cap l) {N : Nat} (hN : H.next ≤ N) : RdE enc size (H.up N) col c a n cap l :=
  ⟨h.1, h.2.imp id fun ⟨b, o, ds, ro, g, h1, h2, h3, h4, h5⟩ => ⟨b, o, ds, ro, g, h1, Nat.lt_of_lt_of_le h2 hN, h3, h4, h5⟩⟩
theorem RdE.kept (h : RdE enc size H col c a n cap l) (k : Keep H.next H H') : RdE enc size H' col c a n cap l := h.fr (k.stp (fun _ => False) col) id
/-- The i-th. -/
theorem RdE.at_ (h : RdE enc size H col c a n cap l) {i : Nat} {x : α} (hx : l[i]? = some x) : ∃ b o ds ro g, a = some ⟨b, o, none⟩ ∧ b < H.next ∧ H.get b = some (.cells ds ro g) ∧ i < n ∧ o + i * size + size ≤ ds.length ∧ (ds.drop (o + i * size)).take size = enc x := by
  have hi : i < l.length := by
    rcases Nat.lt_or_ge i l.length with h | h
    · exact h
    · rw [List.getElem?_eq_none h] at hx; cases hx
  have hn := h.1
  rcases h.2 with ⟨_, h0, _⟩ | ⟨b, o, ds, ro, g, h1, h2, h3, h4, h5, h6⟩
  · omega
  · have h7 : (i + 1) * size ≤ n * size := Nat.mul_le_mul_right _ (by omega)
    have h8 : (i + 1) * size = i * size + size := Nat.succ_mul _ _
    exact ⟨b, o, ds, ro, g, h1, h2, h4, by omega, by omega, h6 i x hx⟩
theorem RdE.nil : RdE enc size H col c none 0 0 [] := ⟨rfl, .inl ⟨rfl, rfl, rfl⟩⟩
/-- What a copy takes. -/
theorem RdE.src (he : ∀ x, (enc x).length = size) (h : RdE enc size H col c a n cap l) : srcA H size (.slice a n cap) = some (n, l.flatMap enc) := by
  have hn := h.1
  rcases h.2 with ⟨rfl, rfl, rfl⟩ | ⟨b, o, ds, ro, g, rfl, h2, h3, h4, h5, h6⟩
  · have hl : l = [] := List.eq_nil_of_length_eq_zero (by omega)
    subst hl; rfl
  · by_cases hz : n = 0
    · have hl : l = [] := List.eq_nil_of_length_eq_zero (by omega)
      subst hl; subst hz; simp [srcA]
    · have e2 : Nat.ble (o + n * size) ds.length = true := Nat.ble_eq_true_of_le h5
      simp only [srcA, ldCells, h4, e2, cond_true]
      rw [if_neg hz]
      simp only [Option.bind_some, Option.some.injEq, Prod.mk.injEq, true_and]
      apply List.ext_getElem?
      intro k
      rw [List.getElem?_take]
      by_cases hk : k < n * size
      · rw [if_pos hk, List.getElem?_drop]
        have hs : 0 < size := by
          rcases Nat.eq_zero_or_pos size with e | e
          · subst e; simp at hk
          · exact e
        have hq : k / size < l.length := by
          rw [← hn]
          exact Nat.div_lt_of_lt_mul (by rw [Nat.mul_comm]; exact hk)
        have hm : k % size < size := Nat.mod_lt _ hs
        have e : k = k / size * size + k % size := by rw [Nat.mul_comm]; exact (Nat.div_add_mod k size).symm
        have hx : l[k / size]? = some l[k / size] := by simp [hq]
        have q1 := flat_get he _ _ _ _ hx hm
        rw [← e] at q1
        rw [q1, ← h6 _ _ hx, List.getElem?_take, if_pos hm, List.getElem?_drop]
        congr 1; omega
      · rw [if_neg hk, List.getElem?_eq_none (by rw [flat_len he, ← hn]; omega)]
theorem chunk_get {ds : List Value} {k size j : Nat} {e : List Value} (h : (ds.drop k).take size = e) (hj : j < size) : ds[k + j]? = e[j]? := by
  rw [← h, List.getElem?_take, if_pos hj, List.getElem?_drop]
/-- A part of an element is written. -/
theorem setMany_within {ds e xs : List Value} {B off size : Nat} (h : (ds.drop B).take size = e) (hl : B + size ≤ ds.length) (ho : off + xs.length ≤ size) : setMany ds (B + off) xs = setMany ds B (setMany e off xs) := by
  have he : e.length = size := by rw [← h]; simp; omega
  apply List.ext_getElem?
  intro i
  rw [setMany_getX _ _ _ _ (by omega), setMany_getX _ _ _ _ (by rw [setMany_lenX]; omega), setMany_lenX, he]
  by_cases h2 : B ≤ i ∧ i < B + size
  · rw [if_pos h2, setMany_getX _ _ _ _ (by omega)]
    by_cases h1 : B + off ≤ i ∧ i < B + off + xs.length
    · rw [if_pos h1, if_pos (by omega)]; congr 1; omega
    · rw [if_neg h1, if_neg (by omega), ← h, List.getElem?_take, if_pos (by omega), List.getElem?_drop]; congr 1; omega
  · rw [if_neg h2, if_neg (by omega)]
theorem setMany_over {ds e1 e2 : List Value} {o : Nat} (he : e1.length = e2.length) (hl : o + e2.length ≤ ds.length) : setMany (setMany ds o e1) o e2 = setMany ds o e2 := by
  apply List.ext_getElem?
  intro i
  rw [setMany_getX _ _ _ _ (by rw [setMany_lenX]; exact hl), setMany_getX _ _ _ _ hl, setMany_getX _ _ _ _ (by omega), he]
  by_cases hi : o ≤ i ∧ i < o + e2.length
  · rw [if_pos hi, if_pos hi]
  · rw [if_neg hi, if_neg hi, if_neg hi]
end
end Go.Ez
