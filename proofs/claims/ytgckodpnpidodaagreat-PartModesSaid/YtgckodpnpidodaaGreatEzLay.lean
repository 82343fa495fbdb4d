import Derived.Test.YtgckodpnpidodaaGreatEzMore
import Derived.Test.YtgckodpnpidodaaGreatEzLift
set_option linter.all false
/- **What is given is laid out**: the arguments' blocks, read only, as they lie in the world. -/
set_option linter.all false
namespace Go.Ez
open Go.ChangeShapes Go.WideShapes Go.RowKit
structure Laid (A : AH) (μ : Mu) (W : World) : Prop where
  rel : Rel μ A W
  free : ∀ b, A.next ≤ b → μ b = none
  ro : ∀ b, A.get b ≠ none → RoAt A b
theorem Laid.nil (W : World) : Laid ⟨0, .leaf⟩ (fun _ => none) W :=
  ⟨⟨fun b B m h => (by cases h), fun b b' m m' _ _ h => (by cases h), fun b _ => rfl, fun b m h => (by cases h)⟩, fun _ _ => rfl, fun b h => absurd rfl h⟩
theorem Laid.add {A : AH} {μ : Mu} {W : World} (h : Laid A μ W) {rb o k n c : Nat} {cc : Array Value} {el : TypeId} {fr : Nat × Nat} {zs : List Value} (hb : W.heap[rb]? = some (.cells cc el fr))
    (hz : ∀ (i : Nat) (v : Value), zs[i]? = some v → ∃ v', cc[o + i]? = some v' ∧ VRel μ v v') (hnc : n ≤ c) (hk : 0 < k) :
    ∃ A' μ', Laid A' μ' W ∧ Sub μ μ' ∧ VRel μ' (.slice (some ⟨A.next, 0, none⟩) n n) (.slice (some ⟨rb, o, none⟩) n c) ∧ Keep A.next A A' ∧ A'.get A.next = some (.cells zs true k) ∧ A.next < A'.next := by
  have hsub : Sub μ (fun b => if b = A.next then some ⟨rb, o, k, o + c * k⟩ else μ b) := fun b m hm => by
    have : b ≠ A.next := fun e => by rw [e, h.free _ (Nat.le_refl _)] at hm; cases hm
    simp only [if_neg this, hm]
  have hg : ∀ b, (A.alloc (.cells zs true k)).get b = if b = A.next then some (.cells zs true k) else A.get b := fun b => by rw [AH.get_alloc]
  have hro : ∀ b, (A.alloc (.cells zs true k)).get b ≠ none → RoAt (A.alloc (.cells zs true k)) b := fun b hb' => by
    by_cases e : b = A.next
    · exact ⟨zs, k, by rw [hg, if_pos e]⟩
    · rw [hg, if_neg e] at hb'
      obtain ⟨cs, g, hcs⟩ := h.ro b hb'
      exact ⟨cs, g, by rw [hg, if_neg e]; exact hcs⟩
  refine ⟨A.alloc (.cells zs true k), fun b => if b = A.next then some ⟨rb, o, k, o + c * k⟩ else μ b, ⟨⟨fun b B m hB hm => ?_, fun b b' m m' hl hl' hm hm' hrb => ?_, fun b hb' => ?_, fun b m hm => ?_⟩, fun b hb' => ?_, hro⟩, hsub, ?_, ⟨Nat.le_succ _, fun b hb' => ?_⟩, ?_, Nat.lt_succ_self _⟩
  · replace hm : (if b = A.next then some (⟨rb, o, k, o + c * k⟩ : Spot) else μ b) = some m := hm
    rw [hg] at hB
    by_cases e : b = A.next
    · rw [if_pos e] at hB hm
      cases hB; cases hm
      refine ⟨cc, el, fr, hb, fun i v hv => ?_, rfl, fun e => by cases e⟩
      obtain ⟨v', h1, h2⟩ := hz i v hv
      exact ⟨v', h1, h2.mono hsub⟩
    · rw [if_neg e] at hB hm
      exact (h.rel.blk b B m hB hm).mono hsub rfl
  · right
    have key : ∀ b m, Live (A.alloc (.cells zs true k)) b → (if b = A.next then some (⟨rb, o, k, o + c * k⟩ : Spot) else μ b) = some m → RoAt (A.alloc (.cells zs true k)) b := fun b m hl hm => by
      rcases hl with hl | hl
      · exact hro b hl
      · have hl : A.next + 1 ≤ b := hl
        rw [if_neg (by omega), h.free b (by omega)] at hm; cases hm
    exact ⟨key b m hl hm, key b' m' hl' hm'⟩
  · have hb' : A.next + 1 ≤ b := hb'
    rw [hg, if_neg (by omega)]; exact h.rel.fresh b (by omega)
  · replace hm : (if b = A.next then some (⟨rb, o, k, o + c * k⟩ : Spot) else μ b) = some m := hm
    by_cases e : b = A.next
    · rw [if_pos e] at hm; cases hm
      rcases Nat.lt_or_ge rb W.heap.size with h1 | h1
      · exact h1
      · rw [Array.getElem?_eq_none h1] at hb; cases hb
    · rw [if_neg e] at hm; exact h.rel.inw b m hm
  · have hb' : A.next + 1 ≤ b := hb'
    show (if b = A.next then some (⟨rb, o, k, o + c * k⟩ : Spot) else μ b) = none
    rw [if_neg (by omega)]; exact h.free b (by omega)
  · refine .slice A.next 0 n n o c ⟨rb, o, k, o + c * k⟩ (by simp) ⟨Nat.le_refl _, ?_⟩
    rw [if_neg (by show ¬ (k = 0); omega)]
    exact ⟨fun _ => rfl, Nat.le_refl _, hnc, Nat.le_refl _⟩
  · rw [hg, if_neg (by omega)]
  · rw [hg, if_pos rfl]

/-- Slices that may be read: of no places, they may point anywhere. -/
def RdX {α : Type} (enc : α → List Value) (size : Nat) (H : AH) (col : Col) (c : List Nat) (a : Option Addr) (n cap : Nat) (l : List α) : Prop :=
  n = l.length ∧ (RdE enc size H col c a n cap l ∨ (n = 0 ∧ cap = 0 ∧ ∃ b o s, a = some ⟨b, o, some s⟩))
section
variable {α : Type} {enc : α → List Value} {size : Nat} {H H' : AH} {col col' : Col} {c : List Nat} {a : Option Addr} {n cap : Nat} {l : List α}
theorem RdX.fr (h : RdX enc size H col c a n cap l) {D : List Nat → Prop} (s : Stp D col H col' H') (hd : ¬ D c) : RdX enc size H' col' c a n cap l := ⟨h.1, h.2.imp (fun k => k.fr s hd) id⟩
theorem RdX.up (h : RdX enc size H col c a n cap l) {N : Nat} (hN : H.next ≤ N) : RdX enc size (H.up N) col c a n cap l := ⟨h.1, h.2.imp (fun k => k.up hN) id⟩
theorem RdX.at_ (h : RdX enc size H col c a n cap l) {i : Nat} {x : α} (hx : l[i]? = some x) : ∃ b o ds ro g, a = some ⟨b, o, none⟩ ∧ b < H.next ∧ H.get b = some (.cells ds ro g) ∧ i < n ∧ o + i * size + size ≤ ds.length ∧ (ds.drop (o + i * size)).take size = enc x := by
  rcases h.2 with k | ⟨k, _⟩
  · exact k.at_ hx
  · have := h.1
    rw [List.getElem?_eq_none (by omega)] at hx; cases hx
theorem RdX.src (he : ∀ x, (enc x).length = size) (h : RdX enc size H col c a n cap l) : srcA H size (.slice a n cap) = some (n, l.flatMap enc) := by
  rcases h.2 with k | ⟨k1, k2, b, o, s, rfl⟩
  · exact k.src he
  · have := h.1
    have hl : l = [] := List.eq_nil_of_length_eq_zero (by omega)
    subst hl; subst k1; subst k2; rfl
end
/-- Things of a type, read off the world. -/
structure Rds {Hh : Type} (en : TypeId × Value → Hh) (P : Program) (W : World) (t : TypeId) (k : Nat) {α : Type} (enc : α → List Value) (Good : AH → α → Prop) : Prop where
  cells : P.cellsOf t = k
  pos : 0 < k
  len : ∀ x, (enc x).length = k
  mono : ∀ A A' x, Keep A.next A A' → Good A x → Good A' x
  rd : ∀ (fuel : Nat) (cs : List Value) (y : DataW Hh × List MemPlace), cs.length = k → DataW.trod en P W 0 (fun _ => true) true fuel t cs = some y → ∀ A μ, Laid A μ W → ∃ A' μ' x, Laid A' μ' W ∧ Sub μ μ' ∧ Keep A.next A A' ∧ VRels μ' (enc x) cs ∧ Good A' x
theorem Keep.next_trans {A A' A'' : AH} (h : Keep A.next A A') (k : Keep A'.next A' A'') : Keep A.next A A'' := ⟨Nat.le_trans h.next k.next, fun b hb => (k.get b (Nat.lt_of_lt_of_le hb h.next)).trans (h.get b hb)⟩
theorem all2_app {α β : Type} {R : α → β → Prop} {l : List α} {l' : List β} (h : All2 R l l') : ∀ {m : List α} {m' : List β}, All2 R m m' → All2 R (l ++ m) (l' ++ m') := by
  induction h with
  | nil => intro m m' k; exact k
  | cons h _ ih => intro m m' k; exact .cons h (ih k)
theorem Rds.slice {Hh : Type} {en : TypeId × Value → Hh} {P : Program} {W : World} {t ts : TypeId} {k : Nat} {α : Type} {enc : α → List Value} {Good : AH → α → Prop} (r : Rds en P W t k enc Good) (ht : P.underlying ts = some (.slice t)) {fuel : Nat} {v : Value} {y : DataW Hh × List MemPlace}
    (h : DataW.trod en P W 0 (fun _ => true) true fuel ts [v] = some y) {A : AH} {μ : Mu} (hL : Laid A μ W) :
    ∃ A' μ' s n c l, Laid A' μ' W ∧ Sub μ μ' ∧ Keep A.next A A' ∧ VRel μ' (.slice s n c) v ∧ (∀ col d, (∀ b, b < A'.next → col b = d) → RdX enc k A' col d s n c l) ∧ ∀ x ∈ l, Good A' x := by
  rcases DataW.trod_slice ht h with ⟨e, _⟩ | ⟨a, len, cap, elems, rest, fu, _, e, _, _, hlc, _, hel, helems, _, _⟩
  · cases e
    exact ⟨A, μ, none, 0, 0, [], hL, Sub.refl _, Keep.refl _ _, .nilSlice, fun col d _ => ⟨rfl, .inl RdE.nil⟩, by simp⟩
  · cases e
    by_cases h0 : len = 0
    · subst h0
      exact ⟨A, μ, some ⟨0, 0, some 0⟩, 0, 0, [], hL, Sub.refl _, Keep.refl _ _, .wild _ _ _ _ _, fun col d _ => ⟨rfl, .inr ⟨rfl, rfl, _, _, _, rfl⟩⟩, by simp⟩
    · rw [r.cells] at helems
      -- each element's cells
      have cell : ∀ i, i < len → ∃ cs, W.cells? 0 (a.add (i * k)) k = some cs ∧ ∃ y, DataW.trod en P W 0 (fun _ => true) true fu t cs = some y := fun i hi => by
        have h5 := helems i hi
        have : elems[i]?.isSome = true := by simp [hel, hi]
        cases hcs : W.cells? 0 (a.add (i * k)) k with
        | none => rw [hcs] at h5; rw [← h5] at this; cases this
        | some cs =>
          rw [hcs] at h5
          obtain ⟨y, hy⟩ := Option.isSome_iff_exists.mp this
          rw [hy] at h5
          exact ⟨cs, rfl, y, h5⟩
      obtain ⟨rb, o, sp⟩ := a
      -- the block
      obtain ⟨cs0, hc0, _⟩ := cell 0 (by omega)
      obtain ⟨_, hl0, hk0⟩ := World.cells?_some hc0
      have hpos := r.pos
      have h00 := hk0 0 hpos
      rw [show (0 * k) = 0 by omega] at h00
      have hx0 : ∃ x0, W.cell? ⟨rb, o, sp⟩ = some x0 := by
        have e : (Addr.add (Addr.add ⟨rb, o, sp⟩ 0) 0) = ⟨rb, o, sp⟩ := rfl
        rw [e] at h00
        exact ⟨_, h00.trans (List.getElem?_eq_getElem (by omega))⟩
      obtain ⟨cc, el, fr, hblk, hsp⟩ : ∃ cc el fr, W.heap[rb]? = some (.cells cc el fr) ∧ sp = none := by
        obtain ⟨x0, hx0⟩ := hx0
        unfold World.cell? at hx0
        split at hx0
        · rename_i cc el fr hb
          refine ⟨cc, el, fr, hb, ?_⟩
          split at hx0
          · cases hx0
          · rename_i hs
            cases sp with
            | none => rfl
            | some _ => exact absurd rfl hs
        · cases hx0
      subst hsp
      have hcell : ∀ j, W.cell? ⟨rb, o + j, none⟩ = cc[o + j]? := fun j => by unfold World.cell?; rw [hblk]; rfl
      -- the elements one by one
      have all : ∀ m, m ≤ len → ∃ A' μ', ∃ l : List α, l.length = m ∧ Laid A' μ' W ∧ Sub μ μ' ∧ Keep A.next A A' ∧ (∀ (i : Nat) v, (l.flatMap enc)[i]? = some v → ∃ v', cc[o + i]? = some v' ∧ VRel μ' v v') ∧ ∀ x ∈ l, Good A' x := by
        intro m
        induction m with
        | zero => intro _; exact ⟨A, μ, [], rfl, hL, Sub.refl _, Keep.refl _ _, fun i v hv => by simp at hv, by simp⟩
        | succ m ih =>
          intro hm
          obtain ⟨A1, μ1, l, i1, i2, i3, i4, i5, i6⟩ := ih (by omega)
          obtain ⟨cs, hcs, y, hy⟩ := cell m (by omega)
          obtain ⟨_, hl1, hk1⟩ := World.cells?_some hcs
          obtain ⟨A2, μ2, x, j1, j2, j3, j4, j5⟩ := r.rd fu cs y hl1 hy A1 μ1 i2
          refine ⟨A2, μ2, l ++ [x], by simp [i1], j1, i3.trans j2, i4.next_trans j3, fun i v hv => ?_, fun z hz => ?_⟩
          · have hll : (l.flatMap enc).length = m * k := by rw [flat_len r.len, i1]
            rw [List.flatMap_append] at hv
            rcases Nat.lt_or_ge i (m * k) with hi | hi
            · rw [List.getElem?_append_left (by omega)] at hv
              obtain ⟨v', q1, q2⟩ := i5 i v hv
              exact ⟨v', q1, q2.mono j2⟩
            · rw [List.getElem?_append_right (by omega), hll] at hv
              have hv : (enc x)[i - m * k]? = some v := by simpa using hv
              obtain ⟨v', q1, q2⟩ := j4.get _ _ hv
              refine ⟨v', ?_, q2⟩
              have hik : i - m * k < k := by
                rcases Nat.lt_or_ge (i - m * k) k with h | h
                · exact h
                · rw [List.getElem?_eq_none (by rw [r.len]; exact h)] at hv; cases hv
              have := hk1 (i - m * k) hik
              rw [add_none, add_none, show o + m * k + (i - m * k) = o + i by omega, hcell] at this
              rw [this]; exact q1
          · rcases List.mem_append.mp hz with hz | hz
            · exact r.mono _ _ _ j3 (i6 z hz)
            · simp at hz; subst hz; exact j5
      obtain ⟨A1, μ1, l, i1, i2, i3, i4, i5, i6⟩ := all len (Nat.le_refl _)
      obtain ⟨A2, μ2, k1, k2, k3, k4, k5, k6⟩ := i2.add (n := len) (c := cap) (k := k) hblk i5 hlc hpos
      refine ⟨A2, μ2, some ⟨A1.next, 0, none⟩, len, len, l, k1, i3.trans k2, i4.next_trans k4, k3, fun col d hcol => ⟨i1.symm, .inl ⟨i1.symm, .inr ⟨A1.next, 0, _, true, k, rfl, k6, hcol _ k6, k5, by rw [flat_len r.len, i1]; omega, fun i x hx => ?_⟩⟩⟩, fun x hx => r.mono _ _ _ k4 (i6 x hx)⟩
      rw [Nat.zero_add]
      exact flat_chunk r.len l i x hx
end Go.Ez
