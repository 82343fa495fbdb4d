import Derived.Test.YtgckodpnpidodaaGreatEzDraw2
set_option linter.all false
/- A region whose order is open: memory. -/
set_option linter.unusedVariables false
set_option linter.unusedSimpArgs false
namespace Go.Ez

/-! ### Blocks that are linked before or behind their time -/
section
variable {μ : Mu} {H : AH} {w : World}

theorem Rel.allocUn (hR : Rel μ H w) {B : Blk} (hB : ∀ m, μ H.next = some m → BlkRel μ m w B) : Rel μ (H.alloc B) w where
  blk := fun b B2 m hg hm => by
    rw [AH.get_alloc] at hg
    by_cases e : b = H.next
    · subst e; rw [if_pos rfl] at hg; cases hg; exact hB m hm
    · rw [if_neg e] at hg; exact hR.blk b B2 m hg hm
  inj := fun b b' m m' h h' hm hm' e => by
    have lv : ∀ x, Live (H.alloc B) x → Live H x := fun x hx => by
      unfold Live at *
      rw [AH.get_alloc, AH.next_alloc] at hx
      by_cases e : x = H.next
      · subst e; exact .inr (Nat.le_refl _)
      · rw [if_neg e] at hx; rcases hx with h | h
        · exact .inl h
        · exact .inr (by omega)
    rcases hR.inj b b' m m' (lv b h) (lv b' h') hm hm' e with h | ⟨⟨cs, g, h1⟩, ⟨cs', g', h2⟩⟩
    · exact .inl h
    · have n1 : b ≠ H.next := by intro e; subst e; rw [hR.fresh _ (Nat.le_refl _)] at h1; cases h1
      have n2 : b' ≠ H.next := by intro e; subst e; rw [hR.fresh _ (Nat.le_refl _)] at h2; cases h2
      exact .inr ⟨⟨cs, g, by rw [AH.get_alloc, if_neg n1]; exact h1⟩, ⟨cs', g', by rw [AH.get_alloc, if_neg n2]; exact h2⟩⟩
  fresh := fun b hb => by
    rw [AH.next_alloc] at hb
    rw [AH.get_alloc, if_neg (by omega)]; exact hR.fresh b (by omega)
  inw := hR.inw

theorem Rel.linkAt (hR : Rel μ H w) {b : Nat} (hb : μ b = none) {obj : Obj} {m : Spot} (hm : m.rb = w.heap.size) {w' : World} (hgot : w'.heap = w.heap.push obj)
    (hB : ∀ B, H.get b = some B → BlkRel (μ.upd b m) m w' B) : Rel (μ.upd b m) H w' where
  blk := fun x B m2 hg hm2 => by
    by_cases e : x = b
    · subst e; rw [Mu.upd_self] at hm2; cases hm2; exact hB B hg
    · rw [Mu.upd_ne _ _ e] at hm2
      refine (hR.blk x B m2 hg hm2).mono (Mu.upd_sub hb) ?_
      have := hR.inw x m2 hm2
      rw [hgot, Array.getElem?_push]; simp [show ¬ m2.rb = w.heap.size by omega]
  inj := fun x y mx my hx hy hmx hmy e => by
    by_cases e1 : x = b
    · by_cases e2 : y = b
      · exact .inl (e1.trans e2.symm)
      · subst e1
        rw [Mu.upd_self] at hmx; cases hmx
        rw [Mu.upd_ne _ _ e2] at hmy
        have := hR.inw y my hmy
        omega
    · by_cases e2 : y = b
      · subst e2
        rw [Mu.upd_self] at hmy; cases hmy
        rw [Mu.upd_ne _ _ e1] at hmx
        have := hR.inw x mx hmx
        omega
      · rw [Mu.upd_ne _ _ e1] at hmx
        rw [Mu.upd_ne _ _ e2] at hmy
        exact hR.inj x y mx my hx hy hmx hmy e
  fresh := hR.fresh
  inw := fun x mx hmx => by
    rw [hgot, Array.size_push]
    by_cases e : x = b
    · subst e; rw [Mu.upd_self] at hmx; cases hmx; omega
    · rw [Mu.upd_ne _ _ e] at hmx; have := hR.inw x mx hmx; omega

theorem newOk_blk {μ : Mu} {B : Blk} {obj : Obj} (h : NewOk μ B obj) {rb : Nat} {w' : World} (hw : w'.heap[rb]? = some obj) {μ' : Mu} (hs : Sub μ μ') : BlkRel μ' ⟨rb, 0, 0, 0⟩ w' B := by
  cases B with
  | cells cs ro g =>
    cases obj with
    | cells c el fr =>
      obtain ⟨rfl, rfl, rfl, hrel⟩ := h
      refine ⟨c, el, (0, 0), hw, fun i v hv => ?_, rfl, fun _ => ⟨rfl, ?_, fun h => absurd h (Nat.lt_irrefl _)⟩⟩
      · obtain ⟨v', hv', hr⟩ := hrel.get i v hv
        exact ⟨v', by simpa using hv', hr.mono hs⟩
      · have := hrel.length; simp at *; omega
    | _ => exact h.elim
  | map es ck =>
    cases obj with
    | map es' ck' =>
      obtain ⟨rfl, rfl, rfl, rfl⟩ := h
      exact ⟨#[], hw, .nil⟩
    | _ => exact h.elim

theorem form_rel {μ : Mu} {f : Form} (hf : f.ok) {b rb : Nat} (h : μ b = some ⟨rb, 0, 0, 0⟩) : VRel μ (f.val b) (f.val rb) := by
  cases f with
  | ptr => exact .ptr b 0 _ h
  | slice n c => exact .slice b 0 n c 0 c _ h ⟨hf, by rw [if_pos rfl]; exact ⟨rfl, rfl⟩⟩
  | map => exact .map b _ h

/-- What has become of a world since a region began. -/
structure Anch (μ0 : Mu) (H0 : AH) (w0 : World) (hi : Nat) (μ : Mu) (H : AH) (w : World) : Prop where
  ext : Sub μ0 μ
  outlo : ∀ b, b < H0.next → μ b = μ0 b
  outhi : ∀ b, hi ≤ b → μ b = μ0 b
  next : H0.next ≤ H.next
  unm : ∀ b, b < H0.next → μ0 b = none → H.get b = H0.get b
  dead : ∀ b, b < H0.next → H0.get b = none → H.get b = none
  ro : ∀ b, b < H0.next → H.get b ≠ none → (RoAt H b ↔ RoAt H0 b)
  size : w0.heap.size ≤ w.heap.size
  keep : ∀ rb, rb < w0.heap.size → (∀ b m, H0.get b ≠ none → ¬ RoAt H0 b → μ0 b = some m → m.rb ≠ rb) → w.heap[rb]? = w0.heap[rb]?
  newrb : ∀ b m, H0.next ≤ b → b < hi → μ b = some m → w0.heap.size ≤ m.rb ∨ ∃ b0 m0, H0.get b0 ≠ none ∧ ¬ RoAt H0 b0 ∧ μ0 b0 = some m0 ∧ m0.rb = m.rb
  os : w.os = w0.os
  tape : w.tape = w0.tape
  output : w.output = w0.output

theorem Anch.step {μ0 : Mu} {H0 : AH} {w0 : World} {hi : Nat} (A : Anch μ0 H0 w0 hi μ H w) {μ' : Mu} {H' : AH} {w' : World} (s : Step μ H w μ' H' w') (hf : ∀ b, H.next ≤ b → H.get b = none) (hhi : H'.next ≤ hi) :
    Anch μ0 H0 w0 hi μ' H' w' where
  ext := A.ext.trans s.ext
  outlo := fun b hb => by rw [s.out b (.inl (Nat.lt_of_lt_of_le hb A.next)), A.outlo b hb]
  outhi := fun b hb => by rw [s.out b (.inr (Nat.le_trans hhi hb)), A.outhi b hb]
  next := Nat.le_trans A.next s.next
  unm := fun b hb hm => by
    rw [s.unm b (Nat.lt_of_lt_of_le hb A.next) (by rw [A.outlo b hb]; exact hm), A.unm b hb hm]
  dead := fun b hb h => s.dead b (Nat.lt_of_lt_of_le hb A.next) (A.dead b hb h)
  ro := fun b hb h => by
    have h1 : H.get b ≠ none := fun e => h (s.dead b (Nat.lt_of_lt_of_le hb A.next) e)
    exact (s.ro b (Nat.lt_of_lt_of_le hb A.next) h).trans (A.ro b hb h1)
  size := Nat.le_trans A.size s.size
  keep := fun rb hrb hno => by
    rw [← A.keep rb hrb hno]
    refine s.keep rb (Nat.lt_of_lt_of_le hrb A.size) fun b m hg hro hm e => ?_
    rcases Nat.lt_or_ge b H0.next with hb | hb
    · exact hno b m (fun e => hg (A.dead b hb e)) (fun h => hro ((A.ro b hb hg).2 h)) (by rw [← A.outlo b hb]; exact hm) e
    · have hbn : b < H.next := by
        rcases Nat.lt_or_ge b H.next with h | h
        · exact h
        · exact absurd (hf b h) hg
      rcases A.newrb b m hb (Nat.lt_of_lt_of_le hbn (Nat.le_trans s.next hhi)) hm with h | ⟨b0, m0, h1, h2, h3, h4⟩
      · omega
      · exact hno b0 m0 h1 h2 h3 (h4.trans e)
  newrb := fun b m hb hb2 hm => by
    cases hmb : μ b with
    | some m2 =>
      have := s.ext b m2 hmb
      rw [hm] at this
      cases this
      exact A.newrb b m hb hb2 hmb
    | none =>
      rcases Nat.lt_or_ge b H.next with h | h
      · rw [s.out b (.inl h), hmb] at hm; cases hm
      · rcases Nat.lt_or_ge b H'.next with h' | h'
        · rcases s.newrb b m h h' hm with h1 | ⟨b0, m0, h1, h2, h3, h4⟩
          · exact .inl (Nat.le_trans A.size h1)
          · rcases Nat.lt_or_ge b0 H0.next with hb0 | hb0
            · exact .inr ⟨b0, m0, fun e => h1 (A.dead b0 hb0 e), fun h => h2 ((A.ro b0 hb0 h1).2 h), by rw [← A.outlo b0 hb0]; exact h3, h4⟩
            · have hbn : b0 < H.next := by
                rcases Nat.lt_or_ge b0 H.next with h | h
                · exact h
                · exact absurd (hf b0 h) h1
              rcases A.newrb b0 m0 hb0 (Nat.lt_of_lt_of_le hbn (Nat.le_trans s.next hhi)) h3 with h | ⟨b2, m2, k1, k2, k3, k4⟩
              · exact .inl (by omega)
              · exact .inr ⟨b2, m2, k1, k2, k3, k4.trans h4⟩
        · rw [s.out b (.inr h'), hmb] at hm; cases hm
  os := s.os.trans A.os
  tape := s.tape.trans A.tape
  output := s.output.trans A.output

theorem Anch.alloc {μ0 : Mu} {H0 : AH} {w0 : World} {hi : Nat} (A : Anch μ0 H0 w0 hi μ H w) (B : Blk) : Anch μ0 H0 w0 hi μ (H.alloc B) w :=
  { A with
    next := Nat.le_succ_of_le A.next
    unm := fun b hb hm => by have := A.next; rw [AH.get_alloc, if_neg (by omega)]; exact A.unm b hb hm
    dead := fun b hb h => by have := A.next; rw [AH.get_alloc, if_neg (by omega)]; exact A.dead b hb h
    ro := fun b hb h => by
      have := A.next
      have hne : b ≠ H.next := by omega
      rw [AH.get_alloc, if_neg hne] at h
      rw [← A.ro b hb h]
      unfold RoAt; simp [AH.get_alloc, hne] }

theorem Anch.linkAt {μ0 : Mu} {H0 : AH} {w0 : World} {hi : Nat} (A : Anch μ0 H0 w0 hi μ H w) {b : Nat} (hb : μ b = none) (hlo : H0.next ≤ b) (hhi : b < hi) {obj : Obj} {m : Spot} (hm : m.rb = w.heap.size) {w' : World} (hgot : w'.heap = w.heap.push obj)
    (hos : w'.os = w.os) (htape : w'.tape = w.tape) (hout : w'.output = w.output) : Anch μ0 H0 w0 hi (μ.upd b m) H w' :=
  { A with
    ext := A.ext.trans (Mu.upd_sub hb)
    outlo := fun x hx => by rw [Mu.upd_ne _ _ (by omega)]; exact A.outlo x hx
    outhi := fun x hx => by rw [Mu.upd_ne _ _ (by omega)]; exact A.outhi x hx
    size := by rw [hgot, Array.size_push]; have := A.size; omega
    keep := fun rb hrb hno => by
      have := A.size
      rw [← A.keep rb hrb hno, hgot, Array.getElem?_push]; simp [show ¬ rb = w.heap.size by omega]
    newrb := fun x mx h1 h2 hmx => by
      by_cases e : x = b
      · subst e; rw [Mu.upd_self] at hmx; cases hmx; have := A.size; exact .inl (by omega)
      · rw [Mu.upd_ne _ _ e] at hmx; exact A.newrb x mx h1 h2 hmx
    os := hos.trans A.os
    tape := htape.trans A.tape
    output := hout.trans A.output }

theorem Anch.toStep {μ0 : Mu} {H0 : AH} {w0 : World} (A : Anch μ0 H0 w0 H.next μ H w) : Step μ0 H0 w0 μ H w where
  ext := A.ext
  out := fun b hb => hb.elim (A.outlo b) (A.outhi b)
  next := A.next
  unm := A.unm
  dead := A.dead
  ro := A.ro
  size := A.size
  keep := A.keep
  newrb := A.newrb
  os := A.os
  tape := A.tape
  output := A.output

theorem Anch.start {μ0 : Mu} {H0 : AH} {w0 w1 : World} {hi : Nat} (hfree : ∀ b, H0.next ≤ b → b < hi → μ0 b = none) (hw : w1.heap = w0.heap) (hos : w1.os = w0.os) (htape : w1.tape = w0.tape) (hout : w1.output = w0.output) : Anch μ0 H0 w0 hi μ0 H0 w1 where
  ext := Sub.refl _
  outlo := fun _ _ => rfl
  outhi := fun _ _ => rfl
  next := Nat.le_refl _
  unm := fun _ _ _ => rfl
  dead := fun _ _ h => h
  ro := fun _ _ _ => Iff.rfl
  size := by rw [hw]; exact Nat.le_refl _
  keep := fun _ _ _ => by rw [hw]
  newrb := fun b m h1 h2 h3 => by rw [hfree b h1 h2] at h3; cases h3
  os := hos
  tape := htape
  output := hout
end
end Go.Ez
