import Derived.Test.YtgckodpnpidodaaGreatEzRead
set_option linter.all false
/- New roots of colours; steps seen from an elder heap. -/
set_option linter.all false
namespace Go.Ez
theorem under1_iff {m : Nat} {x : List Nat} : Under [m] x ↔ x.getLast? = some m := by
  constructor
  · rintro ⟨t, rfl⟩; simp
  · intro h
    have hne : x ≠ [] := by intro e; rw [e] at h; cases h
    have := List.dropLast_concat_getLast hne
    rw [List.getLast?_eq_some_getLast hne] at h
    cases h
    exact ⟨x.dropLast, this.symm⟩
theorem new_roots (col : Col) : ∀ n : Nat, ∃ m0, ∀ m, m0 ≤ m → ∀ b, b < n → ¬ Under [m] (col b)
  | 0 => ⟨0, fun _ _ b hb => absurd hb (Nat.not_lt_zero b)⟩
  | n + 1 => by
    obtain ⟨m0, h⟩ := new_roots col n
    refine ⟨max m0 ((col n).getLast?.getD 0 + 1), fun m hm b hb => ?_⟩
    rcases Nat.lt_or_ge b n with h1 | h1
    · exact h m (by omega) b h1
    · have : b = n := by omega
      subst this
      intro hu
      rw [under1_iff] at hu
      rw [hu] at hm
      simp at hm
      omega
theorem new_root (col : Col) (H : AH) : ∃ m, ∀ b, b < H.next → ¬ Under [m] (col b) := let ⟨m0, h⟩ := new_roots col H.next; ⟨m0, h m0 (Nat.le_refl _)⟩
/-- What a later step does to newer blocks is nothing to an elder heap. -/
theorem Stp.newer {D E : List Nat → Prop} {col col1 col2 : Col} {H H1 H2 : AH} (s : Stp D col H col1 H1) (t : Stp E col1 H1 col2 H2) (h : ∀ b, b < H.next → E (col b) → D (col b)) : Stp D col H col2 H2 :=
  ⟨Nat.le_trans s.next t.next, fun b hb => (t.cl b (Nat.lt_of_lt_of_le hb s.next)).trans (s.cl b hb),
   fun b hb hd => (t.get b (Nat.lt_of_lt_of_le hb s.next) (by rw [s.cl b hb]; exact fun he => hd (h b hb he))).trans (s.get b hb hd), fun hf => t.fresh (s.fresh hf)⟩
theorem Stp.none {D : List Nat → Prop} {col : Col} {H H' : AH} (k : Keep H.next H H') : Stp D col H col H' := k.stp D col
/-- A block that is written lies above the elder heap. -/
theorem Wrote1.newer {D : List Nat → Prop} {col col1 : Col} {H H1 H2 : AH} {b : Nat} {B : Blk} (s : Stp D col H col1 H1) (w : Wrote1 H1 H2 b B) (hb : H.next ≤ b) : Stp D col H col1 H2 :=
  ⟨by rw [w.next]; exact s.next, s.cl, fun x hx hd => (w.other x (by omega)).trans (s.get x hx hd), fun hf x hx => s.fresh hf x (by rw [w.next] at hx; exact hx)⟩
theorem New1.newer {D : List Nat → Prop} {col col1 : Col} {H H1 H2 : AH} {b : Nat} {B : Blk} (s : Stp D col H col1 H1) (a : New1 H1 H2 b B) : Stp D col H col1 H2 :=
  s.newer (E := fun _ => False) (a.keep.stp _ _) fun _ _ h => h.elim
theorem Keep.newer {D : List Nat → Prop} {col col1 : Col} {H H1 H2 : AH} (s : Stp D col H col1 H1) (k : Keep H1.next H1 H2) : Stp D col H col1 H2 := s.newer (E := fun _ => False) (k.stp _ _) fun _ _ h => h.elim
/-- A block without a colour: of a call's own. -/
theorem New1.own {H H1 : AH} {b g : Nat} {cs : List Value} {col : Col} (a : New1 H H1 b (.cells cs false g)) (hf : ∀ b, H.next ≤ b → col b = []) : Bk H1 col [] b cs g :=
  ⟨by rw [a.next, a.num]; omega, hf b (by rw [a.num]; exact Nat.le_refl _), a.at_⟩
theorem under_nil {c : List Nat} (hc : c ≠ []) : ¬ Under c [] := by
  rintro ⟨t, e⟩
  have := List.append_eq_nil_iff.mp e.symm
  exact hc this.2
theorem under_root {c : List Nat} {m : Nat} {col : Col} {H : AH} {p : Nat} (hc : c ≠ []) (hp : p < H.next) (hcp : col p = c) (hm : ∀ b, b < H.next → ¬ Under [m] (col b)) : ¬ Under c [m] := by
  rintro ⟨t, e⟩
  cases t with
  | nil =>
    simp at e
    exact hm p hp (by rw [hcp, ← e]; exact Under.refl _)
  | cons a t =>
    have := congrArg List.length e
    simp only [List.length_cons, List.length_append, List.length_nil, List.cons_append] at this
    exact hc (List.eq_nil_of_length_eq_zero (by omega))

theorem nil_d {c : List Nat} (hc : c ≠ []) : ∀ x, Under c x → ¬ (x = []) := fun x hx e => under_nil hc (by rw [← e]; exact hx)
/-- A call's own block is written. -/
theorem Bk.own_wr {H H1 H2 : AH} {col col1 : Col} {D : List Nat → Prop} {b g g' : Nat} {cs cs' : List Value} (h : Bk H1 col1 [] b cs g) (s : Stp D col H col1 H1) (hb : H.next ≤ b) (w : Wrote1 H1 H2 b (.cells cs' false g')) :
    Bk H2 col1 [] b cs' g' ∧ Stp (fun x => x = []) col1 H1 col1 H2 ∧ Stp D col H col1 H2 := ⟨(h.wrote w).1, (h.wrote w).2, Wrote1.newer s w hb⟩
end Go.Ez
