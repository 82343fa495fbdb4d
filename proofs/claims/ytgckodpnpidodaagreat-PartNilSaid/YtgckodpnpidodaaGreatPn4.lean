/- PartNil: the argument is opened. -/
import Derived.Test.YtgckodpnpidodaaGreatPn3
import Derived.Test.YtgckodpnpidodaaGreatRows
set_option linter.all false
set_option linter.unusedVariables false
set_option linter.unusedSimpArgs false
namespace Go.Ez
open Go.Proofs Go.IntWalk Go.ChangeShapes Go.WideShapes

theorem ct45 : Tryz.prog.cellTypes Tryz.prog.depth 43 = some [3,3,3,3,3,3,3,39] := by kernel_rfl
theorem co45 : Tryz.prog.cellsOf 43 = 8 := by kernel_rfl
theorem co43 : Tryz.prog.cellsOf 41 = 5 := by kernel_rfl
theorem co3 : Tryz.prog.cellsOf 3 = 1 := by kernel_rfl
theorem co41 : Tryz.prog.cellsOf 39 = 1 := by kernel_rfl

/-- A slice of whole numbers by threes, as it lies in the world. -/
theorem ops_of {H : Type} {enc : TypeId × Value → H} {W : World} {l : Option Addr} {n c : Nat} (hs : (l = none ∧ n = 0 ∧ c = 0) ∨ ∃ rb o, l = some ⟨rb, o, none⟩ ∧ rb < W.heap.size ∧ n ≤ c ∧ (∃ cc el fr, W.heap[rb]? = some (.cells cc el fr)) ∧ ∀ i, i < n * 3 → ∃ z, W.cell? ⟨rb, o + i, none⟩ = some (.int .i64 z)) :
    ∃ (A : AH) (μ : Mu) (s : Option Addr) (c' : Nat), Rel μ A W ∧ VRel μ (.slice s n c') (.slice l n c) ∧ Ops A s n ∧ (∀ b, A.next ≤ b → μ b = none) ∧ (∀ b, A.get b ≠ none → RoAt A b) := by
  rcases hs with ⟨rfl, rfl, rfl⟩ | ⟨rb, o, rfl, hrb, hnc, ⟨cc, el, fr, hb⟩, hz⟩
  · refine ⟨⟨0, .leaf⟩, fun _ => none, none, 0, ⟨?_, ?_, ?_, ?_⟩, .nilSlice, .inl rfl, fun _ _ => rfl, ?_⟩
    · intro b B m h; cases h
    · intro b b' m m' _ _ h; cases h
    · intro b _; rfl
    · intro b m h; cases h
    · intro b h; exact absurd rfl h
  · let zs : List Value := (cc.toList.drop o).take (n * 3)
    have hget : ∀ i, i < n * 3 → ∃ z, cc[o + i]? = some (.int .i64 z) := fun i hi => by
      obtain ⟨z, h⟩ := hz i hi
      exact ⟨z, by simpa [World.cell?, hb] using h⟩
    let A : AH := AH.alloc ⟨0, .leaf⟩ (.cells zs true 3)
    let μ : Mu := fun b => if b = 0 then some ⟨rb, o, 3, o + c * 3⟩ else none
    have hA : ∀ b, A.get b = if b = 0 then some (.cells zs true 3) else none := fun b => by
      show (AH.alloc ⟨0, .leaf⟩ (.cells zs true 3)).get b = _
      rw [AH.get_alloc]
      split <;> rfl
    refine ⟨A, μ, some ⟨0, 0, none⟩, n, ⟨?_, ?_, ?_, ?_⟩, ?_, ?_, ?_, ?_⟩
    · intro b B m h hm
      rw [hA] at h
      by_cases e : b = 0
      · subst e
        simp only [if_pos, Option.some.injEq] at h
        subst h
        simp only [μ, if_pos, Option.some.injEq] at hm
        subst hm
        refine ⟨cc, el, fr, hb, fun i v hv => ?_, rfl, fun h => by cases h⟩
        have hi : i < n * 3 := by
          rcases Nat.lt_or_ge i (n * 3) with h | h
          · exact h
          · simp [zs, List.getElem?_take, Nat.not_lt.mpr h] at hv
        obtain ⟨z, h⟩ := hget i hi
        have : v = .int .i64 z := by
          simp only [zs, List.getElem?_take, if_pos hi, List.getElem?_drop] at hv
          have h' : cc.toList[o + i]? = some (.int .i64 z) := by simpa using h
          rw [h'] at hv; cases hv; rfl
        subst this
        exact ⟨_, h, .int _ _⟩
      · rw [if_neg e] at h; cases h
    · intro b b' m m' _ _ h h' _
      by_cases e : b = 0
      · by_cases e' : b' = 0
        · exact .inl (e.trans e'.symm)
        · simp [μ, e'] at h'
      · simp [μ, e] at h
    · intro b h
      rw [hA, if_neg (by have : A.next = 1 := rfl; omega)]
    · intro b m hm
      by_cases e : b = 0
      · simp only [μ, if_pos e, Option.some.injEq] at hm
        subst hm; exact hrb
      · simp [μ, e] at hm
    · refine .slice 0 0 n n o c ⟨rb, o, 3, o + c * 3⟩ (by simp [μ]) ⟨Nat.le_refl _, ?_⟩
      rw [if_neg (by show ¬ (3 = 0); decide)]
      exact ⟨fun _ => rfl, Nat.le_refl _, hnc, Nat.le_refl _⟩
    · refine .inr ⟨0, 0, zs, true, 3, rfl, Nat.zero_lt_one, by rw [hA, if_pos rfl], fun i hi => ?_⟩
      obtain ⟨z, h⟩ := hget i hi
      refine ⟨z, ?_⟩
      simp only [zs, Nat.zero_add, List.getElem?_take, if_pos hi, List.getElem?_drop]
      simpa using h
    · intro b h
      have : A.next = 1 := rfl
      simp only [μ]
      rw [if_neg (by omega)]
    · intro b h
      rw [hA] at h
      by_cases e : b = 0
      · subst e; exact ⟨zs, 3, by rw [hA, if_pos rfl]⟩
      · rw [if_neg e] at h; exact absurd rfl h
end Go.Ez
