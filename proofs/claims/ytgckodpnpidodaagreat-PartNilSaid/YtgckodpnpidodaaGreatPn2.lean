/- Contracts: a job that is turned. -/
import Derived.Test.YtgckodpnpidodaaGreatPn1
import Derived.IntWalk
set_option linter.all false
set_option linter.unusedVariables false
set_option linter.unusedSimpArgs false
namespace Go.Ez
open Go.Proofs Go.IntWalk

/-- Operations: a row of threes of whole numbers. -/
def Ops (H : AH) (s : Option Addr) (n : Nat) : Prop :=
  n = 0 ∨ ∃ b o cs ro g, s = some ⟨b, o, none⟩ ∧ b < H.next ∧ H.get b = some (.cells cs ro g) ∧ ∀ i, i < n * 3 → ∃ z, cs[o + i]? = some (.int .i64 z)
theorem Ops.keep {H H' : AH} {s : Option Addr} {n m : Nat} (h : Ops H s n) (k : Keep m H H') (hm : H.next ≤ m) : Ops H' s n := by
  rcases h with h | ⟨b, o, cs, ro, g, h1, h2, h3, h4⟩
  · exact .inl h
  · exact .inr ⟨b, o, cs, ro, g, h1, Nat.lt_of_lt_of_le h2 k.next, k.at_ h3 (by omega), h4⟩
theorem Ops.read {H : AH} {s : Option Addr} {n i : Nat} (h : Ops H s n) (hi : i < n) : ∃ b o x y z, s = some ⟨b, o, none⟩ ∧ ldN H 3 (.pointer (some ⟨b, o + i * 3, none⟩)) = some (.agg #[.int .i64 x, .int .i64 y, .int .i64 z]) := by
  rcases h with h | ⟨b, o, cs, ro, g, h1, h2, h3, h4⟩
  · omega
  · obtain ⟨x, hx⟩ := h4 (i * 3) (by omega)
    obtain ⟨y, hy⟩ := h4 (i * 3 + 1) (by omega)
    obtain ⟨z, hz⟩ := h4 (i * 3 + 2) (by omega)
    have lt : ∀ {j : Nat} {v : Value}, cs[j]? = some v → j < cs.length := fun {j v} h => by
      rcases Nat.lt_or_ge j cs.length with h' | h'
      · exact h'
      · simp [h'] at h
    have l := lt hz
    refine ⟨b, o, x, y, z, h1, ldN_at h3 (by omega) ?_⟩
    have e : (cs.drop (o + i * 3)).take 3 = [.int .i64 x, .int .i64 y, .int .i64 z] := by
      apply List.ext_getElem?
      intro j
      rw [List.getElem?_take, List.getElem?_drop]
      match j with
      | 0 => simpa [Nat.add_assoc] using hx
      | 1 => simpa [Nat.add_assoc] using hy
      | 2 => simpa [Nat.add_assoc] using hz
      | j + 3 => simp; omega
    rw [e]

theorem w_job {H : AH} {t a w d : Int} {s : Option Addr} {n c : Nat} (ho : Ops H s n) (hn : n ≤ 70) :
    W Tryz.prog X0 F_parcloselaw19_Job [.agg #[.int .i64 t, .int .i64 a, .int .i64 w, .int .i64 d, .slice s n c]] H fun v H' =>
      (∃ s' n' c', v = .agg #[.int .i64 t, .int .i64 a, .int .i64 w, .int .i64 d, .slice s' n' c']) ∧ Keep H.next H H' := by
  refine enter _ (nf_F_parcloselaw19_Job _ _ _ _ _ _ _ _ _ _) rfl ?_
  unfold vc_F_parcloselaw19_Job
  intro b5 H6 hb5 hH6 b7 H8 hb7 hH8
  have a6 := new1 hb5 hH6
  have a8 := new1 hb7 hH8
  clear hb5 hH6 hb7 hH8
  have i6 := a6.next; have j6 := a6.num; have i8 := a8.next; have j8 := a8.num
  have g5 := a8.far a6.at_ (by omega)
  refine ⟨_, ld1_at g5 rfl, _, ld1_at g5 rfl, _, ld1_at g5 rfl, _, ld1_at g5 rfl, ?_⟩
  intro b13 H14 hb13 hH14
  have a14 := new1 hb13 hH14
  clear hb13 hH14
  have i14 := a14.next; have j14 := a14.num
  refine stV_do a14.at_ rfl rfl (by decide) fun H15 s15 => ?_
  have i15 := s15.next
  have K15 : Keep H.next H H15 := ((a6.keep.trans (a8.keep.mono (by omega))).trans (a14.keep.mono (by omega))).trans (s15.keep (by omega))
  have g5' := s15.far (a14.far g5 (by omega)) (by omega)
  have g7' := s15.far (a14.far a8.at_ (by omega)) (by omega)
  have g13' := s15.at_
  intro X hX
  -- the loop
  have loop : ∀ (k i : Nat) (G : AH) (q : Option Addr) (cs : List Value), n - i = k → i ≤ n → H15.next ≤ G.next → Keep H.next H G →
      G.get b5 = some (.cells [.int .i64 t, .int .i64 a, .int .i64 w, .int .i64 d, .slice s n c] false 0) →
      G.get b7 = some (.cells [.int .i64 0, .int .i64 0, .int .i64 0, .int .i64 0, .slice none 0 0] false 0) →
      G.get b13 = some (.cells [.int .i64 t, .int .i64 a, .int .i64 w, .int .i64 d, .slice q i i] false 0) → Own 3 G q i cs → (∀ b, q = some ⟨b, 0, none⟩ → H15.next ≤ b) →
      X [.int .i64 i] G := by
    intro k
    induction k with
    | zero =>
      intro i G q cs hk hi hG KG h5 h7 h13 hq hqb
      refine hX _ _ fun _ => ?_
      refine ⟨_, _, _, ld1_at h5 rfl, ?_⟩
      rw [bcase_decide]
      refine ⟨fun hlt => by omega, fun _ => ?_⟩
      refine ⟨_, _, _, _, _, _, _, ldN_at h13 (by simp) rfl, ?_⟩
      refine stV_do h7 rfl rfl (by simp) fun G1 s1 => ?_
      exact ⟨_, _, _, _, _, _, _, ldN_at s1.at_ (by simp [setMany, cellsOf]) rfl, ⟨_, _, _, rfl⟩, KG.trans (s1.keep (by omega))⟩
    | succ k ih =>
      intro i G q cs hk hi hG KG h5 h7 h13 hq hqb
      refine hX _ _ fun _ => ?_
      refine ⟨_, _, _, ld1_at h5 rfl, ?_⟩
      rw [bcase_decide]
      refine ⟨fun hlt => ?_, fun hlt => by omega⟩
      refine ⟨_, _, _, ld1_at h13 rfl, _, _, _, ld1_at h5 rfl, ?_⟩
      obtain ⟨b, o, x, y, z, rfl, hr⟩ := (ho.keep KG (Nat.le_refl _)).read (i := i) (by omega)
      refine ⟨b, o, rfl, by omega, by omega, x, y, z, by rw [Int.toNat_natCast]; exact hr, ?_⟩
      intro b28 G1 hb28 hG1
      have a1 := new1 hb28 hG1
      clear hb28 hG1
      have k1 := a1.next; have m1 := a1.num
      have hq1 : Own 3 G1 q i cs := by
        rcases hq with hq | ⟨b, e, l1, l2, l3, l4⟩
        · exact .inl hq
        · exact .inr ⟨b, e, by omega, l2, l3, a1.far l4 l1⟩
      have hlen : cs.length = i * 3 := by
        rcases hq with ⟨_, rfl, rfl⟩ | ⟨b, e, l1, l2, l3, l4⟩
        · rfl
        · exact l3
      refine apA_own hq1 a1.at_ rfl rfl (by omega) (by omega) (by omega) (by omega) fun G2 p2 => ?_
      have k2 := p2.next
      have ne : ∀ b, b < H15.next → q ≠ some ⟨b, 0, none⟩ := fun b hb e => by have := hqb b e; omega
      have h13' : G2.get b13 = _ := (p2.other b13 (by omega) (ne _ (by omega))).trans (a1.far h13 (by omega))
      refine stV_do h13' rfl rfl (by simp) fun G3 s3 => ?_
      have k3 := s3.next
      refine ⟨rfl, ?_⟩
      have e : IntKind.i64.wrap ((i : Int) + 1) = ((i + 1 : Nat) : Int) := by rw [i64_in _ (by omega)]; omega
      rw [e]
      refine ih (i + 1) G3 (some ⟨G1.next, 0, none⟩) (cs ++ [.int .i64 x, .int .i64 y, .int .i64 z]) (by omega) (by omega) (by omega) ?_ ?_ ?_ s3.at_ ?_ ?_
      · refine ((KG.trans (a1.keep.mono ?_)).trans ⟨by omega, fun b hb => p2.other b ?_ (ne _ ?_)⟩).trans (s3.keep (by omega))
        · have := KG.next; omega
        · have := KG.next; omega
        · have := K15.next; omega
      · exact s3.far ((p2.other b5 (by omega) (ne _ (by omega))).trans (a1.far h5 (by omega))) (by omega)
      · exact s3.far ((p2.other b7 (by omega) (ne _ (by omega))).trans (a1.far h7 (by omega))) (by omega)
      · have hl : (cs ++ [Value.int .i64 x, .int .i64 y, .int .i64 z]).length = (i + 1) * 3 := by simp [hlen]; omega
        rcases p2.own (m := i) hl with ⟨e, _⟩ | ⟨b, e, l1, l2, l3, l4⟩
        · cases e
        · refine .inr ⟨b, e, by omega, l2, l3, s3.far l4 ?_⟩
          cases e; omega
      · intro b e; cases e; omega
  exact loop n 0 H15 none [] (by omega) (by omega) (Nat.le_refl _) K15 g5' g7' g13' (.inl ⟨rfl, rfl, rfl⟩) (fun b e => by cases e)
end Go.Ez
