import Derived.Test.YtgckodpnpidodaaGreatEzTop
import Derived.IntWalk
set_option linter.all false
/- Slices of numbers: read and written. -/
set_option linter.all false
namespace Go.Ez
open Go.IntWalk

/-- One number, one cell. -/
def eI (x : Int) : List Value := [vI x]
def eN (x : Nat) : List Value := [vI x]
theorem eI_len (x : Int) : (eI x).length = 1 := rfl
theorem eN_len (x : Nat) : (eN x).length = 1 := rfl
theorem eI_cell (x : Int) : (eI x).all isCell = true := rfl
theorem eN_cell (x : Nat) : (eN x).all isCell = true := rfl
theorem flat_eI (l : List Int) : l.flatMap eI = l.map vI := by induction l <;> simp_all [eI]

/-- A loop that counts up. -/
theorem loop_up {σ : Type} {X : List Value → AH → Prop} (vs : Nat → σ → List Value) (I : Nat → σ → AH → Prop) (n : Nat) (last : ∀ s G, I n s G → X (vs n s) G)
    (step : ∀ k s G, k < n → I k s G → (∀ s' G', I (k + 1) s' G' → X (vs (k + 1) s') G') → X (vs k s) G) : ∀ k s G, k ≤ n → I k s G → X (vs k s) G := by
  intro k s G hk h
  obtain ⟨m, hm⟩ : ∃ m, n - k = m := ⟨_, rfl⟩
  induction m generalizing k s G with
  | zero =>
    have : k = n := by omega
    subst this; exact last s G h
  | succ m ih => exact step k s G (by omega) h fun s' G' h' => ih (k + 1) s' G' (by omega) h' (by omega)
theorem bcase_dec {p : Prop} [Decidable p] {A B : Prop} (h1 : p → A) (h2 : ¬ p → B) : bcase (decide p) A B := bcase_decide.mpr ⟨h1, h2⟩
theorem bcase_both {b : Bool} {A B : Prop} (h1 : b = true → A) (h2 : b = false → B) : bcase b A B := bcase_iff.mpr ⟨h1, h2⟩
theorem bcase_t {b : Bool} {A B : Prop} (h : b = true) (h1 : A) : bcase b A B := by rw [h]; exact h1
theorem bcase_f {b : Bool} {A B : Prop} (h : b = false) (h1 : B) : bcase b A B := by rw [h]; exact h1

section
variable {H : AH} {col : Col} {c : List Nat} {a : Option Addr} {n cap : Nat}
theorem SlE.rdI {l : List Int} (h : SlE eI 1 H col c a n cap l) {i : Int} {k : Nat} (hi : i = k) {x : Int} (hx : l[k]? = some x) {K : Int → Prop} (hK : K x) :
    ix a n i fun b o => ld_i H (some ⟨b, o + Int.toNat i * 1, none⟩) K := by
  obtain ⟨b, o, ds, g, rfl, hb, h2, _, h4, _⟩ := h.at_ eI_len hx
  subst hi
  have hk : k < n := by
    rw [h.1]
    rcases Nat.lt_or_ge k l.length with h | h
    · exact h
    · rw [List.getElem?_eq_none h] at hx; cases hx
  exact ix.mk (by omega) (by omega) (ld_i.mk hb.get (by have := h4 0 (by decide); simpa [eI] using this) hK)
theorem SlE.rdN {l : List Nat} (h : SlE eN 1 H col c a n cap l) {i : Int} {k : Nat} (hi : i = k) {x : Nat} (hx : l[k]? = some x) {K : Int → Prop} (hK : K x) :
    ix a n i fun b o => ld_i H (some ⟨b, o + Int.toNat i * 1, none⟩) K := by
  obtain ⟨b, o, ds, g, rfl, hb, h2, _, h4, _⟩ := h.at_ eN_len hx
  subst hi
  have hk : k < n := by
    rw [h.1]
    rcases Nat.lt_or_ge k l.length with h | h
    · exact h
    · rw [List.getElem?_eq_none h] at hx; cases hx
  exact ix.mk (by omega) (by omega) (ld_i.mk hb.get (by have := h4 0 (by decide); simpa [eN] using this) hK)
theorem SlE.wrI {l : List Int} (h : SlE eI 1 H col c a n cap l) {i : Int} {k : Nat} (hi : i = k) (hk : k < l.length) {y : Int} {K : AH → Prop}
    (hK : ∀ H', SlE eI 1 H' col c a n cap (l.set k y) → Stp (fun x => x = c) col H col H' → K H') :
    ix a n i fun b o => st H 1 (some ⟨b, o + Int.toNat i * 1, none⟩) (vI y) K := by
  obtain ⟨b, o, ds, g, rfl, hb, h2, _, h4, h5⟩ := h.at_ eI_len (List.getElem?_eq_getElem hk)
  subst hi
  have := h.1
  refine ix.mk (by omega) (by omega) (st.do hb.get rfl rfl (by simpa using h2) fun H' s => ?_)
  obtain ⟨b1, s1⟩ := hb.wrote s
  exact hK H' (h5 y H' col (by simpa [cellsOf, eI] using b1)) s1
theorem SlE.wrN {l : List Nat} (h : SlE eN 1 H col c a n cap l) {i : Int} {k : Nat} (hi : i = k) (hk : k < l.length) {y : Nat} {z : Int} (hz : z = y) {K : AH → Prop}
    (hK : ∀ H', SlE eN 1 H' col c a n cap (l.set k y) → Stp (fun x => x = c) col H col H' → K H') :
    ix a n i fun b o => st H 1 (some ⟨b, o + Int.toNat i * 1, none⟩) (vI z) K := by
  obtain ⟨b, o, ds, g, rfl, hb, h2, _, h4, h5⟩ := h.at_ eN_len (List.getElem?_eq_getElem hk)
  subst hi; subst hz
  have := h.1
  refine ix.mk (by omega) (by omega) (st.do hb.get rfl rfl (by simpa using h2) fun H' s => ?_)
  obtain ⟨b1, s1⟩ := hb.wrote s
  exact hK H' (h5 y H' col (by simpa [cellsOf, eN] using b1)) s1
end
theorem get_some {α : Type} {l : List α} {k : Nat} (hk : k < l.length) (d : α) : l[k]? = some (l.getD k d) := by simp [List.getD_eq_getElem?_getD, hk]
end Go.Ez
