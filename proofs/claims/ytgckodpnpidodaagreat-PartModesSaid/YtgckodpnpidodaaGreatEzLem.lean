import Derived.Test.YtgckodpnpidodaaGreatEzLift
set_option linter.all false
/- Rules by which conditions are reckoned. -/
set_option linter.unusedVariables false
set_option linter.unusedSimpArgs false
namespace Go.Ez

@[simp] theorem bcase_true {A B : Prop} : bcase true A B = A := rfl
@[simp] theorem bcase_false {A B : Prop} : bcase false A B = B := rfl
theorem bcase_decide {p : Prop} [Decidable p] {A B : Prop} : bcase (decide p) A B ↔ (p → A) ∧ (¬ p → B) := by
  by_cases h : p <;> simp [h]
@[simp] theorem orF_some {v : Value} {K : Value → Prop} : orF (some v) K = K v := rfl
@[simp] theorem orFL_some {v : List Value} {K : List Value → Prop} : orFL (some v) K = K v := rfl
@[simp] theorem nilK_ptr {a : Option Addr} {K : Value → Prop} : nilK (.pointer a) K = ∃ b o, a = some ⟨b, o, none⟩ ∧ K (.pointer (some ⟨b, o, none⟩)) := rfl
@[simp] theorem nilK_iface {t : TypeId} {v : Value} {K : Value → Prop} : nilK (.iface t v) K ↔ K (.iface t v) := by simp [nilK, nilChk]

@[simp] theorem get_alloc_self {H : AH} {B : Blk} : (H.alloc B).get H.next = some B := by simp [AH.get_alloc]
theorem get_alloc_of {H : AH} {B : Blk} {b : Nat} (h : b < H.next) : (H.alloc B).get b = H.get b := by
  rw [AH.get_alloc, if_neg (by omega)]
theorem ld1_eq {H : AH} {b o : Nat} {cs : List Value} {ro : Bool} {g : Nat} (h : H.get b = some (.cells cs ro g)) : ld1 H (.pointer (some ⟨b, o, none⟩)) = cs[o]? := by
  simp [ld1, h]
theorem ldN_eq {H : AH} {b o n : Nat} {cs : List Value} {ro : Bool} {g : Nat} (h : H.get b = some (.cells cs ro g)) :
    ldN H n (.pointer (some ⟨b, o, none⟩)) = if o + n ≤ cs.length then some (.agg ((cs.drop o).take n).toArray) else none := by
  simp only [ldN, ldCells, h]
  by_cases hl : o + n ≤ cs.length
  · rw [if_pos hl]
    have : Nat.ble (o + n) cs.length = true := Nat.ble_eq_true_of_le hl
    simp [this]
  · rw [if_neg hl]
    have : Nat.ble (o + n) cs.length = false := by
      cases hb : Nat.ble (o + n) cs.length with
      | false => rfl
      | true => exact absurd (Nat.le_of_ble_eq_true hb) hl
    simp [this]
theorem stV_eq {H : AH} {b o n : Nat} {x : Value} {cs : List Value} {g : Nat} (h : H.get b = some (.cells cs false g)) (hx : (cellsOf x).length = n) (hc : (cellsOf x).all isCell = true) (hl : o + n ≤ cs.length) :
    stV H n (.pointer (some ⟨b, o, none⟩)) x = some (H.set b (.cells (setMany cs o (cellsOf x)) false g)) := by
  have e1 : Nat.beq (cellsOf x).length n = true := by rw [hx]; exact Nat.beq_refl n
  have e2 : Nat.ble (o + (cellsOf x).length) cs.length = true := Nat.ble_eq_true_of_le (by rw [hx]; exact hl)
  simp only [stV, stCells, h, e1, e2, hc, cond_true, Bool.and_self]

/-- What lay below a number stands. -/
structure Keep (n : Nat) (H H' : AH) : Prop where
  next : H.next ≤ H'.next
  get : ∀ b, b < n → H'.get b = H.get b
theorem Keep.refl (n : Nat) (H : AH) : Keep n H H := ⟨Nat.le_refl _, fun _ _ => rfl⟩
theorem Keep.trans {n : Nat} {H H' H'' : AH} (h : Keep n H H') (k : Keep n H' H'') : Keep n H H'' := ⟨Nat.le_trans h.next k.next, fun b hb => (k.get b hb).trans (h.get b hb)⟩
theorem Keep.mono {n m : Nat} {H H' : AH} (h : Keep n H H') (hm : m ≤ n) : Keep m H H' := ⟨h.next, fun b hb => h.get b (Nat.lt_of_lt_of_le hb hm)⟩
theorem Keep.alloc {n : Nat} {H H' : AH} (h : Keep n H H') (hn : n ≤ H'.next) (B : Blk) : Keep n H (H'.alloc B) := h.trans ⟨Nat.le_succ _, fun b hb => get_alloc_of (Nat.lt_of_lt_of_le hb hn)⟩
theorem Keep.set {n : Nat} {H H' : AH} (h : Keep n H H') {b : Nat} (hb : n ≤ b) (B : Blk) : Keep n H (H'.set b B) := h.trans ⟨Nat.le_refl _, fun c hc => by
    rw [AH.get_set, if_neg (by omega)]⟩
theorem Keep.at_ {n : Nat} {H H' : AH} (h : Keep n H H') {b : Nat} {B : Blk} (hg : H.get b = some B) (hb : b < n) : H'.get b = some B := (h.get b hb).trans hg
/-- One block is written. -/
structure Wrote1 (H H' : AH) (b : Nat) (B : Blk) : Prop where
  next : H'.next = H.next
  at_ : H'.get b = some B
  other : ∀ c, c ≠ b → H'.get c = H.get c
theorem Wrote1.keep {H H' : AH} {b : Nat} {B : Blk} (h : Wrote1 H H' b B) {n : Nat} (hb : n ≤ b) : Keep n H H' := ⟨by rw [h.next]; exact Nat.le_refl _, fun c hc => h.other c (by omega)⟩
theorem Wrote1.far {H H' : AH} {b c : Nat} {B D : Blk} (h : Wrote1 H H' b B) (hg : H.get c = some D) (hc : c ≠ b) : H'.get c = some D := (h.other c hc).trans hg
theorem stV_do {H : AH} {b o n : Nat} {x : Value} {cs : List Value} {g : Nat} {K : AH → Prop} (hg : H.get b = some (.cells cs false g)) (hx : (cellsOf x).length = n) (hc : (cellsOf x).all isCell = true)
    (hl : o + n ≤ cs.length) (h : ∀ H', Wrote1 H H' b (.cells (setMany cs o (cellsOf x)) false g) → K H') : ∃ H', stV H n (.pointer (some ⟨b, o, none⟩)) x = some H' ∧ K H' :=
  ⟨_, stV_eq hg hx hc hl, h _ ⟨rfl, by rw [AH.get_set, if_pos rfl], fun c hc => by rw [AH.get_set, if_neg hc]⟩⟩
theorem ldN_at {H : AH} {b o n : Nat} {cs : List Value} {ro : Bool} {g : Nat} {v : Value} (hg : H.get b = some (.cells cs ro g)) (hl : o + n ≤ cs.length) (hv : Value.agg ((cs.drop o).take n).toArray = v) :
    ldN H n (.pointer (some ⟨b, o, none⟩)) = some v := by rw [ldN_eq hg, if_pos hl, hv]
theorem ld1_at {H : AH} {b o : Nat} {cs : List Value} {ro : Bool} {g : Nat} {v : Value} (hg : H.get b = some (.cells cs ro g)) (hv : cs[o]? = some v) : ld1 H (.pointer (some ⟨b, o, none⟩)) = some v := by rw [ld1_eq hg, hv]
/-- A new block. -/
structure New1 (H H' : AH) (b : Nat) (B : Blk) : Prop where
  num : b = H.next
  next : H'.next = H.next + 1
  at_ : H'.get b = some B
  keep : Keep H.next H H'
theorem new1 {H H' : AH} {b : Nat} {B : Blk} (hb : b = H.next) (hH : H' = H.alloc B) : New1 H H' b B := by
  subst hb; subst hH
  exact ⟨rfl, rfl, get_alloc_self, (Keep.refl _ _).alloc (Nat.le_refl _) _⟩
theorem New1.far {H H' : AH} {b c : Nat} {B D : Blk} (h : New1 H H' b B) (hg : H.get c = some D) (hc : c < H.next) : H'.get c = some D := h.keep.at_ hg hc
/-- A slice that was made by appends alone, and is the only one over its block. -/
def Own (size : Nat) (H : AH) (s : Option Addr) (m : Nat) (cs : List Value) : Prop :=
  (s = none ∧ m = 0 ∧ cs = []) ∨ ∃ b, s = some ⟨b, 0, none⟩ ∧ b < H.next ∧ 0 < m ∧ cs.length = m * size ∧ H.get b = some (.cells cs false size)
/-- One element more. -/
structure App1 (H H' : AH) (s : Option Addr) (B : Blk) : Prop where
  next : H'.next = H.next + 1
  at_ : H'.get H.next = some B
  other : ∀ c, c < H.next → s ≠ some ⟨c, 0, none⟩ → H'.get c = H.get c
theorem apA_own {size bytes : Nat} {H : AH} {s : Option Addr} {m bs : Nat} {cs xs : List Value} {ro : Bool} {g : Nat} {K : Option Addr → Nat → Nat → AH → Prop} (ho : Own size H s m cs)
    (hs : H.get bs = some (.cells xs ro g)) (hx : xs.length = size) (hc : xs.all isCell = true) (h0 : 0 < size) (hb : bytes ≤ 1048576) (hm : (m + 1) * bytes ≤ 140737488351232) (hm2 : m + 1 ≤ 70368744177664)
    (h : ∀ H', App1 H H' s (.cells (cs ++ xs) false size) → K (some ⟨H.next, 0, none⟩) (m + 1) (m + 1) H') :
    ∃ (a : Option Addr) (n c : Nat), ∃ H' : AH, apA H size bytes (.slice s m m) (.slice (some ⟨bs, 0, none⟩) 1 1) = some (.slice a n c, H') ∧ K a n c H' := by
  have e1 : srcA H size (.slice (some ⟨bs, 0, none⟩) 1 1) = some (1, xs) := by
    have : Nat.ble (0 + 1 * size) xs.length = true := Nat.ble_eq_true_of_le (by omega)
    simp only [srcA, ldCells, hs, this, cond_true]
    simp [← hx]
  rcases ho with ⟨rfl, rfl, rfl⟩ | ⟨b, rfl, h1, h2, h3, h4⟩
  · refine ⟨_, _, _, H.alloc (.cells xs false size), ?_, h _ ⟨rfl, by simp, fun c hc _ => get_alloc_of hc⟩⟩
    simp only [apA, e1, Option.bind_some, appendA]
    rw [if_neg (by omega), if_pos ⟨by omega, by omega, by omega, h0⟩]
  · refine ⟨_, _, _, (H.alloc (.cells (cs ++ xs) false size)).kill b, ?_, h _ ⟨rfl, ?_, fun c hc hne => ?_⟩⟩
    · simp only [apA, e1, Option.bind_some, appendA, h4]
      rw [if_neg (by omega), if_neg (by omega), if_pos ⟨hm, hm2, hb, h0, by rw [h3]; omega, hc, .inr (by simp)⟩, if_neg (by omega)]
      rw [List.drop_zero, List.take_of_length_le (by omega)]
    · rw [AH.get_kill, if_neg (by omega)]; exact get_alloc_self
    · have : c ≠ b := fun e => hne (by rw [e])
      rw [AH.get_kill, if_neg this]; exact get_alloc_of hc
theorem App1.own {H H' : AH} {s : Option Addr} {cs : List Value} {size m : Nat} (h : App1 H H' s (.cells cs false size)) (hl : cs.length = (m + 1) * size) : Own size H' (some ⟨H.next, 0, none⟩) (m + 1) cs :=
  .inr ⟨H.next, rfl, by rw [h.next]; omega, by omega, hl, h.at_⟩
end Go.Ez
