set_option linter.all false
/- Plain law: a heap in a list; which number is due first. No program in sight. -/
set_option linter.all false
namespace Go.Ez.Hp

def klt (d : List Int) (a b : Nat) : Prop := d.getD a 0 < d.getD b 0 ∨ (d.getD a 0 = d.getD b 0 ∧ a < b)
instance (d : List Int) (a b : Nat) : Decidable (klt d a b) := by unfold klt; infer_instance
theorem klt.trans {d : List Int} {a b c : Nat} (h : klt d a b) (k : klt d b c) : klt d a c := by unfold klt at *; omega
theorem klt.asymm {d : List Int} {a b : Nat} (h : klt d a b) : ¬ klt d b a := by unfold klt at *; omega
theorem klt.irrefl {d : List Int} {a : Nat} : ¬ klt d a a := by unfold klt; omega
theorem nlt_trans {d : List Int} {a b c : Nat} (h : ¬ klt d a b) (k : ¬ klt d b c) : ¬ klt d a c := by unfold klt at *; omega
theorem nlt_of {d : List Int} {a b c : Nat} (h : ¬ klt d a b) (k : klt d c b) : ¬ klt d a c := by unfold klt at *; omega

abbrev par (k : Nat) : Nat := (k - 1) / 2
def HO (l : List Nat) (d : List Int) (E : Nat → Prop) : Prop := ∀ k, 0 < k → k < l.length → ¬ E k → ¬ klt d (l.getD k 0) (l.getD (par k) 0)
def Br (l : List Nat) (d : List Int) (i : Nat) : Prop := 0 < i → ∀ k, 0 < k → k < l.length → par k = i → ¬ klt d (l.getD k 0) (l.getD (par i) 0)
def sw (l : List Nat) (i k : Nat) : List Nat := (l.set i (l.getD k 0)).set k (l.getD i 0)
@[simp] theorem sw_len {l : List Nat} {i k : Nat} : (sw l i k).length = l.length := by simp [sw]
theorem sw_get {l : List Nat} {i k j : Nat} (hi : i < l.length) (hk : k < l.length) : (sw l i k).getD j 0 = if j = k then l.getD i 0 else if j = i then l.getD k 0 else l.getD j 0 := by
  simp only [sw, List.getD_eq_getElem?_getD, List.getElem?_set]
  by_cases h1 : k = j
  · subst h1; simp [hk]
  · by_cases h2 : i = j
    · subst h2; simp [h1, Ne.symm h1, hi]
    · simp [h1, h2, Ne.symm h1, Ne.symm h2]

theorem up_stop {l : List Nat} {d : List Int} {i : Nat} {m : Bool} (h : HO l d fun k => k = i ∨ (m = false ∧ par k = i)) (hs : i = 0 ∨ ¬ klt d (l.getD i 0) (l.getD (par i) 0)) : HO l d fun k => m = false ∧ par k = i := by
  intro k h0 hk he
  by_cases hki : k = i
  · subst hki
    rcases hs with hs | hs
    · omega
    · exact hs
  · exact h k h0 hk fun e => e.elim hki he
theorem up_step {l : List Nat} {d : List Int} {i : Nat} {m : Bool} (h : HO l d fun k => k = i ∨ (m = false ∧ par k = i)) (hb : Br l d i) (h0 : 0 < i) (hi : i < l.length) (hl : klt d (l.getD i 0) (l.getD (par i) 0)) :
    (HO (sw l i (par i)) d fun k => k = par i ∨ (true = false ∧ par k = par i)) ∧ Br (sw l i (par i)) d (par i) := by
  have hp : par i < l.length := by simp only [par]; omega
  have hpi : par i < i := by simp only [par]; omega
  constructor
  · intro k hk0 hk he
    rw [sw_len] at hk
    have hkp : k ≠ par i := fun e => he (.inl e)
    rw [sw_get hi hp, sw_get hi hp, if_neg hkp]
    by_cases hki : k = i
    · subst hki
      rw [if_pos rfl, if_pos rfl]; exact hl.asymm
    · rw [if_neg hki]
      by_cases h1 : par k = par i
      · rw [if_pos h1]
        have := h k hk0 hk (by rintro (e | ⟨_, e⟩); exact hki e; omega)
        rw [h1] at this
        exact nlt_of this hl
      · rw [if_neg h1]
        by_cases h2 : par k = i
        · rw [if_pos h2]; exact hb h0 k hk0 hk h2
        · rw [if_neg h2]; exact h k hk0 hk (by rintro (e | ⟨_, e⟩); exact hki e; exact h2 e)
  · intro hp0 k hk0 hk hkp
    rw [sw_len] at hk
    have h3 : par (par i) < par i := by simp only [par] at *; omega
    rw [sw_get hi hp, sw_get hi hp]
    have h4 : par (par i) ≠ par i := by omega
    have h5 : par (par i) ≠ i := by omega
    have h6 : k ≠ par i := by intro e; rw [e] at hkp; omega
    rw [if_neg h4, if_neg h5, if_neg h6]
    have h7 := h (par i) hp0 hp (by rintro (e | ⟨_, e⟩); omega; omega)
    by_cases hki : k = i
    · subst hki; rw [if_pos rfl]; exact h7
    · rw [if_neg hki]
      have := h k hk0 hk (by rintro (e | ⟨_, e⟩); exact hki e; omega)
      rw [hkp] at this
      exact nlt_trans this h7

/-- Which one of a place and the two below it is due first. -/
def Least (l : List Nat) (d : List Int) (i b : Nat) : Prop :=
  (b = i ∧ ∀ k, 0 < k → k < l.length → par k = i → ¬ klt d (l.getD k 0) (l.getD i 0)) ∨
  (0 < b ∧ b < l.length ∧ par b = i ∧ klt d (l.getD b 0) (l.getD i 0) ∧ ∀ k, 0 < k → k < l.length → par k = i → ¬ klt d (l.getD k 0) (l.getD b 0))
theorem down_stop {l : List Nat} {d : List Int} {i : Nat} (h : HO l d fun k => par k = i) (hs : Least l d i i) : HO l d fun _ => False := by
  intro k h0 hk _
  by_cases hki : par k = i
  · rcases hs with ⟨_, hs⟩ | ⟨_, _, _, hs, _⟩
    · rw [hki]; exact hs k h0 hk hki
    · exact absurd hs klt.irrefl
  · exact h k h0 hk hki
theorem down_step {l : List Nat} {d : List Int} {i b : Nat} (h : HO l d fun k => par k = i) (hb : Br l d i) (hs : Least l d i b) (hne : b ≠ i) :
    (HO (sw l i b) d fun k => par k = b) ∧ Br (sw l i b) d b ∧ i < b ∧ b < l.length := by
  rcases hs with ⟨e, _⟩ | ⟨hb0, hbl, hbp, hlt, hmin⟩
  · exact absurd e hne
  · have hib : i < b := by simp only [par] at hbp; omega
    have hi : i < l.length := by omega
    refine ⟨fun k hk0 hk he => ?_, fun _ k hk0 hk hkp => ?_, hib, hbl⟩
    · rw [sw_len] at hk
      rw [sw_get hi hbl, sw_get hi hbl, if_neg he]
      by_cases h1 : k = b
      · subst h1
        rw [if_pos rfl, if_pos hbp]; exact hlt.asymm
      · rw [if_neg h1]
        by_cases h2 : k = i
        · subst h2
          have : par k ≠ k := by simp only [par]; omega
          rw [if_pos rfl, if_neg this]; exact hb hk0 b hb0 hbl hbp
        · rw [if_neg h2]
          by_cases h3 : par k = i
          · rw [if_pos h3]; exact hmin k hk0 hk h3
          · rw [if_neg h3]; exact h k hk0 hk h3
    · rw [sw_len] at hk
      have h1 : k ≠ b := by intro e; rw [e] at hkp; simp only [par] at hkp; omega
      have h2 : k ≠ i := by intro e; rw [e] at hkp; simp only [par] at hkp; omega
      rw [sw_get hi hbl, sw_get hi hbl, if_neg h1, if_neg h2, hbp, if_neg (by omega), if_pos rfl]
      have := h k hk0 hk (by omega)
      rw [hkp] at this; exact this

theorem root {l : List Nat} {d : List Int} (h : HO l d fun _ => False) : ∀ k, k < l.length → ¬ klt d (l.getD k 0) (l.getD 0 0) := by
  intro k
  induction k using Nat.strongRecOn with
  | _ k ih =>
    intro hk
    by_cases h0 : k = 0
    · subst h0; exact klt.irrefl
    · have h1 := h k (by omega) hk id
      have h2 := ih (par k) (by simp only [par]; omega) (by simp only [par]; omega)
      exact nlt_trans h1 h2
theorem HO.mono {l : List Nat} {d : List Int} {E F : Nat → Prop} (h : HO l d E) (hf : ∀ k, E k → F k) : HO l d F := fun k h0 hk he => h k h0 hk fun e => he (hf k e)

/-! ### Who stands where -/
/-- Where each one stands; -1: nowhere. -/
structure HW (room : Nat) (l : List Nat) (pl d : List Int) : Prop where
  pll : pl.length = room
  dl : d.length = room
  at_ : ∀ i, i < l.length → l.getD i 0 < room ∧ pl.getD (l.getD i 0) 0 = i
  pl_ : ∀ x, x < room → pl.getD x 0 = -1 ∨ ∃ i, i < l.length ∧ l.getD i 0 = x
theorem HW.inj {room : Nat} {l : List Nat} {pl d : List Int} (h : HW room l pl d) {i k : Nat} (hi : i < l.length) (hk : k < l.length) (e : l.getD i 0 = l.getD k 0) : i = k := by
  have h1 := (h.at_ i hi).2
  have h2 := (h.at_ k hk).2
  rw [e] at h1; omega
theorem set_getD {pl : List Int} {a b : Nat} {x : Int} : (pl.set a x).getD b 0 = if b = a ∧ a < pl.length then x else pl.getD b 0 := by
  simp only [List.getD_eq_getElem?_getD, List.getElem?_set]
  by_cases h : a = b
  · subst h
    by_cases hl : a < pl.length
    · simp [hl]
    · simp [hl]
  · have : ¬ b = a := fun e => h e.symm
    simp [h, this]
theorem HW.swap {room : Nat} {l : List Nat} {pl d : List Int} (h : HW room l pl d) {i k : Nat} (hi : i < l.length) (hk : k < l.length) :
    HW room (sw l i k) ((pl.set (l.getD k 0) i).set (l.getD i 0) k) d := by
  have hai := h.at_ i hi
  have hak := h.at_ k hk
  refine ⟨by simp [h.pll], h.dl, fun j hj => ?_, fun x hx => ?_⟩
  · rw [sw_len] at hj
    have haj := h.at_ j hj
    rw [sw_get hi hk]
    by_cases h1 : j = k
    · subst h1
      rw [if_pos rfl]
      refine ⟨hai.1, ?_⟩
      rw [set_getD, if_pos ⟨rfl, by rw [List.length_set, h.pll]; exact hai.1⟩]
    · rw [if_neg h1]
      by_cases h2 : j = i
      · subst h2
        rw [if_pos rfl]
        refine ⟨hak.1, ?_⟩
        have hne : l.getD k 0 ≠ l.getD j 0 := fun e => h1 (h.inj hj hk e.symm)
        rw [set_getD, if_neg (fun e => hne e.1), set_getD, if_pos ⟨rfl, by rw [h.pll]; exact hak.1⟩]
      · rw [if_neg h2]
        refine ⟨haj.1, ?_⟩
        have n1 : l.getD j 0 ≠ l.getD i 0 := fun e => h2 (h.inj hj hi e)
        have n2 : l.getD j 0 ≠ l.getD k 0 := fun e => h1 (h.inj hj hk e)
        rw [set_getD, if_neg (fun e => n1 e.1), set_getD, if_neg (fun e => n2 e.1)]; exact haj.2
  · by_cases h1 : x = l.getD i 0
    · exact .inr ⟨k, by simpa using hk, by rw [sw_get hi hk, if_pos rfl, h1]⟩
    · by_cases h2 : x = l.getD k 0
      · refine .inr ⟨i, by simpa using hi, ?_⟩
        rw [sw_get hi hk]
        by_cases e : i = k
        · subst e; exact absurd h2 h1
        · rw [if_neg e, if_pos rfl, h2]
      · rcases h.pl_ x hx with h3 | ⟨j, hj, hx'⟩
        · left
          rw [set_getD, if_neg (fun e => h1 e.1), set_getD, if_neg (fun e => h2 e.1)]; exact h3
        · refine .inr ⟨j, by simpa using hj, ?_⟩
          rw [sw_get hi hk, if_neg (fun e => h2 (by rw [← hx', e])), if_neg (fun e => h1 (by rw [← hx', e]))]; exact hx'
theorem mem_sw {l : List Nat} {i k x : Nat} (hi : i < l.length) (hk : k < l.length) : (∃ j, j < (sw l i k).length ∧ (sw l i k).getD j 0 = x) ↔ ∃ j, j < l.length ∧ l.getD j 0 = x := by
  constructor
  · rintro ⟨j, hj, e⟩
    rw [sw_len] at hj
    rw [sw_get hi hk] at e
    split at e
    · exact ⟨i, hi, e⟩
    · split at e
      · exact ⟨k, hk, e⟩
      · exact ⟨j, hj, e⟩
  · rintro ⟨j, hj, e⟩
    by_cases h1 : j = i
    · subst h1; exact ⟨k, by simpa using hk, by rw [sw_get hi hk, if_pos rfl]; exact e⟩
    · by_cases h2 : j = k
      · subst h2
        refine ⟨i, by simpa using hi, ?_⟩
        rw [sw_get hi hk, if_neg (Ne.symm h1), if_pos rfl]; exact e
      · exact ⟨j, by simpa using hj, by rw [sw_get hi hk, if_neg h2, if_neg h1]; exact e⟩

/-- What is in, and when it is due. -/
structure Has (room : Nat) (l : List Nat) (pl d : List Int) (f : Nat → Option Int) : Prop where
  wf : HW room l pl d
  f_ : ∀ x, f x = if ∃ j, j < l.length ∧ l.getD j 0 = x then some (d.getD x 0) else none
theorem Has.some_ {room : Nat} {l : List Nat} {pl d : List Int} {f : Nat → Option Int} (h : Has room l pl d f) {x : Nat} {n : Int} (hf : f x = some n) : ∃ j, j < l.length ∧ l.getD j 0 = x ∧ d.getD x 0 = n ∧ x < room ∧ pl.getD x 0 = j := by
  rw [h.f_] at hf
  split at hf
  · rename_i hx
    obtain ⟨j, hj, e⟩ := hx
    have := h.wf.at_ j hj
    cases hf
    subst e
    exact ⟨j, hj, rfl, rfl, this.1, this.2⟩
  · cases hf
theorem Has.none_ {room : Nat} {l : List Nat} {pl d : List Int} {f : Nat → Option Int} (h : Has room l pl d f) {x : Nat} (hx : x < room) (hf : f x = none) : pl.getD x 0 = -1 := by
  rw [h.f_] at hf
  split at hf
  · cases hf
  · rename_i hn
    rcases h.wf.pl_ x hx with h | h
    · exact h
    · exact absurd h hn
theorem Has.at0 {room : Nat} {l : List Nat} {pl d : List Int} {f : Nat → Option Int} (h : Has room l pl d f) {i : Nat} (hi : i < l.length) : f (l.getD i 0) = some (d.getD (l.getD i 0) 0) := by
  rw [h.f_, if_pos ⟨i, hi, rfl⟩]
theorem Has.empty {room : Nat} {l : List Nat} {pl d : List Int} {f : Nat → Option Int} (h : Has room l pl d f) : l = [] ↔ ∀ x, f x = none := by
  constructor
  · intro e x
    rw [h.f_, if_neg]; rintro ⟨j, hj, _⟩; rw [e] at hj; simp at hj
  · intro hn
    rcases Nat.eq_zero_or_pos l.length with e | e
    · exact List.eq_nil_of_length_eq_zero e
    · have := h.at0 e; rw [hn] at this; cases this
theorem Has.swap {room : Nat} {l : List Nat} {pl d : List Int} {f : Nat → Option Int} (h : Has room l pl d f) {i k : Nat} (hi : i < l.length) (hk : k < l.length) : Has room (sw l i k) ((pl.set (l.getD k 0) i).set (l.getD i 0) k) d f :=
  ⟨h.wf.swap hi hk, fun x => by rw [h.f_]; simp only [mem_sw hi hk]⟩
/-- One more, at the end. -/
theorem Has.put {room : Nat} {l : List Nat} {pl d : List Int} {f : Nat → Option Int} (h : Has room l pl d f) {x : Nat} {n : Int} (hx : x < room) (hf : f x = none) :
    Has room (l ++ [x]) (pl.set x l.length) (d.set x n) (fun y => if y = x then some n else f y) := by
  have hnot : ¬ ∃ j, j < l.length ∧ l.getD j 0 = x := fun hj => by rw [h.f_, if_pos hj] at hf; cases hf
  have gl : ∀ j, j < l.length → (l ++ [x]).getD j 0 = l.getD j 0 := fun j hj => by simp [List.getD_eq_getElem?_getD, List.getElem?_append_left hj]
  have ge : (l ++ [x]).getD l.length 0 = x := by simp [List.getD_eq_getElem?_getD]
  refine ⟨⟨by simp [h.wf.pll], by simp [h.wf.dl], fun j hj => ?_, fun y hy => ?_⟩, fun y => ?_⟩
  · simp only [List.length_append, List.length_singleton] at hj
    by_cases hjl : j < l.length
    · rw [gl j hjl]
      have := h.wf.at_ j hjl
      have hne : l.getD j 0 ≠ x := fun e => hnot ⟨j, hjl, e⟩
      exact ⟨this.1, by rw [set_getD, if_neg (fun e => hne e.1)]; exact this.2⟩
    · have : j = l.length := by omega
      subst this
      rw [ge]
      exact ⟨hx, by rw [set_getD, if_pos ⟨rfl, by rw [h.wf.pll]; exact hx⟩]⟩
  · by_cases hyx : y = x
    · subst hyx; exact .inr ⟨l.length, by simp, ge⟩
    · rcases h.wf.pl_ y hy with h1 | ⟨j, hj, e⟩
      · left; rw [set_getD, if_neg (fun e => hyx e.1)]; exact h1
      · exact .inr ⟨j, by simp; omega, by rw [gl j hj]; exact e⟩
  · by_cases hyx : y = x
    · subst hyx
      rw [if_pos rfl, if_pos ⟨l.length, by simp, ge⟩, set_getD, if_pos ⟨rfl, by rw [h.wf.dl]; exact hx⟩]
    · have e3 : (d.set x n).getD y 0 = d.getD y 0 := by rw [set_getD, if_neg (fun e => hyx e.1)]
      rw [if_neg hyx, h.f_, e3]
      have : (∃ j, j < (l ++ [x]).length ∧ (l ++ [x]).getD j 0 = y) ↔ ∃ j, j < l.length ∧ l.getD j 0 = y := by
        constructor
        · rintro ⟨j, hj, e⟩
          simp only [List.length_append, List.length_singleton] at hj
          by_cases hjl : j < l.length
          · exact ⟨j, hjl, by rw [gl j hjl] at e; exact e⟩
          · have : j = l.length := by omega
            subst this; rw [ge] at e; exact absurd e.symm hyx
        · rintro ⟨j, hj, e⟩
          exact ⟨j, by simp; omega, by rw [gl j hj]; exact e⟩
      simp only [this]
/-- Another time. -/
theorem Has.change {room : Nat} {l : List Nat} {pl d : List Int} {f : Nat → Option Int} (h : Has room l pl d f) {x : Nat} {n m : Int} (hf : f x = some m) :
    Has room l pl (d.set x n) (fun y => if y = x then some n else f y) := by
  obtain ⟨j, hj, e, _, hx, _⟩ := h.some_ hf
  refine ⟨⟨h.wf.pll, by simp [h.wf.dl], h.wf.at_, h.wf.pl_⟩, fun y => ?_⟩
  by_cases hyx : y = x
  · subst hyx; rw [if_pos rfl, if_pos ⟨j, hj, e⟩, set_getD, if_pos ⟨rfl, by rw [h.wf.dl]; exact hx⟩]
  · have e3 : (d.set x n).getD y 0 = d.getD y 0 := by rw [set_getD, if_neg (fun e => hyx e.1)]
    rw [if_neg hyx, h.f_, e3]
/-- The last one is out. -/
theorem Has.pop {room : Nat} {l : List Nat} {pl d : List Int} {f : Nat → Option Int} (h : Has room l pl d f) {x : Nat} (h0 : 0 < l.length) (hx : l.getD (l.length - 1) 0 = x) :
    Has room (l.take (l.length - 1)) (pl.set x (-1)) d (fun y => if y = x then none else f y) := by
  have gl : ∀ j, j < l.length - 1 → (l.take (l.length - 1)).getD j 0 = l.getD j 0 := fun j hj => by rw [List.getD_eq_getElem?_getD, List.getD_eq_getElem?_getD, List.getElem?_take, if_pos hj]
  have hlen : (l.take (l.length - 1)).length = l.length - 1 := by simp
  refine ⟨⟨by simp [h.wf.pll], h.wf.dl, fun j hj => ?_, fun y hy => ?_⟩, fun y => ?_⟩
  · rw [hlen] at hj
    rw [gl j hj]
    have := h.wf.at_ j (by omega)
    have hne : l.getD j 0 ≠ x := fun e => by
      have := h.wf.inj (i := j) (k := l.length - 1) (by omega) (by omega) (by rw [e, hx])
      omega
    exact ⟨this.1, by rw [set_getD, if_neg (fun e => hne e.1)]; exact this.2⟩
  · by_cases hyx : y = x
    · left; rw [set_getD, if_pos ⟨hyx, by rw [h.wf.pll, ← hyx]; exact hy⟩]
    · rcases h.wf.pl_ y hy with h1 | ⟨j, hj, e⟩
      · left; rw [set_getD, if_neg (fun e => hyx e.1)]; exact h1
      · have : j ≠ l.length - 1 := fun ej => hyx (by rw [← e, ej, hx])
        exact .inr ⟨j, by rw [hlen]; omega, by rw [gl j (by omega)]; exact e⟩
  · by_cases hyx : y = x
    · rw [if_pos hyx, if_neg]
      rintro ⟨j, hj, e⟩
      rw [hlen] at hj
      rw [gl j hj] at e
      have := h.wf.inj (i := j) (k := l.length - 1) (by omega) (by omega) (by rw [e, hx, hyx])
      omega
    · rw [if_neg hyx, h.f_]
      have : (∃ j, j < l.length ∧ l.getD j 0 = y) ↔ ∃ j, j < (l.take (l.length - 1)).length ∧ (l.take (l.length - 1)).getD j 0 = y := by
        constructor
        · rintro ⟨j, hj, e⟩
          have : j ≠ l.length - 1 := fun ej => hyx (by rw [← e, ej, hx])
          exact ⟨j, by rw [hlen]; omega, by rw [gl j (by omega)]; exact e⟩
        · rintro ⟨j, hj, e⟩
          rw [hlen] at hj
          exact ⟨j, by omega, by rw [gl j hj] at e; exact e⟩
      simp only [this]

theorem nodup_len : ∀ (n : Nat) (l : List Nat), l.Nodup → (∀ x ∈ l, x < n) → l.length ≤ n
  | 0, l, _, h => by
    cases l with
    | nil => simp
    | cons x l => exact absurd (h x (by simp)) (Nat.not_lt_zero x)
  | n + 1, l, hn, h => by
    by_cases hm : n ∈ l
    · have h1 := nodup_len n (l.erase n) (hn.erase n) fun x hx => by
        have h2 := (hn.mem_erase_iff).mp hx
        have := h x h2.2
        have := h2.1
        omega
      have := List.length_erase_of_mem hm
      omega
    · have := nodup_len n l hn fun x hx => by
        have := h x hx
        have : x ≠ n := fun e => hm (by rw [← e]; exact hx)
        omega
      omega
theorem HW.nodup {room : Nat} {l : List Nat} {pl d : List Int} (h : HW room l pl d) : l.Nodup := by
  rw [List.Nodup, List.pairwise_iff_getElem]
  intro i j hi hj hij e
  have := h.inj hi hj (by simp [List.getD_eq_getElem?_getD, hi, hj, e])
  omega
theorem Has.len_le {room : Nat} {l : List Nat} {pl d : List Int} {f : Nat → Option Int} (h : Has room l pl d f) : l.length ≤ room := by
  refine nodup_len room l h.wf.nodup fun x hx => ?_
  obtain ⟨i, hi, e⟩ := List.getElem_of_mem hx
  have := (h.wf.at_ i hi).1
  rw [← e]
  simpa [List.getD_eq_getElem?_getD, hi] using this
end Go.Ez.Hp
