import Derived.Test.YtgckodpnpidodaaGreatMod
set_option linter.all false
/- Budgets of servers, of either kind: plain words and laws. -/
set_option linter.all false
namespace Go.Ez
def sumBy {α : Type} (f : α → Int) : List α → Int
  | [] => 0
  | x :: l => f x + sumBy f l
theorem sumBy_app {α : Type} (f : α → Int) : ∀ l m : List α, sumBy f (l ++ m) = sumBy f l + sumBy f m
  | [], m => by simp [sumBy]
  | x :: l, m => by simp only [List.cons_append, sumBy, sumBy_app f l m]; omega
theorem sumBy_len {α : Type} (f : α → Int) : ∀ l : List α, (∀ x ∈ l, 1 ≤ f x) → (l.length : Int) ≤ sumBy f l
  | [], _ => by simp [sumBy]
  | x :: l, h => by
    have h1 := h x (by simp)
    have h2 := sumBy_len f l fun y hy => h y (by simp [hy])
    simp only [List.length_cons, sumBy]; omega
theorem sumBy_pos {α : Type} (f : α → Int) : ∀ l : List α, (∀ x ∈ l, 0 ≤ f x) → 0 ≤ sumBy f l
  | [], _ => by simp [sumBy]
  | x :: l, h => by
    have h1 := h x (by simp)
    have h2 := sumBy_pos f l fun y hy => h y (by simp [hy])
    simp only [sumBy]; omega
theorem sumBy_take {α : Type} (f : α → Int) (l : List α) (h : ∀ x ∈ l, 0 ≤ f x) (k : Nat) : 0 ≤ sumBy f (l.take k) ∧ sumBy f (l.take k) ≤ sumBy f l := by
  have e : sumBy f l = sumBy f (l.take k) + sumBy f (l.drop k) := by rw [← sumBy_app, List.take_append_drop]
  have h1 := sumBy_pos f (l.take k) fun x hx => h x (List.mem_of_mem_take hx)
  have h2 := sumBy_pos f (l.drop k) fun x hx => h x (List.mem_of_mem_drop hx)
  omega

abbrev tickMax : Int := 4611686018427387904
/-- A number, divided and rounded down. -/
def floorI (a b : Int) : Int := if b < 1 then 0 else a.tdiv b - (if a.tmod b < 0 then 1 else 0)

/-! ### A budget that is filled again in each period -/
structure RefB where
  l : List (Int × Int)
  s : SrvC
  start : Int
  now : Int
  free : Int
  still : Bool
def RefB.left (b : RefB) : Int := sumBy (·.2) b.l
def RefB.period (b : RefB) (tick : Int) : Int := floorI (tick - b.start) b.s.T
structure RefOk (b : RefB) : Prop where
  right : b.s.right = true
  start0 : 0 ≤ b.start
  start1 : b.start ≤ tickMax
  now0 : 0 ≤ b.now
  now1 : b.now ≤ tickMax
  ls : ∀ x ∈ b.l, 1 ≤ x.2 ∧ 0 ≤ x.1 ∧ x.1 ≤ tickMax
  free0 : 0 ≤ b.free
  sum : b.left + b.free ≤ b.s.C
theorem RefOk.lens {b : RefB} (h : RefOk b) : (b.l.length : Int) ≤ b.left ∧ b.left ≤ b.s.C ∧ 1 ≤ b.s.C ∧ b.s.C ≤ b.s.T ∧ b.s.T ≤ 1000 := by
  have h1 := sumBy_len (fun x : Int × Int => x.2) b.l fun x hx => (h.ls x hx).1
  have h2 := SrvC.right_iff.mp h.right
  have h3 := h.sum
  have h4 := h.free0
  unfold RefB.left at *
  omega
def RefB.fill (b : RefB) (now : Int) : Int := if b.period b.now < b.period now then b.s.C - b.left else b.free
def RefB.go (b : RefB) (now : Int) (busy : Bool) : RefB :=
  if busy = true ∧ b.still = false ∧ 0 < b.fill now then { b with now := now, l := b.l ++ [(now, b.fill now)], free := 0 } else { b with now := now, free := b.fill now }
def RefB.due (b : RefB) : Option Int := (b.l.head?).map fun x => x.1 + b.s.T
def RefB.use (b : RefB) : RefB :=
  match b.l with
  | [] => b
  | x :: l => if x.2 - 1 = 0 then { b with l := l } else { b with l := (x.1, x.2 - 1) :: l }
def RefB.done (b : RefB) : RefB := { b with free := b.free + b.left, l := [] }
def RefB.stop (b : RefB) : RefB := { b.done with still := true }
def RefB.resume (b : RefB) : RefB := { b with still := false }
def RefB.reset (b : RefB) : RefB := { b with l := [], free := b.s.C, still := false }
theorem RefOk.go {b : RefB} (h : RefOk b) {now : Int} {busy : Bool} (h0 : 0 ≤ now) (h1 : now ≤ tickMax) : RefOk (b.go now busy) := by
  have hl := h.lens
  have hf : 0 ≤ b.fill now ∧ b.left + b.fill now ≤ b.s.C := by
    have := h.free0; have := h.sum
    unfold RefB.fill
    split <;> omega
  unfold RefB.go
  by_cases hc : busy = true ∧ b.still = false ∧ 0 < b.fill now
  · rw [if_pos hc]
    refine ⟨h.right, h.start0, h.start1, h0, h1, fun x hx => ?_, Int.le_refl 0, ?_⟩
    · simp only [List.mem_append, List.mem_singleton] at hx
      rcases hx with hx | hx
      · exact h.ls x hx
      · subst hx; exact ⟨by have := hc.2.2; omega, h0, h1⟩
    · show sumBy _ (b.l ++ [_]) + 0 ≤ b.s.C
      rw [sumBy_app]
      have := hf.2
      unfold RefB.left at this
      simp only [sumBy] at this ⊢
      omega
  · rw [if_neg hc]; exact ⟨h.right, h.start0, h.start1, h0, h1, h.ls, hf.1, hf.2⟩
theorem RefOk.use {b : RefB} (h : RefOk b) : RefOk b.use := by
  unfold RefB.use
  split
  · exact h
  · rename_i x l e
    have hx := h.ls x (by rw [e]; simp)
    have hs := h.sum
    unfold RefB.left at hs
    rw [e] at hs
    simp only [sumBy] at hs
    split
    · refine ⟨h.right, h.start0, h.start1, h.now0, h.now1, fun y hy => h.ls y (by rw [e]; simp [hy]), h.free0, ?_⟩
      show sumBy _ l + b.free ≤ b.s.C; omega
    · refine ⟨h.right, h.start0, h.start1, h.now0, h.now1, fun y hy => ?_, h.free0, ?_⟩
      · simp only [List.mem_cons] at hy
        rcases hy with rfl | hy
        · exact ⟨by show 1 ≤ x.2 - 1; omega, hx.2.1, hx.2.2⟩
        · exact h.ls y (by rw [e]; simp [hy])
      · show sumBy _ (_ :: l) + b.free ≤ b.s.C
        simp only [sumBy]; omega
theorem RefOk.done {b : RefB} (h : RefOk b) : RefOk b.done := by
  have := h.lens
  have := h.sum; have := h.free0
  exact ⟨h.right, h.start0, h.start1, h.now0, h.now1, fun y hy => by simp [RefB.done] at hy, by show 0 ≤ b.free + b.left; omega, by show 0 + (b.free + b.left) ≤ b.s.C; omega⟩
theorem RefOk.stop {b : RefB} (h : RefOk b) : RefOk b.stop := let k := h.done; ⟨k.right, k.start0, k.start1, k.now0, k.now1, k.ls, k.free0, k.sum⟩
theorem RefOk.resume {b : RefB} (k : RefOk b) : RefOk b.resume := ⟨k.right, k.start0, k.start1, k.now0, k.now1, k.ls, k.free0, k.sum⟩
theorem RefOk.reset {b : RefB} (h : RefOk b) : RefOk b.reset := by
  have := h.lens
  exact ⟨h.right, h.start0, h.start1, h.now0, h.now1, fun y hy => by simp [RefB.reset] at hy, by show 0 ≤ b.s.C; omega, by show 0 + b.s.C ≤ b.s.C; omega⟩

/-! ### A budget whose ticks come back a period behind their use -/
structure ChkB where
  l : List (Int × Int × Int)
  s : SrvC
  free : Int
  back : List (Int × Int)
  still : Bool
def ChkB.held (b : ChkB) : Int := sumBy (fun x => x.2.1 + x.2.2) b.l
def ChkB.owed (b : ChkB) : Int := sumBy (·.2) b.back
structure ChkOk (b : ChkB) : Prop where
  right : b.s.right = true
  ls : ∀ x ∈ b.l, 1 ≤ x.2.1 ∧ 0 ≤ x.2.2 ∧ 0 ≤ x.1 ∧ x.1 ≤ tickMax
  bs : ∀ x ∈ b.back, 1 ≤ x.2
  free0 : 0 ≤ b.free
  sum : b.held + b.owed + b.free ≤ b.s.C
theorem ChkOk.lens {b : ChkB} (h : ChkOk b) : (b.l.length : Int) ≤ b.held ∧ (b.back.length : Int) ≤ b.owed ∧ b.held + b.owed ≤ b.s.C ∧ 1 ≤ b.s.C ∧ b.s.C ≤ b.s.T ∧ b.s.T ≤ 1000 := by
  have h1 := sumBy_len (fun x : Int × Int × Int => x.2.1 + x.2.2) b.l fun x hx => by have := h.ls x hx; omega
  have h2 := SrvC.right_iff.mp h.right
  have h3 := h.sum
  have h4 := h.free0
  have h5 := sumBy_len (fun x : Int × Int => x.2) b.back fun x hx => h.bs x hx
  unfold ChkB.held ChkB.owed at *
  omega
def ChkB.ripe (b : ChkB) (now : Int) : Int := sumBy (·.2) (b.back.filter fun x => decide (x.1 ≤ now))
def ChkB.kept (b : ChkB) (now : Int) : List (Int × Int) := b.back.filter fun x => !decide (x.1 ≤ now)
def ChkB.go (b : ChkB) (now : Int) (busy : Bool) : ChkB :=
  if busy = true ∧ b.still = false ∧ 0 < b.free + b.ripe now then { b with back := b.kept now, l := b.l ++ [(now, b.free + b.ripe now, 0)], free := 0 } else { b with back := b.kept now, free := b.free + b.ripe now }
def ChkB.due (b : ChkB) : Option Int := (b.l.head?).map fun x => x.1 + b.s.T
/-- What was used of a chunk is to be back when it was due. -/
def ChkB.owe (b : ChkB) (x : Int × Int × Int) : ChkB := if 0 < x.2.2 then { b with back := b.back ++ [(x.1 + b.s.T, x.2.2)] } else b
def ChkB.use (b : ChkB) : ChkB :=
  match b.l with
  | [] => b
  | x :: l => if x.2.1 - 1 = 0 then { b.owe (x.1, 0, x.2.2 + 1) with l := l } else { b with l := (x.1, x.2.1 - 1, x.2.2 + 1) :: l }
def ChkB.pay (b : ChkB) (x : Int × Int × Int) : ChkB := ({ b with free := b.free + x.2.1 } : ChkB).owe x
def ChkB.done (b : ChkB) : ChkB := b.l.foldl ChkB.pay { b with l := [] }
def ChkB.stop (b : ChkB) : ChkB := { b.done with still := true }
def ChkB.resume (b : ChkB) : ChkB := { b with still := false }
def ChkB.reset (b : ChkB) : ChkB := { b with l := [], free := b.s.C, back := [], still := false }
theorem filter_sum (f : Int × Int → Bool) : ∀ l : List (Int × Int), sumBy (fun x => x.2) (l.filter f) + sumBy (fun x => x.2) (l.filter fun x => !f x) = sumBy (fun x => x.2) l
  | [] => by simp [sumBy]
  | x :: l => by
    have := filter_sum f l
    cases hx : f x <;> simp [List.filter_cons, hx, sumBy] <;> omega
theorem ChkOk.go {b : ChkB} (h : ChkOk b) {now : Int} {busy : Bool} (h0 : 0 ≤ now) (h1 : now ≤ tickMax) : ChkOk (b.go now busy) := by
  have hs := h.sum
  have hf0 := h.free0
  have hfs := filter_sum (fun x => decide (x.1 ≤ now)) b.back
  have hr0 : 0 ≤ b.ripe now := sumBy_pos _ _ fun x hx => by have := h.bs x ((List.mem_filter.mp hx).1); show 0 ≤ x.2; omega
  unfold ChkB.owed at hs
  unfold ChkB.go
  have hbs : ∀ x ∈ b.kept now, 1 ≤ x.2 := fun x hx => h.bs x ((List.mem_filter.mp hx).1)
  by_cases hc : busy = true ∧ b.still = false ∧ 0 < b.free + b.ripe now
  · rw [if_pos hc]
    refine ⟨h.right, fun x hx => ?_, hbs, Int.le_refl 0, ?_⟩
    · simp only [List.mem_append, List.mem_singleton] at hx
      rcases hx with hx | hx
      · exact h.ls x hx
      · subst hx; exact ⟨by have := hc.2.2; show 1 ≤ b.free + b.ripe now; omega, Int.le_refl 0, h0, h1⟩
    · show sumBy _ (b.l ++ [_]) + sumBy _ (b.kept now) + 0 ≤ b.s.C
      rw [sumBy_app]
      unfold ChkB.held at hs
      unfold ChkB.ripe ChkB.kept at *
      simp only [sumBy] at hs ⊢
      omega
  · rw [if_neg hc]
    refine ⟨h.right, h.ls, hbs, by show 0 ≤ b.free + b.ripe now; omega, ?_⟩
    show b.held + sumBy _ (b.kept now) + (b.free + b.ripe now) ≤ b.s.C
    unfold ChkB.ripe ChkB.kept at *
    omega
/-- What is owed of a chunk, and what else there is, is not too much. -/
theorem ChkOk.owe {b : ChkB} {x : Int × Int × Int} (h : ChkOk b) (hx : b.held + b.owed + b.free + x.2.2 ≤ b.s.C) : ChkOk (b.owe x) := by
  unfold ChkB.owe
  split
  · rename_i h0
    refine ⟨h.right, h.ls, fun y hy => ?_, h.free0, ?_⟩
    · simp only [List.mem_append, List.mem_singleton] at hy
      rcases hy with hy | hy
      · exact h.bs y hy
      · subst hy; show 1 ≤ x.2.2; omega
    · show b.held + sumBy _ (b.back ++ [_]) + b.free ≤ b.s.C
      rw [sumBy_app]
      unfold ChkB.owed at hx
      simp only [sumBy] at hx ⊢
      omega
  · exact h
theorem owe_l {b : ChkB} {x : Int × Int × Int} : (b.owe x).l = b.l ∧ (b.owe x).s = b.s ∧ (b.owe x).free = b.free ∧ (b.owe x).still = b.still := by
  unfold ChkB.owe; split <;> exact ⟨rfl, rfl, rfl, rfl⟩
theorem owe_owed {b : ChkB} {x : Int × Int × Int} (hx : 0 ≤ x.2.2) : (b.owe x).owed = b.owed + x.2.2 := by
  unfold ChkB.owe ChkB.owed
  split
  · show sumBy _ (b.back ++ [_]) = _
    rw [sumBy_app]; simp only [sumBy]; omega
  · omega
theorem ChkOk.use {b : ChkB} (h : ChkOk b) : ChkOk b.use := by
  unfold ChkB.use
  split
  · exact h
  · rename_i x l e
    have hx := h.ls x (by rw [e]; simp)
    have hs := h.sum
    unfold ChkB.held at hs
    rw [e] at hs
    simp only [sumBy] at hs
    have hl : ∀ y ∈ l, 1 ≤ y.2.1 ∧ 0 ≤ y.2.2 ∧ 0 ≤ y.1 ∧ y.1 ≤ tickMax := fun y hy => h.ls y (by rw [e]; simp [hy])
    split
    · have hb : ChkOk { b with l := l } := ⟨h.right, hl, h.bs, h.free0, by show sumBy _ l + b.owed + b.free ≤ b.s.C; omega⟩
      have := hb.owe (x := (x.1, 0, x.2.2 + 1)) (by show sumBy _ l + b.owed + b.free + (x.2.2 + 1) ≤ b.s.C; omega)
      have e2 : ({ b.owe (x.1, 0, x.2.2 + 1) with l := l } : ChkB) = ({ b with l := l } : ChkB).owe (x.1, 0, x.2.2 + 1) := by
        unfold ChkB.owe; split <;> rfl
      rw [e2]; exact this
    · refine ⟨h.right, fun y hy => ?_, h.bs, h.free0, ?_⟩
      · simp only [List.mem_cons] at hy
        rcases hy with rfl | hy
        · exact ⟨by show 1 ≤ x.2.1 - 1; omega, by show 0 ≤ x.2.2 + 1; omega, hx.2.2.1, hx.2.2.2⟩
        · exact hl y hy
      · show sumBy _ (_ :: l) + b.owed + b.free ≤ b.s.C
        simp only [sumBy]; omega
/-- Chunks that are paid back, one by one. -/
theorem ChkOk.pays : ∀ (l : List (Int × Int × Int)) {b : ChkB}, ChkOk b → (∀ x ∈ l, 1 ≤ x.2.1 ∧ 0 ≤ x.2.2 ∧ 0 ≤ x.1 ∧ x.1 ≤ tickMax) → b.held + b.owed + b.free + sumBy (fun x => x.2.1 + x.2.2) l ≤ b.s.C → ChkOk (l.foldl ChkB.pay b)
  | [], b, h, _, _ => h
  | x :: l, b, h, hl, hs => by
    have hx := hl x (by simp)
    simp only [sumBy] at hs
    have hsl := sumBy_pos (fun x : Int × Int × Int => x.2.1 + x.2.2) l fun y hy => by have := hl y (by simp [hy]); omega
    have h1 : ChkOk { b with free := b.free + x.2.1 } := ⟨h.right, h.ls, h.bs, by have := h.free0; show 0 ≤ b.free + x.2.1; omega, by show b.held + b.owed + (b.free + x.2.1) ≤ b.s.C; omega⟩
    have h2 : ChkOk (b.pay x) := h1.owe (by show b.held + b.owed + (b.free + x.2.1) + x.2.2 ≤ b.s.C; omega)
    refine ChkOk.pays l h2 (fun y hy => hl y (by simp [hy])) ?_
    have e1 : (b.pay x).held = b.held := by unfold ChkB.pay ChkB.held; rw [owe_l.1]
    have e2 : (b.pay x).owed = b.owed + x.2.2 := by unfold ChkB.pay; rw [owe_owed hx.2.1]; rfl
    have e3 : (b.pay x).free = b.free + x.2.1 := by unfold ChkB.pay; rw [owe_l.2.2.1]
    have e4 : (b.pay x).s = b.s := by unfold ChkB.pay; rw [owe_l.2.1]
    rw [e1, e2, e3, e4]; omega
theorem ChkOk.done {b : ChkB} (h : ChkOk b) : ChkOk b.done := by
  refine ChkOk.pays b.l (b := { b with l := [] }) ⟨h.right, fun x hx => by simp at hx, h.bs, h.free0, ?_⟩ h.ls ?_
  · have := h.sum
    have h2 := h.lens
    show 0 + b.owed + b.free ≤ b.s.C; omega
  · have := h.sum
    show 0 + b.owed + b.free + b.held ≤ b.s.C; omega
theorem ChkOk.stop {b : ChkB} (h : ChkOk b) : ChkOk b.stop := let k := h.done; ⟨k.right, k.ls, k.bs, k.free0, k.sum⟩
theorem ChkOk.resume {b : ChkB} (k : ChkOk b) : ChkOk b.resume := ⟨k.right, k.ls, k.bs, k.free0, k.sum⟩
theorem ChkOk.reset {b : ChkB} (h : ChkOk b) : ChkOk b.reset := by
  have := h.lens
  exact ⟨h.right, fun y hy => by simp [ChkB.reset] at hy, fun y hy => by simp [ChkB.reset] at hy, by show 0 ≤ b.s.C; omega, by show 0 + 0 + b.s.C ≤ b.s.C; omega⟩
end Go.Ez
