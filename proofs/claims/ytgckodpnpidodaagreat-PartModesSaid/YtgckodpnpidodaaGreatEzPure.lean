import Derived.Test.YtgckodpnpidodaaGreatEzK
set_option linter.all false
/- **Calls that leave nothing behind**: functions that only read are told as such: their callers go on with the very heap. -/
set_option linter.all false
namespace Go.Ez

/-! ### Values whose places lie below a number -/
def oldD : Nat → Nat → Value → Bool
  | _, n, .pointer (some a) => Nat.blt a.block n
  | _, n, .slice (some a) _ _ => Nat.blt a.block n
  | _, n, .map (some b) => Nat.blt b n
  | k + 1, n, .func _ x y => x.toList.all (oldD k n) && y.toList.all (oldD k n)
  | k + 1, n, .iface _ v => oldD k n v
  | k + 1, n, .agg x => x.toList.all (oldD k n)
  | k + 1, n, .tuple x => x.toList.all (oldD k n)
  | 0, _, .func _ _ _ => false
  | 0, _, .iface _ _ => false
  | 0, _, .agg _ => false
  | 0, _, .tuple _ => false
  | _, _, _ => true

theorem blt_lt {a b : Nat} (h : Nat.blt a b = true) : a < b := Nat.le_of_ble_eq_true h

theorem VRel.restrict {μ μ' : Mu} {v v' : Value} {n : Nat} (h : VRel μ v v') (hm : ∀ b, b < n → μ' b = μ b) : ∀ {k : Nat}, oldD k n v = true → VRel μ' v v' := by
  induction h with
  | bool b => intro k _; exact .bool b
  | int k n => intro k _; exact .int _ _
  | float k n => intro k _; exact .float _ _
  | string s => intro k _; exact .string s
  | nilPtr => intro k _; exact .nilPtr
  | ptr b o m h =>
    intro k ho
    have : b < n := blt_lt (by cases k <;> simpa [oldD] using ho)
    exact .ptr b o m ((hm b this).trans h)
  | nilSlice => intro k _; exact .nilSlice
  | wild b o s a c => intro k _; exact .wild b o s a c
  | slice b o n' c o' c' m h hs =>
    intro k ho
    have : b < n := blt_lt (by cases k <;> simpa [oldD] using ho)
    exact .slice b o _ c o' c' m ((hm b this).trans h) hs
  | nilMap => intro k _; exact .nilMap
  | map b m h =>
    intro k ho
    have : b < n := blt_lt (by cases k <;> simpa [oldD] using ho)
    exact .map b m ((hm b this).trans h)
  | nilFunc => intro k _; exact .nilFunc
  | func fn x y x' y' hx hy _ _ ihx ihy =>
    intro k ho
    cases k with
    | zero => simp [oldD] at ho
    | succ k =>
      simp only [oldD, Bool.and_eq_true, List.all_eq_true] at ho
      exact .func fn x y x' y' hx hy (fun i h h' => ihx i h h' (ho.1 _ (by simp))) (fun i h h' => ihy i h h' (ho.2 _ (by simp)))
  | nilIface => intro k _; exact .nilIface
  | iface t v v' _ ih =>
    intro k ho
    cases k with
    | zero => simp [oldD] at ho
    | succ k => exact .iface t v v' (ih (by simpa [oldD] using ho))
  | agg x x' hx _ ih =>
    intro k ho
    cases k with
    | zero => simp [oldD] at ho
    | succ k =>
      simp only [oldD, List.all_eq_true] at ho
      exact .agg x x' hx fun i h h' => ih i h h' (ho _ (by simp))
  | tuple x x' hx _ ih =>
    intro k ho
    cases k with
    | zero => simp [oldD] at ho
    | succ k =>
      simp only [oldD, List.all_eq_true] at ho
      exact .tuple x x' hx fun i h h' => ih i h h' (ho _ (by simp))

theorem VRel.back {μ μ' : Mu} {v x : Value} (h : VRel μ v x) (hs : Sub μ μ') : ∀ {y : Value}, VRel μ' v y → VRel μ v y := by
  induction h with
  | bool b => intro y h; cases h; exact .bool b
  | int k n => intro y h; cases h; exact .int _ _
  | float k n => intro y h; cases h; exact .float _ _
  | string s => intro y h; cases h; exact .string s
  | nilPtr => intro y h; cases h; exact .nilPtr
  | ptr b o m h =>
    intro y h'
    cases h' with
    | ptr b o m' h' =>
      have := hs _ _ h
      rw [this] at h'; cases h'
      exact .ptr b o m h
  | nilSlice => intro y h; cases h; exact .nilSlice
  | wild b o s a c => intro y h; cases h; exact .wild b o s _ _
  | slice b o n c o' c' m h hs' =>
    intro y h'
    cases h' with
    | slice b o n c o'' c'' m' h' hs'' =>
      have := hs _ _ h
      rw [this] at h'; cases h'
      exact .slice _ _ _ _ _ _ m h hs''
  | nilMap => intro y h; cases h; exact .nilMap
  | map b m h =>
    intro y h'
    cases h' with
    | map b m' h' =>
      have := hs _ _ h
      rw [this] at h'; cases h'
      exact .map b m h
  | nilFunc => intro y h; cases h; exact .nilFunc
  | func fn x y x' y' hx hy _ _ ihx ihy =>
    intro z h
    cases h with
    | func _ _ _ x'' y'' hx' hy' hxs hys =>
      exact .func fn x y x'' y'' hx' hy' (fun i h h' => ihx i h (by omega) (hxs i h h')) (fun i h h' => ihy i h (by omega) (hys i h h'))
  | nilIface => intro y h; cases h; exact .nilIface
  | iface t v v' _ ih => intro y h; cases h with
    | iface _ _ v'' h => exact .iface t v v'' (ih h)
  | agg x x' hx _ ih => intro y h; cases h with
    | agg _ x'' hx' hxs => exact .agg x x'' hx' fun i h h' => ih i h (by omega) (hxs i h h')
  | tuple x x' hx _ ih => intro y h; cases h with
    | tuple _ x'' hx' hxs => exact .tuple x x'' hx' fun i h h' => ih i h (by omega) (hxs i h h')

theorem MapRel.back {μ μ' : Mu} {e x y : MapEntry} (h : MapRel μ e x) (hs : Sub μ μ') (k : MapRel μ' e y) : MapRel μ e y := ⟨h.1.back hs k.1, h.2.1.back hs k.2.1, k.2.2⟩
theorem All2.back {α β : Type} {R S : α → β → Prop} (hb : ∀ a x y, R a x → S a y → R a y) : ∀ {l : List α} {l' l'' : List β}, All2 R l l' → All2 S l l'' → All2 R l l''
  | _, _, _, .nil, .nil => .nil
  | _, _, _, .cons h t, .cons h' t' => .cons (hb _ _ _ h h') (All2.back hb t t')
theorem BlkRel.back {μ μ' : Mu} {m : Spot} {w w' : World} {B : Blk} (h : BlkRel μ m w B) (hs : Sub μ μ') (k : BlkRel μ' m w' B) : BlkRel μ m w' B := by
  cases B with
  | cells cs ro g =>
    obtain ⟨c, el, fr, h1, h2, h3⟩ := h
    obtain ⟨c', el', fr', k1, k2, k3⟩ := k
    refine ⟨c', el', fr', k1, fun i v hv => ?_, k3⟩
    obtain ⟨x, _, hx⟩ := h2 i v hv
    obtain ⟨y, hy, hy'⟩ := k2 i v hv
    exact ⟨y, hy, hx.back hs hy'⟩
  | map es clock =>
    obtain ⟨es1, h1, h2⟩ := h
    obtain ⟨es2, k1, k2⟩ := k
    exact ⟨es2, k1, All2.back (fun _ _ _ a b => a.back hs b) h2 k2⟩

section
variable {P : Program}
/-- The same heap; the next block has a greater number. -/
def AH.up (H : AH) (N : Nat) : AH := { next := N, t := H.t }
@[simp] theorem AH.up_next {H : AH} {N : Nat} : (H.up N).next = N := rfl
@[simp] theorem AH.up_get {H : AH} {N b : Nat} : (H.up N).get b = H.get b := rfl

theorem finite_inj : ∀ (k : Nat) (g : Nat → Option Nat), (∀ a b n, g a = some n → g b = some n → a = b) → (∀ b n, g b = some n → n < k) → ∃ N, ∀ b, N ≤ b → g b = none := by
  intro k
  induction k with
  | zero =>
    intro g _ hb
    refine ⟨0, fun b _ => ?_⟩
    cases h : g b with
    | none => rfl
    | some n => exact absurd (hb b n h) (Nat.not_lt_zero n)
  | succ k ih =>
    intro g hi hb
    by_cases h : ∃ b0, g b0 = some k
    · obtain ⟨b0, h0⟩ := h
      obtain ⟨N, hN⟩ := ih (fun b => if g b = some k then none else g b) (fun a b n ha hb' => by
          split at ha
          · cases ha
          · split at hb'
            · cases hb'
            · exact hi a b n ha hb') (fun b n hn => by
          split at hn
          · cases hn
          · rename_i hne
            have := hb b n hn
            have : n ≠ k := fun e => hne (by rw [hn, e])
            omega)
      refine ⟨max N (b0 + 1), fun b hb' => ?_⟩
      have h1 := hN b (by omega)
      split at h1
      · rename_i e
        have := hi b b0 k e h0
        omega
      · exact h1
    · refine ih g hi fun b n hn => ?_
      have := hb b n hn
      have : n ≠ k := fun e => h ⟨b, by rw [hn, e]⟩
      omega

theorem Rel.bound {μ : Mu} {H : AH} {w : World} (hR : Rel μ H w) : ∃ N, H.next ≤ N ∧ ∀ b, N ≤ b → μ b = none := by
  obtain ⟨N, hN⟩ := finite_inj w.heap.size (fun b => if H.next ≤ b then (μ b).map (·.rb) else none) (fun a b n ha hb => by
      split at ha
      · rename_i h1
        split at hb
        · rename_i h2
          cases ea : μ a with
          | none => rw [ea] at ha; cases ha
          | some ma =>
            cases eb : μ b with
            | none => rw [eb] at hb; cases hb
            | some mb =>
              rw [ea] at ha; rw [eb] at hb
              simp only [Option.map_some, Option.some.injEq] at ha hb
              rcases hR.inj a b ma mb (.inr h1) (.inr h2) ea eb (ha.trans hb.symm) with h | ⟨⟨cs, g, h⟩, _⟩
              · exact h
              · rw [hR.fresh a h1] at h; cases h
        · cases hb
      · cases ha) (fun b n hn => by
      split at hn
      · cases eb : μ b with
        | none => rw [eb] at hn; cases hn
        | some m =>
          rw [eb] at hn
          simp only [Option.map_some, Option.some.injEq] at hn
          rw [← hn]; exact hR.inw b m eb
      · cases hn)
  refine ⟨max N H.next, by omega, fun b hb => ?_⟩
  have := hN b (by omega)
  rw [if_pos (by omega)] at this
  cases e : μ b with
  | none => rfl
  | some m => rw [e] at this; cases this

/-- What is told of a call that leaves nothing behind. -/
def PureC (P : Program) (X : Ext) (f : FuncId) (args : List Value) (H : AH) (v : Value) : Prop :=
  oldD 9 H.next v = true ∧ ∀ N, H.next ≤ N → W P X f args (H.up N) fun u H1 => u = v ∧ Keep N (H.up N) H1

theorem oldD_mono {n m : Nat} (h : n ≤ m) : ∀ {k : Nat} {v : Value}, oldD k n v = true → oldD k m v = true
  | k, .pointer (some a), ho => by
    have : a.block < n := blt_lt (by cases k <;> simpa [oldD] using ho)
    cases k <;> exact Nat.ble_eq_true_of_le (Nat.le_trans this h)
  | k, .slice (some a) _ _, ho => by
    have : a.block < n := blt_lt (by cases k <;> simpa [oldD] using ho)
    cases k <;> exact Nat.ble_eq_true_of_le (Nat.le_trans this h)
  | k, .map (some b), ho => by
    have : b < n := blt_lt (by cases k <;> simpa [oldD] using ho)
    cases k <;> exact Nat.ble_eq_true_of_le (Nat.le_trans this h)
  | 0, .func _ _ _, ho => by simp [oldD] at ho
  | 0, .iface _ _, ho => by simp [oldD] at ho
  | 0, .agg _, ho => by simp [oldD] at ho
  | 0, .tuple _, ho => by simp [oldD] at ho
  | k + 1, .func _ x y, ho => by
    simp only [oldD, Bool.and_eq_true, List.all_eq_true] at ho ⊢
    exact ⟨fun v hv => oldD_mono h (ho.1 v hv), fun v hv => oldD_mono h (ho.2 v hv)⟩
  | k + 1, .iface _ v, ho => by simp only [oldD] at ho ⊢; exact oldD_mono h ho
  | k + 1, .agg x, ho => by
    simp only [oldD, List.all_eq_true] at ho ⊢
    exact fun v hv => oldD_mono h (ho v hv)
  | k + 1, .tuple x, ho => by
    simp only [oldD, List.all_eq_true] at ho ⊢
    exact fun v hv => oldD_mono h (ho v hv)
  | k, .bool _, _ => by cases k <;> rfl
  | k, .int _ _, _ => by cases k <;> rfl
  | k, .float _ _, _ => by cases k <;> rfl
  | k, .string _, _ => by cases k <;> rfl
  | k, .pointer none, _ => by cases k <;> rfl
  | k, .slice none _ _, _ => by cases k <;> rfl
  | k, .map none, _ => by cases k <;> rfl
  | k, .nilFunc, _ => by cases k <;> rfl
  | k, .nilIface, _ => by cases k <;> rfl
  | k, .complex _ _ _, _ => by cases k <;> rfl
  | k, .chan _, _ => by cases k <;> rfl
theorem PureC.up {X : Ext} {f : FuncId} {args : List Value} {H : AH} {v : Value} (h : PureC P X f args H v) {N : Nat} (hN : H.next ≤ N) : PureC P X f args (H.up N) v :=
  ⟨oldD_mono hN h.1, fun M hM => h.2 M (Nat.le_trans hN hM)⟩
theorem PureC.sound {X : Ext} (hmx : P.follows .mixedOrders = true) (hX : X.Ok P) {f : FuncId} {args : List Value} {H : AH} {v : Value} (h : PureC P X f args H v) :
    OkFunc P f ∧ ∀ (μ : Mu) (w : World) (args' : List Value), Rel μ H w → VRels μ args args' →
      Calls P f args'.toArray w (fun e w' => ∃ v' μ', e = .returned v' ∧ Rel μ' H w' ∧ Step μ H w μ' H w' ∧ VRel μ' v v') := by
  obtain ⟨hv, h⟩ := h
  constructor
  · obtain ⟨n, u, H1, h1, _⟩ := h H.next (Nat.le_refl _)
    exact (callX_sound hmx hX n f args _ u H1 (h1 n (Nat.le_refl _))).1
  · intro μ w args' hR hargs
    obtain ⟨N, hN, hfree⟩ := hR.bound
    obtain ⟨n, u, H1, h1, rfl, hk⟩ := h N hN
    obtain ⟨_, h2⟩ := callX_sound hmx hX n f args _ u H1 (h1 n (Nat.le_refl _))
    have hR' : Rel μ (H.up N) w := ⟨hR.blk, fun b b' m m' hb hb' => hR.inj b b' m m' (hb.imp id fun h => Nat.le_trans hN h) (hb'.imp id fun h => Nat.le_trans hN h),
      fun b hb => hR.fresh b (Nat.le_trans hN hb), hR.inw⟩
    refine (h2 μ w args' hR' hargs fun b hb _ => hfree b hb).mono fun e w' hw => ?_
    obtain ⟨v', μ1, rfl, k1, k2, k3⟩ := hw
    refine ⟨v', μ, rfl, ⟨fun b B m hb hm => ?_, hR.inj, hR.fresh, fun b m hm => Nat.lt_of_lt_of_le (hR.inw b m hm) k2.size⟩, ?_, ?_⟩
    · have hbn : b < H.next := by
        rcases Nat.lt_or_ge b H.next with h | h
        · exact h
        · rw [hR.fresh b h] at hb; cases hb
      have b1 := k1.blk b B m (by rw [hk.get b (by omega)]; exact hb) (k2.ext _ _ hm)
      exact (hR.blk b B m hb hm).back k2.ext b1
    · exact ⟨Sub.refl _, fun _ _ => rfl, Nat.le_refl _, fun _ _ _ => rfl, fun _ _ h => h, fun _ _ _ => Iff.rfl, k2.size,
        fun rb hrb hno => k2.keep rb hrb fun b m hb hro hm => hno b m hb hro hm, fun b m h h' => by omega, k2.os, k2.tape, k2.output⟩
    · exact k3.restrict (fun b hb => (k2.out b (.inl (Nat.lt_of_lt_of_le hb hN))).symm) hv

open Classical in
/-- One function more is told as such. -/
noncomputable def pureExt (P : Program) (X : Ext) (g : FuncId) : Ext where
  dom f := Nat.beq g f || X.dom f
  run f args H := bif Nat.beq g f then (if h : ∃ v, PureC P X f args H v then some (h.choose, H) else none) else X.run f args H

theorem pureExt_ok {X : Ext} (hmx : P.follows .mixedOrders = true) (hX : X.Ok P) (g : FuncId) : (pureExt P X g).Ok P where
  next := fun f args H v H' h => by
    simp only [pureExt] at h
    cases hb : Nat.beq g f with
    | true =>
      rw [hb] at h
      simp only [cond_true] at h
      split at h
      · cases h; exact Nat.le_refl _
      · cases h
    | false => rw [hb] at h; exact hX.next _ _ _ _ _ h
  sound := fun f args H v H' h => by
    simp only [pureExt] at h
    cases hb : Nat.beq g f with
    | true =>
      rw [hb] at h
      simp only [cond_true] at h
      split at h
      · rename_i hc
        cases h
        obtain ⟨k1, k2⟩ := PureC.sound hmx hX hc.choose_spec
        exact ⟨k1, fun μ w args' hR hargs _ => k2 μ w args' hR hargs⟩
      · cases h
    | false => rw [hb] at h; exact hX.sound _ _ _ _ _ h

theorem W.det {X : Ext} {f : FuncId} {args : List Value} {H : AH} {Q R : Value → AH → Prop} (h : W P X f args H Q) (h' : W P X f args H R) : ∃ v H', Q v H' ∧ R v H' := by
  obtain ⟨_, v, H', _, h⟩ := h.and h'
  exact ⟨v, H', h⟩
theorem PureC.unique {X : Ext} {f : FuncId} {args : List Value} {H : AH} {u v : Value} (h : PureC P X f args H u) (h' : PureC P X f args H v) : u = v := by
  obtain ⟨x, H', ⟨rfl, _⟩, rfl, _⟩ := (h.2 H.next (Nat.le_refl _)).det (h'.2 H.next (Nat.le_refl _))
  rfl
theorem pureExt_run {X : Ext} {g : FuncId} {args : List Value} {H : AH} {v : Value} (h : PureC P X g args H v) : (pureExt P X g).run g args H = some (v, H) := by
  have hb : Nat.beq g g = true := Nat.beq_refl g
  simp only [pureExt, hb, cond_true]
  rw [dif_pos ⟨v, h⟩]
  have := (⟨v, h⟩ : ∃ v, PureC P X g args H v).choose_spec.unique h
  rw [this]

/-- One behind the other. -/
noncomputable def pureX (P : Program) (X : Ext) : List FuncId → Ext
  | [] => X
  | g :: l => pureExt P (pureX P X l) g
theorem pureX_ok {X : Ext} (hmx : P.follows .mixedOrders = true) (hX : X.Ok P) : ∀ l, (pureX P X l).Ok P
  | [] => hX
  | g :: l => pureExt_ok hmx (pureX_ok hmx hX l) g

def inL (l : List FuncId) (f : FuncId) : Bool :=
  match l with
  | [] => false
  | g :: l => Nat.beq g f || inL l f
theorem pureX_dom {X : Ext} {f : FuncId} : ∀ {l : List FuncId}, (pureX P X l).dom f = (inL l f || X.dom f)
  | [] => by simp [pureX, inL]
  | g :: l => by
    have := pureX_dom (X := X) (f := f) (l := l)
    simp only [pureX, pureExt, inL, this, Bool.or_assoc]
theorem pureX_run {X : Ext} {f : FuncId} {args : List Value} {H : AH} : ∀ {l : List FuncId}, inL l f = false → (pureX P X l).run f args H = X.run f args H
  | [], _ => rfl
  | g :: l, h => by
    simp only [inL, Bool.or_eq_false_iff] at h
    simp only [pureX, pureExt, h.1, cond_false]
    exact pureX_run h.2
theorem pureX_app {X : Ext} : ∀ (l m : List FuncId), pureX P X (l ++ m) = pureX P (pureX P X m) l
  | [], m => rfl
  | g :: l, m => by simp only [List.cons_append, pureX, pureX_app l m]

/-- A call that leaves nothing behind, met later on: the list is 'l ++ g :: m', and it was told over 'm'. -/
theorem PureC.call {X : Ext} {l m n : List FuncId} {g : FuncId} {args : List Value} {H : AH} {v : Value} (h : PureC P (pureX P X m) g args H v) (hn : n = l ++ g :: m) (hl : inL l g = false) {Q : Value → AH → Prop} (hQ : Q v H) :
    W P (pureX P X n) g args H Q := by
  subst hn
  refine W.ext ?_ ?_ hQ
  · rw [pureX_app, pureX_dom]
    have : (pureX P X (g :: m)).dom g = true := by simp [pureX, pureExt, Nat.beq_refl]
    rw [this, Bool.or_true]
  · rw [pureX_app, pureX_run hl]
    exact pureExt_run h
end
end Go.Ez
