import Derived.WalkKit
import Derived.Orders
set_option linter.all false
/- The abstract heap of the deterministic interpreter, and how it lies in a world: definitions and first facts. -/
set_option linter.unusedVariables false
set_option linter.unusedSimpArgs false
namespace Go.Ez

/-! ### A map from numbers, quick in the kernel -/
inductive Trie (α : Type) where
  | leaf
  | node (v : Option α) (l r : Trie α)

def Trie.get {α : Type} : Trie α → Nat → Option α
  | .leaf, _ => none
  | .node v l r, n => bif Nat.beq n 0 then v else bif Nat.beq (n % 2) 1 then l.get (n / 2) else r.get (n / 2 - 1)

def Trie.setF {α : Type} : Nat → Trie α → Nat → Option α → Trie α
  | 0, t, _, _ => t
  | f + 1, .leaf, n, v => bif Nat.beq n 0 then .node v .leaf .leaf else bif Nat.beq (n % 2) 1 then .node none (Trie.setF f .leaf (n / 2) v) .leaf else .node none .leaf (Trie.setF f .leaf (n / 2 - 1) v)
  | f + 1, .node w l r, n, v => bif Nat.beq n 0 then .node v l r else bif Nat.beq (n % 2) 1 then .node w (Trie.setF f l (n / 2) v) r else .node w l (Trie.setF f r (n / 2 - 1) v)

def Trie.set {α : Type} (t : Trie α) (n : Nat) (v : Option α) : Trie α := Trie.setF (n + 1) t n v

theorem nat_beq_eq (a b : Nat) : Nat.beq a b = decide (a = b) := by
  by_cases h : a = b
  · subst h; simp
  · rw [decide_eq_false h]
    cases hb : Nat.beq a b with
    | false => rfl
    | true => exact absurd (Nat.eq_of_beq_eq_true hb) h

theorem Trie.get_setF {α : Type} (v : Option α) : ∀ (f : Nat) (t : Trie α) (n m : Nat), n < f → (Trie.setF f t n v).get m = if m = n then v else t.get m := by
  intro f
  induction f with
  | zero => intro t n m h; omega
  | succ f ih =>
    intro t n m h
    cases t with
    | leaf =>
      simp only [Trie.setF, nat_beq_eq]
      by_cases h0 : n = 0
      · subst h0
        simp only [decide_true, cond_true, Trie.get, nat_beq_eq]
        by_cases hm : m = 0
        · simp [hm]
        · simp only [hm, decide_false, cond_false, if_false]
          by_cases hm2 : m % 2 = 1 <;> simp [hm2, Trie.get]
      · simp only [h0, decide_false, cond_false]
        by_cases h1 : n % 2 = 1
        · simp only [h1, decide_true, cond_true, Trie.get, nat_beq_eq]
          by_cases hm : m = 0
          · simp [hm]; omega
          · simp only [hm, decide_false, cond_false]
            by_cases hm2 : m % 2 = 1
            · simp only [hm2, decide_true, cond_true]
              rw [ih _ _ _ (by omega)]
              simp only [Trie.get]
              by_cases e : m = n
              · subst e; simp
              · have : ¬ m / 2 = n / 2 := by omega
                simp [e, this]
            · have : ¬ m = n := by intro e; subst e; exact hm2 h1
              simp [hm2, this, Trie.get]
        · simp only [h1, decide_false, cond_false, Trie.get, nat_beq_eq]
          by_cases hm : m = 0
          · simp [hm]; omega
          · simp only [hm, decide_false, cond_false]
            by_cases hm2 : m % 2 = 1
            · have : ¬ m = n := by intro e; subst e; exact h1 hm2
              simp [hm2, this, Trie.get]
            · simp only [hm2, decide_false, cond_false]
              rw [ih _ _ _ (by omega)]
              simp only [Trie.get]
              by_cases e : m = n
              · subst e; simp
              · have : ¬ m / 2 - 1 = n / 2 - 1 := by omega
                simp [e, this]
    | node w l r =>
      simp only [Trie.setF, nat_beq_eq]
      by_cases h0 : n = 0
      · subst h0
        simp only [decide_true, cond_true, Trie.get, nat_beq_eq]
        by_cases hm : m = 0
        · simp [hm]
        · simp [hm]
      · simp only [h0, decide_false, cond_false]
        by_cases h1 : n % 2 = 1
        · simp only [h1, decide_true, cond_true, Trie.get, nat_beq_eq]
          by_cases hm : m = 0
          · simp [hm]; omega
          · simp only [hm, decide_false, cond_false]
            by_cases hm2 : m % 2 = 1
            · simp only [hm2, decide_true, cond_true]
              rw [ih _ _ _ (by omega)]
              by_cases e : m = n
              · subst e; simp
              · have : ¬ m / 2 = n / 2 := by omega
                simp [e, this]
            · have : ¬ m = n := by intro e; subst e; exact hm2 h1
              simp [hm2, this]
        · simp only [h1, decide_false, cond_false, Trie.get, nat_beq_eq]
          by_cases hm : m = 0
          · simp [hm]; omega
          · simp only [hm, decide_false, cond_false]
            by_cases hm2 : m % 2 = 1
            · have : ¬ m = n := by intro e; subst e; exact h1 hm2
              simp [hm2, this]
            · simp only [hm2, decide_false, cond_false]
              rw [ih _ _ _ (by omega)]
              by_cases e : m = n
              · subst e; simp
              · have : ¬ m / 2 - 1 = n / 2 - 1 := by omega
                simp [e, this]

theorem Trie.get_set {α : Type} (t : Trie α) (n m : Nat) (v : Option α) : (t.set n v).get m = if m = n then v else t.get m :=
  Trie.get_setF v (n + 1) t n m (by omega)

/-! ### The abstract heap -/
/-- A block: cells (may they not be written? how many cells has an element, if it came of an append: 0: it did not), or a map. -/
inductive Blk where
  | cells (cs : List Value) (ro : Bool) (grown : Nat)
  | map (es : List MapEntry) (clock : Nat)

structure AH where
  next : Nat
  t : Trie Blk

def AH.get (H : AH) (b : Nat) : Option Blk := H.t.get b
def AH.set (H : AH) (b : Nat) (B : Blk) : AH := { next := H.next, t := H.t.set b (some B) }
def AH.kill (H : AH) (b : Nat) : AH := { next := H.next, t := H.t.set b none }
def AH.alloc (H : AH) (B : Blk) : AH := { next := H.next + 1, t := H.t.set H.next (some B) }

theorem AH.get_set (H : AH) (b c : Nat) (B : Blk) : (H.set b B).get c = if c = b then some B else H.get c := by
  simp [AH.get, AH.set, Trie.get_set]
theorem AH.get_kill (H : AH) (b c : Nat) : (H.kill b).get c = if c = b then none else H.get c := by
  simp [AH.get, AH.kill, Trie.get_set]
theorem AH.get_alloc (H : AH) (c : Nat) (B : Blk) : (H.alloc B).get c = if c = H.next then some B else H.get c := by
  simp [AH.get, AH.alloc, Trie.get_set]
@[simp] theorem AH.next_set (H : AH) (b : Nat) (B : Blk) : (H.set b B).next = H.next := rfl
@[simp] theorem AH.next_kill (H : AH) (b : Nat) : (H.kill b).next = H.next := rfl
@[simp] theorem AH.next_alloc (H : AH) (B : Blk) : (H.alloc B).next = H.next + 1 := rfl

/-! ### Values that stand for values -/
/-- Where a block lies: the world's block, the first cell; of what came of an append: how many cells an element has (else 0), and where the room ends. -/
structure Spot where
  rb : Nat
  at_ : Nat
  esz : Nat
  lim : Nat

abbrev Mu := Nat → Option Spot

/-- What a slice's place, length and capacity stand for. -/
def SliceAt (m : Spot) (o n c o' c' : Nat) : Prop :=
  n ≤ c ∧ if m.esz = 0 then o' = m.at_ + o ∧ c' = c else (0 < c → o' = m.at_ + o) ∧ m.at_ ≤ o' ∧ c ≤ c' ∧ o' + c' * m.esz ≤ m.lim

inductive VRel (μ : Mu) : Value → Value → Prop where
  | bool (b : Bool) : VRel μ (.bool b) (.bool b)
  | int (k : IntKind) (n : Int) : VRel μ (.int k n) (.int k n)
  | float (k : FloatKind) (n : Nat) : VRel μ (.float k n) (.float k n)
  | string (s : ByteArray) : VRel μ (.string s) (.string s)
  | nilPtr : VRel μ (.pointer none) (.pointer none)
  | ptr (b o : Nat) (m : Spot) (h : μ b = some m) : VRel μ (.pointer (some ⟨b, o, none⟩)) (.pointer (some ⟨m.rb, m.at_ + o, none⟩))
  | nilSlice : VRel μ (.slice none 0 0) (.slice none 0 0)
  | slice (b o n c o' c' : Nat) (m : Spot) (h : μ b = some m) (hs : SliceAt m o n c o' c') : VRel μ (.slice (some ⟨b, o, none⟩) n c) (.slice (some ⟨m.rb, o', none⟩) n c')
  /-- A slice of no places, wherever: nothing can be read through it. -/
  | wild (b o s : Nat) (a : Addr) (c : Nat) : VRel μ (.slice (some ⟨b, o, some s⟩) 0 0) (.slice (some a) 0 c)
  | nilMap : VRel μ (.map none) (.map none)
  | map (b : Nat) (m : Spot) (h : μ b = some m) : VRel μ (.map (some b)) (.map (some m.rb))
  | nilFunc : VRel μ .nilFunc .nilFunc
  | func (fn : Fn) (x y x' y' : Array Value) (hx : x.size = x'.size) (hy : y.size = y'.size)
      (hxs : ∀ (i : Nat) (h : i < x.size) (h' : i < x'.size), VRel μ x[i] x'[i]) (hys : ∀ (i : Nat) (h : i < y.size) (h' : i < y'.size), VRel μ y[i] y'[i]) :
      VRel μ (.func fn x y) (.func fn x' y')
  | nilIface : VRel μ .nilIface .nilIface
  | iface (t : TypeId) (v v' : Value) (h : VRel μ v v') : VRel μ (.iface t v) (.iface t v')
  | agg (x x' : Array Value) (hx : x.size = x'.size) (hxs : ∀ (i : Nat) (h : i < x.size) (h' : i < x'.size), VRel μ x[i] x'[i]) : VRel μ (.agg x) (.agg x')
  | tuple (x x' : Array Value) (hx : x.size = x'.size) (hxs : ∀ (i : Nat) (h : i < x.size) (h' : i < x'.size), VRel μ x[i] x'[i]) : VRel μ (.tuple x) (.tuple x')


/-- More is told. -/
def Sub (μ μ' : Mu) : Prop := ∀ b m, μ b = some m → μ' b = some m
theorem Sub.refl (μ : Mu) : Sub μ μ := fun _ _ h => h
theorem Sub.trans {μ μ' μ'' : Mu} (h : Sub μ μ') (h' : Sub μ' μ'') : Sub μ μ'' := fun b m e => h' b m (h b m e)

theorem VRel.mono {μ μ' : Mu} (hs : Sub μ μ') {v v' : Value} (h : VRel μ v v') : VRel μ' v v' := by
  induction h with
  | bool b => exact .bool b
  | int k n => exact .int k n
  | float k n => exact .float k n
  | string s => exact .string s
  | nilPtr => exact .nilPtr
  | ptr b o m h => exact .ptr b o m (hs _ _ h)
  | nilSlice => exact .nilSlice
  | slice b o n c o' c' m h hs' => exact .slice b o n c o' c' m (hs _ _ h) hs'
  | wild b o s a c => exact .wild b o s a c
  | nilMap => exact .nilMap
  | map b m h => exact .map b m (hs _ _ h)
  | nilFunc => exact .nilFunc
  | func fn x y x' y' hx hy _ _ ihx ihy => exact .func fn x y x' y' hx hy ihx ihy
  | nilIface => exact .nilIface
  | iface t v v' _ ih => exact .iface t v v' ih
  | agg x x' hx _ ih => exact .agg x x' hx ih
  | tuple x x' hx _ ih => exact .tuple x x' hx ih

/-- Lists, one by one. -/
inductive All2 {α β : Type} (R : α → β → Prop) : List α → List β → Prop where
  | nil : All2 R [] []
  | cons {a : α} {b : β} {l : List α} {l' : List β} (h : R a b) (t : All2 R l l') : All2 R (a :: l) (b :: l')

namespace All2
variable {α β : Type} {R : α → β → Prop}
theorem length {l : List α} {l' : List β} (h : All2 R l l') : l.length = l'.length := by
  induction h with
  | nil => rfl
  | cons _ _ ih => simp [ih]
theorem get {l : List α} {l' : List β} (h : All2 R l l') : ∀ (i : Nat) (a : α), l[i]? = some a → ∃ b, l'[i]? = some b ∧ R a b := by
  induction h with
  | nil => intro i a h; simp at h
  | cons h t ih =>
    intro i a hi
    cases i with
    | zero => simp at hi; subst hi; exact ⟨_, by simp, h⟩
    | succ i => simpa using ih i a (by simpa using hi)
theorem of_get {l : List α} {l' : List β} (hl : l.length = l'.length) (h : ∀ (i : Nat) (a : α) (b : β), l[i]? = some a → l'[i]? = some b → R a b) : All2 R l l' := by
  induction l generalizing l' with
  | nil => cases l' with
    | nil => exact .nil
    | cons b l' => simp at hl
  | cons a l ih =>
    cases l' with
    | nil => simp at hl
    | cons b l' =>
      refine .cons (h 0 a b (by simp) (by simp)) (ih (by simpa using hl) fun i x y hx hy => h (i + 1) x y (by simpa using hx) (by simpa using hy))
theorem mono {S : α → β → Prop} (hRS : ∀ a b, R a b → S a b) {l : List α} {l' : List β} (h : All2 R l l') : All2 S l l' := by
  induction h with
  | nil => exact .nil
  | cons h _ ih => exact .cons (hRS _ _ h) ih
theorem append {l m : List α} {l' m' : List β} (h : All2 R l l') (k : All2 R m m') : All2 R (l ++ m) (l' ++ m') := by
  induction h with
  | nil => exact k
  | cons h _ ih => exact .cons h ih
theorem take {l : List α} {l' : List β} (h : All2 R l l') (n : Nat) : All2 R (l.take n) (l'.take n) := by
  induction h generalizing n with
  | nil => simp; exact .nil
  | cons h t ih => cases n with
    | zero => simp; exact .nil
    | succ n => simpa using .cons h (ih n)
theorem drop {l : List α} {l' : List β} (h : All2 R l l') (n : Nat) : All2 R (l.drop n) (l'.drop n) := by
  induction h generalizing n with
  | nil => simp; exact .nil
  | cons h t ih => cases n with
    | zero => simpa using .cons h t
    | succ n => simpa using ih n
theorem set {l : List α} {l' : List β} (h : All2 R l l') (n : Nat) {a : α} {b : β} (hab : R a b) : All2 R (l.set n a) (l'.set n b) := by
  induction h generalizing n with
  | nil => simp; exact .nil
  | cons h t ih => cases n with
    | zero => simpa using .cons hab t
    | succ n => simpa using .cons h (ih n)
theorem map {γ δ : Type} {S : γ → δ → Prop} {f : α → γ} {g : β → δ} (hf : ∀ a b, R a b → S (f a) (g b)) {l : List α} {l' : List β} (h : All2 R l l') : All2 S (l.map f) (l'.map g) := by
  induction h with
  | nil => exact .nil
  | cons h _ ih => exact .cons (hf _ _ h) ih
theorem cons_inv {a : α} {l : List α} {l' : List β} (h : All2 R (a :: l) l') : ∃ b t, l' = b :: t ∧ R a b ∧ All2 R l t := by
  cases h with
  | cons h t => exact ⟨_, _, rfl, h, t⟩
theorem nil_inv {l' : List β} (h : All2 R [] l') : l' = [] := by cases h; rfl
end All2

abbrev VRels (μ : Mu) (l l' : List Value) : Prop := All2 (VRel μ) l l'
theorem VRels.mono {μ μ' : Mu} (hs : Sub μ μ') {l l' : List Value} (h : VRels μ l l') : VRels μ' l l' := All2.mono (fun _ _ => VRel.mono hs) h

theorem VRel.agg_iff {μ : Mu} {x x' : Array Value} (h : VRels μ x.toList x'.toList) : VRel μ (.agg x) (.agg x') := by
  have hl := h.length
  refine .agg x x' (by simpa using hl) fun i hi hi' => ?_
  obtain ⟨b, hb, hr⟩ := h.get i x[i] (by simp [hi])
  have : x'[i] = b := by simpa [hi'] using hb
  rw [this]; exact hr
theorem VRel.tuple_mk {μ : Mu} {x x' : Array Value} (h : VRels μ x.toList x'.toList) : VRel μ (.tuple x) (.tuple x') := by
  have hl := h.length
  refine .tuple x x' (by simpa using hl) fun i hi hi' => ?_
  obtain ⟨b, hb, hr⟩ := h.get i x[i] (by simp [hi])
  have : x'[i] = b := by simpa [hi'] using hb
  rw [this]; exact hr
theorem rels_of_arr {μ : Mu} {x x' : Array Value} (hx : x.size = x'.size) (h : ∀ (i : Nat) (h : i < x.size) (h' : i < x'.size), VRel μ x[i] x'[i]) : VRels μ x.toList x'.toList := by
  refine All2.of_get (by simpa using hx) fun i a b ha hb => ?_
  have hi : i < x.size := by
    rcases Nat.lt_or_ge i x.size with h | h
    · exact h
    · simp [h] at ha
  have hi' : i < x'.size := by omega
  have e1 : x[i] = a := by simpa [hi] using ha
  have e2 : x'[i] = b := by simpa [hi'] using hb
  rw [← e1, ← e2]; exact h i hi hi'

/-- No value that stands for anything. -/
def isTuple : Value → Bool
  | .tuple _ => true
  | _ => false

/-- The cells of a value. -/
def cellsOf : Value → List Value
  | .agg cs => cs.toList
  | v => [v]
theorem cellsOf_eq (v : Value) : v.cells.toList = cellsOf v := by cases v <;> rfl
theorem VRel.cells {μ : Mu} {v v' : Value} (h : VRel μ v v') (hn : isTuple v = false) : VRels μ (cellsOf v) (cellsOf v') := by
  cases h with
  | agg x x' hx hxs => exact rels_of_arr hx hxs
  | tuple x x' hx hxs => simp [isTuple] at hn
  | _ => first
    | exact .cons (.bool _) .nil | exact .cons (.int _ _) .nil | exact .cons (.float _ _) .nil | exact .cons (.string _) .nil
    | exact .cons .nilPtr .nil | exact .cons (.ptr _ _ _ ‹_›) .nil | exact .cons .nilSlice .nil | exact .cons (.wild _ _ _ _ _) .nil | exact .cons (.slice _ _ _ _ _ _ _ ‹_› ‹_›) .nil
    | exact .cons .nilMap .nil | exact .cons (.map _ _ ‹_›) .nil | exact .cons .nilFunc .nil | exact .cons (.func _ _ _ _ _ ‹_› ‹_› ‹_› ‹_›) .nil
    | exact .cons .nilIface .nil | exact .cons (.iface _ _ _ ‹_›) .nil

/-- May it be the value of one cell? -/
def isCell : Value → Bool
  | .agg _ | .tuple _ => false
  | _ => true
theorem VRel.isCell {μ : Mu} {v v' : Value} (h : VRel μ v v') (hn : Ez.isCell v = true) : Ez.isCell v' = true := by
  cases h <;> first | rfl | simp [Ez.isCell] at hn

/-! ### A heap that stands for a part of a world -/
def MapRel (μ : Mu) (e e' : MapEntry) : Prop := VRel μ e.key e'.key ∧ VRel μ e.val e'.val ∧ e.born = e'.born

def BlkRel (μ : Mu) (m : Spot) (w : World) : Blk → Prop
  | .cells cs ro g => ∃ (c : Array Value) (el : TypeId) (fr : Nat × Nat), w.heap[m.rb]? = some (.cells c el fr) ∧ (∀ (i : Nat) (v : Value), cs[i]? = some v → ∃ v', c[m.at_ + i]? = some v' ∧ VRel μ v v') ∧
      m.esz = g ∧ (ro = false → fr = (0, 0) ∧ m.at_ + cs.length ≤ c.size ∧ (0 < g → m.lim ≤ c.size ∧ m.at_ + cs.length ≤ m.lim))
  | .map es clock => ∃ es' : Array MapEntry, w.heap[m.rb]? = some (.map es' clock) ∧ All2 (MapRel μ) es es'.toList

def RoAt (H : AH) (b : Nat) : Prop := ∃ cs g, H.get b = some (.cells cs true g)
def Live (H : AH) (b : Nat) : Prop := H.get b ≠ none ∨ H.next ≤ b

structure Rel (μ : Mu) (H : AH) (w : World) : Prop where
  blk : ∀ b B m, H.get b = some B → μ b = some m → BlkRel μ m w B
  inj : ∀ b b' m m', Live H b → Live H b' → μ b = some m → μ b' = some m' → m.rb = m'.rb → b = b' ∨ (RoAt H b ∧ RoAt H b')
  fresh : ∀ b, H.next ≤ b → H.get b = none
  inw : ∀ b m, μ b = some m → m.rb < w.heap.size

/-- What becomes of a world while the heap goes from H to H'. -/
structure Step (μ : Mu) (H : AH) (w : World) (μ' : Mu) (H' : AH) (w' : World) : Prop where
  ext : Sub μ μ'
  out : ∀ b, b < H.next ∨ H'.next ≤ b → μ' b = μ b
  next : H.next ≤ H'.next
  unm : ∀ b, b < H.next → μ b = none → H'.get b = H.get b
  dead : ∀ b, b < H.next → H.get b = none → H'.get b = none
  ro : ∀ b, b < H.next → H'.get b ≠ none → (RoAt H' b ↔ RoAt H b)
  size : w.heap.size ≤ w'.heap.size
  keep : ∀ rb, rb < w.heap.size → (∀ b m, H.get b ≠ none → ¬ RoAt H b → μ b = some m → m.rb ≠ rb) → w'.heap[rb]? = w.heap[rb]?
  newrb : ∀ b m, H.next ≤ b → b < H'.next → μ' b = some m → w.heap.size ≤ m.rb ∨ ∃ b0 m0, H.get b0 ≠ none ∧ ¬ RoAt H b0 ∧ μ b0 = some m0 ∧ m0.rb = m.rb
  os : w'.os = w.os
  tape : w'.tape = w.tape
  output : w'.output = w.output

theorem Step.refl {μ : Mu} {H : AH} {w : World} : Step μ H w μ H w where
  ext := Sub.refl μ
  out := fun _ _ => rfl
  next := Nat.le_refl _
  unm := fun _ _ _ => rfl
  dead := fun _ _ h => h
  ro := fun _ _ _ => Iff.rfl
  size := Nat.le_refl _
  keep := fun _ _ _ => rfl
  newrb := fun b m h h' => by omega
  os := rfl
  tape := rfl
  output := rfl

theorem Step.trans {μ μ1 μ2 : Mu} {H H1 H2 : AH} {w w1 w2 : World} (s : Step μ H w μ1 H1 w1) (t : Step μ1 H1 w1 μ2 H2 w2) (hf : ∀ b, H1.next ≤ b → H1.get b = none) : Step μ H w μ2 H2 w2 where
  ext := s.ext.trans t.ext
  out := fun b hb => by
    rcases hb with hb | hb
    · rw [t.out b (.inl (Nat.lt_of_lt_of_le hb s.next)), s.out b (.inl hb)]
    · rw [t.out b (.inr hb), s.out b (.inr (Nat.le_trans t.next hb))]
  next := Nat.le_trans s.next t.next
  unm := fun b hb hm => by
    have e1 := s.unm b hb hm
    have : μ1 b = none := by rw [s.out b (.inl hb)]; exact hm
    rw [t.unm b (Nat.lt_of_lt_of_le hb s.next) this, e1]
  dead := fun b hb h => t.dead b (Nat.lt_of_lt_of_le hb s.next) (s.dead b hb h)
  ro := fun b hb h => by
    have h1 : H1.get b ≠ none := fun e => h (t.dead b (Nat.lt_of_lt_of_le hb s.next) e)
    exact (t.ro b (Nat.lt_of_lt_of_le hb s.next) h).trans (s.ro b hb h1)
  size := Nat.le_trans s.size t.size
  keep := fun rb hrb hno => by
    have e1 := s.keep rb hrb hno
    rw [← e1]
    refine t.keep rb (Nat.lt_of_lt_of_le hrb s.size) fun b m hg hro hm e => ?_
    rcases Nat.lt_or_ge b H.next with hb | hb
    · have hm0 : μ b = some m := by rw [← s.out b (.inl hb)]; exact hm
      have hg0 : H.get b ≠ none := fun e => hg (s.dead b hb e)
      exact hno b m hg0 (fun h => hro ((s.ro b hb hg).2 h)) hm0 e
    · rcases Nat.lt_or_ge b H1.next with hb1 | hb1
      · rcases s.newrb b m hb hb1 hm with h | ⟨b0, m0, h1, h2, h3, h4⟩
        · omega
        · exact hno b0 m0 h1 h2 h3 (h4.trans e)
      · exact hg (hf b hb1)
  newrb := fun b m hb hb2 hm => by
    rcases Nat.lt_or_ge b H1.next with hb1 | hb1
    · have hm1 : μ1 b = some m := by rw [← t.out b (.inl hb1)]; exact hm
      exact s.newrb b m hb hb1 hm1
    · rcases t.newrb b m hb1 hb2 hm with h | ⟨b0, m0, h1, h2, h3, h4⟩
      · exact .inl (Nat.le_trans s.size h)
      · rcases Nat.lt_or_ge b0 H.next with hb0 | hb0
        · exact .inr ⟨b0, m0, fun e => h1 (s.dead b0 hb0 e), fun h => h2 ((s.ro b0 hb0 h1).2 h), by rw [← s.out b0 (.inl hb0)]; exact h3, h4⟩
        · rcases Nat.lt_or_ge b0 H1.next with hb01 | hb01
          · rcases s.newrb b0 m0 hb0 hb01 h3 with h | ⟨b2, m2, k1, k2, k3, k4⟩
            · exact .inl (by omega)
            · exact .inr ⟨b2, m2, k1, k2, k3, k4.trans h4⟩
          · exact absurd (hf b0 hb01) h1
  os := t.os.trans s.os
  tape := t.tape.trans s.tape
  output := t.output.trans s.output
end Go.Ez
