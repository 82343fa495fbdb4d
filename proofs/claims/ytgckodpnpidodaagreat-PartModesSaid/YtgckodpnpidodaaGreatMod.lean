import Derived.Test.YtgckodpnpidodaaGreatEzRead
set_option linter.all false
/- What a partition is made of: plain words. -/
set_option linter.all false
namespace Go.Ez
structure TaskC where
  hi : Bool
  T : Int
  D : Int
  V : Int
  Lo : Int
  Top : Int
def eTask (t : TaskC) : List Value := [.bool t.hi, vI t.T, vI t.D, vI t.V, vI t.Lo, vI t.Top]
theorem eTask_len (t : TaskC) : (eTask t).length = 6 := rfl
theorem eTask_cell (t : TaskC) : (eTask t).all isCell = true := rfl
structure SrvC where
  refill : Bool
  C : Int
  T : Int
def eSrv (s : SrvC) : List Value := [.bool s.refill, vI s.C, vI s.T]
theorem eSrv_len (t : SrvC) : (eSrv t).length = 3 := rfl
theorem eSrv_cell (t : SrvC) : (eSrv t).all isCell = true := rfl

/-- Does each number come to at least the one ahead of it? -/
def sortedB : List Int → Bool
  | a :: b :: l => decide (a ≤ b) && sortedB (b :: l)
  | _ => true
theorem sortedB_iff : ∀ l : List Int, sortedB l = true ↔ ∀ j, j + 1 < l.length → l.getD j 0 ≤ l.getD (j + 1) 0
  | [] => by simp [sortedB]
  | [a] => by simp [sortedB]
  | a :: b :: l => by
    simp only [sortedB, Bool.and_eq_true, decide_eq_true_eq]
    rw [sortedB_iff (b :: l)]
    constructor
    · rintro ⟨h1, h2⟩ j hj
      cases j with
      | zero => simpa using h1
      | succ j => simpa using h2 j (by simpa using hj)
    · intro h
      refine ⟨by simpa using h 0 (by simp), fun j hj => ?_⟩
      simpa using h (j + 1) (by simpa using hj)
def TaskC.right (t : TaskC) : Bool := sortedB [1, t.Lo, t.V, t.D, t.T, 1000] && sortedB [t.Lo, t.Top, t.D] && (t.hi || (t.V == t.D && t.Top == t.Lo))
def SrvC.right (s : SrvC) : Bool := sortedB [1, s.C, s.T, 1000]
theorem TaskC.right_iff {t : TaskC} : t.right = true ↔ (1 ≤ t.Lo ∧ t.Lo ≤ t.V ∧ t.V ≤ t.D ∧ t.D ≤ t.T ∧ t.T ≤ 1000 ∧ t.Lo ≤ t.Top ∧ t.Top ≤ t.D ∧ (t.hi = true ∨ (t.V = t.D ∧ t.Top = t.Lo))) := by
  simp [TaskC.right, sortedB, and_assoc]
theorem SrvC.right_iff {s : SrvC} : s.right = true ↔ (1 ≤ s.C ∧ s.C ≤ s.T ∧ s.T ≤ 1000) := by simp [SrvC.right, sortedB]
/-- The first place at which it is so; -1: none. -/
def idxI {α : Type} (p : α → Bool) : List α → Int
  | [] => -1
  | a :: l => if p a then 0 else (if idxI p l < 0 then -1 else idxI p l + 1)
theorem idxI_any {α : Type} (p : α → Bool) : ∀ l : List α, decide (0 ≤ idxI p l) = l.any p
  | [] => by simp [idxI]
  | a :: l => by
    have ih := idxI_any p l
    cases hp : p a with
    | true => simp [idxI, hp]
    | false =>
      simp only [idxI, hp, List.any_cons, Bool.false_or, ← ih]
      by_cases h : idxI p l < 0
      · have : ¬ 0 ≤ idxI p l := by omega
        simp [h, this]
      · have h1 : 0 ≤ idxI p l := by omega
        have h2 : 0 ≤ idxI p l + 1 := by omega
        simp [h, h1, h2]
/-- What of a list is left, told from its place. -/
theorem idxI_at {α : Type} (p : α → Bool) : ∀ (l : List α) (k : Nat), (∀ i x, i < k → l[i]? = some x → p x = false) → (k = l.length → idxI p l = -1) ∧ (∀ x, l[k]? = some x → p x = true → idxI p l = k)
  | [], k, h => ⟨fun _ => rfl, fun x hx => by simp at hx⟩
  | a :: l, 0, h => ⟨fun e => by simp at e, fun x hx hp => by simp at hx; subst hx; simp [idxI, hp]⟩
  | a :: l, k + 1, h => by
    have ha : p a = false := h 0 a (by omega) rfl
    obtain ⟨h1, h2⟩ := idxI_at p l k fun i x hi hx => h (i + 1) x (by omega) (by simpa using hx)
    refine ⟨fun e => ?_, fun x hx hp => ?_⟩
    · have := h1 (by simpa using e)
      simp [idxI, ha, this]
    · have := h2 x (by simpa using hx) hp
      simp only [idxI, ha, this]
      rw [if_neg (by decide), if_neg (by omega)]; omega

/-! ### Jobs -/
abbrev OpC := Int × Int × Int
def eOp (o : OpC) : List Value := [vI o.1, vI o.2.1, vI o.2.2]
theorem eOp_len (o : OpC) : (eOp o).length = 3 := rfl
theorem eOp_cell (o : OpC) : (eOp o).all isCell = true := rfl
structure JobC where
  task : Int
  arrived : Int
  work : Int
  done : Int
  ops : List OpC
/-- May a job begin? -/
def JobC.right (j : JobC) : Bool := decide (0 ≤ j.arrived) && decide (j.arrived ≤ 4611686018427387904) && decide (1 ≤ j.work) && decide (j.work ≤ 1048576) && (j.done == 0) && decide (j.ops.length ≤ 64)
theorem JobC.right_iff {j : JobC} : j.right = true ↔ 0 ≤ j.arrived ∧ j.arrived ≤ 4611686018427387904 ∧ 1 ≤ j.work ∧ j.work ≤ 1048576 ∧ j.done = 0 ∧ j.ops.length ≤ 64 := by
  simp [JobC.right, and_assoc]
def JobC.op (j : JobC) : OpC := if j.done < j.ops.length then j.ops.getD j.done.toNat (0, 0, 0) else (0, 0, 0)
abbrev SlotC := TaskC × Option JobC
def dueJ (high : Bool) (t : TaskC) (j : JobC) : Int := j.arrived + (if high then t.D else t.V)
def dueM (md : Nat → Bool) (sl : List SlotC) (k : Nat) : Option Int := (sl[k]?).bind fun s => s.2.map (dueJ (md k) s.1)
abbrev dueOf (high : Bool) (sl : List SlotC) (k : Nat) : Option Int := dueM (fun _ => high) sl k
/-- A job that is there. -/
structure JobOk (k : Nat) (t : TaskC) (j : JobC) : Prop where
  task : j.task = k
  a0 : 0 ≤ j.arrived
  a1 : j.arrived ≤ 4611686018427387904
  w1 : j.work ≤ 1048576
  d0 : 0 ≤ j.done
  d1 : j.done ≤ j.work
  ops : j.ops.length ≤ 64
structure TabOk (sl : List SlotC) : Prop where
  len : sl.length ≤ 6
  right : ∀ s ∈ sl, s.1.right = true
  job : ∀ k t j, sl[k]? = some (t, some j) → JobOk k t j
abbrev RawC := TaskC × Option Nat
def eSlot (s : RawC) : List Value := [.bool s.1.hi, vI s.1.T, vI s.1.D, vI s.1.V, vI s.1.Lo, vI s.1.Top, .pointer (s.2.map fun q => ⟨q, 0, none⟩)]
theorem eSlot_len (s : RawC) : (eSlot s).length = 7 := rfl
theorem eSlot_cell (s : RawC) : (eSlot s).all isCell = true := rfl

/-- A tick of a job: what comes of it, and the job behind it. 0: it goes on, 1: it has ended, 2: over, 3: the mode rises. -/
def runJ (high : Bool) (t : TaskC) (j : JobC) : Int × Option JobC :=
  let d := j.done + 1
  let j' : JobC := { j with done := d }
  if d = j.work then (1, none)
  else if (if high then t.Top else t.Lo) ≤ d then (if high = true ∨ t.hi = false ∨ t.Top = t.Lo then (2, none) else (3, some j'))
  else (0, some j')
/-- Who goes. -/
def goesK (p : TaskC → JobC → Bool) (s : SlotC) : Bool :=
  match s.2 with
  | some j => p s.1 j
  | none => false
def stay (p : TaskC → JobC → Bool) (s : SlotC) : SlotC := if goesK p s then (s.1, none) else s
/-- Their numbers. -/
def goneK (p : TaskC → JobC → Bool) : Nat → List SlotC → List Nat
  | _, [] => []
  | k, s :: l => if goesK p s then k :: goneK p (k + 1) l else goneK p (k + 1) l
end Go.Ez
