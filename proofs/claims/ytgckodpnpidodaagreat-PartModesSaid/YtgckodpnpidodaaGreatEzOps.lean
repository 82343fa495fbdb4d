import Derived.Test.YtgckodpnpidodaaGreatEzBase
set_option linter.all false
/- The operations of the deterministic interpreter: what each one does to values and to the abstract heap. -/
set_option linter.unusedVariables false
set_option linter.unusedSimpArgs false
namespace Go.Ez

/-! ### What needs no memory -/
/-- A computation that looks at the program alone. -/
def still {α : Type} (P : Program) : Sem α → Option α
  | .pure a => some a
  | .program k => still P (k P)
  | .mark _ k => still P k
  | _ => none

/-- A value without a place in memory: a simple one. -/
def plain1 : Value → Bool
  | .bool _ | .int _ _ | .float _ _ | .string _ | .pointer none | .slice none 0 0 | .map none | .nilFunc | .nilIface => true
  | _ => false
/-- A value without a place in memory. -/
def plainV : Value → Bool
  | .agg cs => cs.toList.all plain1
  | v => plain1 v

/-! ### Memory -/
def setMany (cs : List Value) (o : Nat) : List Value → List Value
  | [] => cs
  | x :: xs => setMany (cs.set o x) (o + 1) xs

/-- Cells of a block. -/
def ldCells (H : AH) (b o n : Nat) : Option (List Value) :=
  match H.get b with
  | some (.cells cs _ _) => bif Nat.ble (o + n) cs.length then some ((cs.drop o).take n) else none
  | _ => none

/-- A cell. -/
def ld1 (H : AH) (a : Value) : Option Value :=
  match a with
  | .pointer (some ⟨b, o, none⟩) =>
    match H.get b with
    | some (.cells cs _ _) => cs[o]?
    | _ => none
  | _ => none
/-- Cells, as one value. -/
def ldN (H : AH) (n : Nat) (a : Value) : Option Value :=
  match a with
  | .pointer (some ⟨b, o, none⟩) => (ldCells H b o n).bind fun l => some (.agg l.toArray)
  | _ => none

/-- Cells into a block. -/
def stCells (H : AH) (b o : Nat) (xs : List Value) : Option AH :=
  match H.get b with
  | some (.cells cs false g) => bif Nat.ble (o + xs.length) cs.length && xs.all isCell then some (H.set b (.cells (setMany cs o xs) false g)) else none
  | _ => none
def stV (H : AH) (n : Nat) (a x : Value) : Option AH :=
  match a with
  | .pointer (some ⟨b, o, none⟩) => bif Nat.beq (cellsOf x).length n then stCells H b o (cellsOf x) else none
  | _ => none

def newCells (H : AH) (zs : List Value) : Value × AH := (.pointer (some ⟨H.next, 0, none⟩), H.alloc (.cells zs false 0))
def boxV (H : AH) (x : Value) : Option (Value × AH) := if isTuple x then none else some (newCells H (cellsOf x))

/-- Parts into cells. -/
def fillA (cs : List Value) : List (Nat × Nat × Value) → Option (List Value)
  | [] => some cs
  | (off, size, v) :: rest => if isTuple v then none else bif Nat.beq (cellsOf v).length size && Nat.ble (off + size) cs.length then fillA (setMany cs off (cellsOf v)) rest else none

def nilChk : Value → Option Value
  | .pointer (some a) => some (.pointer (some a))
  | .iface t v => some (.iface t v)
  | .func (.func f) x y => some (.func (.func f) x y)
  | _ => none

/-! ### Arithmetic -/
def eBits (op : BinOp) (k : IntKind) (x y : Int) : Option Value :=
  match op with
  | .and => some (.int k (k.wrap (BitVec.ofInt k.bits x &&& BitVec.ofInt k.bits y).toNat))
  | .or => some (.int k (k.wrap (BitVec.ofInt k.bits x ||| BitVec.ofInt k.bits y).toNat))
  | .xor => some (.int k (k.wrap (BitVec.ofInt k.bits x ^^^ BitVec.ofInt k.bits y).toNat))
  | .andNot => some (.int k (k.wrap (BitVec.ofInt k.bits x &&& ~~~(BitVec.ofInt k.bits y)).toNat))
  | _ => none
def eShift (op : BinOp) (k : IntKind) (x y : Int) : Option Value :=
  if y < 0 then none else
  match op with
  | .shl => some (.int k (k.wrap (x * 2 ^ (min y.toNat k.bits))))
  | .shr => some (.int k (x.fdiv (2 ^ (min y.toNat k.bits))))
  | _ => none
def eInt (op : BinOp) (k : IntKind) (a b : Int) : Option Value :=
  match op with
  | .add => some (.int k (k.wrap (a + b)))
  | .sub => some (.int k (k.wrap (a - b)))
  | .mul => some (.int k (k.wrap (a * b)))
  | .quo => if b = 0 then none else some (.int k (k.wrap (a.tdiv b)))
  | .rem => if b = 0 then none else some (.int k (a.tmod b))
  | .eql => some (.bool (a == b))
  | .neq => some (.bool (a != b))
  | .lss => some (.bool (decide (a < b)))
  | .leq => some (.bool (decide (a ≤ b)))
  | .gtr => some (.bool (decide (b < a)))
  | .geq => some (.bool (decide (b ≤ a)))
  | op => eBits op k a b
def eBin (op : BinOp) (x y : Value) : Option Value :=
  match x, y with
  | .int k a, .int j b =>
    match op with
    | .shl => eShift .shl k a b
    | .shr => eShift .shr k a b
    | op => if k = j then eInt op k a b else none
  | .string a, .string b =>
    match op with
    | .add => if a.size + b.size ≤ 9223372036854775807 then some (.string (a ++ b)) else none
    | .eql => some (.bool (a.toList == b.toList))
    | .neq => some (.bool !(a.toList == b.toList))
    | _ => none
  | _, _ => none
/-- Kinds of types that have a nil. -/
inductive NK where
  | ptr | slc | map | fn | ifc
/-- Is a value of such a kind nil? -/
def isNilK : NK → Value → Option Bool
  | .ptr, .pointer a => some a.isNone
  | .slc, .slice a _ _ => some a.isNone
  | .map, .map r => some r.isNone
  | .fn, .nilFunc => some true
  | .fn, .func _ _ _ => some false
  | .ifc, .nilIface => some true
  | .ifc, .iface _ _ => some false
  | _, _ => none

/-! ### Slices -/
def idxAddr (size : Nat) (x ix : Value) : Option Value :=
  match x, ix with
  | .slice (some ⟨b, o, none⟩) n _, .int _ i => if 0 ≤ i ∧ i < (n : Int) then some (.pointer (some ⟨b, o + i.toNat * size, none⟩)) else none
  | _, _ => none
def idxArr (len size : Nat) (x ix : Value) : Option Value :=
  match x, ix with
  | .pointer (some ⟨b, o, none⟩), .int _ i => if 0 ≤ i ∧ i < (len : Int) then some (.pointer (some ⟨b, o + i.toNat * size, none⟩)) else none
  | _, _ => none
def fldAddr (off : Nat) (x : Value) : Option Value :=
  match x with
  | .pointer (some ⟨b, o, none⟩) => some (.pointer (some ⟨b, o + off, none⟩))
  | _ => none
/-- A part of a value of several cells. -/
def partV (sz : Option Nat) (off : Nat) (x : Value) : Option Value :=
  match x with
  | .agg cs =>
    match sz with
    | some n => some (.agg ((cs.toList.drop off).take n).toArray)
    | none => cs.toList[off]?
  | _ => none
def idxAgg (len : Nat) (sz : Option Nat) (size : Nat) (x ix : Value) : Option Value :=
  match ix with
  | .int _ i => if 0 ≤ i ∧ i < (len : Int) then partV sz (i.toNat * size) x else none
  | _ => none
def bnd (x : Option Value) (dflt top : Nat) : Option Nat :=
  match x with
  | none => some dflt
  | some (.int _ i) => if 0 ≤ i ∧ i ≤ (top : Int) then some i.toNat else none
  | some _ => none
def sliceA (H : AH) (size : Nat) (x : Value) (lo hi : Option Value) : Option Value :=
  match x with
  | .slice none 0 0 => (bnd hi 0 0).bind fun h => (bnd lo 0 h).bind fun l => some (.slice none 0 0)
  | .slice (some ⟨b, o, none⟩) n c =>
    match H.get b with
    | some (.cells _ _ g) => (bnd hi n c).bind fun h => (bnd lo 0 h).bind fun l =>
      if g = 0 ∨ g = size then some (.slice (some ⟨b, if c = l then o else o + l * size, none⟩) (h - l) (c - l)) else none
    | _ => none
  | _ => none
/-- A slice of an array. -/
def sliceArr (H : AH) (len size : Nat) (x : Value) (lo hi : Option Value) : Option Value :=
  match x with
  | .pointer (some ⟨b, o, none⟩) =>
    match H.get b with
    | some (.cells _ _ 0) => (bnd hi len len).bind fun h => (bnd lo 0 h).bind fun l =>
      some (.slice (some ⟨b, if len = l then o else o + l * size, none⟩) (h - l) (len - l))
    | _ => none
  | _ => none
def sliceStr (x : Value) (lo hi : Option Value) : Option Value :=
  match x with
  | .string s => (bnd hi s.size s.size).bind fun h => (bnd lo 0 h).bind fun l => some (.string (s.extract l h))
  | _ => none
def lenSl (x : Value) : Option Value :=
  match x with
  | .slice _ n _ => some (.int .i64 n)
  | _ => none
def lenStr (x : Value) : Option Value :=
  match x with
  | .string s => some (.int .i64 s.size)
  | _ => none
/-- The capacity, where it is known. -/
def capA (H : AH) (x : Value) : Option Value :=
  match x with
  | .slice none 0 0 => some (.int .i64 0)
  | .slice (some ⟨b, _, none⟩) _ c =>
    match H.get b with
    | some (.cells _ _ g) => if g = 0 then some (.int .i64 c) else none
    | _ => none
  | _ => none

def zerosA (zs : List Value) (n : Nat) : List Value := (List.replicate n zs).flatten

/-- What is appended. -/
def srcA (H : AH) (size : Nat) (x : Value) : Option (Nat × List Value) :=
  match x with
  | .slice none 0 0 => some (0, [])
  | .slice (some ⟨b, o, none⟩) n _ => if n = 0 then some (0, []) else (ldCells H b o (n * size)).bind fun l => some (n, l)
  | .slice (some ⟨_, _, some _⟩) 0 0 => some (0, [])
  | _ => none
def appendA (H : AH) (size bytes : Nat) (s : Value) (n : Nat) (xs : List Value) : Option (Value × AH) :=
  match s with
  | .slice none 0 0 =>
    if n = 0 then some (.slice none 0 0, H) else
    if n * bytes ≤ 140737488351232 ∧ n ≤ 70368744177664 ∧ bytes ≤ 1048576 ∧ 0 < size then some (.slice (some ⟨H.next, 0, none⟩) n n, H.alloc (.cells xs false size)) else none
  | .slice (some ⟨b, o, none⟩) m c =>
    if n = 0 then some (.slice (some ⟨b, o, none⟩) m c, H) else
    match H.get b with
    | some (.cells cs ro g) =>
      if m + n ≤ c then
        if ro = false ∧ (g = 0 ∨ g = size) then (stCells H b (o + m * size) xs).bind fun H' => some (.slice (some ⟨b, o, none⟩) (m + n) c, H') else none
      else
        if (m + n) * bytes ≤ 140737488351232 ∧ m + n ≤ 70368744177664 ∧ bytes ≤ 1048576 ∧ 0 < size ∧ o + m * size ≤ cs.length ∧ xs.all isCell = true ∧ (g = 0 ∨ (g = size ∧ ro = false)) then
          let old := (cs.drop o).take (m * size)
          let H1 := H.alloc (.cells (old ++ xs) false size)
          some (.slice (some ⟨H.next, 0, none⟩) (m + n) (m + n), if g = 0 then H1 else H1.kill b)
        else none
    | _ => none
  | _ => none
def mkSlice (H : AH) (bytes : Nat) (zs : List Value) (l c : Value) : Option (Value × AH) :=
  match l, c with
  | .int .i64 l, .int .i64 c =>
    if 0 ≤ l ∧ l ≤ c ∧ c * (bytes : Int) ≤ 140737488351232 ∧ c ≤ 140737488351232 then some (.slice (some ⟨H.next, 0, none⟩) l.toNat c.toNat, H.alloc (.cells (zerosA zs c.toNat) false 0)) else none
  | _, _ => none
def clearA (H : AH) (zs : List Value) (x : Value) : Option AH :=
  match x with
  | .slice none 0 0 => some H
  | .slice (some ⟨b, o, none⟩) n _ => if n = 0 then some H else stCells H b o (zerosA zs n)
  | _ => none
def maxA (x y : Value) : Option Value :=
  match x, y with
  | .int k a, .int _ b => some (.int k (if b > a then b else a))
  | _, _ => none
def minA (x y : Value) : Option Value :=
  match x, y with
  | .int k a, .int _ b => some (.int k (if b < a then b else a))
  | _, _ => none
def foldA (f : Value → Value → Option Value) : Value → List Value → Option Value
  | x, [] => some x
  | x, y :: l => (f x y).bind fun z => foldA f z l
def extractA (x : Value) (i : Nat) : Option Value :=
  match x with
  | .tuple vs => vs.toList[i]?
  | _ => none

/-! ### Maps whose keys are whole numbers -/
def findA (j : IntKind) (n : Int) : List MapEntry → Nat → Option (Option (Nat × Value))
  | [], _ => some none
  | e :: es, i =>
    match e.key with
    | .int k m => if j = k then (if n = m then some (some (i, e.val)) else findA j n es (i + 1)) else none
    | _ => none

/-! ### Equality of values, as a test that says yes only where they are one -/
def veq : Nat → Value → Value → Bool
  | _, .bool a, .bool b => a == b
  | _, .int j a, .int k b => decide (j = k) && decide (a = b)
  | _, .float j a, .float k b => decide (j = k) && decide (a = b)
  | _, .string a, .string b => decide (a.data.toList = b.data.toList)
  | _, .pointer a, .pointer b => decide (a = b)
  | _, .slice a n c, .slice b m d => decide (a = b) && Nat.beq n m && Nat.beq c d
  | _, .map a, .map b => decide (a = b)
  | _, .nilFunc, .nilFunc => true
  | _, .nilIface, .nilIface => true
  | n + 1, .iface t v, .iface u w => Nat.beq t u && veq n v w
  | n + 1, .agg a, .agg b => Nat.beq a.size b.size && (a.toList.zip b.toList).all fun p => veq n p.1 p.2
  | n + 1, .func (.func f) a1 a2, .func (.func g) b1 b2 => Nat.beq f g && Nat.beq a1.size b1.size && Nat.beq a2.size b2.size && ((a1.toList.zip b1.toList).all fun p => veq n p.1 p.2) && ((a2.toList.zip b2.toList).all fun p => veq n p.1 p.2)
  | _, _, _ => false

end Go.Ez
