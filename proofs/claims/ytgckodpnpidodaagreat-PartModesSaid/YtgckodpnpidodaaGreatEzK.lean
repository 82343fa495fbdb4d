import Derived.Test.YtgckodpnpidodaaGreatEzLem
set_option linter.all false
/- The words in which conditions are printed. -/
set_option linter.unusedVariables false
set_option linter.unusedSimpArgs false
namespace Go.Ez

abbrev vI (n : Int) : Value := .int .i64 n
/-- not nil -/
def dr (p : Option Addr) (K : Nat → Nat → Prop) : Prop := ∃ b o, p = some ⟨b, o, none⟩ ∧ K b o
/-- within a slice -/
def ix (s : Option Addr) (n : Nat) (i : Int) (K : Nat → Nat → Prop) : Prop := ∃ b o, s = some ⟨b, o, none⟩ ∧ 0 ≤ i ∧ i < (n : Int) ∧ K b o
def ixA (n : Nat) (i : Int) (K : Prop) : Prop := 0 ≤ i ∧ i < (n : Int) ∧ K
def binI (op : BinOp) (x y : Int) (K : Int → Prop) : Prop := ∃ n, eBin op (.int .i64 x) (.int .i64 y) = some (.int .i64 n) ∧ K n
def catK (x y : ByteArray) (K : ByteArray → Prop) : Prop := ∃ s, eBin .add (.string x) (.string y) = some (.string s) ∧ K s
def eqK (P : Program) (op : BinOp) (t : TypeId) (x y : Value) (K : Bool → Prop) : Prop := ∃ b, eqSV P op t x y = some (.bool b) ∧ K b
def slK (H : AH) (size : Nat) (a : Option Addr) (n c : Nat) (lo hi : Option Value) (K : Option Addr → Nat → Nat → Prop) : Prop :=
  ∃ a' n' c', sliceA H size (.slice a n c) lo hi = some (.slice a' n' c') ∧ K a' n' c'
/-- a new block -/
def nw (H : AH) (B : Blk) (K : Nat → AH → Prop) : Prop := ∀ (b : Nat) (H' : AH), b = AH.next H → H' = AH.alloc H B → K b H'
def st (H : AH) (n : Nat) (a : Option Addr) (x : Value) (K : AH → Prop) : Prop := ∃ H', stV H n (.pointer a) x = some H' ∧ K H'
def apK (H : AH) (size bytes : Nat) (s x : Value) (K : Option Addr → Nat → Nat → AH → Prop) : Prop := ∃ (a : Option Addr) (n c : Nat), ∃ H' : AH, apA H size bytes s x = some (.slice a n c, H') ∧ K a n c H'
/-- what stays -/
def kp (l : List Value) (K : Prop) : Prop := l = l ∧ K
def ldN_v (H : AH) (n : Nat) (a : Option Addr) (K : Value → Prop) : Prop := ∃ v, ldN H n (.pointer a) = some v ∧ K v
def ld_e (H : AH) (a : Option Addr) (K : Int → Prop) : Prop := ∃ x : Int, ld1 H (.pointer a) = some (.int .i8 x) ∧ K x
def r_e (r : Value) (K : Int → Prop) : Prop := ∃ x : Int, r = .int .i8 x ∧ K x
def ld_f (H : AH) (a : Option Addr) (K : Int → Prop) : Prop := ∃ x : Int, ld1 H (.pointer a) = some (.int .i16 x) ∧ K x
def r_f (r : Value) (K : Int → Prop) : Prop := ∃ x : Int, r = .int .i16 x ∧ K x
def ld_g (H : AH) (a : Option Addr) (K : Int → Prop) : Prop := ∃ x : Int, ld1 H (.pointer a) = some (.int .i32 x) ∧ K x
def r_g (r : Value) (K : Int → Prop) : Prop := ∃ x : Int, r = .int .i32 x ∧ K x
def ld_i (H : AH) (a : Option Addr) (K : Int → Prop) : Prop := ∃ x : Int, ld1 H (.pointer a) = some (.int .i64 x) ∧ K x
def r_i (r : Value) (K : Int → Prop) : Prop := ∃ x : Int, r = .int .i64 x ∧ K x
def ld_c (H : AH) (a : Option Addr) (K : Int → Prop) : Prop := ∃ x : Int, ld1 H (.pointer a) = some (.int .u8 x) ∧ K x
def r_c (r : Value) (K : Int → Prop) : Prop := ∃ x : Int, r = .int .u8 x ∧ K x
def ld_h (H : AH) (a : Option Addr) (K : Int → Prop) : Prop := ∃ x : Int, ld1 H (.pointer a) = some (.int .u16 x) ∧ K x
def r_h (r : Value) (K : Int → Prop) : Prop := ∃ x : Int, r = .int .u16 x ∧ K x
def ld_w (H : AH) (a : Option Addr) (K : Int → Prop) : Prop := ∃ x : Int, ld1 H (.pointer a) = some (.int .u32 x) ∧ K x
def r_w (r : Value) (K : Int → Prop) : Prop := ∃ x : Int, r = .int .u32 x ∧ K x
def ld_q (H : AH) (a : Option Addr) (K : Int → Prop) : Prop := ∃ x : Int, ld1 H (.pointer a) = some (.int .u64 x) ∧ K x
def r_q (r : Value) (K : Int → Prop) : Prop := ∃ x : Int, r = .int .u64 x ∧ K x
def ld_b (H : AH) (a : Option Addr) (K : Bool → Prop) : Prop := ∃ x : Bool, ld1 H (.pointer a) = some (.bool x) ∧ K x
def r_b (r : Value) (K : Bool → Prop) : Prop := ∃ x : Bool, r = .bool x ∧ K x
def ld_s (H : AH) (a : Option Addr) (K : ByteArray → Prop) : Prop := ∃ x : ByteArray, ld1 H (.pointer a) = some (.string x) ∧ K x
def r_s (r : Value) (K : ByteArray → Prop) : Prop := ∃ x : ByteArray, r = .string x ∧ K x
def ld_p (H : AH) (a : Option Addr) (K : Option Addr → Prop) : Prop := ∃ x : Option Addr, ld1 H (.pointer a) = some (.pointer x) ∧ K x
def r_p (r : Value) (K : Option Addr → Prop) : Prop := ∃ x : Option Addr, r = .pointer x ∧ K x
def ld_m (H : AH) (a : Option Addr) (K : Option Nat → Prop) : Prop := ∃ x : Option Nat, ld1 H (.pointer a) = some (.map x) ∧ K x
def r_m (r : Value) (K : Option Nat → Prop) : Prop := ∃ x : Option Nat, r = .map x ∧ K x
def ld_v (H : AH) (a : Option Addr) (K : Value → Prop) : Prop := ∃ x : Value, ld1 H (.pointer a) = some (x) ∧ K x
def r_v (r : Value) (K : Value → Prop) : Prop := ∃ x : Value, r = x ∧ K x
def ld_l (H : AH) (a : Option Addr) (K : Option Addr → Nat → Nat → Prop) : Prop := ∃ (x : Option Addr) (n c : Nat), ld1 H (.pointer a) = some (.slice x n c) ∧ K x n c
def r_l (r : Value) (K : Option Addr → Nat → Nat → Prop) : Prop := ∃ (x : Option Addr) (n c : Nat), r = .slice x n c ∧ K x n c
end Go.Ez
