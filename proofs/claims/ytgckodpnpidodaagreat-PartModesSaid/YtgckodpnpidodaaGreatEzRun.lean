import Derived.Test.YtgckodpnpidodaaGreatEzOps
set_option linter.all false
/- The deterministic interpreter: operations, regions, code, calls. -/
set_option linter.unusedVariables false
set_option linter.unusedSimpArgs false
namespace Go.Ez

/-! ### Operations, their types looked up -/
inductive PurOp where
  | mov (x : Operand)
  | pick (c a b : Operand)
  | build (zs : List Value) (parts : List (Nat × Nat × Operand))
  | nilCheck (x : Operand)
  | bin (op : BinOp) (x y : Operand)
  | eqB (neq : Bool) (x y : Operand)
  | eqNil (neq : Bool) (k : NK) (x : Operand)
  | eqS (op : BinOp) (t : TypeId) (x y : Operand)
  | notB (x : Operand)
  | negI (x : Operand)
  | toInt (k : IntKind) (x : Operand)
  | iface (t : TypeId) (x : Operand)
  | func (fn : FuncId) (captured : List Operand)
  | sliceStr (x : Operand) (lo hi : Option Operand)
  | fldAddr (off : Nat) (x : Operand)
  | part (sz : Option Nat) (off : Nat) (x : Operand)
  | idxAddr (size : Nat) (x ix : Operand)
  | idxArr (len size : Nat) (x ix : Operand)
  | idxAgg (len : Nat) (sz : Option Nat) (size : Nat) (x ix : Operand)
  | extract (x : Operand) (i : Nat)
  | lenSl (x : Operand)
  | lenStr (x : Operand)
  | lenC (n : Nat)
  | max (x y : Operand)
  | min (x y : Operand)

inductive RdOp where
  | ld1 (a : Operand)
  | ldN (n : Nat) (a : Operand)
  | slice (size : Nat) (x : Operand) (lo hi : Option Operand)
  | sliceArr (len size : Nat) (x : Operand) (lo hi : Option Operand)
  | cap (x : Operand)
  | lookup (zero : Value) (m k : Operand)

inductive NewOp where
  | alloc (zs : List Value)
  | box (x : Operand)
  | buildSlice (len : Nat) (zs : List Value) (parts : List (Nat × Nat × Operand))
  | mkSlice (bytes : Nat) (zs : List Value) (l c : Operand)
  | mkMap

inductive WrOp where
  | st (n : Nat) (a x : Operand)
  | append (size bytes : Nat) (s x : Operand)
  | appendZ (size bytes : Nat) (zs : List Value) (s x : Operand)
  | clear (zs : List Value) (x : Operand)
  | update (m k v : Operand)
  | call (f : FuncId) (args : List Operand)
  | callv (f : Operand) (args : List Operand)
  | invoke (recv : Operand) (name : String) (args : List Operand)

inductive ROp where
  | pur (p : PurOp)
  | rd (r : RdOp)
  | new (n : NewOp)
  | wr (w : WrOp)

/-! ### What they do -/
section
variable (P : Program) (e : Operand → Value)

def partsE (ps : List (Nat × Nat × Operand)) : List (Nat × Nat × Value) := ps.map fun p => (p.1, p.2.1, e p.2.2)

/-- '==' or '!=' of two values without places, as the machine reckons it. -/
def eqSV (op : BinOp) (t : TypeId) (x y : Value) : Option Value :=
  match x, y with
  | .agg a, .agg b => if plainV (.agg a) && plainV (.agg b) then still P (binOp op t (.agg a) (.agg b)) else none
  | _, _ => none

def PurOp.run : PurOp → Option Value
  | .mov x => some (e x)
  | .pick c a b => match e c with
    | .bool true => some (e a)
    | .bool false => some (e b)
    | _ => none
  | .build zs ps => (fillA zs (partsE e ps)).bind fun cs => some (.agg cs.toArray)
  | .nilCheck x => nilChk (e x)
  | .bin op x y => eBin op (e x) (e y)
  | .eqB neq x y => match e x, e y with
    | .bool a, .bool b => some (.bool (if neq then !(a == b) else a == b))
    | _, _ => none
  | .eqNil neq k x => (isNilK k (e x)).bind fun b => some (.bool (if neq then !b else b))
  | .eqS op t x y => eqSV P op t (e x) (e y)
  | .notB x => match e x with
    | .bool b => some (.bool !b)
    | _ => none
  | .negI x => match e x with
    | .int k n => some (.int k (k.wrap (0 - n)))
    | _ => none
  | .toInt k x => match e x with
    | .int _ n => some (.int k (k.wrap n))
    | _ => none
  | .iface t x => some (.iface t (e x))
  | .func f cs => some (.func (.func f) #[] (cs.map e).toArray)
  | .sliceStr x lo hi => Ez.sliceStr (e x) (lo.map e) (hi.map e)
  | .fldAddr off x => Ez.fldAddr off (e x)
  | .part sz off x => partV sz off (e x)
  | .idxAddr size x ix => Ez.idxAddr size (e x) (e ix)
  | .idxArr nn size x ix => Ez.idxArr nn size (e x) (e ix)
  | .idxAgg nn sz size x ix => Ez.idxAgg nn sz size (e x) (e ix)
  | .extract x i => extractA (e x) i
  | .lenSl x => Ez.lenSl (e x)
  | .lenStr x => Ez.lenStr (e x)
  | .lenC n => some (.int .i64 n)
  | .max x y => maxA (e x) (e y)
  | .min x y => minA (e x) (e y)

/-- A read, its operands told. -/
inductive Rd where
  | ld1 (a : Value)
  | ldN (n : Nat) (a : Value)
  | slice (size : Nat) (x : Value) (lo hi : Option Value)
  | sliceArr (len size : Nat) (x : Value) (lo hi : Option Value)
  | cap (x : Value)
  | lookup (zero m k : Value)

def lookupA (H : AH) (zero m k : Value) : Option Value :=
  match m, k with
  | .map none, .int _ _ => some zero
  | .map (some b), .int j n =>
    match H.get b with
    | some (.map es _) => (findA j n es 0).bind fun r => match r with
      | some (_, v) => some v
      | none => some zero
    | _ => none
  | _, _ => none

def Rd.run (H : AH) : Rd → Option Value
  | .ld1 a => Ez.ld1 H a
  | .ldN n a => Ez.ldN H n a
  | .slice size x lo hi => sliceA H size x lo hi
  | .sliceArr n size x lo hi => Ez.sliceArr H n size x lo hi
  | .cap x => capA H x
  | .lookup z m k => lookupA H z m k

def RdOp.rd : RdOp → Rd
  | .ld1 a => .ld1 (e a)
  | .ldN n a => .ldN n (e a)
  | .slice size x lo hi => .slice size (e x) (lo.map e) (hi.map e)
  | .sliceArr n size x lo hi => .sliceArr n size (e x) (lo.map e) (hi.map e)
  | .cap x => .cap (e x)
  | .lookup z m k => .lookup z (e m) (e k)

/-- What is handed back of a new block. -/
inductive Form where
  | ptr
  | slice (n c : Nat)
  | map
def Form.val (b : Nat) : Form → Value
  | .ptr => .pointer (some ⟨b, 0, none⟩)
  | .slice n c => .slice (some ⟨b, 0, none⟩) n c
  | .map => .map (some b)

def NewOp.made : NewOp → Option (Blk × Form)
  | .alloc zs => some (.cells zs false 0, .ptr)
  | .box x => if isTuple (e x) then none else some (.cells (cellsOf (e x)) false 0, .ptr)
  | .buildSlice len zs ps => (fillA zs (partsE e ps)).bind fun cs => some (.cells cs false 0, .slice len len)
  | .mkSlice bytes zs l c => match e l, e c with
    | .int .i64 l, .int .i64 c => if 0 ≤ l ∧ l ≤ c ∧ c * (bytes : Int) ≤ 140737488351232 ∧ c ≤ 140737488351232 then some (.cells (zerosA zs c.toNat) false 0, .slice l.toNat c.toNat) else none
    | _, _ => none
  | .mkMap => some (.map [] 0, .map)

abbrev CallF := FuncId → List Value → AH → Option (Value × AH)

def updateA (H : AH) (m k v : Value) : Option AH :=
  match m, k with
  | .map (some b), .int j n =>
    match H.get b with
    | some (.map es ck) => if isTuple v then none else (findA j n es 0).bind fun r => match r with
      | some (i, _) => some (H.set b (.map (es.modify i fun x => { x with key := .int j n, val := v }) ck))
      | none => some (H.set b (.map (es ++ [{ key := .int j n, val := v, born := ck }]) (ck + 1)))
    | _ => none
  | _, _ => none

/-- The method of a value in an interface, and its receiver. -/
def methodA (H : AH) (t : TypeId) (v : Value) (name : String) : Option (FuncId × Value) :=
  match P.info? t with
  | none => none
  | some i =>
    match i.methods.find? (·.name == name) with
    | none => none
    | some m =>
      match m.func with
      | none => none
      | some (f, ptrRecv) =>
        match m.path.toList with
        | [] =>
          match P.underlying t, ptrRecv with
          | some (.pointer _), true => some (f, v)
          | some (.pointer _), false => none
          | some _, false => some (f, v)
          | _, _ => none
        | [s] =>
          if s.deref then
            match P.underlying s.struct with
            | some (.struct fs) =>
              match fs[s.index]? with
              | none => none
              | some fd =>
                match P.info? fd.type, P.underlying fd.type, ptrRecv with
                | some fi, some (.struct _), false => if fi.size = 0 then none else (fldAddr fd.offset v).bind fun a => (Ez.ldN H fi.size a).bind fun x => some (f, x)
                | _, _, _ => none
            | _ => none
          else none
        | _ => none

def WrOp.run (call : CallF) (H : AH) : WrOp → Option (Value × AH)
  | .st n a x => (stV H n (e a) (e x)).bind fun H' => some (undef, H')
  | .append size bytes s x => (srcA H size (e x)).bind fun (n, xs) => appendA H size bytes (e s) n xs
  | .appendZ size bytes zs s x => match e x with
    | .int .i64 n => if 0 ≤ n ∧ n ≤ 70368744177664 ∧ n * (bytes : Int) ≤ 140737488351232 then appendA H size bytes (e s) n.toNat (zerosA zs n.toNat) else none
    | _ => none
  | .clear zs x => (clearA H zs (e x)).bind fun H' => some (.tuple #[], H')
  | .update m k v => (updateA H (e m) (e k) (e v)).bind fun H' => some (undef, H')
  | .call f args => call f (args.map e) H
  | .callv f args => match e f with
    | .func (.func g) first captured => call g (first.toList ++ args.map e ++ captured.toList) H
    | _ => none
  | .invoke r name args => match e r with
    | .iface t v => (methodA P H t v name).bind fun (f, x) => call f (x :: args.map e) H
    | _ => none
end

/-! ### Looking the types up -/
section
variable (P : Program)

/-- A constant without a place. -/
def okOpd : Operand → Bool
  | .tmp _ => true
  | .const v => plainV v
  | .global _ => false
  | .func _ => true

def infoOf (t : TypeId) : Option (Nat × Nat × List Value) :=
  match P.info? t with
  | some i => match i.zero with
    | some z => bif Nat.beq (cellsOf z).length i.size && plainV z then some (i.size, i.bytes, cellsOf z) else none
    | none => none
  | none => none
/-- The size of a variable that is more than one cell; of one cell: none. -/
def aggOf (t : TypeId) : Option (Option Nat) :=
  match P.info? t, P.underlying t with
  | some i, some (.struct _) => some (some i.size)
  | some i, some (.array _ _) => some (some i.size)
  | some _, some _ => some none
  | _, _ => none
def sizeA (t : TypeId) : Option Nat :=
  match P.info? t with
  | some i => some i.size
  | none => none
def okO : Option Operand → Bool
  | none => true
  | some x => okOpd x

def fieldParts (fs : Array Field) : List (Nat × Operand) → Option (List (Nat × Nat × Operand))
  | [] => some []
  | (i, x) :: l => match fs[i]? with
    | some f => (sizeA P f.type).bind fun n => (fieldParts fs l).bind fun r => bif okOpd x then some ((f.offset, n, x) :: r) else none
    | none => none
def elemParts (size : Nat) : List (Nat × Operand) → Option (List (Nat × Nat × Operand))
  | [] => some []
  | (i, x) :: l => (elemParts size l).bind fun r => bif okOpd x then some ((i * size, size, x) :: r) else none

/-- 'x == y' or 'x != y' where the kind of type asks for more than numbers and texts. -/
def eqOp (neq : Bool) : BinOp := if neq then .neq else .eql
def prepEq (neq : Bool) (t : TypeId) (x y : Operand) : Option PurOp :=
  match P.underlying t with
  | some (.int _) => some (.bin (eqOp neq) x y)
  | some .string => some (.bin (eqOp neq) x y)
  | some .bool => some (.eqB neq x y)
  | some (.pointer _) => match y with
    | .const (.pointer none) => some (.eqNil neq .ptr x)
    | _ => none
  | some (.slice _) => match y with
    | .const (.slice none 0 0) => some (.eqNil neq .slc x)
    | _ => none
  | some (.map _ _) => match y with
    | .const (.map none) => some (.eqNil neq .map x)
    | _ => none
  | some (.func _ _ _) => match y with
    | .const .nilFunc => some (.eqNil neq .fn x)
    | _ => none
  | some (.interface _) => match y with
    | .const .nilIface => some (.eqNil neq .ifc x)
    | _ => none
  | some (.struct _) | some (.array _ _) => if P.eqGuardType P.depth t then none else some (.eqS (eqOp neq) t x y)
  | _ => none

def prepOp (o : Oper) : Option ROp :=
  match o.op with
  | .move x | .assign x => bif okOpd x then some (.pur (.mov x)) else none
  | .pick c a b => bif okOpd c && okOpd a && okOpd b then some (.pur (.pick c a b)) else none
  | .alloc el => (infoOf P el).bind fun (_, _, z) => some (.new (.alloc z))
  | .box el x => bif okOpd x then some (.new (.box x)) else none
  | .build t parts => (infoOf P t).bind fun (_, _, z) =>
    match P.underlying t with
    | some (.struct fs) => bif fs.toList.all (fun f => (P.info? f.type).isSome) then (fieldParts P fs parts.toList).bind fun ps => some (.pur (.build z ps)) else none
    | some (.array _ el) => (sizeA P el).bind fun n => (elemParts n parts.toList).bind fun ps => some (.pur (.build z ps))
    | _ => none
  | .buildSlice t len parts =>
    match P.underlying t with
    | some (.slice el) => (infoOf P el).bind fun (n, _, z) => if 0 < n ∧ len * n ≤ 16777216 then (elemParts n parts.toList).bind fun ps => some (.new (.buildSlice len (zerosA z len) ps)) else none
    | _ => none
  | .load t a => bif okOpd a then (aggOf P t).bind fun s => match s with
      | some n => some (.rd (.ldN n a))
      | none => some (.rd (.ld1 a))
    else none
  | .store t a x => bif okOpd a && okOpd x then (sizeA P t).bind fun n => some (.wr (.st n a x)) else none
  | .nilCheck x => bif okOpd x then some (.pur (.nilCheck x)) else none
  | .binOp op t x y _ => bif okOpd x && okOpd y then
      match op with
      | .eql => (prepEq P false t x y).bind fun p => some (.pur p)
      | .neq => (prepEq P true t x y).bind fun p => some (.pur p)
      | op => some (.pur (.bin op x y))
    else none
  | .unOp op _ x => bif okOpd x then match op with
      | .not => some (.pur (.notB x))
      | .neg => some (.pur (.negI x))
      | _ => none
    else none
  | .convert src dst x => bif okOpd x then match P.underlying src, P.underlying dst with
      | some _, some (.int k) => some (.pur (.toInt k x))
      | _, _ => none
    else none
  | .makeInterface t x => bif okOpd x then match P.underlying t with
      | some (.interface _) => none
      | some _ => some (.pur (.iface t x))
      | none => none
    else none
  | .makeFunc fn first captured => match fn with
    | .func f => bif first.isEmpty && captured.toList.all okOpd then some (.pur (.func f captured.toList)) else none
    | _ => none
  | .makeMap t r => bif r.isNone then some (.new .mkMap) else none
  | .makeSlice t l c => bif okOpd l && okOpd c then match P.underlying t with
      | some (.slice el) => (infoOf P el).bind fun (n, b, z) => if 0 < n then some (.new (.mkSlice b z l c)) else none
      | _ => none
    else none
  | .slice t x lo hi mx => bif okOpd x && okO lo && okO hi && mx.isNone then match P.underlying t with
      | some (.slice el) => (sizeA P el).bind fun n => some (.rd (.slice n x lo hi))
      | some (.array len el) => (sizeA P el).bind fun n => some (.rd (.sliceArr len n x lo hi))
      | some .string => some (.pur (.sliceStr x lo hi))
      | _ => none
    else none
  | .fieldAddr s x f => bif okOpd x then match P.underlying s with
      | some (.struct fs) => match fs[f]? with
        | some fd => (sizeA P fd.type).bind fun n => if n = 0 then none else some (.pur (.fldAddr fd.offset x))
        | none => none
      | _ => none
    else none
  | .field t x f => bif okOpd x then match P.underlying t with
      | some (.struct fs) => match fs[f]? with
        | some fd => (aggOf P fd.type).bind fun s => some (.pur (.part s fd.offset x))
        | none => none
      | _ => none
    else none
  | .indexAddr t x ix => bif okOpd x && okOpd ix then match P.underlying t with
      | some (.slice el) => (sizeA P el).bind fun n => some (.pur (.idxAddr n x ix))
      | some (.array len el) => (sizeA P el).bind fun n => some (.pur (.idxArr len n x ix))
      | _ => none
    else none
  | .index t x ix => bif okOpd x && okOpd ix then match P.underlying t with
      | some (.array len el) => (sizeA P el).bind fun n => (aggOf P el).bind fun s => some (.pur (.idxAgg len s n x ix))
      | _ => none
    else none
  | .lookup t m k ok => bif okOpd m && okOpd k && !ok then match P.underlying t with
      | some (.map kt el) => match P.underlying kt with
        | some (.int _) => match P.info? el with
          | some i => match i.zero with
            | some z => bif plainV z then some (.rd (.lookup z m k)) else none
            | none => none
          | none => none
        | _ => none
      | _ => none
    else none
  | .mapUpdate t m k v | .insert t m k v => bif okOpd m && okOpd k && okOpd v then match P.underlying t with
      | some (.map kt _) => match P.underlying kt with
        | some (.int _) => some (.wr (.update m k v))
        | _ => none
      | _ => none
    else none
  | .extract x i => bif okOpd x then some (.pur (.extract x i)) else none
  | .call c =>
    bif c.args.toList.all okOpd then
      match c.callee with
      | .value (.func f) => some (.wr (.call f c.args.toList))
      | .value (.tmp t) => some (.wr (.callv (.tmp t) c.args.toList))
      | .value _ => none
      | .invoke r name => bif okOpd r then some (.wr (.invoke r name c.args.toList)) else none
      | .builtin b =>
        match b, c.args.toList, c.argTypes.toList with
        | .len, [x], t :: _ => match P.underlying t with
          | some .string => some (.pur (.lenStr x))
          | some (.slice _) => some (.pur (.lenSl x))
          | some (.array n _) => some (.pur (.lenC n))
          | _ => none
        | .cap, [x], t :: _ => match P.underlying t with
          | some (.slice _) => some (.rd (.cap x))
          | _ => none
        | .append, [s, x], t :: u :: _ => match P.underlying t with
          | some (.slice el) => (infoOf P el).bind fun (n, b, z) => if 0 < n then match P.underlying u with
              | some (.slice _) => some (.wr (.append n b s x))
              | some (.int _) => if 0 < b then some (.wr (.appendZ n b z s x)) else none
              | _ => none
            else none
          | _ => none
        | .clear, [x], t :: _ => match P.underlying t with
          | some (.slice el) => (infoOf P el).bind fun (n, _, z) => some (.wr (.clear z x))
          | _ => none
        | .max, [x, y], _ => some (.pur (.max x y))
        | .min, [x, y], _ => some (.pur (.min x y))
        | _, _, _ => none
    else none
  | _ => none
end
end Go.Ez
