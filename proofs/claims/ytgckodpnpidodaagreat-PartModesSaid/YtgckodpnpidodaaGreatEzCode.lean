import Derived.Test.YtgckodpnpidodaaGreatEzRun
set_option linter.all false
/- The deterministic interpreter: regions, code, calls. -/
set_option linter.unusedVariables false
set_option linter.unusedSimpArgs false
namespace Go.Ez

def ev (T : List Value) : Operand → Value
  | .tmp t => T.getD t undef
  | .const v => v
  | .global _ => undef
  | .func f => .func (.func f) #[] #[]

def putA (T : List Value) (dst : Option Tmp) (v : Value) : List Value :=
  match dst with
  | some d => T.set d v
  | none => T

/-- An operation in its region: what is checked of a read: at which places of the region it must read the same. -/
structure Row where
  dst : Option Tmp
  op : Option ROp
  guard : Option (Option Tmp × Bool)
  vs : List Nat := []

def Row.wr (r : Row) : Bool :=
  match r.op with
  | some (.wr _) => true
  | none => true
  | _ => false
def Row.still (r : Row) : Bool :=
  match r.op with
  | some (.pur _) => true
  | some (.rd _) => true
  | _ => false

def wantedA (r : Row) (T : List Value) : Bool :=
  match r.guard with
  | none => true
  | some (some t, want) =>
    match T[t]? with
    | some (.bool b) => b == want
    | _ => false
  | some (none, _) => false

section
variable (P : Program) (call : CallF)

def runOp (T : List Value) (H : AH) : ROp → Option (Value × AH)
  | .pur p => (p.run P (ev T)).bind fun v => some (v, H)
  | .rd r => ((r.rd (ev T)).run H).bind fun v => some (v, H)
  | .new n => (n.made (ev T)).bind fun x => some (x.2.val H.next, H.alloc x.1)
  | .wr w => w.run P (ev T) call H

/-- In the order of the text. -/
def runSeq : List Row → List Value → AH → Option (List Value × AH)
  | [], T, H => some (T, H)
  | r :: rest, T, H =>
    bif wantedA r T then
      match r.op with
      | none => none
      | some op => (runOp P call T H op).bind fun x => runSeq rest (putA T r.dst x.1) x.2
    else runSeq rest (putA T r.dst undef) H

/-- Where a region is whose order is open. -/
structure DSt where
  i : Nat
  T : List Value
  H : AH
  hist : List (Nat × AH)
  pend : List (List Nat × Rd × Value)

def chk (H : AH) (q : Rd) (v : Value) : Bool :=
  match q.run H with
  | some u => veq 60 u v
  | none => false

def stepD (r : Row) (s : DSt) : Option DSt :=
  bif wantedA r s.T then
    match r.op with
    | none => none
    | some (.rd rd) =>
      ((rd.rd (ev s.T)).run s.H).bind fun v =>
        bif s.hist.all (fun p => !(r.vs.contains p.1) || chk p.2 (rd.rd (ev s.T)) v) then
          some { i := s.i + 1, T := putA s.T r.dst v, H := s.H, hist := s.hist, pend := (r.vs, rd.rd (ev s.T), v) :: s.pend }
        else none
    | some (.wr w) =>
      (w.run P (ev s.T) call s.H).bind fun x =>
        bif s.pend.all (fun p => !(p.1.contains (s.i + 1)) || chk x.2 p.2.1 p.2.2) then
          some { i := s.i + 1, T := putA s.T r.dst x.1, H := x.2, hist := (s.i + 1, x.2) :: s.hist, pend := s.pend }
        else none
    | some op => (runOp P call s.T s.H op).bind fun x => some { i := s.i + 1, T := putA s.T r.dst x.1, H := x.2, hist := s.hist, pend := s.pend }
  else
    bif r.wr then
      bif s.pend.all (fun p => !(p.1.contains (s.i + 1)) || chk s.H p.2.1 p.2.2) then
        some { i := s.i + 1, T := putA s.T r.dst undef, H := s.H, hist := (s.i + 1, s.H) :: s.hist, pend := s.pend }
      else none
    else some { i := s.i + 1, T := putA s.T r.dst undef, H := s.H, hist := s.hist, pend := s.pend }

def runD : List Row → DSt → Option DSt
  | [], s => some s
  | r :: rest, s => (stepD P call r s).bind fun s' => runD rest s'

/-! ### Making rows -/
def rowOf (ops : Array Oper) (o : Oper) : Row :=
  { dst := o.dst, op := prepOp P o, guard := o.guard.map fun g => ((ops[g.1]?).bind (·.dst), g.2) }

/-- What must come ahead of each: by bits. -/
def maskOf (acc : List Nat) (o : Oper) : Nat :=
  o.after.toList.foldl (fun s e => bif Region.binds .any e then s ||| 2 ^ e.on ||| acc.getD e.on 0 else s) 0
def masksF : List Oper → List Nat → List Nat
  | [], acc => acc
  | o :: l, acc => masksF l (acc ++ [maskOf acc o])

/-- Is one told to come ahead of another? -/
def ordB (ms : List Nat) (i j : Nat) : Bool := (ms.getD j 0).testBit i

/-- Of each row: does it write? does it leave the heap alone? -/
def kindsOf (rows : List Row) : List (Bool × Bool) := rows.map fun r => (r.wr, r.still)
def kw (ks : List (Bool × Bool)) (i : Nat) : Bool := (ks.getD i (false, false)).1
def kst (ks : List (Bool × Bool)) (i : Nat) : Bool := (ks.getD i (false, false)).2

/-- May the region's order be left open? Its writers come one behind the other; two that name one temporary come one behind the other. -/
def okDraw (ops : Array Oper) (ks : List (Bool × Bool)) (ms : List Nat) : Bool :=
  (List.range ops.size).all fun j =>
    ((ops.getD j default).after.toList.all fun e => !Region.binds .any e || Nat.blt e.on j) &&
    (List.range j).all fun i =>
      ordB ms i j || ((ops.getD i default).apart ops (ops.getD j default) && !(kw ks i && kw ks j))

/-- May the machine be at a place when a read comes up? -/
def validB (ks : List (Bool × Bool)) (ms : List Nat) (j p : Nat) : Bool :=
  (List.range ks.length).all fun k => !kw ks k || ((!ordB ms k j || Nat.blt k p) && (!ordB ms j k || Nat.ble p k))

/-- The places at which a read must read the same. -/
def placesOf (ks : List (Bool × Bool)) (ms : List Nat) (j : Nat) : List Nat :=
  (List.range (ks.length + 1)).filter fun p => (Nat.beq p 0 || kw ks (p - 1)) && validB ks ms j p &&
    !(Nat.ble p j && (List.range j).all fun k => Nat.blt k p || kst ks k)

def rowVs (ks : List (Bool × Bool)) (ms : List Nat) (r : Row) (j : Nat) : Row :=
  match r.op with
  | some (.rd _) => { r with vs := placesOf ks ms j }
  | _ => r

def rowsOf (ops : Array Oper) (draw : Bool) : Option (List Row) :=
  let rows := ops.toList.map (rowOf P ops)
  bif draw then
    let ms := masksF ops.toList []
    let ks := kindsOf rows
    bif okDraw ops ks ms then some (rows.mapIdx fun j r => rowVs ks ms r j) else none
  else some rows

def runRegion (ops : Array Oper) (draw : Bool) (T : List Value) (H : AH) : Option (List Value × AH) :=
  (rowsOf P ops draw).bind fun rows =>
    bif draw then (runD P call rows ⟨0, T, H, [(0, H)], []⟩).bind fun s => some (s.T, s.H)
    else runSeq P call rows T H

/-! ### Code -/
inductive EExit where
  | normal
  | exit (id : Nat)
  | ret

abbrev Out := Option (EExit × List Value × AH)

def loopC (f : List Value → AH → Out) : Nat → List Value → AH → Out
  | 0, _, _ => none
  | n + 1, T, H => (f T H).bind fun x => match x with
    | (.normal, T', H') => loopC f n T' H'
    | x => some x

def execC (n : Nat) : Code → List Value → AH → Out
  | .skip, T, H => some (.normal, T, H)
  | .region _ ops draw, T, H => (runRegion P call ops draw T H).bind fun x => some (.normal, x.1, x.2)
  | .seq a b, T, H => (execC n a T H).bind fun x => match x with
    | (.normal, T', H') => execC n b T' H'
    | x => some x
  | .cond c a b, T, H =>
    bif okOpd c then
      match ev T c with
      | .bool true => execC n a T H
      | .bool false => execC n b T H
      | _ => none
    else none
  | .block id a, T, H => (execC n a T H).bind fun x => match x with
    | (.exit id', T', H') => bif Nat.beq id' id then some (.normal, T', H') else some (.exit id', T', H')
    | x => some x
  | .loop a, T, H => loopC (execC n a) n T H
  | .exit id, T, H => some (.exit id, T, H)
  | .ret, T, H => some (.ret, T, H)
  | _, _, _ => none

def resultA (T : List Value) (H : AH) : List ResultVar → Option (List Value)
  | [] => some []
  | .tmp t :: l => (resultA T H l).bind fun r => some (T.getD t undef :: r)
  | .cell a t :: l => (aggOf P t).bind fun s => ((match s with
      | some n => ldN H n (T.getD a undef)
      | none => ld1 H (T.getD a undef)).bind fun v => (resultA T H l).bind fun r => some (v :: r))

def okFuncB (fn : Func) : Bool := !(fn.name == "runtime.NumGoroutine") && !fn.body.isNone
end

def callE (P : Program) : Nat → CallF
  | 0, _, _, _ => none
  | n + 1, f, args, H =>
    match P.funcs[f]? with
    | none => none
    | some fn =>
      match fn.body with
      | none => none
      | some c =>
        bif okFuncB fn then
          (execC P (callE P n) n c (args ++ List.replicate (fn.ntmps - args.length) undef) H).bind fun x => match x with
            | (.exit _, _, _) => none
            | (_, T, H') => (resultA P T H' fn.results.toList).bind fun vs => match vs with
              | [v] => some (v, H')
              | vs => some (.tuple vs.toArray, H')
        else none
end Go.Ez
