import Derived.Test.YtgckodpnpidodaaGreatEzRd
set_option linter.all false
/- Operations that lay a new block. -/
set_option linter.unusedVariables false
set_option linter.unusedSimpArgs false
namespace Go.Ez
section
variable {μ : Mu}

/-- A block of the interpreter's and a block of the world, both new. -/
def NewOk (μ : Mu) : Blk → Obj → Prop
  | .cells cs ro g, .cells c el fr => ro = false ∧ g = 0 ∧ fr = (0, 0) ∧ VRels μ cs c.toList
  | .map es ck, .map es' ck' => es = [] ∧ ck = 0 ∧ es' = #[] ∧ ck' = 0
  | _, _ => False

def Form.ok : Form → Prop
  | .slice n c => n ≤ c
  | _ => True

theorem rangeZeros (zs : Array Value) (n : Nat) : ((Array.range (n * zs.size)).map (zs[· % zs.size]!)).toList = zerosA zs.toList n := by
  rw [← zeroCells_toList]
  rfl

theorem zeros_run {i : TypeInfo} {z : Value} (n k : Nat) (hk : k = n * i.size) (hzs : z.cells.size = i.size) :
    ∃ zero : Array Value, (k = 0 → zero = #[]) ∧ (k ≠ 0 → zero = z.cells) ∧ ((Array.range k).map (zero[· % zero.size]!)).toList = zerosA (cellsOf z) n := by
  by_cases h0 : k = 0
  · refine ⟨#[], fun _ => rfl, fun h => absurd h0 h, ?_⟩
    subst h0
    have : n * (cellsOf z).length = 0 := by rw [← cellsOf_eq, Array.length_toList, hzs]; exact hk.symm
    have hl := zerosA_length (cellsOf z) n
    rw [this] at hl
    rw [List.eq_nil_of_length_eq_zero hl]
    simp
  · refine ⟨z.cells, fun h => absurd h h0, fun _ => rfl, ?_⟩
    rw [hk, ← hzs, rangeZeros, cellsOf_eq]

/-- An operation that lays a new block. -/
theorem new_sim (P : Program) (w : World) {o : Oper} {n : NewOp} (hp : prepOp P o = some (.new n)) {e ρ : Operand → Value} (hρ : Opds μ o e ρ) {B : Blk} {f : Form} (h : n.made e = some (B, f)) :
    ∃ obj w', (execOp ρ o).run P w = .ok (.value (f.val w.heap.size)) w' ∧ w'.heap = w.heap.push obj ∧ w'.os = w.os ∧ w'.tape = w.tape ∧ w'.output = w.output ∧ NewOk μ B obj ∧ f.ok := by
  have hnew : ∀ (obj : Obj), (newObj obj).run P w = .ok w.heap.size { w with heap := w.heap.push obj } := fun _ => rfl
  obtain ⟨dst, op, type, pos, after, guard⟩ := o
  have lift : ∀ {s : Sem Value} {v' : Value} {w' : World}, s.run P w = .ok v' w' → ((do pure (Next.value (← s))) : Sem Next).run P w = .ok (.value v') w' := fun {s v' w'} h => by simp [h, pure, Sem.run]
  cases op with
  | move x => obtain ⟨hok, hp⟩ := bif_some hp; cases hp
  | assign x => obtain ⟨hok, hp⟩ := bif_some hp; cases hp
  | pick c a b => obtain ⟨hok, hp⟩ := bif_some hp; cases hp
  | alloc t =>
    obtain ⟨⟨n, b, z⟩, hinf, hp⟩ := bind_some hp
    cases hp
    obtain ⟨i, zv, hi, hz, hsz, hby, hcz, hlz, hpl⟩ := infoOf_some hinf
    cases h
    refine ⟨.cells zv.cells t, _, lift (w' := { w with heap := w.heap.push (.cells zv.cells t) }) (v' := .pointer (some ⟨w.heap.size, 0, none⟩)) ?_, rfl, rfl, rfl, rfl, ⟨rfl, rfl, rfl, ?_⟩, trivial⟩
    · simp only [Instr.alloc, Sem.run_bind, zeroValue_run P w hi hz, Result.andThen_ok, newVar, newRow, hnew, pure, Sem.run]
    · rw [cellsOf_eq, ← hcz]; exact VRels.of_plainV hpl
  | box t x =>
    obtain ⟨hok, hp⟩ := bif_some hp
    cases hp
    have hx := hρ.rel x (by simp [Op.operands]) hok
    simp only [NewOp.made] at h
    obtain ⟨ht, h⟩ := ite_some' h
    cases h
    refine ⟨.cells (ρ x).cells t, _, lift (w' := { w with heap := w.heap.push (.cells (ρ x).cells t) }) (v' := .pointer (some ⟨w.heap.size, 0, none⟩)) ?_, rfl, rfl, rfl, rfl, ⟨rfl, rfl, rfl, ?_⟩, trivial⟩
    · simp only [Instr.box, Sem.run_bind, Result.andThen_ok, newVar, newRow, hnew, pure, Sem.run]
    · rw [cellsOf_eq]; exact hx.cells (by simpa using ht)
  | build t parts =>
    obtain ⟨⟨n, b, z⟩, hinf, hp⟩ := bind_some hp
    simp only at hp
    split at hp
    · obtain ⟨_, hp⟩ := bif_some hp; obtain ⟨_, _, hp⟩ := bind_some hp; cases hp
    · obtain ⟨_, _, hp⟩ := bind_some hp; obtain ⟨_, _, hp⟩ := bind_some hp; cases hp
    · cases hp
  | buildSlice t len parts =>
    simp only [prepOp] at hp
    split at hp
    · rename_i el hu
      obtain ⟨⟨n, b, z⟩, hinf, hp⟩ := bind_some hp
      obtain ⟨hcond, hp⟩ := ite_some hp
      simp only at hcond
      obtain ⟨ps, hps, hp⟩ := bind_some hp
      cases hp
      obtain ⟨i, zv, hi, hz, hsz, hby, hcz, hlz, hpl⟩ := infoOf_some hinf
      simp only [NewOp.made] at h
      obtain ⟨cs, hcs, h⟩ := bind_some h
      cases h
      have hzs : zv.cells.size = i.size := by rw [hsz, ← hlz, ← cellsOf_eq]; simp
      obtain ⟨zero, hz0, hz1, hlist⟩ := zeros_run len (len * n) (by rw [hsz]) hzs
      have hops : ∀ p ∈ parts.toList, okOpd p.2 = true → VRel μ (e p.2) (ρ p.2) := fun p hp hok => hρ.rel p.2 (by
        simp only [Op.operands, List.mem_map]
        exact ⟨p, hp, rfl⟩) hok
      have hzrel : VRels μ (zerosA z len) ((Array.range (len * n)).map (zero[· % zero.size]!)).toList := by
        rw [hlist, ← hcz]; exact (VRels.of_plainV hpl).zeros len
      obtain ⟨out', ho, hr⟩ := fill_sim (place := fun i => some (i * n, n)) hcs hzrel (elemParts_rel hps hops)
      refine ⟨.cells out' el, _, lift (w' := { w with heap := w.heap.push (.cells out' el) }) (v' := .slice (some ⟨w.heap.size, 0, none⟩) len len) ?_, rfl, rfl, rfl, rfl, ⟨rfl, rfl, rfl, hr⟩, Nat.le_refl _⟩
      have hlim : ¬ len * n > 16777216 := by omega
      have hlim' : ¬ len * n > 2 ^ 24 := by simpa using hlim
      simp only [Instr.buildSlice, Sem.run_bind, underlying_run P w hu, Result.andThen_ok, sizeOf_run P w hi, hsz, hlim', if_false, Array.toList_map]
      have ho' : Instr.fill (fun (i : Nat) => some (i * n, n)) ((Array.range (len * n)).map (zero[· % zero.size]!)) (List.map (fun x => (x.fst, ρ x.snd)) parts.toList) = some out' := ho
      by_cases h0 : len * n = 0
      · have e0 := hz0 h0
        subst e0
        simp only [h0, if_true, Sem.run_bind, pure, Sem.run, Result.andThen_ok]
        rw [h0] at ho'
        simp only [ho', newRow, Sem.run_bind, hnew, pure, Sem.run, Result.andThen_ok]
      · have e0 := hz1 h0
        subst e0
        simp only [h0, if_false, Sem.run_bind, pure, Sem.run, Result.andThen_ok, zeroValue_run P w hi hz, ho', newRow, hnew]
    · cases hp
  | load t a =>
    obtain ⟨hok, hp⟩ := bif_some hp
    obtain ⟨s, _, hp⟩ := bind_some hp
    cases s <;> cases hp
  | store t a x => obtain ⟨hok, hp⟩ := bif_some hp; obtain ⟨s, _, hp⟩ := bind_some hp; cases hp
  | nilCheck x => obtain ⟨hok, hp⟩ := bif_some hp; cases hp
  | binOp op t x y yt =>
    obtain ⟨hok, hp⟩ := bif_some hp
    cases op <;> first
      | cases hp
      | (obtain ⟨_, _, hp⟩ := bind_some hp; cases hp)
  | unOp op t x => obtain ⟨hok, hp⟩ := bif_some hp; cases op <;> cases hp
  | convert s d x => obtain ⟨hok, hp⟩ := bif_some hp; split at hp <;> cases hp
  | makeInterface t x => obtain ⟨hok, hp⟩ := bif_some hp; split at hp <;> cases hp
  | makeFunc fn first captured =>
    simp only [prepOp] at hp
    split at hp
    · obtain ⟨hok, hp⟩ := bif_some hp; cases hp
    · cases hp
  | makeMap t r =>
    obtain ⟨hok, hp⟩ := bif_some hp
    have hr : r = none := by simpa using hok
    subst hr
    cases hp
    cases h
    refine ⟨.map #[] 0, _, lift (w' := { w with heap := w.heap.push (.map #[] 0) }) (v' := .map (some w.heap.size)) ?_, rfl, rfl, rfl, rfl, ⟨rfl, rfl, rfl, rfl⟩, trivial⟩
    simp [Instr.makeMap, hnew, pure, Sem.run]
  | makeSlice t l c =>
    obtain ⟨hok, hp⟩ := bif_some hp
    simp only [Bool.and_eq_true] at hok
    have hl := hρ.rel l (by simp [Op.operands]) hok.1
    have hc := hρ.rel c (by simp [Op.operands]) hok.2
    split at hp
    · rename_i el hu
      obtain ⟨⟨n, b, z⟩, hinf, hp⟩ := bind_some hp
      obtain ⟨hcond, hp⟩ := ite_some hp
      cases hp
      obtain ⟨i, zv, hi, hz, hsz, hby, hcz, hlz, hpl⟩ := infoOf_some hinf
      simp only [NewOp.made] at h
      split at h
      · rename_i lv cv el1 ec1
        rw [el1] at hl; generalize hrl : ρ l = rl at hl; cases hl
        rw [ec1] at hc; generalize hrc : ρ c = rc at hc; cases hc
        obtain ⟨⟨q1, q2, q3, q4⟩, h⟩ := ite_some h
        cases h
        have hzs : zv.cells.size = i.size := by rw [hsz, ← hlz, ← cellsOf_eq]; simp
        obtain ⟨zero, hz0, hz1, hlist⟩ := zeros_run cv.toNat (cv.toNat * i.size) rfl hzs
        have wl : IntKind.i64.wrap lv = lv := IntWalk.i64_in _ (by omega)
        have wc : IntKind.i64.wrap cv = cv := IntWalk.i64_in _ (by omega)
        refine ⟨.cells ((Array.range (cv.toNat * i.size)).map (zero[· % zero.size]!)) el, _, lift (w' := { w with heap := w.heap.push (.cells ((Array.range (cv.toNat * i.size)).map (zero[· % zero.size]!)) el) }) (v' := .slice (some ⟨w.heap.size, 0, none⟩) lv.toNat cv.toNat) ?_, rfl, rfl, rfl, rfl, ⟨rfl, rfl, rfl, ?_⟩, by show lv.toNat ≤ cv.toNat; omega⟩
        · have hbl : ¬ ((i.bytes : Int) * cv > 2 ^ 48) := by
            rw [hby]; rw [Int.mul_comm]; omega
          have hlarge : (decide (cv < 0) || decide ((i.bytes : Int) * cv > 2 ^ 48)) = false := by
            simp only [Bool.or_eq_false_iff, decide_eq_false_iff_not]; exact ⟨by omega, hbl⟩
          have hti : (typeInfo el).run P w = .ok i w := by simp [typeInfo, hi, program, pure, Sem.run]
          simp only [Instr.makeSlice, Sem.run_bind, underlying_run P w hu, Result.andThen_ok, hrl, hrc, asInt, asIntOf, pure, Sem.run, hti]
          have hall : (decide (cv < 0) || decide ((i.bytes : Int) * cv > 2 ^ 48) || decide (lv < 0) || decide (lv > cv)) = false := by
            rw [hlarge]
            simp only [Bool.false_or, Bool.or_eq_false_iff, decide_eq_false_iff_not]
            omega
          rw [wl, wc]
          simp only [hall, Bool.false_eq_true, if_false, Sem.run_bind, run_askRoom, Result.andThen_ok, sizeOf_run P w hi]
          by_cases h0 : cv.toNat * i.size = 0
          · have e0 := hz0 h0
            subst e0
            simp only [h0, if_true, Sem.run_bind, Sem.run, Result.andThen_ok, newRow, hnew, pure]
          · have e0 := hz1 h0
            subst e0
            simp only [h0, if_false, Sem.run_bind, Sem.run, Result.andThen_ok, zeroValue_run P w hi hz, newRow, hnew, pure]
        · rw [hlist, ← hcz]; exact (VRels.of_plainV hpl).zeros _
      · cases h
    · cases hp
  | slice t x lo hi mx =>
    obtain ⟨hok, hp⟩ := bif_some hp
    split at hp
    · obtain ⟨_, _, hp⟩ := bind_some hp; cases hp
    · obtain ⟨_, _, hp⟩ := bind_some hp; cases hp
    · cases hp
    · cases hp
  | fieldAddr s x f =>
    obtain ⟨hok, hp⟩ := bif_some hp
    split at hp
    · split at hp
      · obtain ⟨_, _, hp⟩ := bind_some hp; obtain ⟨_, hp⟩ := ite_some' hp; cases hp
      · cases hp
    · cases hp
  | field t x f =>
    obtain ⟨hok, hp⟩ := bif_some hp
    split at hp
    · split at hp
      · obtain ⟨_, _, hp⟩ := bind_some hp; cases hp
      · cases hp
    · cases hp
  | indexAddr t x ix =>
    obtain ⟨hok, hp⟩ := bif_some hp
    split at hp
    · obtain ⟨_, _, hp⟩ := bind_some hp; cases hp
    · obtain ⟨_, _, hp⟩ := bind_some hp; cases hp
    · cases hp
  | index t x ix =>
    obtain ⟨hok, hp⟩ := bif_some hp
    split at hp
    · obtain ⟨_, _, hp⟩ := bind_some hp; obtain ⟨_, _, hp⟩ := bind_some hp; cases hp
    · cases hp
  | lookup t m k ok =>
    obtain ⟨hok, hp⟩ := bif_some hp
    split at hp
    · split at hp
      · split at hp
        · split at hp
          · obtain ⟨_, hp⟩ := bif_some hp; cases hp
          · cases hp
        · cases hp
      · cases hp
    · cases hp
  | mapUpdate t m k x =>
    obtain ⟨hok, hp⟩ := bif_some hp
    split at hp
    · split at hp <;> cases hp
    · cases hp
  | insert t m k x =>
    obtain ⟨hok, hp⟩ := bif_some hp
    split at hp
    · split at hp <;> cases hp
    · cases hp
  | extract x i => obtain ⟨hok, hp⟩ := bif_some hp; cases hp
  | call c =>
    obtain ⟨callee, args, argTypes⟩ := c
    have hpp := bif_some hp
    clear hp
    obtain ⟨hok, hp⟩ := hpp
    cases callee with
    | value f => cases f <;> cases hp
    | invoke r name => obtain ⟨_, hp⟩ := bif_some hp; cases hp
    | builtin b =>
      simp only at hp
      split at hp
      · split at hp <;> cases hp
      · split at hp <;> cases hp
      · split at hp
        · obtain ⟨a, _, hp⟩ := bind_some hp
          obtain ⟨_, hp⟩ := ite_some hp
          split at hp
          · cases hp
          · obtain ⟨_, hp⟩ := ite_some hp; cases hp
          · cases hp
        · cases hp
      · split at hp
        · obtain ⟨a, _, hp⟩ := bind_some hp; cases hp
        · cases hp
      · cases hp
      · cases hp
      · cases hp
  | _ => cases hp
end
end Go.Ez
