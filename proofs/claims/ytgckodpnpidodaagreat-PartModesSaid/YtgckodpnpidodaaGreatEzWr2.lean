import Derived.Test.YtgckodpnpidodaaGreatEzWr
set_option linter.all false
/- Operations that write memory, and calls: each one. -/
set_option linter.unusedVariables false
set_option linter.unusedSimpArgs false
namespace Go.Ez
section
variable {μ : Mu}

theorem opds_args {o : Oper} {e ρ : Operand → Value} (hρ : Opds μ o e ρ) {l : List Operand} (hl : ∀ x ∈ l, x ∈ o.op.operands.toList) (hok : l.all okOpd = true) : VRels μ (l.map e) (l.map ρ) := by
  induction l with
  | nil => exact .nil
  | cons x l ih =>
    simp only [List.all_cons, Bool.and_eq_true] at hok
    exact .cons (hρ.rel x (hl x (by simp)) hok.1) (ih (fun y hy => hl y (by simp [hy])) hok.2)

theorem appRuns_slice (P : Program) (w : World) {argTypes : Array TypeId} {T sT xT elem e2 : TypeId} {i : TypeInfo} {z : Value} {n : Nat} {x' : Value} {xs' : List Value}
    (h0 : argTypes[0]? = some sT) (h1 : argTypes[1]? = some xT) (hsT : P.underlying sT = some (.slice elem)) (hxT : P.underlying xT = some (.slice e2))
    (hi : P.info? elem = some i) (hz : i.zero = some z) (hlen : (Builtin.lenOf x').run P w = .ok n w) (hcells : ∀ w1 : World, w1.heap = w.heap → (Builtin.firstCells i.size n x').run P w1 = .ok xs'.toArray w1) :
    AppRuns P w i.size n elem z xs' (fun s => Builtin.append_ argTypes T #[s, x']) i.bytes where
  room := fun base m c hroom => append_room P h0 h1 hsT hxT hi rfl hlen (hcells w rfl) hroom
  grow := fun base m c old hgrow hb hm hbytes hold => append_grow P h0 h1 hsT hxT hi rfl hz hlen (hcells w rfl) hgrow (hold w rfl) hb hm hbytes hcells hold

theorem src_sim' (P : Program) {H : AH} {w : World} (hR : Rel μ H w) {size n : Nat} {x x' : Value} {xs : List Value} (h : srcA H size x = some (n, xs)) (hx : VRel μ x x') :
    (Builtin.lenOf x').run P w = .ok n w ∧ xs.length = n * size ∧ ∃ xs', (∀ w1 : World, w1.heap = w.heap → (Builtin.firstCells size n x').run P w1 = .ok xs'.toArray w1) ∧ VRels μ xs xs' := by
  have hlen := (src_sim P hR h hx).1
  obtain ⟨xs', hrun, hrel⟩ := (src_sim P hR h hx).2
  have hl : xs.length = n * size := by
    unfold srcA at h
    split at h
    · cases h; simp
    · split at h
      · rename_i hk; cases h; simp
      · obtain ⟨l, hl, h⟩ := bind_some h
        cases h
        unfold ldCells at hl
        split at hl
        · obtain ⟨hc, hl⟩ := bif_some hl
          have := Nat.le_of_ble_eq_true hc
          cases hl
          simp; omega
        · cases hl
    · cases h; simp
    · cases h
  refine ⟨hlen, hl, xs', fun w1 hw1 => ?_, hrel⟩
  have hR1 : Rel μ H w1 := ⟨fun b B m hg hm => (hR.blk b B m hg hm).mono (Sub.refl _) (by rw [hw1]), hR.inj, hR.fresh, fun b m hm => by rw [hw1]; exact hR.inw b m hm⟩
  obtain ⟨xs2, hrun2, hrel2⟩ := (src_sim P hR1 h hx).2
  rw [hrun2]
  -- the same cells
  congr 1
  unfold srcA at h
  split at h
  · cases hx
    simp [Builtin.firstCells, pure, Sem.run] at hrun hrun2
    rw [hrun, hrun2]
  · rename_i b o k c
    obtain ⟨-, m, o', c', hm, hs, rfl⟩ := hx.slice_inv
    split at h
    · rename_i hk; cases h
      simp [Builtin.firstCells, loadCells, loadCellsFrom, pure, Sem.run] at hrun hrun2
      rw [hrun, hrun2]
    · rename_i hk
      obtain ⟨l, hl, h⟩ := bind_some h
      cases h
      unfold ldCells at hl
      split at hl
      · rename_i cs ro g hg
        obtain ⟨c0, el, fr, q1, q2, q3, q4, q5⟩ := hR.cellsAt hg hm
        have ho : o' = m.at_ + o := by
          have h2 := hs.2
          have := hs.1
          split at h2
          · exact h2.1
          · exact h2.1 (by omega)
        obtain ⟨hc, hl⟩ := bif_some hl
        have hle := Nat.le_of_ble_eq_true hc
        by_cases hns : n * size = 0
        · simp [Builtin.firstCells, hns, loadCells, loadCellsFrom, pure, Sem.run] at hrun hrun2
          rw [hrun, hrun2]
        · have hne : ¬ cs.length = 0 := by omega
          rw [if_neg hne] at q2
          simp only [Builtin.firstCells] at hrun hrun2
          rw [loadCells_run P m.rb o' el fr w c0 q1 (n * size) (by omega)] at hrun
          rw [loadCells_run P m.rb o' el fr w1 c0 (by rw [hw1]; exact q1) (n * size) (by omega)] at hrun2
          have e1 := congrArg (fun r : Result (Array Value) => match r with | .ok a _ => a | _ => #[]) hrun
          have e2 := congrArg (fun r : Result (Array Value) => match r with | .ok a _ => a | _ => #[]) hrun2
          simp only at e1 e2
          rw [← e1, ← e2]
      · cases hl
  · cases h
    rcases hx.slice_inv' with ⟨h, _⟩ | ⟨s, a, e, _, _, _, rfl⟩
    · cases h
    · simp [Builtin.firstCells, loadCells, loadCellsFrom, pure, Sem.run] at hrun hrun2
      rw [hrun, hrun2]
  · cases h

theorem appRuns_zeros (P : Program) (w : World) {argTypes : Array TypeId} {T sT xT elem : TypeId} {k0 : IntKind} {i : TypeInfo} {z : Value} {n : Int}
    (h0 : argTypes[0]? = some sT) (h1 : argTypes[1]? = some xT) (hsT : P.underlying sT = some (.slice elem)) (hxT : P.underlying xT = some (.int k0))
    (hi : P.info? elem = some i) (hz : i.zero = some z) (hzs : z.cells.size = i.size) (hn : 0 ≤ n) (hn2 : n ≤ 70368744177664) (hn3 : n * (i.bytes : Int) ≤ 140737488351232) :
    AppRuns P w i.size n.toNat elem z (zerosA z.cells.toList n.toNat) (fun s => Builtin.append_ argTypes T #[s, .int .i64 n]) i.bytes := by
  have wn : IntKind.i64.wrap n = n := IntWalk.i64_in _ (by omega)
  have hneg : ¬ n < 0 := by omega
  have hbig' : ¬ (281474976710656 : Int) < n * (i.bytes : Int) := by omega
  have hnil : n.toNat * i.size = 0 → zerosA z.cells.toList n.toNat = [] := fun h0 => by
    have hl := zerosA_length z.cells.toList n.toNat
    rw [show z.cells.toList.length = i.size from hzs, h0] at hl
    exact List.eq_nil_of_length_eq_zero hl
  have hzc : Builtin.zeroCells z.cells n.toNat = (zerosA z.cells.toList n.toNat).toArray := by
    apply Array.ext'
    rw [zeroCells_toList]
  constructor
  · intro base m c hroom
    unfold Builtin.append_
    simp only [h0, h1]
    by_cases hz0 : n.toNat * i.size = 0
    · have hz0' := hnil hz0
      rw [hz0']
      cases base <;> simp [underlying_run P w hsT, underlying_run P w hxT, sizeOf_run P w hi, typeInfo, hi, asInt, asIntOf, wn, hneg, hbig', hroom, hz0, program, pure, Sem.run]
    · cases base <;> simp [underlying_run P w hsT, underlying_run P w hxT, sizeOf_run P w hi, typeInfo, hi, asInt, asIntOf, wn, hneg, hbig', hroom, hz0, zeroValue_run P w hi hz, hzc, program, pure, Sem.run]
  · intro base m c old hroom hb hm hbytes hold
    have hnn : ¬ (m + n.toNat ≤ c) := by omega
    have hcap := nextslicecap_le (m + n.toNat) c hroom
    have hlim : Builtin.nextslicecap (m + n.toNat) c * i.bytes ≤ 281474976710656 := by
      have h1 : Builtin.nextslicecap (m + n.toNat) c * i.bytes ≤ ((m + n.toNat) + (m + n.toNat) / 4 + 256) * i.bytes := Nat.mul_le_mul_right _ hcap
      have e : ((m + n.toNat) + (m + n.toNat) / 4 + 256) * i.bytes = (m + n.toNat) * i.bytes + (m + n.toNat) / 4 * i.bytes + 256 * i.bytes := by rw [Nat.add_mul, Nat.add_mul]
      have e4 : 4 * ((m + n.toNat) / 4 * i.bytes) ≤ (m + n.toNat) * i.bytes := by
        rw [← Nat.mul_assoc]; exact Nat.mul_le_mul_right _ (by omega)
      omega
    have hlim' : ¬ Builtin.nextslicecap (m + n.toNat) c * i.bytes > 2 ^ 48 := by omega
    have hlim2 : ¬ 281474976710656 < Builtin.nextslicecap (m + n.toNat) c * i.bytes := by omega
    have o1 := hold w.drew rfl
    refine ⟨Question.cut (.appendCap (m + n.toNat) c elem) (w.tape w.drawn (.appendCap (m + n.toNat) c elem)), w.drew.alloc (.cells (old.toArray ++ ((zerosA z.cells.toList n.toNat).toArray ++ Builtin.zeroCells z.cells (Question.cut (.appendCap (m + n.toNat) c elem) (w.tape w.drawn (.appendCap (m + n.toNat) c elem)) - (m + n.toNat)))) elem), ?_, ?_, rfl, rfl, rfl, rfl⟩
    · simp only [Question.cut]; omega
    · unfold Builtin.append_
      simp only [h0, h1]
      have hmax : ¬ ((9223372036854775807 : Int) < (m : Int) + (n.toNat : Int)) := by omega
      have hmax2 : ¬ ((9223372036854775807 : Int) < (m : Int) + max n 0) := by omega
      by_cases hz0 : n.toNat * i.size = 0
      · have hz0' := hnil hz0
        rw [hz0']
        simp [underlying_run P w hsT, underlying_run P w hxT, sizeOf_run P w hi, typeInfo, hi, asInt, asIntOf, wn, hneg, hbig', hnn, hz0, hlim2, hmax, hmax2, program, pure, Sem.run, choose, Question.forced, newRow, newObj, o1, zeroValue, hz]
      · simp [underlying_run P w hsT, underlying_run P w hxT, sizeOf_run P w hi, typeInfo, hi, asInt, asIntOf, wn, hneg, hbig', hnn, hz0, hlim2, hmax, hmax2, program, pure, Sem.run, choose, Question.forced, newRow, newObj, o1, zeroValue, hz, hzc]

theorem invoke_method (name : String) (v : Value) (args : Array Value) : invoke (.fn (.method name) #[]) (#[v] ++ args) = callMethod v name args := by
  have h : (#[v] ++ args)[0]? = some v := by rw [Array.getElem?_append, if_pos (by show 0 < 1; omega)]; rfl
  have e : (#[v] ++ args).extract 1 (#[v] ++ args).size = args := by
    apply Array.ext'
    simp [List.extract_eq_take_drop]
  have : invoke (.fn (.method name) #[]) (#[v] ++ args) = (match (#[v] ++ args)[0]? with
    | some recv => callMethod recv name ((#[v] ++ args).extract 1 (#[v] ++ args).size)
    | none => stuck "call: a method without a receiver") := by
    unfold Go.invoke
    cases (#[v] ++ args)[0]? <;> rfl
  rw [this, h, e]

/-- An operation that writes, or calls. -/
theorem wr_sim (P : Program) {H : AH} {w : World} (hR : Rel μ H w) {o : Oper} {wo : WrOp} (hp : prepOp P o = some (.wr wo)) {e ρ : Operand → Value} (hρ : Opds μ o e ρ) {call : CallF}
    (hcall : ∀ f args H r, call f args H = some r → OkFunc P f) {v : Value} {H' : AH} (h : wo.run P e call H = some (v, H')) (hfree : ∀ b, H.next ≤ b → b < H'.next → μ b = none) :
    SimW P μ H w v H' (execOp ρ o) ∨ ∃ f args args', call f args H = some (v, H') ∧ VRels μ args args' ∧ (execOp ρ o).run P w = .ok (.enter f args'.toArray) w := by
  obtain ⟨dst, op, type, pos, after, guard⟩ := o
  have liftU : ∀ {s : Sem Unit} {w' : World}, s.run P w = .ok () w' → ((do s; pure Next.skip) : Sem Next).run P w = .ok .skip w' := fun {s w'} h => by simp [h, pure, Sem.run]
  have liftV : ∀ {s : Sem Value} {v' : Value} {w' : World}, s.run P w = .ok v' w' → ((do pure (Next.value (← s))) : Sem Next).run P w = .ok (.value v') w' := fun {s v' w'} h => by simp [h, pure, Sem.run]
  cases op with
  | move x => obtain ⟨hok, hp⟩ := bif_some hp; cases hp
  | assign x => obtain ⟨hok, hp⟩ := bif_some hp; cases hp
  | pick c a b => obtain ⟨hok, hp⟩ := bif_some hp; cases hp
  | alloc t => obtain ⟨a, _, hp⟩ := bind_some hp; cases hp
  | box t x => obtain ⟨hok, hp⟩ := bif_some hp; cases hp
  | build t parts =>
    obtain ⟨⟨n, b, z⟩, hinf, hp⟩ := bind_some hp
    simp only at hp
    split at hp
    · obtain ⟨_, hp⟩ := bif_some hp; obtain ⟨_, _, hp⟩ := bind_some hp; cases hp
    · obtain ⟨_, _, hp⟩ := bind_some hp; obtain ⟨_, _, hp⟩ := bind_some hp; cases hp
    · cases hp
  | buildSlice t len parts =>
    simp only [prepOp] at hp
    split at hp
    · obtain ⟨a, _, hp⟩ := bind_some hp
      obtain ⟨_, hp⟩ := ite_some hp
      obtain ⟨a, _, hp⟩ := bind_some hp
      cases hp
    · cases hp
  | load t a =>
    obtain ⟨hok, hp⟩ := bif_some hp
    obtain ⟨s, _, hp⟩ := bind_some hp
    cases s <;> cases hp
  | store t a x =>
    obtain ⟨hok, hp⟩ := bif_some hp
    simp only [Bool.and_eq_true] at hok
    obtain ⟨n, hn, hp⟩ := bind_some hp
    cases hp
    obtain ⟨i, hi, rfl⟩ := sizeA_some hn
    have ha := hρ.rel a (by simp [Op.operands]) hok.1
    have hx := hρ.rel x (by simp [Op.operands]) hok.2
    obtain ⟨H2, hst, h⟩ := bind_some h
    cases h
    obtain ⟨w', h1, h2, h3⟩ := stV_sim P hR hi hst ha hx
    exact .inl ⟨μ, undef, w', .skip, liftU h1, .inr ⟨rfl, rfl⟩, h2, h3, VRel.undef⟩
  | nilCheck x => obtain ⟨hok, hp⟩ := bif_some hp; cases hp
  | binOp op t x y yt =>
    obtain ⟨hok, hp⟩ := bif_some hp
    cases op <;> first
      | cases hp
      | (obtain ⟨_, _, hp⟩ := bind_some hp; cases hp)
  | unOp op t x => obtain ⟨hok, hp⟩ := bif_some hp; cases op <;> cases hp
  | convert s d x => obtain ⟨hok, hp⟩ := bif_some hp; split at hp <;> cases hp
  | makeInterface t x => obtain ⟨hok, hp⟩ := bif_some hp; split at hp <;> cases hp
  | makeFunc fn first captured =>
    simp only [prepOp] at hp
    split at hp
    · obtain ⟨hok, hp⟩ := bif_some hp; cases hp
    · cases hp
  | makeMap t r => obtain ⟨hok, hp⟩ := bif_some hp; cases hp
  | makeSlice t l c =>
    obtain ⟨hok, hp⟩ := bif_some hp
    split at hp
    · obtain ⟨a, _, hp⟩ := bind_some hp
      obtain ⟨_, hp⟩ := ite_some hp
      cases hp
    · cases hp
  | slice t x lo hi mx =>
    obtain ⟨hok, hp⟩ := bif_some hp
    split at hp
    · obtain ⟨_, _, hp⟩ := bind_some hp; cases hp
    · obtain ⟨_, _, hp⟩ := bind_some hp; cases hp
    · cases hp
    · cases hp
  | fieldAddr s x f =>
    obtain ⟨hok, hp⟩ := bif_some hp
    split at hp
    · split at hp
      · obtain ⟨_, _, hp⟩ := bind_some hp; obtain ⟨_, hp⟩ := ite_some' hp; cases hp
      · cases hp
    · cases hp
  | field t x f =>
    obtain ⟨hok, hp⟩ := bif_some hp
    split at hp
    · split at hp
      · obtain ⟨_, _, hp⟩ := bind_some hp; cases hp
      · cases hp
    · cases hp
  | indexAddr t x ix =>
    obtain ⟨hok, hp⟩ := bif_some hp
    split at hp
    · obtain ⟨_, _, hp⟩ := bind_some hp; cases hp
    · obtain ⟨_, _, hp⟩ := bind_some hp; cases hp
    · cases hp
  | index t x ix =>
    obtain ⟨hok, hp⟩ := bif_some hp
    split at hp
    · obtain ⟨_, _, hp⟩ := bind_some hp; obtain ⟨_, _, hp⟩ := bind_some hp; cases hp
    · cases hp
  | lookup t m k ok =>
    obtain ⟨hok, hp⟩ := bif_some hp
    split at hp
    · split at hp
      · split at hp
        · split at hp
          · obtain ⟨_, hp⟩ := bif_some hp; cases hp
          · cases hp
        · cases hp
      · cases hp
    · cases hp
  | mapUpdate t m k x =>
    have hpp := bif_some hp
    clear hp
    obtain ⟨hok, hp⟩ := hpp
    simp only [Bool.and_eq_true] at hok
    have hm := hρ.rel m (by simp [Op.operands]) hok.1.1
    have hk := hρ.rel k (by simp [Op.operands]) hok.1.2
    have hx := hρ.rel x (by simp [Op.operands]) hok.2
    split at hp
    · rename_i kt et hu
      split at hp
      · rename_i k0 hkt
        cases hp
        obtain ⟨H2, hst, h⟩ := bind_some h
        cases h
        obtain ⟨w', h1, h2, h3⟩ := updateA_sim P hR hu hkt hst hm hk hx
        exact .inl ⟨μ, undef, w', .skip, liftU h1, .inr ⟨rfl, rfl⟩, h2, h3, VRel.undef⟩
      · cases hp
    · cases hp
  | insert t m k x =>
    have hpp := bif_some hp
    clear hp
    obtain ⟨hok, hp⟩ := hpp
    simp only [Bool.and_eq_true] at hok
    have hm := hρ.rel m (by simp [Op.operands]) hok.1.1
    have hk := hρ.rel k (by simp [Op.operands]) hok.1.2
    have hx := hρ.rel x (by simp [Op.operands]) hok.2
    split at hp
    · rename_i kt et hu
      split at hp
      · rename_i k0 hkt
        cases hp
        obtain ⟨H2, hst, h⟩ := bind_some h
        cases h
        obtain ⟨w', h1, h2, h3⟩ := updateA_sim P hR hu hkt hst hm hk hx
        exact .inl ⟨μ, undef, w', .skip, liftU h1, .inr ⟨rfl, rfl⟩, h2, h3, VRel.undef⟩
      · cases hp
    · cases hp
  | extract x i => obtain ⟨hok, hp⟩ := bif_some hp; cases hp
  | call c =>
    obtain ⟨callee, args, argTypes⟩ := c
    have hpp := bif_some hp
    clear hp
    obtain ⟨hok, hp⟩ := hpp
    have hargs : ∀ x ∈ args.toList, VRel μ (e x) (ρ x) := fun x hx => hρ.rel x (by
      cases callee <;> simp [Op.operands, Call.operands, Array.mem_toList_iff.1 hx]) (List.all_eq_true.1 hok x hx)
    have hargsR : VRels μ (args.toList.map e) (args.toList.map ρ) := by
      refine opds_args hρ (fun x hx => ?_) hok
      cases callee <;> simp [Op.operands, Call.operands, Array.mem_toList_iff.1 hx]
    cases callee with
    | value f =>
      cases f with
      | tmp t =>
        cases hp
        right
        have hf := hρ.rel (.tmp t) (by simp [Op.operands, Call.operands]) rfl
        simp only [WrOp.run] at h
        split at h
        · rename_i g first captured ef
          rw [ef] at hf; generalize hrf : ρ (.tmp t) = rf at hf
          cases hf with
          | func _ _ _ x' y' h1 h2 h3 h4 =>
            refine ⟨g, _, x'.toList ++ args.toList.map ρ ++ y'.toList, h, ((rels_of_arr h1 h3).append hargsR).append (rels_of_arr h2 h4), ?_⟩
            have e1 : execOp ρ ⟨dst, .call ⟨.value (.tmp t), args, argTypes⟩, type, pos, after, guard⟩ = (do let d ← Deferred.ofValue (ρ (.tmp t)) (args.map ρ); invoke d.target d.args) := rfl
            rw [e1, hrf]
            have e2 : ((do let d ← Deferred.ofValue (.func (.func g) x' y') (args.map ρ); invoke d.target d.args) : Sem Next) = callFunc g ((x' ++ args.map ρ) ++ y') := rfl
            rw [e2, callFunc_run (hcall _ _ _ _ h)]
            congr 2
            apply Array.ext'
            simp
        · cases h
      | const c => cases hp
      | global g => cases hp
      | func f =>
        cases hp
        right
        have h' : call f (args.toList.map e) H = some (v, H') := h
        refine ⟨f, _, args.toList.map ρ, h', hargsR, ?_⟩
        have e1 : execOp ρ ⟨dst, .call ⟨.value (.func f), args, argTypes⟩, type, pos, after, guard⟩ = (do let d ← Deferred.ofValue (ρ (.func f)) (args.map ρ); invoke d.target d.args) := rfl
        rw [e1, (hρ.func f).2]
        have e2 : ((do let d ← Deferred.ofValue (.func (.func f) #[] #[]) (args.map ρ); invoke d.target d.args) : Sem Next) = callFunc f ((#[] ++ args.map ρ) ++ #[]) := rfl
        rw [e2, callFunc_run (hcall _ _ _ _ h')]
        congr 2
        apply Array.ext'
        simp
    | invoke r name =>
      obtain ⟨hokr, hp⟩ := bif_some hp
      cases hp
      right
      have hr := hρ.rel r (by simp [Op.operands, Call.operands]) hokr
      simp only [WrOp.run] at h
      split at h
      · rename_i t u er
        rw [er] at hr; generalize hrr : ρ r = rr at hr
        cases hr with
        | iface _ _ u' hu =>
          obtain ⟨⟨f, x⟩, hm, h⟩ := bind_some h
          obtain ⟨x', h1, h2⟩ := method_sim P hR hm hu (P.types.size + 99)
          refine ⟨f, _, x' :: args.toList.map ρ, h, .cons h2 hargsR, ?_⟩
          have e1 : execOp ρ ⟨dst, .call ⟨.invoke r name, args, argTypes⟩, type, pos, after, guard⟩ = invoke (.fn (.method name) #[]) (#[ρ r] ++ args.map ρ) := rfl
          rw [e1, hrr]
          rw [invoke_method]
          have h1' : (method (P.types.size + Made.depth) t u' name).run P w = .ok (f, x') w := h1
          simp only [callMethod, Sem.run_bind, program, Sem.run, Result.andThen_ok, h1']
          rw [callFunc_run (hcall _ _ _ _ h)]
          congr 2
          apply Array.ext'
          simp
      · cases h
    | builtin b =>
      left
      have runV : ∀ {s : Sem Value} {v' : Value} {w' : World}, (∀ tt cs, builtin b argTypes tt cs (args.map ρ) = (do pure (Next.value (← s)))) → s.run P w = .ok v' w' →
          (execOp ρ ⟨dst, .call ⟨.builtin b, args, argTypes⟩, type, pos, after, guard⟩).run P w = .ok (.value v') w' := by
        intro s v' w' hb hs
        have e1 : execOp ρ ⟨dst, .call ⟨.builtin b, args, argTypes⟩, type, pos, after, guard⟩ = builtin b argTypes type (args.map fun | .const _ => true | _ => false) (args.map ρ) := rfl
        rw [e1, hb]
        exact liftV hs
      simp only at hp
      split at hp
      · split at hp <;> cases hp
      · split at hp <;> cases hp
      · rename_i s x t u rest hax hat
        have hs := hargs s (by rw [hax]; simp)
        have hx := hargs x (by rw [hax]; simp)
        have hargs' : args.map ρ = #[ρ s, ρ x] := by apply Array.ext'; simp [hax]
        have ht : argTypes[0]? = some t := by rw [← Array.getElem?_toList, hat]; rfl
        have hu : argTypes[1]? = some u := by rw [← Array.getElem?_toList, hat]; rfl
        split at hp
        · rename_i el hut
          obtain ⟨⟨n, b, z⟩, hinf, hp⟩ := bind_some hp
          obtain ⟨hn0, hp⟩ := ite_some hp
          obtain ⟨i, zv, hi, hz, hsz, hby, hcz, hlz, hpl⟩ := infoOf_some hinf
          have hzs : zv.cells.size = n := by rw [← hlz, ← cellsOf_eq]; simp
          split at hp
          · rename_i e2 huu
            cases hp
            simp only [WrOp.run] at h
            obtain ⟨⟨k, xs⟩, hsrc, h⟩ := bind_some h
            obtain ⟨hlen, hxl, xs', hcells, hxr⟩ := src_sim' P hR hsrc hx
            subst hsz hby
            have hruns := appRuns_slice P w (T := 0) ht hu hut huu hi hz hlen hcells
            obtain ⟨μ', v', w', q1, q2, q3, q4⟩ := appendA_sim P hR hzs hruns h hs hxr hxl hfree
            exact ⟨μ', v', w', _, runV (fun tt cs => by rw [hargs']; rfl) q1, .inl rfl, q2, q3, q4⟩
          · rename_i k0 huu
            obtain ⟨hb0, hp⟩ := ite_some hp
            cases hp
            simp only [WrOp.run] at h
            split at h
            · rename_i nn ex
              rw [ex] at hx; generalize hrx : ρ x = rx at hx; cases hx
              obtain ⟨⟨g1, g2, g3⟩, h⟩ := ite_some h
              subst hsz hby
              have hruns := appRuns_zeros P w (T := 0) (n := nn) ht hu hut huu hi hz hzs g1 g2 g3
              have hxr : VRels μ (zerosA z nn.toNat) (zerosA zv.cells.toList nn.toNat) := by
                rw [cellsOf_eq, ← hcz]; exact (VRels.of_plainV hpl).zeros _
              obtain ⟨μ', v', w', q1, q2, q3, q4⟩ := appendA_sim P hR hzs hruns h hs hxr (by rw [zerosA_length, ← hcz, hlz]) hfree
              exact ⟨μ', v', w', _, runV (fun tt cs => by rw [hargs', hrx]; rfl) q1, .inl rfl, q2, q3, q4⟩
            · cases h
          · cases hp
        · cases hp
      · rename_i x t rest hax hat
        have hx := hargs x (by rw [hax]; simp)
        have hargs' : args.map ρ = #[ρ x] := by apply Array.ext'; simp [hax]
        have ht : argTypes[0]? = some t := by rw [← Array.getElem?_toList, hat]; rfl
        split at hp
        · rename_i el hut
          obtain ⟨⟨n, b, z⟩, hinf, hp⟩ := bind_some hp
          cases hp
          obtain ⟨i, zv, hi, hz, hsz, hby, hcz, hlz, hpl⟩ := infoOf_some hinf
          obtain ⟨H2, hst, h⟩ := bind_some h
          cases h
          unfold clearA at hst
          split at hst
          · rename_i ex
            rw [ex] at hx; generalize hrx : ρ x = rx at hx; cases hx
            cases hst
            refine ⟨μ, .tuple #[], w, _, runV (s := Builtin.clear_ argTypes 0 #[.slice none 0 0]) (fun tt cs => by rw [hargs', hrx]; rfl) ?_, .inl rfl, hR, Step.refl, VRel.undef⟩
            simp [Builtin.clear_, ht, underlying_run P w hut, pure, Sem.run]
          · rename_i bb oo k c ex
            rw [ex] at hx; generalize hrx : ρ x = rx at hx
            obtain ⟨-, m, o', c', hm, hs, rfl⟩ := hx.slice_inv
            split at hst
            · rename_i hk
              cases hst
              subst hk
              refine ⟨μ, .tuple #[], w, _, runV (s := Builtin.clear_ argTypes 0 #[.slice (some ⟨m.rb, o', none⟩) 0 c']) (fun tt cs => by rw [hargs', hrx]; rfl) ?_, .inl rfl, hR, Step.refl, VRel.undef⟩
              simp [Builtin.clear_, ht, underlying_run P w hut, pure, Sem.run]
            · rename_i hk
              have ho : o' = m.at_ + oo := by
                have h2 := hs.2
                have := hs.1
                split at h2
                · exact h2.1
                · exact h2.1 (by omega)
              subst ho
              have hzr : VRels μ (zerosA z k) (zerosA zv.cells.toList k) := by
                rw [cellsOf_eq, ← hcz]; exact (VRels.of_plainV hpl).zeros k
              obtain ⟨w', h1, h2, h3⟩ := stCells_sim P hR hst hm hzr
              refine ⟨μ, .tuple #[], w', _, runV (s := Builtin.clear_ argTypes 0 #[.slice (some ⟨m.rb, m.at_ + oo, none⟩) k c']) (fun tt cs => by rw [hargs', hrx]; rfl) ?_, .inl rfl, h2, h3, VRel.undef⟩
              have hz2 : (storeCells ⟨m.rb, m.at_ + oo, none⟩ (Builtin.zeroCells zv.cells k).toList).run P w = .ok () w' := by rw [zeroCells_toList]; exact h1
              cases k with
              | zero => exact absurd rfl hk
              | succ k => simp [Builtin.clear_, ht, underlying_run P w hut, zeroValue_run P w hi hz, hz2, pure, Sem.run]
          · cases hst
        · cases hp
      · cases hp
      · cases hp
      · cases hp
  | _ => cases hp
end
end Go.Ez
