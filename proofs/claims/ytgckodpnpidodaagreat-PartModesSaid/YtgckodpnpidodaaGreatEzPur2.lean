import Derived.Test.YtgckodpnpidodaaGreatEzPur
set_option linter.all false
/- Operations that need no memory: each one. -/
set_option linter.unusedVariables false
set_option linter.unusedSimpArgs false
namespace Go.Ez
section
variable {μ : Mu}

/-- What is asked of the operands. -/
structure Opds (μ : Mu) (o : Oper) (e ρ : Operand → Value) : Prop where
  rel : ∀ x, x ∈ o.op.operands.toList → okOpd x = true → VRel μ (e x) (ρ x)
  const : ∀ v, e (.const v) = v ∧ ρ (.const v) = v
  func : ∀ f, e (.func f) = .func (.func f) #[] #[] ∧ ρ (.func f) = .func (.func f) #[] #[]

theorem vwrap (P : Program) (w : World) {s : Sem Value} {v' : Value} (h : s.run P w = .ok v' w) : ((do pure (Next.value (← s))) : Sem Next).run P w = .ok (.value v') w := by
  simp [h, pure, Sem.run]

theorem sizeOf_run (P : Program) (w : World) {t : TypeId} {i : TypeInfo} (h : P.info? t = some i) : (sizeOf t).run P w = .ok i.size w := by
  simp [sizeOf, typeInfo, h, program, pure, Sem.run]
theorem underlying_run (P : Program) (w : World) {t : TypeId} {d : TypeDesc} (h : P.underlying t = some d) : (underlying t).run P w = .ok d w := by
  simp [underlying, h, program, pure, Sem.run]
theorem zeroValue_run (P : Program) (w : World) {t : TypeId} {i : TypeInfo} {z : Value} (h : P.info? t = some i) (hz : i.zero = some z) : (zeroValue t).run P w = .ok z w := by
  simp [zeroValue, typeInfo, h, hz, program, pure, Sem.run]

theorem mapM_run {α β : Type} (P : Program) (w : World) {g : α → Sem β} {h : α → β} : ∀ {l : List α}, (∀ x ∈ l, (g x).run P w = .ok (h x) w) → (l.mapM g).run P w = .ok (l.map h) w := by
  intro l
  induction l with
  | nil => intro _; simp [pure, Sem.run]
  | cons x l ih =>
    intro hx
    rw [List.mapM_cons]
    simp [hx x (by simp), ih fun y hy => hx y (by simp [hy]), pure, Sem.run]

theorem places_run (P : Program) (w : World) {fs : Array Field} (hall : fs.toList.all (fun f => (P.info? f.type).isSome) = true) :
    (fs.mapM (fun f => (do pure (f.offset, ← sizeOf f.type) : Sem (Nat × Nat)))).run P w = .ok (fs.map fun f => (f.offset, P.cellsOf f.type)) w := by
  rw [Array.mapM_eq_mapM_toList]
  simp only [Sem.run_map]
  rw [mapM_run P w (h := fun f => (f.offset, P.cellsOf f.type))]
  · simp only [Result.andThen_ok]
    congr 1
    apply Array.ext'
    simp
  · intro f hf
    simp only [List.all_eq_true] at hall
    have := hall f hf
    obtain ⟨i, hi⟩ := Option.isSome_iff_exists.1 this
    simp [sizeOf_run P w hi, Program.cellsOf, hi, pure, Sem.run]

theorem fieldParts_rel {P : Program} {fs : Array Field} {e ρ : Operand → Value} : ∀ {l : List (Nat × Operand)} {ps : List (Nat × Nat × Operand)}, fieldParts P fs l = some ps →
    (∀ p ∈ l, okOpd p.2 = true → VRel μ (e p.2) (ρ p.2)) →
    All2 (fun p q => (fun (i : Nat) => (fs.map fun f => (f.offset, P.cellsOf f.type))[i]?) q.1 = some (p.1, p.2.1) ∧ VRel μ p.2.2 q.2) (partsE e ps) (l.map fun p => (p.1, ρ p.2)) := by
  intro l
  induction l with
  | nil => intro ps h _; cases h; exact .nil
  | cons p l ih =>
    intro ps h hrel
    obtain ⟨i, x⟩ := p
    simp only [fieldParts] at h
    split at h
    · rename_i f hf
      obtain ⟨n, hn, h⟩ := bind_some h
      obtain ⟨r, hr, h⟩ := bind_some h
      obtain ⟨hok, h⟩ := bif_some h
      cases h
      obtain ⟨ti, h1, h2⟩ := sizeA_some hn
      refine .cons ⟨?_, hrel (i, x) (by simp) hok⟩ (ih hr fun p hp => hrel p (by simp [hp]))
      simp [hf, Program.cellsOf, h1, h2]
    · cases h

theorem elemParts_rel {size : Nat} {e ρ : Operand → Value} : ∀ {l : List (Nat × Operand)} {ps : List (Nat × Nat × Operand)}, elemParts size l = some ps →
    (∀ p ∈ l, okOpd p.2 = true → VRel μ (e p.2) (ρ p.2)) →
    All2 (fun p q => (fun i => some (i * size, size)) q.1 = some (p.1, p.2.1) ∧ VRel μ p.2.2 q.2) (partsE e ps) (l.map fun p => (p.1, ρ p.2)) := by
  intro l
  induction l with
  | nil => intro ps h _; cases h; exact .nil
  | cons p l ih =>
    intro ps h hrel
    obtain ⟨i, x⟩ := p
    simp only [elemParts] at h
    obtain ⟨r, hr, h⟩ := bind_some h
    obtain ⟨hok, h⟩ := bif_some h
    cases h
    exact .cons ⟨rfl, hrel (i, x) (by simp) hok⟩ (ih hr fun p hp => hrel p (by simp [hp]))

theorem bnd_sim (P : Program) (w : World) {x x' : Option Value} {dflt top top' k : Nat} (code : BoundsCode) (h : bnd x dflt top = some k) (hx : match x, x' with | none, none => True | some a, some b => VRel μ a b | _, _ => False) (htop : top ≤ top') :
    (x = none ∧ x' = none ∧ k = dflt) ∨ ∃ v, x' = some v ∧ (Instr.sliceBound v top' code).run P w = .ok k w ∧ k ≤ top := by
  unfold bnd at h
  split at h
  · cases h
    cases x' with
    | none => exact .inl ⟨rfl, rfl, rfl⟩
    | some v => exact hx.elim
  · rename_i kd i
    obtain ⟨hc, h⟩ := ite_some h
    cases h
    cases x' with
    | none => exact hx.elim
    | some v =>
      cases hx
      refine .inr ⟨_, rfl, ?_, by omega⟩
      have : 0 ≤ i ∧ i ≤ (top' : Int) := by omega
      simp [Instr.sliceBound, asIntOf, this, pure, Sem.run]
  · cases h

/-- An optional operand, on both sides. -/
def ORel (μ : Mu) : Option Value → Option Value → Prop
  | none, none => True
  | some a, some b => VRel μ a b
  | _, _ => False

theorem bnd_inv {x x' : Option Value} {dflt top k : Nat} (h : bnd x dflt top = some k) (hx : ORel μ x x') :
    (x' = none ∧ k = dflt) ∨ ∃ kd i, x' = some (.int kd i) ∧ 0 ≤ i ∧ i ≤ (top : Int) ∧ k = i.toNat := by
  unfold bnd at h
  split at h
  · cases h
    cases x' with
    | none => exact .inl ⟨rfl, rfl⟩
    | some v => exact hx.elim
  · rename_i kd i
    obtain ⟨hc, h⟩ := ite_some h
    cases h
    cases x' with
    | none => exact hx.elim
    | some v =>
      unfold ORel at hx
      cases hx
      exact .inr ⟨kd, i, rfl, hc.1, hc.2, rfl⟩
  · cases h

theorem bounds_sim (P : Program) (w : World) {lo lo' hi hi' : Option Value} {n c c' h l : Nat} (isSlice : Bool) (hh : bnd hi n c = some h) (hl : bnd lo 0 h = some l) (rh : ORel μ hi hi') (rl : ORel μ lo lo') (hc : c ≤ c') :
    (Instr.sliceBounds isSlice n c' lo' hi' none).run P w = .ok (l, h, c') w ∧ (h ≤ c ∨ h = n) ∧ l ≤ h := by
  rcases bnd_inv hh rh with ⟨e1, e2⟩ | ⟨kd, i, e1, e2, e3, e4⟩ <;> rcases bnd_inv hl rl with ⟨k1, k2⟩ | ⟨kd2, i2, k1, k2, k3, k4⟩
  · subst e1 e2 k1 k2
    exact ⟨by simp [Instr.sliceBounds, pure, Sem.run], .inr rfl, Nat.zero_le _⟩
  · subst e1 e2 k1 k4
    exact ⟨by simp [Instr.sliceBounds, Instr.sliceBound, asIntOf, k2, k3, pure, Sem.run], .inr rfl, by omega⟩
  · subst e1 e4 k1 k2
    have e5 : i ≤ (c' : Int) := by omega
    exact ⟨by simp [Instr.sliceBounds, Instr.sliceBound, asIntOf, e2, e5, pure, Sem.run], .inl (by omega), Nat.zero_le _⟩
  · subst e1 e4 k1 k4
    have e5 : i ≤ (c' : Int) := by omega
    have k5 : i2 ≤ i := by omega
    exact ⟨by simp [Instr.sliceBounds, Instr.sliceBound, asIntOf, e2, e5, k2, k5, pure, Sem.run]; intro hh; omega, .inl (by omega), by omega⟩

theorem mem_ops {o : Oper} {x : Operand} (l : List Operand) (hl : o.op.operands.toList = l) (h : x ∈ l) : x ∈ o.op.operands.toList := hl ▸ h

/-- An operation that needs no memory. -/
theorem pur_sim (P : Program) (w : World) {o : Oper} {p : PurOp} (hp : prepOp P o = some (.pur p)) {e ρ : Operand → Value} (hρ : Opds μ o e ρ) {v : Value} (h : p.run P e = some v) :
    ∃ v', (execOp ρ o).run P w = .ok (.value v') w ∧ VRel μ v v' := by
  obtain ⟨dst, op, type, pos, after, guard⟩ := o
  cases op with
  | move x =>
    obtain ⟨hok, hp⟩ := bif_some hp
    cases hp; cases h
    exact ⟨_, rfl, hρ.rel x (by simp [Op.operands]) hok⟩
  | assign x =>
    obtain ⟨hok, hp⟩ := bif_some hp
    cases hp; cases h
    exact ⟨_, rfl, hρ.rel x (by simp [Op.operands]) hok⟩
  | pick c a b =>
    obtain ⟨hok, hp⟩ := bif_some hp
    simp only [Bool.and_eq_true] at hok
    cases hp
    have hc := hρ.rel c (by simp [Op.operands]) hok.1.1
    have ha := hρ.rel a (by simp [Op.operands]) hok.1.2
    have hb := hρ.rel b (by simp [Op.operands]) hok.2
    simp only [PurOp.run] at h
    split at h
    · rename_i ec; rw [ec] at hc; generalize hrc : ρ c = rc at hc; cases hc
      cases h
      exact ⟨ρ a, by simp [execOp, hrc, asBool, pure, Sem.run], ha⟩
    · rename_i ec; rw [ec] at hc; generalize hrc : ρ c = rc at hc; cases hc
      cases h
      exact ⟨ρ b, by simp [execOp, hrc, asBool, pure, Sem.run], hb⟩
    · cases h
  | alloc t =>
    obtain ⟨a, _, hp⟩ := bind_some hp
    cases hp
  | box t x => obtain ⟨hok, hp⟩ := bif_some hp; cases hp
  | build t parts =>
    obtain ⟨⟨n, b, z⟩, hinf, hp⟩ := bind_some hp
    obtain ⟨i, zv, hi, hz, hsz, hby, hcz, hlz, hpl⟩ := infoOf_some hinf
    simp only at hp
    have hzero : ∀ w : World, (zeroValue t).run P w = .ok zv w := fun w => zeroValue_run P w hi hz
    have hzrel : VRels μ z zv.cells.toList := by rw [cellsOf_eq, ← hcz]; exact VRels.of_plainV hpl
    have hops : ∀ p ∈ parts.toList, okOpd p.2 = true → VRel μ (e p.2) (ρ p.2) := fun p hp hok => hρ.rel p.2 (by
      simp only [Op.operands, List.mem_map]
      exact ⟨p, hp, rfl⟩) hok
    split at hp
    · rename_i fs hu
      obtain ⟨hall, hp⟩ := bif_some hp
      obtain ⟨ps, hps, hp⟩ := bind_some hp
      cases hp
      simp only [PurOp.run] at h
      obtain ⟨out, hout, h⟩ := bind_some h
      cases h
      obtain ⟨out', ho, hr⟩ := fill_sim hout hzrel (fieldParts_rel hps hops)
      refine ⟨.agg out', ?_, VRel.agg_iff (by simpa using hr)⟩
      have hpl := places_run P w hall
      refine vwrap P w ?_
      simp only [Instr.build, Sem.run_bind, hzero, Result.andThen_ok, underlying_run P w hu, hpl, Array.toList_map]
      have ho' : Instr.fill (fun (i : Nat) => (fs.map fun f => (f.offset, P.cellsOf f.type))[i]?) zv.cells (List.map (fun x => (x.fst, ρ x.snd)) parts.toList) = some out' := ho
      simp only [ho']
      rfl
    · rename_i len el hu
      obtain ⟨m, hm, hp⟩ := bind_some hp
      obtain ⟨ps, hps, hp⟩ := bind_some hp
      cases hp
      obtain ⟨ei, he1, he2⟩ := sizeA_some hm
      simp only [PurOp.run] at h
      obtain ⟨out, hout, h⟩ := bind_some h
      cases h
      obtain ⟨out', ho, hr⟩ := fill_sim (place := fun i => some (i * m, m)) hout hzrel (elemParts_rel hps hops)
      refine ⟨.agg out', ?_, VRel.agg_iff (by simpa using hr)⟩
      refine vwrap P w ?_
      simp only [Instr.build, Sem.run_bind, hzero, Result.andThen_ok, underlying_run P w hu, sizeOf_run P w he1, he2, Array.toList_map]
      have ho' : Instr.fill (fun (i : Nat) => some (i * m, m)) zv.cells (List.map (fun x => (x.fst, ρ x.snd)) parts.toList) = some out' := ho
      simp only [ho']
      rfl
    · cases hp
  | buildSlice t len parts =>
    simp only [prepOp] at hp
    split at hp
    · obtain ⟨a, _, hp⟩ := bind_some hp
      obtain ⟨_, hp⟩ := ite_some hp
      obtain ⟨a, _, hp⟩ := bind_some hp
      cases hp
    · cases hp
  | load t a =>
    obtain ⟨hok, hp⟩ := bif_some hp
    obtain ⟨s, _, hp⟩ := bind_some hp
    cases s <;> cases hp
  | store t a x =>
    obtain ⟨hok, hp⟩ := bif_some hp
    obtain ⟨s, _, hp⟩ := bind_some hp
    cases hp
  | nilCheck x =>
    obtain ⟨hok, hp⟩ := bif_some hp
    cases hp
    have hx := hρ.rel x (by simp [Op.operands]) hok
    simp only [PurOp.run, nilChk] at h
    split at h <;> first | cases h | skip
    · rename_i a ea; rw [ea] at hx; generalize hrx : ρ x = rx at hx
      cases hx with
      | ptr b o m hm => exact ⟨_, by simp only [execOp, hrx]; rfl, .ptr b o m hm⟩
    · rename_i t v ea; rw [ea] at hx; generalize hrx : ρ x = rx at hx
      cases hx with
      | iface _ _ v' hv => exact ⟨_, by simp only [execOp, hrx]; rfl, .iface _ _ _ hv⟩
    · rename_i f a b ea; rw [ea] at hx; generalize hrx : ρ x = rx at hx
      cases hx with
      | func _ _ _ x' y' h1 h2 h3 h4 => exact ⟨_, by simp only [execOp, hrx]; rfl, .func _ _ _ _ _ h1 h2 h3 h4⟩
  | binOp op t x y yt =>
    obtain ⟨hok, hp⟩ := bif_some hp
    simp only [Bool.and_eq_true] at hok
    have hx := hρ.rel x (by simp [Op.operands]) hok.1
    have hy := hρ.rel y (by simp [Op.operands]) hok.2
    have heq : ∀ neq, op = eqOp neq → (prepEq P neq t x y).bind (fun p => some (ROp.pur p)) = some (.pur p) → ∃ v', (execOp ρ ⟨dst, .binOp op t x y yt, type, pos, after, guard⟩).run P w = .ok (.value v') w ∧ VRel μ v v' := by
      intro neq hop hp
      obtain ⟨p', hp', hh⟩ := bind_some hp
      cases hh
      obtain ⟨v', h1, h2⟩ := eq_sim P w hp' hx hy (fun v hv => by rw [hv]; exact hρ.const v) h
      refine ⟨v', ?_, h2⟩
      subst hop
      exact vwrap P w h1
    have hbin : (∀ neq, op ≠ eqOp neq) → some (ROp.pur (.bin op x y)) = some (.pur p) → ∃ v', (execOp ρ ⟨dst, .binOp op t x y yt, type, pos, after, guard⟩).run P w = .ok (.value v') w ∧ VRel μ v v' := by
      intro hne hp
      cases hp
      obtain ⟨h1, h2⟩ := eBin_sim P w (t := t) hx hy h
      refine ⟨v, ?_, h2⟩
      refine vwrap P w ?_
      have : eqGuard op t x y (ρ x) (ρ y) = pure () := by
        unfold eqGuard
        cases op <;> first | rfl | (exact absurd rfl (hne true)) | (exact absurd rfl (hne false))
      rw [this]
      simpa [pure, Sem.run] using h1
    cases op <;> first
      | (exact heq false rfl hp)
      | (exact heq true rfl hp)
      | (exact hbin (by intro neq; cases neq <;> simp [eqOp]) hp)
  | unOp op t x =>
    obtain ⟨hok, hp⟩ := bif_some hp
    have hx := hρ.rel x (by simp [Op.operands]) hok
    cases op <;> cases hp
    all_goals
      simp only [PurOp.run] at h
      split at h
      · rename_i ex; rw [ex] at hx; generalize hrx : ρ x = rx at hx; cases hx
        cases h
        exact ⟨_, vwrap P w (by simp only [hrx]; rfl), by constructor⟩
      · cases h
  | convert s d x =>
    obtain ⟨hok, hp⟩ := bif_some hp
    have hx := hρ.rel x (by simp [Op.operands]) hok
    split at hp
    · rename_i ds k hs hd
      cases hp
      simp only [PurOp.run] at h
      split at h
      · rename_i ex; rw [ex] at hx; generalize hrx : ρ x = rx at hx; cases hx
        cases h
        refine ⟨_, vwrap P w (v' := .int k (k.wrap _)) ?_, by constructor⟩
        simp only [convert, hrx, Sem.run_bind, underlying_run P w hs, underlying_run P w hd, Result.andThen_ok]
        cases ds <;> rfl
      · cases h
    · cases hp
  | makeInterface t x =>
    obtain ⟨hok, hp⟩ := bif_some hp
    have hx := hρ.rel x (by simp [Op.operands]) hok
    split at hp
    · cases hp
    · rename_i d hno hd
      cases hp
      cases h
      refine ⟨_, vwrap P w (v' := .iface t (ρ x)) ?_, .iface _ _ _ hx⟩
      simp only [Instr.makeInterface, Sem.run_bind, underlying_run P w hd, Result.andThen_ok]
      cases d <;> first | rfl | (exact (hno _ hd).elim) | (exact absurd rfl (hno _))
    · cases hp
  | makeFunc fn first captured =>
    simp only [prepOp] at hp
    split at hp
    · rename_i f
      obtain ⟨hok, hp⟩ := bif_some hp
      simp only [Bool.and_eq_true] at hok
      cases hp
      cases h
      have hf : first = #[] := by simpa using hok.1
      subst hf
      refine ⟨_, vwrap P w (v' := .func (.func f) #[] (captured.map ρ)) (by simp [Instr.makeFunc, pure, Sem.run]), ?_⟩
      refine .func _ _ _ _ _ rfl (by simp) (by simp) fun i h1 h2 => ?_
      simp only [List.size_toArray, List.length_map, Array.length_toList] at h1
      have := hρ.rel captured[i] (by simp [Op.operands]) (List.all_eq_true.1 hok.2 _ (by simp))
      simpa using this
    · cases hp
  | makeMap t r => obtain ⟨hok, hp⟩ := bif_some hp; cases hp
  | makeSlice t l c =>
    obtain ⟨hok, hp⟩ := bif_some hp
    split at hp
    · obtain ⟨a, _, hp⟩ := bind_some hp
      obtain ⟨_, hp⟩ := ite_some hp
      cases hp
    · cases hp
  | slice t x lo hi mx =>
    have hpp := bif_some hp
    clear hp
    obtain ⟨hok, hp⟩ := hpp
    simp only [Bool.and_eq_true] at hok
    obtain ⟨⟨⟨hok1, hok2⟩, hok3⟩, hmx⟩ := hok
    have hmx' : mx = none := by simpa using hmx
    subst hmx'
    have hx := hρ.rel x (by simp [Op.operands]) hok1
    have rlo : ORel μ (lo.map e) (lo.map ρ) := by
      cases lo with
      | none => trivial
      | some y => exact hρ.rel y (by simp [Op.operands]) hok2
    have rhi : ORel μ (hi.map e) (hi.map ρ) := by
      cases hi with
      | none => trivial
      | some y => exact hρ.rel y (by simp [Op.operands]) hok3
    split at hp
    · obtain ⟨n, hn, hp⟩ := bind_some hp
      cases hp
    · rename_i len el hu
      obtain ⟨n, hn, hp⟩ := bind_some hp
      cases hp
    · rename_i hu
      cases hp
      simp only [PurOp.run, Ez.sliceStr] at h
      split at h
      · rename_i s ex
        rw [ex] at hx; generalize hrx : ρ x = rx at hx
        cases hx
        obtain ⟨hh, hhh, h⟩ := bind_some h
        obtain ⟨ll, hll, h⟩ := bind_some h
        cases h
        obtain ⟨hrun, hhc, hle⟩ := bounds_sim P w false hhh hll rhi rlo (Nat.le_refl _)
        refine ⟨_, vwrap P w (v' := .string (s.extract ll hh)) ?_, .string _⟩
        simp only [Instr.sliceAt, hrx, Sem.run_bind, underlying_run P w hu, Result.andThen_ok, Instr.slice, Option.map_none, Option.isSome_none, Bool.false_eq_true, if_false, hrun, pure, Sem.run]
      · cases h
    · cases hp
  | fieldAddr s x f =>
    obtain ⟨hok, hp⟩ := bif_some hp
    have hx := hρ.rel x (by simp [Op.operands]) hok
    split at hp
    · rename_i fs hu
      split at hp
      · rename_i fd hfd
        obtain ⟨n, hn, hp⟩ := bind_some hp
        obtain ⟨hn0, hp⟩ := ite_some' hp
        cases hp
        obtain ⟨fi, h1, h2⟩ := sizeA_some hn
        simp only [PurOp.run, Ez.fldAddr] at h
        split at h
        · rename_i b o ex; rw [ex] at hx; generalize hrx : ρ x = rx at hx
          cases hx with
          | ptr _ _ m hm =>
            cases h
            refine ⟨_, vwrap P w (v' := .pointer (some ⟨m.rb, m.at_ + (o + fd.offset), none⟩)) ?_, .ptr _ _ _ hm⟩
            have hne : ¬ fi.size = 0 := by omega
            simp [Instr.fieldAt, hrx, underlying_run P w hu, hfd, Instr.sureAddr, fieldPlace, sizeOf_run P w h1, hne, add_none, Nat.add_assoc, pure, Sem.run]
        · cases h
      · cases hp
    · cases hp
  | field t x f =>
    obtain ⟨hok, hp⟩ := bif_some hp
    have hx := hρ.rel x (by simp [Op.operands]) hok
    split at hp
    · rename_i fs hu
      split at hp
      · rename_i fd hfd
        obtain ⟨s, hs, hp⟩ := bind_some hp
        cases hp
        simp only [PurOp.run] at h
        obtain ⟨cs, v', h1, h2, h3⟩ := part_sim P w hs h hx
        refine ⟨v', vwrap P w ?_, h3⟩
        simp [Instr.field, underlying_run P w hu, hfd, h1, asAgg, h2, pure, Sem.run]
      · cases hp
    · cases hp
  | indexAddr t x ix =>
    obtain ⟨hok, hp⟩ := bif_some hp
    simp only [Bool.and_eq_true] at hok
    have hx := hρ.rel x (by simp [Op.operands]) hok.1
    have hix := hρ.rel ix (by simp [Op.operands]) hok.2
    split at hp
    · rename_i el hu
      obtain ⟨n, hn, hp⟩ := bind_some hp
      cases hp
      obtain ⟨fi, h1, h2⟩ := sizeA_some hn
      simp only [PurOp.run, Ez.idxAddr] at h
      split at h
      · rename_i b o k c kd i ex eix
        rw [ex] at hx; generalize hrx : ρ x = rx at hx
        rw [eix] at hix; generalize hri : ρ ix = ri at hix
        cases hix
        obtain ⟨hc, h⟩ := ite_some h
        cases h
        obtain ⟨-, m, o', c', hm, hs, rfl⟩ := hx.slice_inv
        have ho : o' = m.at_ + o := by
          have h2 := hs.2
          have h1 := hs.1
          split at h2
          · exact h2.1
          · exact h2.1 (by omega)
        subst ho
        refine ⟨_, vwrap P w (v' := .pointer (some ⟨m.rb, m.at_ + (o + i.toNat * n), none⟩)) ?_, .ptr _ _ _ hm⟩
        simp [Instr.indexAt, hrx, hri, asIntOf, underlying_run P w hu, hc, sizeOf_run P w h1, h2, add_none, Nat.add_assoc, pure, Sem.run]
      · cases h
    · rename_i len el hu
      obtain ⟨n, hn, hp⟩ := bind_some hp
      cases hp
      obtain ⟨fi, h1, h2⟩ := sizeA_some hn
      simp only [PurOp.run, Ez.idxArr] at h
      split at h
      · rename_i b o kd i ex eix
        rw [ex] at hx; generalize hrx : ρ x = rx at hx
        rw [eix] at hix; generalize hri : ρ ix = ri at hix
        cases hix
        obtain ⟨hc, h⟩ := ite_some h
        cases h
        cases hx with
        | ptr _ _ m hm =>
          refine ⟨_, vwrap P w (v' := .pointer (some ⟨m.rb, m.at_ + (o + i.toNat * n), none⟩)) ?_, .ptr _ _ _ hm⟩
          simp [Instr.indexAt, hrx, hri, asIntOf, underlying_run P w hu, hc, Instr.sureAddr, sizeOf_run P w h1, h2, add_none, Nat.add_assoc, pure, Sem.run]
      · cases h
    · cases hp
  | index t x ix =>
    obtain ⟨hok, hp⟩ := bif_some hp
    simp only [Bool.and_eq_true] at hok
    have hx := hρ.rel x (by simp [Op.operands]) hok.1
    have hix := hρ.rel ix (by simp [Op.operands]) hok.2
    split at hp
    · rename_i len el hu
      obtain ⟨n, hn, hp⟩ := bind_some hp
      obtain ⟨s, hs, hp⟩ := bind_some hp
      cases hp
      obtain ⟨fi, h1, h2⟩ := sizeA_some hn
      simp only [PurOp.run, Ez.idxAgg] at h
      split at h
      · rename_i kd i eix
        rw [eix] at hix; generalize hri : ρ ix = ri at hix
        cases hix
        obtain ⟨hc, h⟩ := ite_some h
        obtain ⟨cs, v', k1, k2, k3⟩ := part_sim P w hs h hx
        refine ⟨v', vwrap P w ?_, k3⟩
        simp [Instr.index, hri, asIntOf, underlying_run P w hu, k1, hc, sizeOf_run P w h1, h2, k2, pure, Sem.run]
      · cases h
    · cases hp
  | lookup t m k ok =>
    obtain ⟨hok, hp⟩ := bif_some hp
    split at hp
    · split at hp
      · split at hp
        · split at hp
          · obtain ⟨_, hp⟩ := bif_some hp; cases hp
          · cases hp
        · cases hp
      · cases hp
    · cases hp
  | mapUpdate t m k x =>
    obtain ⟨hok, hp⟩ := bif_some hp
    split at hp
    · split at hp <;> cases hp
    · cases hp
  | insert t m k x =>
    obtain ⟨hok, hp⟩ := bif_some hp
    split at hp
    · split at hp <;> cases hp
    · cases hp
  | extract x i =>
    obtain ⟨hok, hp⟩ := bif_some hp
    cases hp
    have hx := hρ.rel x (by simp [Op.operands]) hok
    simp only [PurOp.run, extractA] at h
    split at h
    · rename_i vs ex
      rw [ex] at hx; generalize hrx : ρ x = rx at hx
      cases hx with
      | tuple _ vs' hsz hxs =>
        obtain ⟨v', hv', hr⟩ := (rels_of_arr hsz hxs).get i v h
        refine ⟨v', vwrap P w ?_, hr⟩
        have : vs'[i]? = some v' := by simpa using hv'
        simp [hrx, Instr.extract, this, pure, Sem.run]
    · cases h
  | call c =>
    obtain ⟨callee, args, argTypes⟩ := c
    have hpp := bif_some hp
    clear hp
    obtain ⟨hok, hp⟩ := hpp
    have hargs : ∀ x ∈ args.toList, VRel μ (e x) (ρ x) := fun x hx => hρ.rel x (by
      cases callee <;> simp [Op.operands, Call.operands, Array.mem_toList_iff.1 hx]) (List.all_eq_true.1 hok x hx)
    cases callee with
    | value f => cases f <;> cases hp
    | invoke r name => obtain ⟨_, hp⟩ := bif_some hp; cases hp
    | builtin b =>
      have run1 : ∀ {s : Sem Value} {v' : Value}, (∀ tt cs, builtin b argTypes tt cs (args.map ρ) = (do pure (Next.value (← s)))) → s.run P w = .ok v' w →
          (execOp ρ ⟨dst, .call ⟨.builtin b, args, argTypes⟩, type, pos, after, guard⟩).run P w = .ok (.value v') w := by
        intro s v' hb hs
        have e1 : execOp ρ ⟨dst, .call ⟨.builtin b, args, argTypes⟩, type, pos, after, guard⟩ = builtin b argTypes type (args.map fun | .const _ => true | _ => false) (args.map ρ) := rfl
        rw [e1, hb]
        exact vwrap P w hs
      simp only at hp
      split at hp
      · -- len
        rename_i x t rest hax hat
        have hx := hargs x (by rw [hax]; simp)
        have hargs' : args.map ρ = #[ρ x] := by apply Array.ext'; simp [hax]
        have ht : argTypes[0]? = some t := by rw [← Array.getElem?_toList, hat]; rfl
        split at hp
        · rename_i hu
          cases hp
          simp only [PurOp.run, Ez.lenStr] at h
          split at h
          · rename_i s ex; rw [ex] at hx; generalize hrx : ρ x = rx at hx
            cases hx
            cases h
            refine ⟨_, run1 (s := Builtin.len_ argTypes 0 #[.string s]) (fun tt cs => by rw [hargs', hrx]; rfl) ?_, .int _ _⟩
            simp [Builtin.len_, ht, underlying_run P w hu, goInt, pure, Sem.run]
          · cases h
        · rename_i el hu
          cases hp
          simp only [PurOp.run, Ez.lenSl] at h
          split at h
          · rename_i a n c ex; rw [ex] at hx; generalize hrx : ρ x = rx at hx
            cases h
            have : ∃ a' c', rx = .slice a' n c' := by cases hx <;> exact ⟨_, _, rfl⟩
            obtain ⟨a', c', rfl⟩ := this
            refine ⟨_, run1 (s := Builtin.len_ argTypes 0 #[.slice a' n c']) (fun tt cs => by rw [hargs', hrx]; rfl) ?_, .int _ _⟩
            simp [Builtin.len_, ht, underlying_run P w hu, goInt, pure, Sem.run]
          · cases h
        · rename_i n el hu
          cases hp
          cases h
          refine ⟨_, run1 (s := Builtin.len_ argTypes 0 #[ρ x]) (fun tt cs => by rw [hargs']; rfl) ?_, .int _ _⟩
          simp [Builtin.len_, ht, underlying_run P w hu, goInt, pure, Sem.run]
        · cases hp
      · split at hp <;> cases hp
      · split at hp
        · obtain ⟨a, _, hp⟩ := bind_some hp
          obtain ⟨_, hp⟩ := ite_some hp
          split at hp
          · cases hp
          · obtain ⟨_, hp⟩ := ite_some hp; cases hp
          · cases hp
        · cases hp
      · split at hp
        · obtain ⟨a, _, hp⟩ := bind_some hp; cases hp
        · cases hp
      · rename_i x y hax
        cases hp
        have hx := hargs x (by rw [hax]; simp)
        have hy := hargs y (by rw [hax]; simp)
        have hargs' : args.map ρ = #[ρ x, ρ y] := by apply Array.ext'; simp [hax]
        simp only [PurOp.run, maxA] at h
        split at h
        · rename_i k a k2 b2 ex ey
          rw [ex] at hx; generalize hrx : ρ x = rx at hx; cases hx
          rw [ey] at hy; generalize hry : ρ y = ry at hy; cases hy
          cases h
          refine ⟨_, run1 (s := Builtin.max_ argTypes 0 #[.int k a, .int k2 b2]) (fun tt cs => by rw [hargs', hrx, hry]; rfl) ?_, .int _ _⟩
          simp [Builtin.max_, Builtin.max2, pure, Sem.run]
        · cases h
      · rename_i x y hax
        cases hp
        have hx := hargs x (by rw [hax]; simp)
        have hy := hargs y (by rw [hax]; simp)
        have hargs' : args.map ρ = #[ρ x, ρ y] := by apply Array.ext'; simp [hax]
        simp only [PurOp.run, minA] at h
        split at h
        · rename_i k a k2 b2 ex ey
          rw [ex] at hx; generalize hrx : ρ x = rx at hx; cases hx
          rw [ey] at hy; generalize hry : ρ y = ry at hy; cases hy
          cases h
          refine ⟨_, run1 (s := Builtin.min_ argTypes 0 #[.int k a, .int k2 b2]) (fun tt cs => by rw [hargs', hrx, hry]; rfl) ?_, .int _ _⟩
          simp [Builtin.min_, Builtin.min2, pure, Sem.run]
        · cases h
      · cases hp
  | _ => cases hp
end
end Go.Ez
