import Derived.Test.YtgckodpnpidodaaGreatEzApp
import Derived.Test.YtgckodpnpidodaaGreatEzRun
set_option linter.all false
/- Operations that need no memory, those that read it and those that lay new blocks: the interpreter's are the machine's. -/
set_option linter.unusedVariables false
set_option linter.unusedSimpArgs false
namespace Go.Ez

theorem bif_some {α : Type} {c : Bool} {x : Option α} {y : α} (h : (bif c then x else none) = some y) : c = true ∧ x = some y := by
  cases c
  · simp at h
  · exact ⟨rfl, h⟩
theorem ite_some {α : Type} {c : Prop} [Decidable c] {x : Option α} {y : α} (h : (if c then x else none) = some y) : c ∧ x = some y := by
  by_cases hc : c
  · exact ⟨hc, by simpa [hc] using h⟩
  · simp [hc] at h
theorem ite_some' {α : Type} {c : Prop} [Decidable c] {x : Option α} {y : α} (h : (if c then none else x) = some y) : ¬ c ∧ x = some y := by
  by_cases hc : c
  · simp [hc] at h
  · exact ⟨hc, by simpa [hc] using h⟩
theorem bind_some {α β : Type} {x : Option α} {f : α → Option β} {y : β} (h : x.bind f = some y) : ∃ a, x = some a ∧ f a = some y := by
  cases x with
  | none => simp at h
  | some a => exact ⟨a, rfl, h⟩

theorem still_run {α : Type} (P : Program) (w : World) : ∀ {s : Sem α} {a : α}, still P s = some a → s.run P w = .ok a w := by
  intro s
  induction s with
  | pure a => intro b h; simp [still] at h; subst h; rfl
  | program k ih => intro b h; exact ih P h
  | mark m k ih => intro b h; exact ih h
  | _ => intro b h; simp [still] at h

section
variable {μ : Mu}

theorem VRel.plain1 {v v' : Value} (h : VRel μ v v') (hp : Ez.plain1 v = true) : v' = v := by
  cases h <;> first | rfl | simp [Ez.plain1] at hp

theorem VRel.plainV {v v' : Value} (h : VRel μ v v') (hp : Ez.plainV v = true) : v' = v := by
  cases h with
  | agg x x' hx hxs =>
    simp only [Ez.plainV, List.all_eq_true] at hp
    congr 1
    apply Array.ext hx.symm
    intro i h1 h2
    exact (hxs i h2 h1).plain1 (hp _ (by simp))
  | _ => first | rfl | simp [Ez.plainV, Ez.plain1] at hp

theorem VRel.of_plain1 {v : Value} (hp : Ez.plain1 v = true) : VRel μ v v := by
  unfold Ez.plain1 at hp
  split at hp <;> first | constructor | simp at hp
theorem VRel.of_plainV {v : Value} (hp : Ez.plainV v = true) : VRel μ v v := by
  unfold Ez.plainV at hp
  split at hp
  · refine .agg _ _ rfl fun i h _ => .of_plain1 ?_
    simp only [List.all_eq_true] at hp
    exact hp _ (by simp)
  · exact .of_plain1 hp
theorem VRels.of_plainV {v : Value} (hp : Ez.plainV v = true) : VRels μ (cellsOf v) (cellsOf v) :=
  VRel.cells (.of_plainV hp) (by cases v <;> first | rfl | simp [Ez.plainV, Ez.plain1] at hp)

/-! ### Types -/
theorem infoOf_some {P : Program} {t : TypeId} {n b : Nat} {z : List Value} (h : infoOf P t = some (n, b, z)) :
    ∃ i zv, P.info? t = some i ∧ i.zero = some zv ∧ i.size = n ∧ i.bytes = b ∧ cellsOf zv = z ∧ (cellsOf zv).length = n ∧ plainV zv = true := by
  unfold infoOf at h
  split at h
  · rename_i i hi
    split at h
    · rename_i zv hz
      obtain ⟨hc, hv⟩ := bif_some h
      simp only [Bool.and_eq_true] at hc
      cases hv
      have := Nat.eq_of_beq_eq_true hc.1
      exact ⟨i, zv, hi, hz, rfl, rfl, rfl, this, hc.2⟩
    · cases h
  · cases h
theorem sizeA_some {P : Program} {t : TypeId} {n : Nat} (h : sizeA P t = some n) : ∃ i, P.info? t = some i ∧ i.size = n := by
  unfold sizeA at h
  split at h
  · rename_i i hi; cases h; exact ⟨i, hi, rfl⟩
  · cases h
theorem aggOf_some {P : Program} {t : TypeId} {s : Option Nat} (h : aggOf P t = some s) :
    ∃ i d, P.info? t = some i ∧ P.underlying t = some d ∧ (∀ w : World, (isAgg t).run P w = .ok s.isSome w) ∧ (∀ n, s = some n → i.size = n) := by
  unfold aggOf at h
  split at h
  · rename_i i fs h1 h2
    cases h
    exact ⟨i, _, h1, h2, fun w => by simp [isAgg, underlying, h2, program, pure, Sem.run], fun n hn => by cases hn; rfl⟩
  · rename_i i n el h1 h2
    cases h
    exact ⟨i, _, h1, h2, fun w => by simp [isAgg, underlying, h2, program, pure, Sem.run], fun n hn => by cases hn; rfl⟩
  · rename_i i d hno1 hno2 h1 h2
    cases h
    refine ⟨i, d, h1, h2, fun w => ?_, fun n hn => by cases hn⟩
    cases d <;> first | (simp [isAgg, underlying, h2, program, pure, Sem.run]; done) | (exact (hno1 _ rfl).elim) | (exact (hno2 _ _ rfl).elim)
  · cases h

theorem part_sim (P : Program) (w : World) {t : TypeId} {s : Option Nat} (h : aggOf P t = some s) {off : Nat} {x x' v : Value} (hv : partV s off x = some v) (hx : VRel μ x x') :
    ∃ cs v', x' = .agg cs ∧ (part t cs off).run P w = .ok v' w ∧ VRel μ v v' := by
  obtain ⟨i, d, h1, h2, h3, h4⟩ := aggOf_some h
  unfold partV at hv
  split at hv
  · rename_i cs
    cases hx with
    | agg _ cs' hsz hxs =>
      have hrel := rels_of_arr hsz hxs
      cases s with
      | none =>
        simp only at hv
        obtain ⟨v', hv', hr⟩ := hrel.get off v hv
        refine ⟨cs', v', rfl, ?_, hr⟩
        have h5 : cs'[off]? = some v' := by simpa using hv'
        simp only [part, Sem.run_bind, h3 w, Result.andThen_ok, Option.isSome_none, Bool.false_eq_true, if_false, h5]
        rfl
      | some n =>
        cases hv
        have := h4 n rfl
        refine ⟨cs', .agg (cs'.extract off (off + n)), rfl, ?_, ?_⟩
        · simp [part, Sem.run_bind, h3 w, sizeOf, typeInfo, h1, this, program, pure, Sem.run]
        · refine VRel.agg_iff ?_
          have := (hrel.drop off).take n
          simp only [Array.toList_extract, List.extract_eq_take_drop]
          have e : off + n - off = n := by omega
          rw [e]; simpa using this
  · cases hv

/-! ### Parts into cells -/
theorem zipIdx_fold (xs : List Value) : ∀ (off k : Nat) (cs : Array Value), ((xs.zipIdx k).foldl (fun (cs : Array Value) (p : Value × Nat) => cs.setIfInBounds (off + p.2) p.1) cs).toList = setMany cs.toList (off + k) xs := by
  induction xs with
  | nil => intro off k cs; rfl
  | cons x xs ih =>
    intro off k cs
    simp only [List.zipIdx_cons, List.foldl_cons]
    rw [ih]
    simp [setMany, Nat.add_assoc]

theorem fill_sim {place : Nat → Option (Nat × Nat)} : ∀ {ps : List (Nat × Nat × Value)} {qs : List (Nat × Value)} {cs out : List Value} {cs' : Array Value},
    fillA cs ps = some out → VRels μ cs cs'.toList → All2 (fun p q => place q.1 = some (p.1, p.2.1) ∧ VRel μ p.2.2 q.2) ps qs →
    ∃ out', Instr.fill place cs' qs = some out' ∧ VRels μ out out'.toList := by
  intro ps
  induction ps with
  | nil =>
    intro qs cs out cs' h hc hq
    cases hq
    cases h
    exact ⟨cs', rfl, hc⟩
  | cons p ps ih =>
    intro qs cs out cs' h hc hq
    obtain ⟨q, qs', rfl, hpq, hrest⟩ := hq.cons_inv
    obtain ⟨off, size, v⟩ := p
    obtain ⟨i, u⟩ := q
    simp only [fillA] at h
    obtain ⟨ht, h⟩ := ite_some' h
    obtain ⟨hcond, h⟩ := bif_some h
    simp only [Bool.and_eq_true] at hcond
    have e1 := Nat.eq_of_beq_eq_true hcond.1
    have e2 := Nat.le_of_ble_eq_true hcond.2
    have hvr := hpq.2
    have ht' : isTuple v = false := by cases hh : isTuple v <;> simp_all
    have hcr := hvr.cells ht'
    have hl := hcr.length
    have hlen := hc.length
    have huc : u.cells.size = size := by
      have : u.cells.toList.length = size := by rw [cellsOf_eq, ← hl, e1]
      simpa using this
    have hsz : cs'.size = cs.length := by simpa using hlen.symm
    obtain ⟨out', ho, hr⟩ := ih (cs := setMany cs off (cellsOf v)) (out := out) (cs' := (u.cells.zipIdx.foldl (fun (cs : Array Value) (p : Value × Nat) => cs.setIfInBounds (off + p.2) p.1) cs')) h (by
        have e3 : (u.cells.zipIdx.foldl (fun (cs : Array Value) (p : Value × Nat) => cs.setIfInBounds (off + p.2) p.1) cs').toList = setMany cs'.toList off (cellsOf u) := by
          rw [← Array.foldl_toList, Array.toList_zipIdx, zipIdx_fold, cellsOf_eq, Nat.add_zero]
        rw [e3]
        exact setMany_rel hcr off hc) hrest
    refine ⟨out', ?_, hr⟩
    simp only [Instr.fill, hpq.1]
    rw [if_neg (by simp [huc]; omega)]
    exact ho


/-! ### Operations without memory -/
theorem eBin_sim (P : Program) (w : World) {op : BinOp} {t : TypeId} {x x' y y' v : Value} (hx : VRel μ x x') (hy : VRel μ y y') (h : eBin op x y = some v) :
    (binOp op t x' y').run P w = .ok v w ∧ VRel μ v v := by
  unfold eBin at h
  split at h
  · rename_i k a j b
    cases hx
    cases hy
    have hint : ∀ {op : BinOp}, op ≠ .shl → op ≠ .shr → (if k = j then eInt op k a b else none) = some v → (binOp op t (.int k a) (.int j b)).run P w = .ok v w ∧ VRel μ v v := by
      intro op h1 h2 h
      obtain ⟨rfl, h⟩ := ite_some h
      cases op <;> simp only [eInt, eBits] at h <;> first
        | (exact absurd rfl h1) | (exact absurd rfl h2)
        | (obtain ⟨h0, h⟩ := ite_some' h; cases h; refine ⟨?_, by constructor⟩; simp [binOp, Op.intDiv, h0, pure, Sem.run])
        | (cases h; refine ⟨?_, by constructor⟩; simp [binOp, Op.intArith, Op.intBits, Op.intCmp, pure, Sem.run])
    split at h
    · simp only [eShift] at h
      obtain ⟨h0, h⟩ := ite_some' h
      cases h
      exact ⟨by simp [binOp, Op.shift, h0, pure, Sem.run], by constructor⟩
    · simp only [eShift] at h
      obtain ⟨h0, h⟩ := ite_some' h
      cases h
      exact ⟨by simp [binOp, Op.shift, h0, pure, Sem.run], by constructor⟩
    · rename_i op h1 h2
      exact hint h1 h2 h
  · rename_i a b
    cases hx
    cases hy
    split at h
    · obtain ⟨h0, h⟩ := ite_some h
      cases h
      refine ⟨?_, by constructor⟩
      have h1 : ¬ (((a.size + b.size : Nat) : Int) > IntKind.i64.max) := by simp [IntKind.max, IntKind.signed, IntKind.bits]; omega
      have h2 : ¬ ((a.size : Int) + (b.size : Int) > IntKind.i64.max) := by simp [IntKind.max, IntKind.signed, IntKind.bits]; omega
      simp only [binOp, Op.stringOp]
      rw [if_neg h1]
      rfl
    · cases h; exact ⟨by simp [binOp, Op.stringOp, pure, Sem.run], by constructor⟩
    · cases h; exact ⟨by simp [binOp, Op.stringOp, pure, Sem.run], by constructor⟩
    · cases h
  · cases h

theorem isNilK_inv {k : NK} {v v' : Value} {b : Bool} (h : isNilK k v = some b) (hv : VRel μ v v') : isNilK k v' = some b := by
  cases k <;> cases hv <;> simp_all [isNilK]

section
variable (P : Program) (w : World) (d : Nat) {t : TypeId}
theorem eqn_ptr {e : TypeId} (ht : P.underlying t = some (.pointer e)) (a : Option Addr) : (Op.equalIn (d + 1) t (.pointer a) (.pointer none)).run P w = .ok a.isNone w := by
  cases a <;> simp [Op.equalIn, underlying, ht, program, pure, Sem.run]
theorem eqn_slc {e : TypeId} (ht : P.underlying t = some (.slice e)) (a : Option Addr) (n c : Nat) : (Op.equalIn (d + 1) t (.slice a n c) (.slice none 0 0)).run P w = .ok a.isNone w := by
  cases a <;> simp [Op.equalIn, underlying, ht, program, pure, Sem.run]
theorem eqn_map {e f : TypeId} (ht : P.underlying t = some (.map e f)) (a : Option Nat) : (Op.equalIn (d + 1) t (.map a) (.map none)).run P w = .ok a.isNone w := by
  cases a <;> simp [Op.equalIn, underlying, ht, program, pure, Sem.run]
theorem eqn_fn {e f : Array TypeId} {g : Bool} (ht : P.underlying t = some (.func e f g)) {x : Value} {b : Bool} (h : isNilK .fn x = some b) : (Op.equalIn (d + 1) t x .nilFunc).run P w = .ok b w := by
  cases x <;> simp [isNilK] at h <;> subst h <;> simp [Op.equalIn, underlying, ht, program, pure, Sem.run]
theorem eqn_ifc {e : Array (String × TypeId)} (ht : P.underlying t = some (.interface e)) {x : Value} {b : Bool} (h : isNilK .ifc x = some b) : (Op.equalIn (d + 1) t x .nilIface).run P w = .ok b w := by
  cases x <;> simp [isNilK] at h <;> subst h <;> simp [Op.equalIn, underlying, ht, program, pure, Sem.run]
theorem eqn_bool (ht : P.underlying t = some .bool) (a b : Bool) : (Op.equalIn (d + 1) t (.bool a) (.bool b)).run P w = .ok (a == b) w := by
  simp [Op.equalIn, underlying, ht, program, pure, Sem.run]
end

theorem binOp_eql {t : TypeId} {x y : Value} (hx : ∀ k n, x ≠ .int k n) (hs : ∀ s, x ≠ .string s) (hf : ∀ k n, x ≠ .float k n) (hc : ∀ k n m, x ≠ .complex k n m) :
    binOp .eql t x y = (do pure (.bool (← Op.equal t x y))) ∧ binOp .neq t x y = (do pure (.bool (!(← Op.equal t x y)))) := by
  cases x <;> first | (exact absurd rfl (hx _ _)) | (exact absurd rfl (hs _)) | (exact absurd rfl (hf _ _)) | (exact absurd rfl (hc _ _ _)) | (cases y <;> exact ⟨rfl, rfl⟩)

theorem still_bind {α β : Type} (P : Program) (s : Sem α) (f : α → Sem β) : still P (s >>= f) = (still P s).bind fun a => still P (f a) := by
  show still P (Sem.bind s f) = _
  induction s with
  | pure a => simp [Sem.bind, still]
  | program k ih => simp only [Sem.bind, still]; exact ih P
  | mark m k ih => simp only [Sem.bind, still]; exact ih
  | _ => simp [Sem.bind, still]
theorem still_pure {α : Type} (P : Program) (a : α) : still P (pure a : Sem α) = some a := rfl

theorem still_bool (P : Program) {neq : Bool} {t : TypeId} {a b : Array Value} {v : Value} (h : still P (binOp (eqOp neq) t (.agg a) (.agg b)) = some v) : VRel μ v v := by
  obtain ⟨b1, b2⟩ := binOp_eql (t := t) (x := .agg a) (y := .agg b) (by simp) (by simp) (by simp) (by simp)
  cases neq
  · simp only [eqOp, Bool.false_eq_true, if_false] at h
    rw [b1, still_bind] at h
    obtain ⟨r, _, h⟩ := bind_some h
    rw [still_pure] at h
    cases h
    exact .bool _
  · simp only [eqOp, if_true] at h
    rw [b2, still_bind] at h
    obtain ⟨r, _, h⟩ := bind_some h
    rw [still_pure] at h
    cases h
    exact .bool _

/-- '==' and '!=' of what is told by the kind of type. -/
theorem eq_sim (P : Program) (w : World) {neq : Bool} {t : TypeId} {x y : Operand} {p : PurOp} (hp : prepEq P neq t x y = some p) {e ρ : Operand → Value}
    (hx : VRel μ (e x) (ρ x)) (hy : VRel μ (e y) (ρ y)) (hcy : ∀ v, y = .const v → e y = v ∧ ρ y = v) {v : Value} (h : p.run P e = some v) :
    ∃ v', (do eqGuard (eqOp neq) t x y (ρ x) (ρ y); binOp (eqOp neq) t (ρ x) (ρ y) : Sem Value).run P w = .ok v' w ∧ VRel μ v v' := by
  have guard0 : ∀ a b : Value, (∀ k, a ≠ .agg k) → (a ≠ .nilIface) → (eqGuard (eqOp neq) t x y a b).run P w = .ok () w := by
    intro a b h1 h2
    unfold eqGuard
    cases neq <;> (cases a <;> first | (exact absurd rfl (h1 _)) | (exact absurd rfl h2) | (simp [eqOp, pure, Sem.run]))
  have fin : ∀ (a b : Value) (r : Bool), (∀ k n, a ≠ .int k n) → (∀ s, a ≠ .string s) → (∀ k n, a ≠ .float k n) → (∀ k n m, a ≠ .complex k n m) → (eqGuard (eqOp neq) t x y a b).run P w = .ok () w →
      (Op.equalIn (9999 + 1) t a b).run P w = .ok r w → (do eqGuard (eqOp neq) t x y a b; binOp (eqOp neq) t a b : Sem Value).run P w = .ok (.bool (if neq then !r else r)) w := by
    intro a b r h1 h2 h3 h4 hg he
    obtain ⟨b1, b2⟩ := binOp_eql (t := t) (y := b) h1 h2 h3 h4
    have he' : (Op.equal t a b).run P w = .ok r w := he
    simp only [Sem.run_bind, hg, Result.andThen_ok]
    cases neq
    · simp only [eqOp, Bool.false_eq_true, if_false]; rw [b1]; simp [he', pure, Sem.run]
    · simp only [eqOp, if_true]; rw [b2]; simp [he', pure, Sem.run]
  have nilfin : ∀ (k : NK) (nv : Value), y = .const nv → (isNilK k (e x)).bind (fun b => some (Value.bool (if neq then !b else b))) = some v → (k = .ifc → nv = .nilIface) → plain1 nv = true →
      (∀ r, isNilK k (ρ x) = some r → (Op.equalIn (9999 + 1) t (ρ x) nv).run P w = .ok r w) →
      ∃ v', (do eqGuard (eqOp neq) t x y (ρ x) (ρ y); binOp (eqOp neq) t (ρ x) (ρ y) : Sem Value).run P w = .ok v' w ∧ VRel μ v v' := by
    intro k nv hy' h hifc hpl heq
    obtain ⟨b, hb, h⟩ := bind_some h
    cases h
    have hb' := isNilK_inv hb hx
    have hyv : ρ y = nv := (hcy nv hy').2
    refine ⟨_, fin _ _ b ?_ ?_ ?_ ?_ ?_ (by rw [hyv]; exact heq b hb'), .bool _⟩
    · intro k2 n hh; rw [hh] at hb'; cases k <;> simp [isNilK] at hb'
    · intro n hh; rw [hh] at hb'; cases k <;> simp [isNilK] at hb'
    · intro k2 n hh; rw [hh] at hb'; cases k <;> simp [isNilK] at hb'
    · intro k2 n m hh; rw [hh] at hb'; cases k <;> simp [isNilK] at hb'
    · unfold eqGuard
      rw [hyv, hy']
      have hna : ∀ k2, ρ x ≠ .agg k2 := by intro k2 hh; rw [hh] at hb'; cases k <;> simp [isNilK] at hb'
      cases neq <;> (cases hxx : ρ x <;> first | (exact absurd hxx (hna _)) | (cases nv <;> simp [eqOp, pure, Sem.run]))
  unfold prepEq at hp
  split at hp
  · cases hp
    simp only [PurOp.run] at h
    obtain ⟨h1, h2⟩ := eBin_sim P w (t := t) hx hy h
    have hsh : (∀ k, ρ x ≠ .agg k) ∧ ρ x ≠ .nilIface := by
      unfold eBin at h
      split at h
      · rename_i e1 e2; rw [e1] at hx; generalize ρ x = rx at hx ⊢; cases hx; simp
      · rename_i e1 e2; rw [e1] at hx; generalize ρ x = rx at hx ⊢; cases hx; simp
      · cases h
    refine ⟨v, ?_, h2⟩
    simp only [Sem.run_bind, guard0 _ _ hsh.1 hsh.2, Result.andThen_ok, h1]
  · cases hp
    simp only [PurOp.run] at h
    obtain ⟨h1, h2⟩ := eBin_sim P w (t := t) hx hy h
    have hsh : (∀ k, ρ x ≠ .agg k) ∧ ρ x ≠ .nilIface := by
      unfold eBin at h
      split at h
      · rename_i e1 e2; rw [e1] at hx; generalize ρ x = rx at hx ⊢; cases hx; simp
      · rename_i e1 e2; rw [e1] at hx; generalize ρ x = rx at hx ⊢; cases hx; simp
      · cases h
    refine ⟨v, ?_, h2⟩
    simp only [Sem.run_bind, guard0 _ _ hsh.1 hsh.2, Result.andThen_ok, h1]
  · rename_i ht
    cases hp
    simp only [PurOp.run] at h
    split at h
    · rename_i a b ha hb
      cases h
      rw [ha] at hx; rw [hb] at hy
      cases hxx : ρ x <;> rw [hxx] at hx <;> cases hx
      cases hyy : ρ y <;> rw [hyy] at hy <;> cases hy
      refine ⟨_, fin _ _ (a == b) (by simp) (by simp) (by simp) (by simp) (guard0 _ _ (by simp) (by simp)) (eqn_bool P w _ ht a b), ?_⟩
      exact .bool _
    · cases h
  · rename_i el ht
    split at hp
    · cases hp
      refine nilfin .ptr _ rfl h (by simp) rfl fun r hr => ?_
      cases hxx : ρ x <;> rw [hxx] at hr <;> simp [isNilK] at hr
      subst hr; exact eqn_ptr P w _ ht _
    · cases hp
  · rename_i el ht
    split at hp
    · cases hp
      refine nilfin .slc _ rfl h (by simp) rfl fun r hr => ?_
      cases hxx : ρ x <;> rw [hxx] at hr <;> simp [isNilK] at hr
      subst hr; exact eqn_slc P w _ ht _ _ _
    · cases hp
  · rename_i el1 el2 ht
    split at hp
    · cases hp
      refine nilfin .map _ rfl h (by simp) rfl fun r hr => ?_
      cases hxx : ρ x <;> rw [hxx] at hr <;> simp [isNilK] at hr
      subst hr; exact eqn_map P w _ ht _
    · cases hp
  · rename_i el1 el2 el3 ht
    split at hp
    · cases hp
      exact nilfin .fn _ rfl h (by simp) rfl fun r hr => eqn_fn P w _ ht hr
    · cases hp
  · rename_i ms ht
    split at hp
    · cases hp
      exact nilfin .ifc _ rfl h (by simp) rfl fun r hr => eqn_ifc P w _ ht hr
    · cases hp
  all_goals first
    | cases hp
    | (obtain ⟨hng, hp⟩ := ite_some' hp
       cases hp
       simp only [PurOp.run, eqSV] at h
       split at h
       · rename_i a b ha hb
         obtain ⟨hpl, h⟩ := ite_some h
         simp only [Bool.and_eq_true] at hpl
         rw [ha] at hx
         rw [hb] at hy
         have hx2 := hx.plainV hpl.1
         have hy2 := hy.plainV hpl.2
         rw [hx2, hy2]
         have hg : (eqGuard (eqOp neq) t x y (.agg a) (.agg b)).run P w = .ok () w := by
           have hng' : P.eqGuardType P.depth t = false := by simpa using hng
           cases neq <;> simp [eqGuard, eqOp, hng', program, pure, Sem.run]
         refine ⟨v, by simp only [Sem.run_bind, hg, Result.andThen_ok]; exact still_run P w h, ?_⟩
         exact still_bool P h
       · cases h)
end
end Go.Ez
