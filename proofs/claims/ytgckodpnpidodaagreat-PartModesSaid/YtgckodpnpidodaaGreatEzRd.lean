import Derived.Test.YtgckodpnpidodaaGreatEzPur2
set_option linter.all false
/- Operations that read memory, and those that lay new blocks. -/
set_option linter.unusedVariables false
set_option linter.unusedSimpArgs false
namespace Go.Ez
section
variable {μ : Mu}

theorem Rel.esz {H : AH} {w : World} (hR : Rel μ H w) {b : Nat} {cs : List Value} {ro : Bool} {g : Nat} {m : Spot} (hg : H.get b = some (.cells cs ro g)) (hm : μ b = some m) : m.esz = g := by
  obtain ⟨c, el, fr, h1, h2, h3, h4⟩ := hR.blk b _ m hg hm
  exact h3

theorem findA_sim {n : Int} {j k0 : IntKind} : ∀ {es : List MapEntry} {es' : List MapEntry} {i : Nat} {r : Option (Nat × Value)}, findA j n es i = some r → All2 (MapRel μ) es es' →
    ∃ r', Instr.findNow (.int k0) (.int j n) es' i = some r' ∧ (match r, r' with
      | none, none => True
      | some (a, v), some (a', v') => a = a' ∧ VRel μ v v'
      | _, _ => False) := by
  intro es
  induction es with
  | nil =>
    intro es' i r h hr
    cases hr
    cases h
    exact ⟨none, rfl, trivial⟩
  | cons x es ih =>
    intro es' i r h hr
    obtain ⟨y, es'', rfl, hxy, hrest⟩ := hr.cons_inv
    obtain ⟨h1, h2, h3⟩ := hxy
    simp only [findA] at h
    split at h
    · rename_i kd m ek
      rw [ek] at h1
      generalize hyk : y.key = yk at h1
      cases h1
      have hh := ite_some h
      clear h
      obtain ⟨hkj, h⟩ := hh
      subst hkj
      by_cases hnm : n = m
      · rw [if_pos hnm] at h
        cases h
        refine ⟨some (i, y.val), ?_, rfl, h2⟩
        simp [Instr.findNow, Instr.sameNow, hyk, hnm]
      · rw [if_neg hnm] at h
        obtain ⟨r', hr', hrr⟩ := ih h hrest
        refine ⟨r', ?_, hrr⟩
        simp only [Instr.findNow, Instr.sameNow, hyk, if_true]
        have : (n == m) = false := by simpa using hnm
        rw [this]
        exact hr'
    · cases h

theorem checkKey_int (P : Program) (w : World) (e : Bool) (d : Nat) {t : TypeId} {k : IntKind} (ht : P.underlying t = some (.int k)) (v : Value) : (Instr.checkKey e (d + 1) t v).run P w = .ok () w := by
  simp [Instr.checkKey, underlying_run P w ht, pure, Sem.run]

/-- An operation that reads. -/
theorem rd_sim (P : Program) {H : AH} {w : World} (hR : Rel μ H w) {o : Oper} {r : RdOp} (hp : prepOp P o = some (.rd r)) {e ρ : Operand → Value} (hρ : Opds μ o e ρ) {v : Value} (h : (r.rd e).run H = some v) :
    ∃ v', (execOp ρ o).run P w = .ok (.value v') w ∧ VRel μ v v' := by
  obtain ⟨dst, op, type, pos, after, guard⟩ := o
  cases op with
  | move x => obtain ⟨hok, hp⟩ := bif_some hp; cases hp
  | assign x => obtain ⟨hok, hp⟩ := bif_some hp; cases hp
  | pick c a b => obtain ⟨hok, hp⟩ := bif_some hp; cases hp
  | alloc t => obtain ⟨a, _, hp⟩ := bind_some hp; cases hp
  | box t x => obtain ⟨hok, hp⟩ := bif_some hp; cases hp
  | build t parts =>
    obtain ⟨⟨n, b, z⟩, hinf, hp⟩ := bind_some hp
    simp only at hp
    split at hp
    · obtain ⟨_, hp⟩ := bif_some hp; obtain ⟨_, _, hp⟩ := bind_some hp; cases hp
    · obtain ⟨_, _, hp⟩ := bind_some hp; obtain ⟨_, _, hp⟩ := bind_some hp; cases hp
    · cases hp
  | buildSlice t len parts =>
    simp only [prepOp] at hp
    split at hp
    · obtain ⟨a, _, hp⟩ := bind_some hp
      obtain ⟨_, hp⟩ := ite_some hp
      obtain ⟨a, _, hp⟩ := bind_some hp
      cases hp
    · cases hp
  | load t a =>
    obtain ⟨hok, hp⟩ := bif_some hp
    have ha := hρ.rel a (by simp [Op.operands]) hok
    obtain ⟨s, hs, hp⟩ := bind_some hp
    obtain ⟨i, d, h1, h2, h3, h4⟩ := aggOf_some hs
    cases s with
    | none =>
      cases hp
      obtain ⟨A, v', e1, e2, e3⟩ := ld1_sim P hR (h : Ez.ld1 H (e a) = some v) ha
      refine ⟨v', vwrap P w ?_, e3⟩
      simp only [Instr.loadAt, e1, Instr.sureAddr, loadVar, Sem.run_bind, pure, Sem.run, Result.andThen_ok, h3, Option.isSome_none, Bool.false_eq_true, if_false, load, e2]
    | some n =>
      cases hp
      have h' : Ez.ldN H n (e a) = some v := h
      unfold Ez.ldN at h'
      split at h'
      · rename_i b o ea
        rw [ea] at ha; generalize hra : ρ a = ra at ha
        obtain ⟨l, hl, h'⟩ := bind_some h'
        cases h'
        cases ha with
        | ptr _ _ m hm =>
          have hsz := h4 n rfl
          rcases Nat.eq_zero_or_pos n with hz | hz
          · subst hz
            have : l = [] := by
              unfold ldCells at hl
              split at hl
              · obtain ⟨_, hl⟩ := bif_some hl; cases hl; simp
              · cases hl
            subst this
            refine ⟨.agg #[], vwrap P w ?_, .agg _ _ rfl (by simp)⟩
            simp [Instr.loadAt, hra, Instr.sureAddr, loadVar, h3, sizeOf_run P w h1, hsz, loadCells, loadCellsFrom, pure, Sem.run]
          · obtain ⟨l', hrun, hrel⟩ := ldCells_sim P hR hl hm hz
            refine ⟨.agg l'.toArray, vwrap P w ?_, VRel.agg_iff (by simpa using hrel)⟩
            simp only [Instr.loadAt, hra, Instr.sureAddr, loadVar, Sem.run_bind, pure, Sem.run, Result.andThen_ok, h3, Option.isSome_some, if_true, sizeOf_run P w h1, hsz, hrun]
      · cases h'
  | store t a x => obtain ⟨hok, hp⟩ := bif_some hp; obtain ⟨s, _, hp⟩ := bind_some hp; cases hp
  | nilCheck x => obtain ⟨hok, hp⟩ := bif_some hp; cases hp
  | binOp op t x y yt =>
    obtain ⟨hok, hp⟩ := bif_some hp
    cases op <;> first
      | cases hp
      | (obtain ⟨_, _, hp⟩ := bind_some hp; cases hp)
  | unOp op t x => obtain ⟨hok, hp⟩ := bif_some hp; cases op <;> cases hp
  | convert s d x => obtain ⟨hok, hp⟩ := bif_some hp; split at hp <;> cases hp
  | makeInterface t x => obtain ⟨hok, hp⟩ := bif_some hp; split at hp <;> cases hp
  | makeFunc fn first captured =>
    simp only [prepOp] at hp
    split at hp
    · obtain ⟨hok, hp⟩ := bif_some hp; cases hp
    · cases hp
  | makeMap t r => obtain ⟨hok, hp⟩ := bif_some hp; cases hp
  | makeSlice t l c =>
    obtain ⟨hok, hp⟩ := bif_some hp
    split at hp
    · obtain ⟨a, _, hp⟩ := bind_some hp
      obtain ⟨_, hp⟩ := ite_some hp
      cases hp
    · cases hp
  | slice t x lo hi mx =>
    have hpp := bif_some hp
    clear hp
    obtain ⟨hok, hp⟩ := hpp
    simp only [Bool.and_eq_true] at hok
    obtain ⟨⟨⟨hok1, hok2⟩, hok3⟩, hmx⟩ := hok
    have hmx' : mx = none := by simpa using hmx
    subst hmx'
    have hx := hρ.rel x (by simp [Op.operands]) hok1
    have rlo : ORel μ (lo.map e) (lo.map ρ) := by
      cases lo with
      | none => trivial
      | some y => exact hρ.rel y (by simp [Op.operands]) hok2
    have rhi : ORel μ (hi.map e) (hi.map ρ) := by
      cases hi with
      | none => trivial
      | some y => exact hρ.rel y (by simp [Op.operands]) hok3
    split at hp
    · rename_i el hu
      obtain ⟨n, hn, hp⟩ := bind_some hp
      cases hp
      obtain ⟨fi, h1, h2⟩ := sizeA_some hn
      have h' : sliceA H n (e x) (lo.map e) (hi.map e) = some v := h
      unfold sliceA at h'
      split at h'
      · rename_i ex
        rw [ex] at hx; generalize hrx : ρ x = rx at hx; cases hx
        obtain ⟨hh, hhh, h'⟩ := bind_some h'
        obtain ⟨ll, hll, h'⟩ := bind_some h'
        cases h'
        obtain ⟨hrun, hhc, hle⟩ := bounds_sim P w true hhh hll rhi rlo (Nat.le_refl _)
        have e1 : hh = 0 := by omega
        have e2 : ll = 0 := by omega
        subst e1 e2
        refine ⟨_, vwrap P w (v' := .slice none 0 0) ?_, .nilSlice⟩
        simp [Instr.sliceAt, hrx, underlying_run P w hu, Instr.slice, hrun, sizeOf_run P w h1, pure, Sem.run]
      · rename_i b o k c ex
        rw [ex] at hx; generalize hrx : ρ x = rx at hx
        split at h'
        · rename_i cs ro g hg
          obtain ⟨hh, hhh, h'⟩ := bind_some h'
          obtain ⟨ll, hll, h'⟩ := bind_some h'
          obtain ⟨hgs, h'⟩ := ite_some h'
          cases h'
          obtain ⟨-, m, o', c', hm, hs, rfl⟩ := hx.slice_inv
          have hcc : c ≤ c' := by
            have h2 := hs.2
            split at h2
            · omega
            · exact h2.2.2.1
          obtain ⟨hrun, hhc, hle⟩ := bounds_sim P w true hhh hll rhi rlo hcc
          have hkc := hs.1
          have hhc' : hh ≤ c := by omega
          have hesz := hR.esz hg hm
          refine ⟨_, vwrap P w (v' := .slice (some ⟨m.rb, if c' = ll then o' else o' + ll * n, none⟩) (hh - ll) (c' - ll)) ?_, ?_⟩
          · simp only [Instr.sliceAt, hrx, Sem.run_bind, underlying_run P w hu, Result.andThen_ok, Instr.slice, Option.map_none, hrun, sizeOf_run P w h1, h2, pure, Sem.run]
            by_cases e : c' = ll <;> simp [e, add_none]
          · refine .slice _ _ _ _ _ _ m hm ⟨by omega, ?_⟩
            have h2 := hs.2
            by_cases e0 : m.esz = 0
            · rw [if_pos e0] at h2 ⊢
              obtain ⟨q1, q2⟩ := h2
              subst q2
              refine ⟨?_, rfl⟩
              by_cases e : c' = ll
              · rw [if_pos e, if_pos e]; exact q1
              · rw [if_neg e, if_neg e]; omega
            · rw [if_neg e0] at h2 ⊢
              obtain ⟨q1, q2, q3, q4⟩ := h2
              have hgn : g = n := by rcases hgs with h | h <;> omega
              rw [hesz, hgn] at q4 ⊢
              refine ⟨fun hc0 => ?_, ?_, by omega, ?_⟩
              · rw [if_neg (by omega), if_neg (by omega)]
                have := q1 (by omega)
                omega
              · split <;> omega
              · by_cases e : c' = ll
                · rw [if_pos e]; subst e; simp; have : 0 ≤ c' * n := Nat.zero_le _; omega
                · rw [if_neg e]
                  have : ll * n + (c' - ll) * n = c' * n := by rw [← Nat.add_mul]; congr 1; omega
                  omega
        · cases h'
      · cases h'
    · rename_i len el hu
      obtain ⟨n, hn, hp⟩ := bind_some hp
      cases hp
      obtain ⟨fi, h1, h2⟩ := sizeA_some hn
      have h' : Ez.sliceArr H len n (e x) (lo.map e) (hi.map e) = some v := h
      unfold Ez.sliceArr at h'
      split at h'
      · rename_i b o ex
        rw [ex] at hx; generalize hrx : ρ x = rx at hx
        split at h'
        · rename_i cs ro hg
          obtain ⟨hh, hhh, h'⟩ := bind_some h'
          obtain ⟨ll, hll, h'⟩ := bind_some h'
          cases h'
          cases hx with
          | ptr _ _ m hm =>
            obtain ⟨hrun, hhc, hle⟩ := bounds_sim P w false hhh hll rhi rlo (Nat.le_refl _)
            have hhl : hh ≤ len := by omega
            have hesz := hR.esz hg hm
            refine ⟨_, vwrap P w (v' := .slice (some ⟨m.rb, m.at_ + (if len = ll then o else o + ll * n), none⟩) (hh - ll) (len - ll)) ?_, ?_⟩
            · simp only [Instr.sliceAt, hrx, Sem.run_bind, underlying_run P w hu, Result.andThen_ok, Instr.sureAddr, hrun, Option.map_none, sizeOf_run P w h1, h2, pure, Sem.run, add_none]
              by_cases e : len = ll <;> simp [e, Nat.add_assoc]
            · exact .slice _ _ _ _ _ _ m hm ⟨by omega, by rw [if_pos hesz]; exact ⟨rfl, rfl⟩⟩
        · cases h'
      · cases h'
    · cases hp
    · cases hp
  | fieldAddr s x f =>
    obtain ⟨hok, hp⟩ := bif_some hp
    split at hp
    · split at hp
      · obtain ⟨_, _, hp⟩ := bind_some hp; obtain ⟨_, hp⟩ := ite_some' hp; cases hp
      · cases hp
    · cases hp
  | field t x f =>
    obtain ⟨hok, hp⟩ := bif_some hp
    split at hp
    · split at hp
      · obtain ⟨_, _, hp⟩ := bind_some hp; cases hp
      · cases hp
    · cases hp
  | indexAddr t x ix =>
    obtain ⟨hok, hp⟩ := bif_some hp
    split at hp
    · obtain ⟨_, _, hp⟩ := bind_some hp; cases hp
    · obtain ⟨_, _, hp⟩ := bind_some hp; cases hp
    · cases hp
  | index t x ix =>
    obtain ⟨hok, hp⟩ := bif_some hp
    split at hp
    · obtain ⟨_, _, hp⟩ := bind_some hp; obtain ⟨_, _, hp⟩ := bind_some hp; cases hp
    · cases hp
  | lookup t m k ok =>
    have hpp := bif_some hp
    clear hp
    obtain ⟨hok, hp⟩ := hpp
    simp only [Bool.and_eq_true, Bool.not_eq_true'] at hok
    obtain ⟨⟨hok1, hok2⟩, rfl⟩ := hok
    have hm := hρ.rel m (by simp [Op.operands]) hok1
    have hk := hρ.rel k (by simp [Op.operands]) hok2
    split at hp
    · rename_i kt el hu
      split at hp
      · rename_i k0 hkt
        split at hp
        · rename_i ti hti
          split at hp
          · rename_i z hz
            obtain ⟨hpl, hp⟩ := bif_some hp
            cases hp
            have h' : lookupA H z (e m) (e k) = some v := h
            unfold lookupA at h'
            split at h'
            · rename_i j n em ek
              rw [em] at hm; generalize hrm : ρ m = rm at hm; cases hm
              rw [ek] at hk; generalize hrk : ρ k = rk at hk; cases hk
              cases h'
              refine ⟨_, vwrap P w ?_, .of_plainV hpl⟩
              have hck := checkKey_int P w (#[] : Array MapEntry).isEmpty 9999 hkt (.int j n)
              have hfn : Instr.findNow (.int k0) (.int j n) (#[] : Array MapEntry).toList 0 = some none := rfl
              simp only [Instr.lookup, hrm, hrk, Sem.run_bind, underlying_run P w hu, Result.andThen_ok, pure, Sem.run, hck, Instr.findKey, underlying_run P w hkt, hfn, zeroValue_run P w hti hz, Bool.false_eq_true, if_false]
            · rename_i b j n em ek
              rw [em] at hm; generalize hrm : ρ m = rm at hm
              rw [ek] at hk; generalize hrk : ρ k = rk at hk; cases hk
              split at h'
              · rename_i es ck hg
                obtain ⟨r, hr, h'⟩ := bind_some h'
                cases hm with
                | map _ sp hsp =>
                  obtain ⟨es', q1, q2⟩ := hR.blk b _ sp hg hsp
                  obtain ⟨r', hr', hrr⟩ := findA_sim (k0 := k0) hr q2
                  have hget : (getObj sp.rb).run P w = .ok (.map es' ck) w := by simp [getObj, Sem.run, q1]
                  have hck := checkKey_int P w es'.isEmpty 9999 hkt (.int j n)
                  cases r with
                  | none =>
                    cases r' with
                    | none =>
                      cases h'
                      refine ⟨_, vwrap P w ?_, .of_plainV hpl⟩
                      simp only [Instr.lookup, hrm, hrk, Sem.run_bind, underlying_run P w hu, Result.andThen_ok, hget, pure, Sem.run, hck, Instr.findKey, underlying_run P w hkt, hr', zeroValue_run P w hti hz, Bool.false_eq_true, if_false]
                    | some x => exact hrr.elim
                  | some x =>
                    cases r' with
                    | none => exact hrr.elim
                    | some y =>
                      obtain ⟨xi, xv⟩ := x
                      obtain ⟨yi, yv⟩ := y
                      cases h'
                      refine ⟨yv, vwrap P w ?_, hrr.2⟩
                      simp only [Instr.lookup, hrm, hrk, Sem.run_bind, underlying_run P w hu, Result.andThen_ok, hget, pure, Sem.run, hck, Instr.findKey, underlying_run P w hkt, hr', Bool.false_eq_true, if_false]
              · cases h'
            · cases h'
          · cases hp
        · cases hp
      · cases hp
    · cases hp
  | mapUpdate t m k x =>
    obtain ⟨hok, hp⟩ := bif_some hp
    split at hp
    · split at hp <;> cases hp
    · cases hp
  | insert t m k x =>
    obtain ⟨hok, hp⟩ := bif_some hp
    split at hp
    · split at hp <;> cases hp
    · cases hp
  | extract x i => obtain ⟨hok, hp⟩ := bif_some hp; cases hp
  | call c =>
    obtain ⟨callee, args, argTypes⟩ := c
    have hpp := bif_some hp
    clear hp
    obtain ⟨hok, hp⟩ := hpp
    have hargs : ∀ x ∈ args.toList, VRel μ (e x) (ρ x) := fun x hx => hρ.rel x (by
      cases callee <;> simp [Op.operands, Call.operands, Array.mem_toList_iff.1 hx]) (List.all_eq_true.1 hok x hx)
    cases callee with
    | value f => cases f <;> cases hp
    | invoke r name => obtain ⟨_, hp⟩ := bif_some hp; cases hp
    | builtin b =>
      simp only at hp
      split at hp
      · split at hp <;> cases hp
      · rename_i x t rest hax hat
        have hx := hargs x (by rw [hax]; simp)
        have hargs' : args.map ρ = #[ρ x] := by apply Array.ext'; simp [hax]
        have ht : argTypes[0]? = some t := by rw [← Array.getElem?_toList, hat]; rfl
        split at hp
        · rename_i el hu
          cases hp
          have h' : Ez.capA H (e x) = some v := h
          have e1 : execOp ρ ⟨dst, .call ⟨.builtin .cap, args, argTypes⟩, type, pos, after, guard⟩ = builtin .cap argTypes type (args.map fun | .const _ => true | _ => false) (args.map ρ) := rfl
          unfold capA at h'
          split at h'
          · rename_i ex
            rw [ex] at hx; generalize hrx : ρ x = rx at hx; cases hx
            cases h'
            refine ⟨.int .i64 0, ?_, .int _ _⟩
            rw [e1, hargs', hrx]
            exact vwrap P w (by simp [Builtin.cap_, ht, underlying_run P w hu, goInt, pure, Sem.run])
          · rename_i b o k c ex
            rw [ex] at hx; generalize hrx : ρ x = rx at hx
            split at h'
            · rename_i cs ro g hg
              obtain ⟨hg0, h'⟩ := ite_some h'
              cases h'
              obtain ⟨-, m, o', c', hm, hs, rfl⟩ := hx.slice_inv
              have hesz := hR.esz hg hm
              have h2 := hs.2
              rw [if_pos (by omega)] at h2
              refine ⟨.int .i64 c, ?_, .int _ _⟩
              rw [e1, hargs', hrx]
              exact vwrap P w (by simp [Builtin.cap_, ht, underlying_run P w hu, goInt, h2.2, pure, Sem.run])
            · cases h'
          · cases h'
        · cases hp
      · split at hp
        · obtain ⟨a, _, hp⟩ := bind_some hp
          obtain ⟨_, hp⟩ := ite_some hp
          split at hp
          · cases hp
          · obtain ⟨_, hp⟩ := ite_some hp; cases hp
          · cases hp
        · cases hp
      · split at hp
        · obtain ⟨a, _, hp⟩ := bind_some hp; cases hp
        · cases hp
      · cases hp
      · cases hp
      · cases hp
  | _ => cases hp
end
end Go.Ez
