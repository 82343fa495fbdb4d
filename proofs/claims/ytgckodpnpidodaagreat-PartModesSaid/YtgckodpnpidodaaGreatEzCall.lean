import Derived.Test.YtgckodpnpidodaaGreatEzSound
set_option linter.all false
/- **Calls**: what the interpreter yields is what the machine's call yields. -/
set_option linter.unusedVariables false
set_option linter.unusedSimpArgs false
namespace Go.Ez
section
variable {P : Program}

theorem loadVar_sim {μ : Mu} {H : AH} {w : World} (hR : Rel μ H w) {t : TypeId} {s : Option Nat} {x x' v : Value}
    (h : (match s with
      | some n => ldN H n x
      | none => ld1 H x) = some v) (hs : aggOf P t = some s) (hx : VRel μ x x') : ∃ A v', x' = .pointer (some A) ∧ (loadVar t A).run P w = .ok v' w ∧ VRel μ v v' := by
  obtain ⟨i, d, h1, h2, h3, h4⟩ := aggOf_some hs
  cases s with
  | none =>
    obtain ⟨A, v', e1, e2, e3⟩ := ld1_sim P hR h hx
    refine ⟨A, v', e1, ?_, e3⟩
    simp only [loadVar, Sem.run_bind, pure, Sem.run, Result.andThen_ok, h3, Option.isSome_none, Bool.false_eq_true, if_false, load, e2]
  | some n =>
    simp only at h
    unfold Ez.ldN at h
    split at h
    · rename_i b o
      obtain ⟨l, hl, h⟩ := bind_some h
      cases h
      cases hx with
      | ptr _ _ m hm =>
        have hsz := h4 n rfl
        rcases Nat.eq_zero_or_pos n with hz | hz
        · subst hz
          have : l = [] := by
            unfold ldCells at hl
            split at hl
            · obtain ⟨_, hl⟩ := bif_some hl; cases hl; simp
            · cases hl
          subst this
          refine ⟨_, .agg #[], rfl, ?_, .agg _ _ rfl (by simp)⟩
          simp [loadVar, h3, sizeOf_run P w h1, hsz, loadCells, loadCellsFrom, pure, Sem.run]
        · obtain ⟨l', hrun, hrel⟩ := ldCells_sim P hR hl hm hz
          refine ⟨_, .agg l'.toArray, rfl, ?_, VRel.agg_iff (by simpa using hrel)⟩
          simp only [loadVar, Sem.run_bind, pure, Sem.run, Result.andThen_ok, h3, Option.isSome_some, if_true, sizeOf_run P w h1, hsz, hrun]
    · cases h

/-- Several results as one. -/
def tup : List Value → Value
  | [v] => v
  | vs => .tuple vs.toArray

def resG (tmps : Array Value) : ResultVar → Sem Value
  | .tmp t => pure (tmps.getD t undef)
  | .cell a t => do loadVar t (← asAddr (tmps.getD a undef))

theorem resultA_sim {μ : Mu} {H : AH} {w : World} (hR : Rel μ H w) {T : List Value} {a : Act} (hT : VRels μ T a.tmps.toList) : ∀ {l : List ResultVar} {vs : List Value}, resultA P T H l = some vs →
    ∃ vs', (l.mapM (resG a.tmps)).run P w = .ok vs' w ∧ VRels μ vs vs' := by
  intro l
  induction l with
  | nil => intro vs h; cases h; exact ⟨[], rfl, .nil⟩
  | cons r l ih =>
    intro vs h
    cases r with
    | tmp t =>
      obtain ⟨r, hr, h⟩ := bind_some h
      cases h
      obtain ⟨vs', h1, h2⟩ := ih hr
      refine ⟨a.tmps.getD t undef :: vs', ?_, .cons (by simpa using getD_rel hT t) h2⟩
      rw [List.mapM_cons]
      simp only [Sem.run_bind, resG, pure, Sem.run, Result.andThen_ok, h1]
    | cell x t =>
      obtain ⟨s, hs, h⟩ := bind_some h
      obtain ⟨v, hv, h⟩ := bind_some h
      obtain ⟨r, hr, h⟩ := bind_some h
      cases h
      obtain ⟨vs', h1, h2⟩ := ih hr
      have hx : VRel μ (T.getD x undef) (a.tmps.getD x undef) := by simpa using getD_rel hT x
      obtain ⟨A, v', e1, e2, e3⟩ := loadVar_sim hR hv hs hx
      refine ⟨v' :: vs', ?_, .cons e3 h2⟩
      rw [List.mapM_cons]
      simp only [Sem.run_bind, resG, e1, asAddr, pure, Sem.run, Result.andThen_ok, e2, h1]

theorem results_eq (fn : Func) (tmps : Array Value) : results fn tmps = (do let vs ← fn.results.mapM (resG tmps); pure (if h : vs.size = 1 then vs[0] else .tuple vs)) := by
  unfold results
  congr 1

theorem results_sim {μ : Mu} {H : AH} {w : World} (hR : Rel μ H w) {T : List Value} {a : Act} (hT : VRels μ T a.tmps.toList) {fn : Func} {vs : List Value} (h : resultA P T H fn.results.toList = some vs) :
    ∃ v', (results fn a.tmps).run P w = .ok v' w ∧ VRel μ (tup vs) v' := by
  obtain ⟨vs', h1, h2⟩ := resultA_sim hR hT h
  rw [results_eq, Array.mapM_eq_mapM_toList]
  simp only [Sem.run_bind, Sem.run_map, h1, Result.andThen_ok, pure, Sem.run]
  refine ⟨_, rfl, ?_⟩
  cases h2 with
  | nil => exact VRel.tuple_mk .nil
  | cons hv ht =>
    cases ht with
    | nil => exact hv
    | cons hv2 ht2 =>
      simp only [List.size_toArray, List.length_cons]
      rw [dif_neg (by omega)]
      show VRel μ (.tuple _) _
      exact VRel.tuple_mk (.cons hv (.cons hv2 ht2))

theorem callE_next : ∀ (n : Nat) (f : FuncId) (args : List Value) (H : AH) (v : Value) (H' : AH), callE P n f args H = some (v, H') → H.next ≤ H'.next := by
  intro n
  induction n with
  | zero => intro f args H v H' h; cases h
  | succ n ih =>
    intro f args H v H' h
    unfold callE at h
    split at h
    · cases h
    · split at h
      · cases h
      · obtain ⟨_, h⟩ := bif_some h
        obtain ⟨x, hx, h⟩ := bind_some h
        have h1 := execC_next ih hx
        split at h
        · cases h
        · obtain ⟨vs, _, h⟩ := bind_some h
          split at h <;> cases h <;> exact h1

/-- **The interpreter is sound.** -/
theorem callE_sound (hmx : P.follows .mixedOrders = true) : ∀ n, SoundF P (callE P n) := by
  intro n
  induction n with
  | zero => intro f args H v H' h; cases h
  | succ n ih =>
    intro f args H v H' h
    have hnext := callE_next _ _ _ _ _ _ h
    unfold callE at h
    split at h
    · cases h
    · rename_i fn hfn
      split at h
      · cases h
      · rename_i c hc
        obtain ⟨hok, h⟩ := bif_some h
        simp only [okFuncB, Bool.and_eq_true, Bool.not_eq_true'] at hok
        refine ⟨⟨fn, hfn, hok.1, hok.2⟩, fun μ w args' hR hargs hfree => ?_⟩
        obtain ⟨⟨x, T', H1⟩, hx, h⟩ := bind_some h
        have hres : ∃ vs, resultA P T' H1 fn.results.toList = some vs ∧ (v, H') = (tup vs, H1) ∧ (x = .normal ∨ x = .ret) := by
          cases x with
          | exit id => cases h
          | normal =>
            obtain ⟨vs, hvs, h⟩ := bind_some h
            refine ⟨vs, hvs, ?_, .inl rfl⟩
            match vs, h with
            | [v], h => cases h; rfl
            | [], h => cases h; rfl
            | a :: b :: l, h => cases h; rfl
          | ret =>
            obtain ⟨vs, hvs, h⟩ := bind_some h
            refine ⟨vs, hvs, ?_, .inr rfl⟩
            match vs, h with
            | [v], h => cases h; rfl
            | [], h => cases h; rfl
            | a :: b :: l, h => cases h; rfl
        obtain ⟨vs, hvs, heq, hxx⟩ := hres
        simp only [Prod.mk.injEq] at heq
        obtain ⟨hv, rfl⟩ := heq
        refine calls_of_wp hfn hc ?_
        have hl := hargs.length
        have hT : VRels μ (args ++ List.replicate (fn.ntmps - args.length) undef) (args'.toArray ++ Array.replicate (fn.ntmps - args'.toArray.size) undef).toList := by
          simp only [Array.toList_append, Array.toList_replicate, List.size_toArray, ← hl]
          refine hargs.append ?_
          have : ∀ k, VRels μ (List.replicate k undef) (List.replicate k undef) := by
            intro k
            induction k with
            | zero => exact .nil
            | succ k ih => exact .cons VRel.undef ih
          exact this _
        refine exec_wp hmx ih (callE_next n) c μ _ H _ w x T' H' _ hx hR hT hfree ?_
        intro μ1 a1 w1 q1 q2 q3 q4
        obtain ⟨v', r1, r2⟩ := results_sim q1 q3 hvs
        rw [← hv] at r2
        rcases hxx with rfl | rfl
        · exact ⟨q4, v', r1, v', μ1, rfl, q1, q2, r2⟩
        · exact ⟨q4, v', r1, v', μ1, rfl, q1, q2, r2⟩
end
end Go.Ez
