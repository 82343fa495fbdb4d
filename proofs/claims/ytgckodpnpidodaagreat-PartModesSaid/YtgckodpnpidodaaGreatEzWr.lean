import Derived.Test.YtgckodpnpidodaaGreatEzNew
set_option linter.all false
/- Operations that write memory, and calls. -/
set_option linter.unusedVariables false
set_option linter.unusedSimpArgs false
namespace Go.Ez
section
variable {μ : Mu}

/-- A new block is linked. -/
theorem Rel.link {H : AH} {w : World} (hR : Rel μ H w) (hfree : μ H.next = none) {B : Blk} {obj : Obj} (hB : NewOk μ B obj) {w' : World}
    (hgot : w'.heap = w.heap.push obj) (hos : w'.os = w.os) (htape : w'.tape = w.tape) (hout : w'.output = w.output) {f : Form} (hf : f.ok) :
    let m : Spot := ⟨w.heap.size, 0, 0, 0⟩
    Rel (μ.upd H.next m) (H.alloc B) w' ∧ Step μ H w (μ.upd H.next m) (H.alloc B) w' ∧ VRel (μ.upd H.next m) (f.val H.next) (f.val w.heap.size) := by
  intro m
  have hsub : Sub μ (μ.upd H.next m) := Mu.upd_sub hfree
  have hblk : BlkRel (μ.upd H.next m) m w' B := by
    cases B with
    | cells cs ro g =>
      cases obj with
      | cells c el fr =>
        obtain ⟨rfl, rfl, rfl, hrel⟩ := hB
        refine ⟨c, el, (0, 0), by rw [hgot]; simp [m], fun i v hv => ?_, rfl, fun _ => ⟨rfl, ?_, fun h => absurd h (Nat.lt_irrefl _)⟩⟩
        · obtain ⟨v', hv', hr⟩ := hrel.get i v hv
          exact ⟨v', by simpa [m] using hv', hr.mono hsub⟩
        · have := hrel.length; simp [m] at *; omega
      | _ => exact hB.elim
    | map es ck =>
      cases obj with
      | map es' ck' =>
        obtain ⟨rfl, rfl, rfl, rfl⟩ := hB
        exact ⟨#[], by rw [hgot]; simp [m], .nil⟩
      | _ => exact hB.elim
  have hnro : ∀ cs g, B ≠ .cells cs true g := by
    intro cs g e
    subst e
    cases obj <;> first | exact hB.elim | (obtain ⟨h, _⟩ := hB; cases h)
  obtain ⟨h1, h2⟩ := hR.newBlk hfree (m := m) rfl hgot hos htape hout hblk hnro
  refine ⟨h1, h2, ?_⟩
  cases f with
  | ptr => exact .ptr H.next 0 m (Mu.upd_self _ _ _)
  | slice n c => exact .slice H.next 0 n c 0 c m (Mu.upd_self _ _ _) ⟨hf, by rw [if_pos rfl]; exact ⟨rfl, rfl⟩⟩
  | map => exact .map H.next m (Mu.upd_self _ _ _)

/-- What an operation that writes comes to. -/
def SimW (P : Program) (μ : Mu) (H : AH) (w : World) (v : Value) (H' : AH) (s : Sem Next) : Prop :=
  ∃ μ' v' w' nx, s.run P w = .ok nx w' ∧ (nx = .value v' ∨ (nx = .skip ∧ v' = undef)) ∧ Rel μ' H' w' ∧ Step μ H w μ' H' w' ∧ VRel μ' v v'

theorem VRel.undef : VRel μ undef undef := .tuple _ _ rfl (by intro i h; simp [Go.undef] at h)

theorem stV_sim (P : Program) {H : AH} {w : World} (hR : Rel μ H w) {t : TypeId} {i : TypeInfo} (hi : P.info? t = some i) {a x a' x' : Value} {H' : AH} (h : stV H i.size a x = some H') (ha : VRel μ a a') (hx : VRel μ x x') :
    ∃ w', (Instr.storeAt t a' x').run P w = .ok () w' ∧ Rel μ H' w' ∧ Step μ H w μ H' w' := by
  unfold stV at h
  split at h
  · rename_i b o
    cases ha with
    | ptr _ _ m hm =>
      obtain ⟨hl, h⟩ := bif_some h
      have hl' := Nat.eq_of_beq_eq_true hl
      have hall : (cellsOf x).all isCell = true := by
        unfold stCells at h
        split at h
        · obtain ⟨hc, _⟩ := bif_some h
          simp only [Bool.and_eq_true] at hc
          exact hc.2
        · cases h
      have hnt : isTuple x = false := by cases x <;> first | rfl | (simp [cellsOf, isCell] at hall)
      have hrel := hx.cells hnt
      obtain ⟨w', h1, h2, h3⟩ := stCells_sim P hR h hm hrel
      refine ⟨w', ?_, h2, h3⟩
      have hsz : x'.cells.size = i.size := by
        have : x'.cells.toList.length = i.size := by rw [cellsOf_eq, ← hrel.length, hl']
        simpa using this
      simp only [Instr.storeAt, Instr.sureAddr, Sem.run_bind, pure, Sem.run, Result.andThen_ok, storeVar, sizeOf_run P w hi]
      rw [if_neg (by simp [hsz])]
      simp only [cellsOf_eq]
      exact h1
  · cases h

theorem All2.modify {α β : Type} {R : α → β → Prop} {l : List α} {l' : List β} (h : All2 R l l') {f : α → α} {g : β → β} (hfg : ∀ a b, R a b → R (f a) (g b)) : ∀ n, All2 R (l.modify n f) (l'.modify n g) := by
  induction h with
  | nil => intro n; cases n <;> exact .nil
  | cons h t ih =>
    intro n
    cases n with
    | zero => exact .cons (hfg _ _ h) t
    | succ n => exact .cons h (ih n)

theorem Rel.writeMap {H : AH} {w : World} (hR : Rel μ H w) {b : Nat} {es es2 : List MapEntry} {ck ck2 : Nat} {m : Spot} (hg : H.get b = some (.map es ck)) (hm : μ b = some m)
    {es2' : Array MapEntry} (hrel : All2 (MapRel μ) es2 es2'.toList) {w' : World} (hwr : Wrote w w' m.rb (.map es2' ck2)) :
    Rel μ (H.set b (.map es2 ck2)) w' ∧ Step μ H w μ (H.set b (.map es2 ck2)) w' := by
  have hb : b < H.next := by
    rcases Nat.lt_or_ge b H.next with h | h
    · exact h
    · rw [hR.fresh b h] at hg; cases hg
  have hnro : ¬ RoAt H b := by rintro ⟨cs, g', h⟩; rw [hg] at h; cases h
  have hro : ∀ b2, RoAt (H.set b (.map es2 ck2)) b2 ↔ RoAt H b2 := fun b2 => by
    unfold RoAt
    by_cases e : b2 = b
    · subst e; simp [AH.get_set, hg]
    · simp [AH.get_set, e]
  have hlive : ∀ b2, Live (H.set b (.map es2 ck2)) b2 ↔ Live H b2 := fun b2 => by
    unfold Live
    by_cases e : b2 = b
    · subst e; simp [AH.get_set, hg]
    · simp [AH.get_set, e]
  refine ⟨⟨fun b2 B m2 hg2 hm2 => ?_, fun b1 b2 m1 m2 h1 h2 => ?_, fun b2 h2 => ?_, fun b2 m2 hm2 => ?_⟩, ⟨Sub.refl _, fun _ _ => rfl, by simp, fun b2 h2 hn => ?_, fun b2 h2 hn => ?_, fun b2 _ _ => hro b2, by rw [hwr.size]; exact Nat.le_refl _, fun rb hrb hno => ?_, fun b2 m2 h2 h3 => ?_, hwr.os, hwr.tape, hwr.output⟩⟩
  · rw [AH.get_set] at hg2
    by_cases e : b2 = b
    · subst e
      rw [if_pos rfl] at hg2
      cases hg2
      rw [hm] at hm2
      cases hm2
      exact ⟨es2', hwr.got, hrel⟩
    · rw [if_neg e] at hg2
      have hne : m2.rb ≠ m.rb := fun e2 => by
        rcases hR.inj b2 b m2 m (.inl (by rw [hg2]; simp)) (.inl (by rw [hg]; simp)) hm2 hm e2 with h | h
        · exact e h
        · exact hnro h.2
      have := hR.blk b2 B m2 hg2 hm2
      cases B with
      | cells cs2 ro2 g2 => simpa only [BlkRel, hwr.other _ hne] using this
      | map es ck => simpa only [BlkRel, hwr.other _ hne] using this
  · rw [hlive] at h1 h2
    rw [hro, hro]
    exact hR.inj b1 b2 m1 m2 h1 h2
  · rw [AH.next_set] at h2
    rw [AH.get_set, if_neg (by omega)]
    exact hR.fresh b2 h2
  · rw [hwr.size]; exact hR.inw b2 m2 hm2
  · have : b2 ≠ b := by intro e; subst e; rw [hm] at hn; cases hn
    rw [AH.get_set, if_neg this]
  · have : b2 ≠ b := by intro e; subst e; rw [hg] at hn; cases hn
    rw [AH.get_set, if_neg this]; exact hn
  · have : rb ≠ m.rb := fun e => hno b m (by rw [hg]; simp) hnro hm e.symm
    exact hwr.other rb this
  · simp at h3; omega

theorem findA_at {j : IntKind} {n : Int} : ∀ {es : List MapEntry} {i k : Nat} {v : Value}, findA j n es i = some (some (k, v)) → i ≤ k ∧ ∃ x, es[k - i]? = some x ∧ x.key = .int j n := by
  intro es
  induction es with
  | nil => intro i k v h; cases h
  | cons x es ih =>
    intro i k v h
    simp only [findA] at h
    split at h
    · rename_i kd m ek
      have hh := ite_some h
      clear h
      obtain ⟨rfl, h⟩ := hh
      by_cases hnm : n = m
      · rw [if_pos hnm] at h
        cases h
        exact ⟨Nat.le_refl _, x, by simp, by rw [ek, hnm]⟩
      · rw [if_neg hnm] at h
        obtain ⟨h1, y, h2, h3⟩ := ih h
        refine ⟨by omega, y, ?_, h3⟩
        have : k - i = (k - (i + 1)) + 1 := by omega
        rw [this]; simpa using h2
    · cases h

theorem updateA_sim (P : Program) {H : AH} {w : World} (hR : Rel μ H w) {t kt et : TypeId} {k0 : IntKind} (hu : P.underlying t = some (.map kt et)) (hkt : P.underlying kt = some (.int k0)) {m k v m' k' v' : Value} {H' : AH}
    (h : updateA H m k v = some H') (hm : VRel μ m m') (hk : VRel μ k k') (hv : VRel μ v v') :
    ∃ w', (Instr.mapUpdate t m' k' v').run P w = .ok () w' ∧ Rel μ H' w' ∧ Step μ H w μ H' w' := by
  unfold updateA at h
  split at h
  · rename_i b j n
    cases hk
    split at h
    · rename_i es ck hg
      obtain ⟨hnt, h⟩ := ite_some' h
      obtain ⟨r, hr, h⟩ := bind_some h
      cases hm with
      | map _ sp hsp =>
        obtain ⟨es', q1, q2⟩ := hR.blk b _ sp hg hsp
        obtain ⟨r', hr', hrr⟩ := findA_sim (k0 := k0) hr q2
        have hget : (getObj sp.rb).run P w = .ok (.map es' ck) w := by simp [getObj, Sem.run, q1]
        have hset : ∀ o : Obj, (setObj sp.rb o).run P w = .ok () { w with heap := w.heap.setIfInBounds sp.rb o } := fun o => by simp [setObj, Sem.run, q1]
        have hin := hR.inw b sp hsp
        have hwrote : ∀ o : Obj, Wrote w { w with heap := w.heap.setIfInBounds sp.rb o } sp.rb o := fun o =>
          ⟨by simp [hin], fun x hx => by simp [Array.getElem?_setIfInBounds_ne (Ne.symm hx)], by simp, rfl, rfl, rfl⟩
        have hck := checkKey_int P w false 9999 hkt (.int j n)
        cases r with
        | none =>
          cases r' with
          | none =>
            cases h
            refine ⟨_, ?_, hR.writeMap hg hsp (es2' := es'.push ⟨.int j n, v', ck⟩) (ck2 := ck + 1) ?_ (hwrote _)⟩
            · simp only [Instr.mapUpdate, Sem.run_bind, underlying_run P w hu, Result.andThen_ok, hget, hck, Instr.findKey, underlying_run P w hkt, hr', pure, Sem.run, hset]
            · simp only [Array.toList_push]
              exact q2.append (.cons ⟨.int _ _, hv, rfl⟩ .nil)
          | some x => exact hrr.elim
        | some x =>
          cases r' with
          | none => exact hrr.elim
          | some y =>
            obtain ⟨xi, xv⟩ := x
            obtain ⟨yi, yv⟩ := y
            obtain ⟨rfl, _⟩ := hrr
            obtain ⟨_, x0, hx0, hx1⟩ := findA_at hr
            obtain ⟨y0, hy0, hxy⟩ := q2.get _ _ hx0
            simp only [Nat.sub_zero] at hy0
            have hyk : y0.key = .int j n := by
              have := hxy.1
              rw [hx1] at this
              generalize y0.key = yk at this
              cases this
              rfl
            have hy0' : es'[xi]? = some y0 := by simpa using hy0
            cases h
            refine ⟨_, ?_, hR.writeMap hg hsp (es2' := es'.modify xi fun e => { e with key := .int j n, val := v' }) (ck2 := ck) ?_ (hwrote _)⟩
            · have hst : (Instr.keyThatStays (((es'[xi]?).map (·.key)).getD (.int j n)) (.int j n)).run P w = .ok (.int j n) w := by
                simp [hy0', hyk, Instr.keyThatStays, Instr.sameBits, pure, Sem.run]
              simp only [Instr.mapUpdate, Sem.run_bind, underlying_run P w hu, Result.andThen_ok, hget, hck, Instr.findKey, underlying_run P w hkt, hr', pure, Sem.run, hst, hset]
            · rw [Array.toList_modify]
              exact q2.modify (f := fun x => { x with key := .int j n, val := v }) (g := fun e => { e with key := .int j n, val := v' }) (fun a b h3 => ⟨.int _ _, hv, h3.2.2⟩) xi
    · cases h
  · cases h

/-- A call is to a function that is there. -/
def OkFunc (P : Program) (f : FuncId) : Prop := ∃ fn, P.funcs[f]? = some fn ∧ (fn.name == "runtime.NumGoroutine") = false ∧ fn.body.isNone = false

theorem callFunc_run {P : Program} {w : World} {f : FuncId} (h : OkFunc P f) (args : Array Value) : (callFunc f args).run P w = .ok (.enter f args) w := by
  obtain ⟨fn, h1, h2, h3⟩ := h
  have h2' : ¬ fn.name = "runtime.NumGoroutine" := by simpa using h2
  have h3' : ¬ fn.body = none := by intro e; rw [e] at h3; simp at h3
  simp [callFunc, program, Sem.run, h1, h2', h3', pure]

theorem method_sim (P : Program) {H : AH} {w : World} (hR : Rel μ H w) {t : TypeId} {v v' : Value} {name : String} {f : FuncId} {x : Value} (h : methodA P H t v name = some (f, x)) (hv : VRel μ v v') (d : Nat) :
    ∃ x', (method (d + 1) t v' name).run P w = .ok (f, x') w ∧ VRel μ x x' := by
  unfold methodA at h
  split at h
  · cases h
  · rename_i i hi
    split at h
    · cases h
    · rename_i m hm
      split at h
      · cases h
      · rename_i f' pr hf
        have hti : (typeInfo t).run P w = .ok i w := by simp [typeInfo, hi, program, pure, Sem.run]
        split at h
        · rename_i hpath
          split at h
          · rename_i el hu
            cases h
            refine ⟨v', ?_, hv⟩
            simp [method, hti, hm, hpath, follow, hf, receiverAt, underlying_run P w hu, Place.get, pure, Sem.run]
          · cases h
          · rename_i d hno hu
            cases h
            refine ⟨v', ?_, hv⟩
            simp only [method, Sem.run_bind, hti, Result.andThen_ok, hm, hpath, follow, hf, receiverAt, underlying_run P w hu, pure, Sem.run]
            cases d <;> first | rfl | (exact (hno _ rfl).elim) | (exact (hno _ hu).elim)
          · cases h
        · rename_i s hpath
          obtain ⟨hder, h⟩ := ite_some h
          split at h
          · rename_i fs hfs
            split at h
            · cases h
            · rename_i fd hfd
              split at h
              · rename_i fi gs hfi hfu hdum
                obtain ⟨hsz, h⟩ := ite_some' h
                obtain ⟨a, ha, h⟩ := bind_some h
                obtain ⟨y, hy, h⟩ := bind_some h
                cases h
                have hva : ∃ b o, v = .pointer (some ⟨b, o, none⟩) ∧ a = .pointer (some ⟨b, o + fd.offset, none⟩) := by
                  unfold Ez.fldAddr at ha
                  split at ha
                  · cases ha; exact ⟨_, _, rfl, rfl⟩
                  · cases ha
                obtain ⟨b, o, rfl, rfl⟩ := hva
                · cases hv with
                  | ptr _ _ sp hsp =>
                    unfold Ez.ldN at hy
                    obtain ⟨l, hl, hy⟩ := bind_some hy
                    cases hy
                    obtain ⟨l', hrun, hrel⟩ := ldCells_sim P hR hl hsp (by omega)
                    refine ⟨.agg l'.toArray, ?_, VRel.agg_iff (by simpa using hrel)⟩
                    have hplace : (fieldPlace ⟨sp.rb, sp.at_ + o, none⟩ fd).run P w = .ok ⟨sp.rb, sp.at_ + (o + fd.offset), none⟩ w := by
                      simp [fieldPlace, sizeOf_run P w hfi, hsz, add_none, Nat.add_assoc, pure, Sem.run]
                    have hload : (loadVar fd.type ⟨sp.rb, sp.at_ + (o + fd.offset), none⟩).run P w = .ok (.agg l'.toArray) w := by
                      simp [loadVar, isAgg, underlying_run P w hfu, sizeOf_run P w hfi, hrun, pure, Sem.run]
                    simp only [method, Sem.run_bind, hti, Result.andThen_ok, hm, hpath, follow, underlying_run P w hfs, hfd, hder, if_true, Place.get, pure, Sem.run, asAddr, hplace, hf, receiverAt, underlying_run P w hfu, hload]
              · cases h
          · cases h
        · cases h
end
end Go.Ez
