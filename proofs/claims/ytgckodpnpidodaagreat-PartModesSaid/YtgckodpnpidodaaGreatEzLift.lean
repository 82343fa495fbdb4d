import Derived.Test.YtgckodpnpidodaaGreatEzSym
import Derived.Carry
import Derived.OpenShut
import Derived.ProofKit
set_option linter.all false
/- **From a run to a row**: a call that returns true and leaves what was there meets a law's row; a closed run as a contract. -/
set_option linter.unusedVariables false
set_option linter.unusedSimpArgs false
namespace Go.Ez
open Go.ChangeShapes Go.WideShapes Go.ChangeAt Go.RowKit

section
variable {H : Type} {enc : TypeId × Value → H} {P : Program}

theorem trodAll_stays (hl : laidOutB P = true) {W W' : World} (hb : Below W.heap.size W W') : ∀ {ts : List TypeId} {vs : List Value} {ds : List (DataW H)} {ps : List MemPlace},
    (∀ t ∈ ts, P.readableRec t = true ∧ t < P.types.size) → DataW.TrodAll enc P W 0 (fun _ => true) true ts vs ds ps → (∀ x ∈ ps, x.block < W.heap.size) →
    DataW.TrodAll enc P W' 0 (fun b => decide (b < W.heap.size)) true ts vs ds ps ∧ DataW.TrodAll enc P W' 0 (fun _ => true) true ts vs ds ps
  | [], vs, ds, ps, _, h, _ => by
    obtain ⟨rfl, rfl, rfl⟩ := trodAll_nil h
    exact ⟨trodAll_mk0, trodAll_mk0⟩
  | t :: ts, vs, ds, ps, ht, h, hlt => by
    obtain ⟨v, vs', d, ds', p, q, rfl, rfl, rfl, h1, h2⟩ := trodAll_cons h
    obtain ⟨k1, k2⟩ := ht t (by simp)
    obtain ⟨j1, j2⟩ := trodAll_stays hl hb (fun u hu => ht u (by simp [hu])) h2 (fun x hx => hlt x (by simp [hx]))
    have hp : ∀ x ∈ p, x.block < W.heap.size := fun x hx => hlt x (by simp [hx])
    exact ⟨trodAll_cons_mk (hb.trod hl k1 k2 h1 hp) j1, trodAll_cons_mk (WideElems.Trod_stays hl k1 k2 h1 (fun x hx => hb.same (hp x hx)) (fun _ _ => rfl)) j2⟩

theorem lawPost {f : Func} {s : ChangeSpec} {apart fresh handsOn again : Bool} {W W' : World} {args : Array Value} {ds gs : List (DataW H)} {before : List MemPlace} {tb : TypeId}
    (hl : laidOutB P = true) (hts : ∀ t ∈ f.params.toList, P.readableRec t = true ∧ t < P.types.size)
    (hW : DataW.Whole enc P f.params.toList s.vars apart W args.toList ds gs before) (hvars : s.vars = [])
    (hfn : s.fn H ds = { results := [.lit (.bool true)], args := ds })
    (hr : f.resultTypes = #[tb]) (htb : P.underlying tb = some .bool) (hB : Below W.heap.size W W') : s.post enc P f apart fresh handsOn again W args (.bool true) W' := by
  have hlt := fun p hp => hW.lt p hp
  have hW0 := hW
  obtain ⟨p, q, hA, hV, rfl, hz, hn⟩ := hW
  rw [hvars] at hV
  obtain ⟨rfl, rfl⟩ := trodVars_none hV
  obtain ⟨k1, k2⟩ := trodAll_stays hl hB hts hA (fun x hx => hlt x (by simp [hx]))
  have hfn' : s.fn H (ds ++ []) = { results := [.lit (.bool true)], args := ds } := by rw [List.append_nil]; exact hfn
  have hbool : ∀ (b : Nat) (sp : Nat → Bool) (hd : Bool), DataW.TrodAll enc P W' b sp hd f.resultTypes.toList ((Value.bool true).resultList f.resultTypes.size) (s.fn H (ds ++ [])).results [] := fun b sp hd => by
    rw [hr, hfn']
    exact trodAll_cons_mk (shut_bool htb true) trodAll_mk0
  refine ⟨ds, [], p ++ [], [], p, [], hW0, hbool _ _ _, by rw [hfn']; exact k1, by rw [hvars, hfn']; exact rfl, hB.frame _, fun _ => ⟨ok_one hr rfl (okWide_bool_mk htb true), .lit (.bool true) :: ds, [], ([] ++ p) ++ [], ?_, ?_⟩⟩
  · refine ⟨[] ++ p, [], ?_, by rw [hvars]; exact rfl, rfl, ?_, ?_⟩
    · have := hbool 0 (fun _ => true) true
      rw [hfn'] at this
      exact trodAll_append k2 this
    · intro b off hp
      have hp' : MemPlace.cell b off ∈ p := by simpa using hp
      rw [hB.frozen (p := ⟨b, off, none⟩) (hlt (.cell b off) (by simp [hp']))]
      exact hz b off (by simp [hp'])
    · intro ha; simpa using hn ha
  · intro x hx _
    simpa using hx

/-- What a run tells of the machine's call: the value, and that what was there stands. -/
theorem W.calls {X : Ext} (hmx : P.follows .mixedOrders = true) (hX : X.Ok P) {f : FuncId} {args : List Value} {A : AH} {v : Value} (hv : plain1 v = true)
    (h : W P X f args A fun u _ => u = v) {μ : Mu} {w : World} {args' : List Value} (hR : Rel μ A w) (hargs : VRels μ args args')
    (hfree : ∀ b, A.next ≤ b → μ b = none) (hro : ∀ b, A.get b ≠ none → RoAt A b) : Calls P f args'.toArray w fun e w' => e = .returned v ∧ Below w.heap.size w w' := by
  obtain ⟨n, u, A', h1, rfl⟩ := h
  obtain ⟨_, h2⟩ := callX_sound hmx hX n f args A u A' (h1 n (Nat.le_refl _))
  refine (h2 μ w args' hR hargs fun b hb _ => hfree b hb).mono fun e w' hw => ?_
  obtain ⟨v', μ', rfl, k1, k2, k3⟩ := hw
  refine ⟨?_, k2.os, k2.tape, k2.output, k2.size, fun k hk => k2.keep k hk fun b m hb hnr _ => absurd (hro b hb) hnr⟩
  cases k3 <;> first | rfl | simp [plain1] at hv

theorem plain1_rel {μ : Mu} {v v' : Value} (hv : plain1 v = true) (h : VRel μ v v') : v' = v := by
  cases h <;> first | rfl | simp [plain1] at hv
theorem plain1_self {μ : Mu} {v : Value} (hv : plain1 v = true) : VRel μ v v := by
  unfold plain1 at hv
  split at hv <;> first | constructor | cases hv

/-! ### A closed run as a contract -/
/-- What is told: a function without arguments hands back a value, and nothing else. -/
def extOf (l : List (FuncId × Value)) : Ext where
  dom f := l.any fun p => Nat.beq p.1 f
  run f args A := match args with
    | [] => match l.find? fun p => Nat.beq p.1 f with
      | some p => some (p.2, A)
      | none => none
    | _ => none

theorem extOf_ok (hmx : P.follows .mixedOrders = true) {l : List (FuncId × Value)} (hl : ∀ p ∈ l, plain1 p.2 = true ∧ ∃ n, (callE P n p.1 [] ⟨0, .leaf⟩).map (·.1) = some p.2) : (extOf l).Ok P where
  next := fun f args A v A' h => by
    simp only [extOf] at h
    split at h
    · split at h
      · cases h; exact Nat.le_refl _
      · cases h
    · cases h
  sound := fun f args A v A' h => by
    simp only [extOf] at h
    split at h
    · split at h
      · rename_i p hp
        cases h
        obtain ⟨hv, n, hn⟩ := hl p (List.mem_of_find?_eq_some hp)
        have hf : p.1 = f := by
          have := List.find?_some hp
          exact Nat.eq_of_beq_eq_true this
        subst hf
        cases hc : callE P n p.1 [] ⟨0, .leaf⟩ with
        | none => rw [hc] at hn; cases hn
        | some x =>
          obtain ⟨u, A0⟩ := x
          rw [hc] at hn
          simp only [Option.map_some, Option.some.injEq] at hn
          subst hn
          obtain ⟨k1, k2⟩ := callE_sound hmx n p.1 [] ⟨0, .leaf⟩ p.2 A0 hc
          refine ⟨k1, fun μ w args' hR hargs hfree => ?_⟩
          obtain rfl : args' = [] := hargs.nil_inv
          have hR0 : Rel (fun _ => none) ⟨0, .leaf⟩ w := by
            refine ⟨?_, ?_, ?_, ?_⟩
            · intro b B m _ h; cases h
            · intro b b' m m' _ _ h; cases h
            · intro b _; rfl
            · intro b m h; cases h
          refine (k2 (fun _ => none) w [] hR0 .nil fun b _ _ => rfl).mono fun e w' hw => ?_
          obtain ⟨v', μ', rfl, j1, j2, j3⟩ := hw
          have hkeep : ∀ k, k < w.heap.size → w'.heap[k]? = w.heap[k]? := fun k hk => j2.keep k hk fun b m hb _ _ => absurd rfl hb
          refine ⟨v', μ, rfl, ⟨fun b B m hb hm => ?_, hR.inj, hR.fresh, fun b m hm => Nat.lt_of_lt_of_le (hR.inw b m hm) j2.size⟩, ?_, ?_⟩
          · exact (hR.blk b B m hb hm).mono (Sub.refl _) (hkeep _ (hR.inw b m hm))
          · exact ⟨Sub.refl _, fun _ _ => rfl, Nat.le_refl _, fun _ _ _ => rfl, fun _ _ h => h, fun _ _ _ => Iff.rfl, j2.size, fun k hk _ => hkeep k hk, fun b m h h' => by omega, j2.os, j2.tape, j2.output⟩
          · have e := plain1_rel hv j3
            rw [e]; exact plain1_self hv
      · cases h
    · cases h

theorem W.ext {X : Ext} {f : FuncId} {args : List Value} {A A' : AH} {v : Value} {Q : Value → AH → Prop} (hd : X.dom f = true) (hr : X.run f args A = some (v, A')) (hQ : Q v A') : W P X f args A Q :=
  ⟨1, v, A', fun n hn => by
    match n, hn with
    | n + 1, _ => simp only [callX, hd, cond_true]; exact hr, hQ⟩
end
end Go.Ez
