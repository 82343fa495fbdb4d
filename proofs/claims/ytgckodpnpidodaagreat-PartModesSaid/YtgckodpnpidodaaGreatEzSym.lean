import Derived.Test.YtgckodpnpidodaaGreatEzCall
set_option linter.all false
/- **The symbolic layer**: what must hold so that a run of the deterministic interpreter ends as wished; read off the code, with the temporaries as a function. -/
set_option linter.unusedVariables false
set_option linter.unusedSimpArgs false
namespace Go.Ez

/-! ### One call, its callees told -/
def stepE (P : Program) (call : CallF) (n : Nat) (f : FuncId) (args : List Value) (H : AH) : Option (Value × AH) :=
  match P.funcs[f]? with
  | none => none
  | some fn =>
    match fn.body with
    | none => none
    | some c =>
      bif okFuncB fn then
        (execC P call n c (args ++ List.replicate (fn.ntmps - args.length) undef) H).bind fun x => match x with
          | (.exit _, _, _) => none
          | (_, T, H') => (resultA P T H' fn.results.toList).bind fun vs => some (tup vs, H')
      else none

section
variable {P : Program}
theorem stepE_next {call : CallF} (hc : ∀ f args H v H', call f args H = some (v, H') → H.next ≤ H'.next) {n : Nat} {f : FuncId} {args : List Value} {H : AH} {v : Value} {H' : AH}
    (h : stepE P call n f args H = some (v, H')) : H.next ≤ H'.next := by
  unfold stepE at h
  split at h
  · cases h
  · split at h
    · cases h
    · obtain ⟨_, h⟩ := bif_some h
      obtain ⟨x, hx, h⟩ := bind_some h
      have h1 := execC_next hc hx
      split at h
      · cases h
      · obtain ⟨vs, _, h⟩ := bind_some h
        cases h; exact h1

theorem stepE_sound (hmx : P.follows .mixedOrders = true) {call : CallF} (ih : SoundF P call)
    (hcn : ∀ f args H v H', call f args H = some (v, H') → H.next ≤ H'.next) (n : Nat) : SoundF P (stepE P call n) := by
  intro f args H v H' h
  have hnext := stepE_next hcn h
  unfold stepE at h
  split at h
  · cases h
  · rename_i fn hfn
    split at h
    · cases h
    · rename_i c hc
      obtain ⟨hok, h⟩ := bif_some h
      simp only [okFuncB, Bool.and_eq_true, Bool.not_eq_true'] at hok
      refine ⟨⟨fn, hfn, hok.1, hok.2⟩, fun μ w args' hR hargs hfree => ?_⟩
      obtain ⟨⟨x, T', H1⟩, hx, h⟩ := bind_some h
      have hres : ∃ vs, resultA P T' H1 fn.results.toList = some vs ∧ (v, H') = (tup vs, H1) ∧ (x = .normal ∨ x = .ret) := by
        cases x with
        | exit id => cases h
        | normal =>
          obtain ⟨vs, hvs, h⟩ := bind_some h
          cases h
          exact ⟨vs, hvs, rfl, .inl rfl⟩
        | ret =>
          obtain ⟨vs, hvs, h⟩ := bind_some h
          cases h
          exact ⟨vs, hvs, rfl, .inr rfl⟩
      obtain ⟨vs, hvs, heq, hxx⟩ := hres
      simp only [Prod.mk.injEq] at heq
      obtain ⟨hv, rfl⟩ := heq
      refine calls_of_wp hfn hc ?_
      have hl := hargs.length
      have hT : VRels μ (args ++ List.replicate (fn.ntmps - args.length) undef) (args'.toArray ++ Array.replicate (fn.ntmps - args'.toArray.size) undef).toList := by
        simp only [Array.toList_append, Array.toList_replicate, List.size_toArray, ← hl]
        refine hargs.append ?_
        have : ∀ k, VRels μ (List.replicate k undef) (List.replicate k undef) := by
          intro k
          induction k with
          | zero => exact .nil
          | succ k ih => exact .cons VRel.undef ih
        exact this _
      refine exec_wp hmx ih hcn c μ _ H _ w x T' H' _ hx hR hT hfree ?_
      intro μ1 a1 w1 q1 q2 q3 q4
      obtain ⟨v', r1, r2⟩ := results_sim q1 q3 hvs
      rw [← hv] at r2
      rcases hxx with rfl | rfl
      · exact ⟨q4, v', r1, v', μ1, rfl, q1, q2, r2⟩
      · exact ⟨q4, v', r1, v', μ1, rfl, q1, q2, r2⟩
end

/-- What is told of some functions. -/
structure Ext where
  dom : FuncId → Bool
  run : CallF

def callX (P : Program) (X : Ext) : Nat → CallF
  | 0, _, _, _ => none
  | n + 1, f, args, H => bif X.dom f then X.run f args H else stepE P (callX P X n) n f args H

structure Ext.Ok (P : Program) (X : Ext) : Prop where
  sound : SoundF P X.run
  next : ∀ f args H v H', X.run f args H = some (v, H') → H.next ≤ H'.next

section
variable {P : Program} {X : Ext}
theorem callX_next (hX : X.Ok P) : ∀ (n : Nat) (f : FuncId) (args : List Value) (H : AH) (v : Value) (H' : AH), callX P X n f args H = some (v, H') → H.next ≤ H'.next := by
  intro n
  induction n with
  | zero => intro f args H v H' h; cases h
  | succ n ih =>
    intro f args H v H' h
    unfold callX at h
    cases hd : X.dom f with
    | true => rw [hd] at h; exact hX.next _ _ _ _ _ h
    | false => rw [hd] at h; exact stepE_next ih h

theorem callX_sound (hmx : P.follows .mixedOrders = true) (hX : X.Ok P) : ∀ n, SoundF P (callX P X n) := by
  intro n
  induction n with
  | zero => intro f args H v H' h; cases h
  | succ n ih =>
    intro f args H v H' h
    unfold callX at h
    cases hd : X.dom f with
    | true => rw [hd] at h; exact hX.sound _ _ _ _ _ h
    | false => rw [hd] at h; exact stepE_sound hmx ih (callX_next hX n) n _ _ _ _ _ h
end

/-- A call that ends, and how. -/
def W (P : Program) (X : Ext) (f : FuncId) (args : List Value) (H : AH) (Q : Value → AH → Prop) : Prop :=
  ∃ n0 v H', (∀ n, n0 ≤ n → callX P X n f args H = some (v, H')) ∧ Q v H'

theorem W.mono {P : Program} {X : Ext} {f : FuncId} {args : List Value} {H : AH} {Q R : Value → AH → Prop} (h : W P X f args H Q) (hQ : ∀ v H', Q v H' → R v H') : W P X f args H R :=
  let ⟨n0, v, H', h1, h2⟩ := h; ⟨n0, v, H', h1, hQ v H' h2⟩
theorem W.and {P : Program} {X : Ext} {f : FuncId} {args : List Value} {H : AH} {Q R : Value → AH → Prop} (h : W P X f args H Q) (h' : W P X f args H R) : W P X f args H (fun v H' => Q v H' ∧ R v H') := by
  obtain ⟨n0, v, H1, h1, h2⟩ := h
  obtain ⟨n1, u, H2, k1, k2⟩ := h'
  have e1 := h1 (max n0 n1) (Nat.le_max_left _ _)
  have e2 := k1 (max n0 n1) (Nat.le_max_right _ _)
  rw [e1] at e2
  cases e2
  exact ⟨n0, v, H1, h1, h2, k2⟩

/-! ### Temporaries as a function -/
abbrev TF := Nat → Value
def upd (F : TF) (d : Nat) (v : Value) : TF := fun n => bif Nat.beq n d then v else F n
def putF (len : Nat) (F : TF) (d : Option Tmp) (v : Value) : TF :=
  match d with
  | some d => bif Nat.blt d len then upd F d v else F
  | none => F
def evF (F : TF) : Operand → Value
  | .tmp t => F t
  | .const v => v
  | .global _ => undef
  | .func f => .func (.func f) #[] #[]
def ofL (l : List Value) : TF := fun n => l.getD n undef

structure Ag (len : Nat) (F : TF) (T : List Value) : Prop where
  len : T.length = len
  at_ : ∀ t, T.getD t undef = F t

theorem Ag.ev {len : Nat} {F : TF} {T : List Value} (h : Ag len F T) : Ez.ev T = evF F := by
  funext o
  cases o with
  | tmp t => exact h.at_ t
  | _ => rfl
theorem Ag.put {len : Nat} {F : TF} {T : List Value} (h : Ag len F T) (d : Option Tmp) (v : Value) : Ag len (putF len F d v) (putA T d v) := by
  cases d with
  | none => exact h
  | some d =>
    refine ⟨by simp [putA, h.len], fun t => ?_⟩
    simp only [putA, putF]
    have e := h.at_ t
    by_cases hd : d < len
    · have : Nat.blt d len = true := Nat.ble_eq_true_of_le hd
      rw [this]
      simp only [cond_true, upd, nat_beq_eq]
      by_cases ht : t = d
      · subst ht
        simp [List.getD, h.len, hd]
      · simp only [ht, decide_false, cond_false]
        rw [← e]
        simp [List.getD, List.getElem?_set, Ne.symm ht]
    · have : Nat.blt d len = false := by
        cases hb : Nat.blt d len with
        | false => rfl
        | true => exact absurd (Nat.le_of_ble_eq_true hb) hd
      rw [this]
      simp only [cond_false]
      rw [← e]
      have hl := h.len
      have : T.set d v = T := List.set_eq_of_length_le (by rw [hl]; exact Nat.not_lt.mp hd)
      rw [this]
theorem Ag.write {len : Nat} {F : TF} {T : List Value} (h : Ag len F T) {t : Nat} {v : Value} (hv : F t = v) : Ag len (upd F t v) T := by
  refine ⟨h.len, fun u => ?_⟩
  simp only [upd, nat_beq_eq]
  by_cases e : u = t
  · subst e; simpa [hv] using h.at_ u
  · simpa [e] using h.at_ u

/-! ### Values of a kind -/
/-- 'If' on a truth that may be told. -/
def bcase (b : Bool) (A B : Prop) : Prop :=
  match b with
  | true => A
  | false => B
theorem bcase_iff {b : Bool} {A B : Prop} : bcase b A B ↔ (b = true → A) ∧ (b = false → B) := by cases b <;> simp [bcase]

/-- Some value like the one shown. -/
def typed1 (z : Value) (K : Value → Prop) : Prop :=
  match z with
  | .int k _ => ∃ n, K (.int k n)
  | .bool _ => ∃ b, K (.bool b)
  | .string _ => ∃ s, K (.string s)
  | .pointer _ => ∃ a, K (.pointer a)
  | .slice _ _ _ => ∃ a n c, K (.slice a n c)
  | .map _ => ∃ b, K (.map b)
  | _ => ∃ v, K v
def typedL : List Value → (List Value → Prop) → Prop
  | [], K => K []
  | z :: l, K => typed1 z fun v => typedL l fun r => K (v :: r)
def typedA (z : Value) (K : Value → Prop) : Prop :=
  match z with
  | .agg cs => bif Nat.ble cs.size 16 then typedL cs.toList fun l => K (.agg l.toArray) else ∃ v, K v
  | z => typed1 z K
def typedM : List Value → (List Value → Prop) → Prop
  | [], K => K []
  | z :: l, K => typedA z fun v => typedM l fun r => K (v :: r)
def typed (z : Value) (K : Value → Prop) : Prop :=
  match z with
  | .tuple cs => typedM cs.toList fun l => K (.tuple l.toArray)
  | z => typedA z K

theorem typed1_some {z : Value} {K : Value → Prop} (h : typed1 z K) : ∃ v, K v := by
  unfold typed1 at h
  split at h
  · exact let ⟨n, h⟩ := h; ⟨_, h⟩
  · exact let ⟨n, h⟩ := h; ⟨_, h⟩
  · exact let ⟨n, h⟩ := h; ⟨_, h⟩
  · exact let ⟨n, h⟩ := h; ⟨_, h⟩
  · exact let ⟨n, m, c, h⟩ := h; ⟨_, h⟩
  · exact let ⟨n, h⟩ := h; ⟨_, h⟩
  · exact h
theorem typedL_some : ∀ {l : List Value} {K : List Value → Prop}, typedL l K → ∃ r, K r
  | [], _, h => ⟨_, h⟩
  | _ :: _, _, h => let ⟨_, h⟩ := typed1_some h; let ⟨_, h⟩ := typedL_some h; ⟨_, h⟩
theorem typedA_some {z : Value} {K : Value → Prop} (h : typedA z K) : ∃ v, K v := by
  unfold typedA at h
  split at h
  · rename_i cs
    cases hb : Nat.ble cs.size 16 with
    | true => rw [hb] at h; exact let ⟨_, h⟩ := typedL_some h; ⟨_, h⟩
    | false => rw [hb] at h; exact h
  · exact typed1_some h
theorem typedM_some : ∀ {l : List Value} {K : List Value → Prop}, typedM l K → ∃ r, K r
  | [], _, h => ⟨_, h⟩
  | _ :: _, _, h => let ⟨_, h⟩ := typedA_some h; let ⟨_, h⟩ := typedM_some h; ⟨_, h⟩
theorem typed_some {z : Value} {K : Value → Prop} (h : typed z K) : ∃ v, K v := by
  unfold typed at h
  split at h
  · exact let ⟨_, h⟩ := typedM_some h; ⟨_, h⟩
  · exact typedA_some h

/-- Is it like the one shown? Then. -/
def ifT1 (z v : Value) (K : Prop) : Prop :=
  match z with
  | .int k _ => match v with
    | .int j _ => bif decide (j = k) then K else False
    | _ => False
  | .bool _ => match v with
    | .bool _ => K
    | _ => False
  | .string _ => match v with
    | .string _ => K
    | _ => False
  | .pointer _ => match v with
    | .pointer _ => K
    | _ => False
  | .slice _ _ _ => match v with
    | .slice _ _ _ => K
    | _ => False
  | .map _ => match v with
    | .map _ => K
    | _ => False
  | _ => K
def ifTL : List Value → List Value → Prop → Prop
  | [], [], K => K
  | z :: zs, v :: vs, K => ifT1 z v (ifTL zs vs K)
  | _, _, _ => False
def ifT (z v : Value) (K : Prop) : Prop :=
  match z with
  | .agg cs => bif Nat.ble cs.size 16 then (match v with
    | .agg ds => ifTL cs.toList ds.toList K
    | _ => False) else K
  | z => ifT1 z v K
def ifM : List Value → List Value → Prop → Prop
  | [], [], K => K
  | z :: zs, v :: vs, K => ifT z v (ifM zs vs K)
  | _, _, _ => False
/-- For each value like the one shown. -/
def all1 (z : Value) (K : Value → Prop) : Prop :=
  match z with
  | .int k _ => ∀ n, K (.int k n)
  | .bool _ => ∀ b, K (.bool b)
  | .string _ => ∀ s, K (.string s)
  | .pointer _ => ∀ a, K (.pointer a)
  | .slice _ _ _ => ∀ a n c, K (.slice a n c)
  | .map _ => ∀ b, K (.map b)
  | _ => ∀ v, K v
def allL : List Value → (List Value → Prop) → Prop
  | [], K => K []
  | z :: l, K => all1 z fun v => allL l fun r => K (v :: r)
def allA (z : Value) (K : Value → Prop) : Prop :=
  match z with
  | .agg cs => bif Nat.ble cs.size 16 then allL cs.toList fun l => K (.agg l.toArray) else ∀ v, K v
  | z => all1 z K
def allM : List Value → (List Value → Prop) → Prop
  | [], K => K []
  | z :: l, K => allA z fun v => allM l fun r => K (v :: r)

theorem bifP {b : Bool} {K : Prop} (h : bif b then K else False) : b = true ∧ K := by
  cases b with
  | true => exact ⟨rfl, h⟩
  | false => exact h.elim
theorem ifT1_and {z v : Value} {K : Prop} (h : ifT1 z v K) : ifT1 z v True ∧ K := by
  unfold ifT1 at *
  repeat' split at h
  all_goals first
    | exact h.elim
    | exact ⟨trivial, h⟩
    | (obtain ⟨h1, h2⟩ := bifP h; exact ⟨by rw [h1]; trivial, h2⟩)
theorem ifTL_and : ∀ {zs vs : List Value} {K : Prop}, ifTL zs vs K → ifTL zs vs True ∧ K
  | [], [], K, h => ⟨trivial, h⟩
  | z :: zs, v :: vs, K, h => by
    obtain ⟨h1, h2⟩ := ifT1_and h
    obtain ⟨h3, h4⟩ := ifTL_and h2
    refine ⟨?_, h4⟩
    simp only [ifTL]
    have : ifTL zs vs True = True := propext ⟨fun _ => trivial, fun _ => h3⟩
    rw [this]; exact h1
  | [], _ :: _, _, h => h.elim
  | _ :: _, [], _, h => h.elim
theorem ifT_and {z v : Value} {K : Prop} (h : ifT z v K) : ifT z v True ∧ K := by
  unfold ifT at *
  split at h
  · rename_i cs
    cases hb : Nat.ble cs.size 16 with
    | true =>
      rw [hb] at h
      simp only [cond_true] at h ⊢
      split at h
      · exact ifTL_and h
      · exact h.elim
    | false => rw [hb] at h; exact ⟨trivial, h⟩
  · exact ifT1_and h
theorem ifM_and : ∀ {zs vs : List Value} {K : Prop}, ifM zs vs K → ifM zs vs True ∧ K
  | [], [], K, h => ⟨trivial, h⟩
  | z :: zs, v :: vs, K, h => by
    obtain ⟨h1, h2⟩ := ifT_and h
    obtain ⟨h3, h4⟩ := ifM_and h2
    refine ⟨?_, h4⟩
    simp only [ifM]
    have : ifM zs vs True = True := propext ⟨fun _ => trivial, fun _ => h3⟩
    rw [this]; exact h1
  | [], _ :: _, _, h => h.elim
  | _ :: _, [], _, h => h.elim

theorem all1_of {z : Value} {K : Value → Prop} (h : ∀ v, ifT1 z v True → K v) : all1 z K := by
  unfold all1
  split
  · intro n; exact h _ (by simp [ifT1])
  · intro n; exact h _ (by simp [ifT1])
  · intro n; exact h _ (by simp [ifT1])
  · intro n; exact h _ (by simp [ifT1])
  · intro n m c; exact h _ (by simp [ifT1])
  · intro n; exact h _ (by simp [ifT1])
  · intro v
    refine h _ ?_
    unfold ifT1
    split
    all_goals first
      | trivial
      | (exfalso; simp_all)
theorem ifTL_cons {z v : Value} {zs vs : List Value} (h : ifT1 z v True) (h' : ifTL zs vs True) : ifTL (z :: zs) (v :: vs) True := by
  simp only [ifTL]
  have : ifTL zs vs True = True := propext ⟨fun _ => trivial, fun _ => h'⟩
  rw [this]; exact h
theorem allL_of : ∀ {l : List Value} {K : List Value → Prop}, (∀ vs, ifTL l vs True → K vs) → allL l K
  | [], K, h => h [] trivial
  | z :: l, K, h => all1_of fun v hv => allL_of fun r hr => h _ (ifTL_cons hv hr)
theorem allA_of {z : Value} {K : Value → Prop} (h : ∀ v, ifT z v True → K v) : allA z K := by
  unfold allA
  split
  · rename_i cs
    cases hb : Nat.ble cs.size 16 with
    | true => exact allL_of fun vs hvs => h _ (by simpa [ifT, hb] using hvs)
    | false => exact fun v => h v (by simp [ifT, hb])
  · rename_i z hz
    refine all1_of fun v hv => h v ?_
    unfold ifT
    split
    · exact absurd rfl (hz _)
    · exact hv
theorem allM_of : ∀ {l : List Value} {K : List Value → Prop}, (∀ vs, ifM l vs True → K vs) → allM l K
  | [], K, h => h [] trivial
  | z :: l, K, h => allA_of fun v hv => allM_of fun r hr => h _ (by
      simp only [ifM]
      have : ifM l r True = True := propext ⟨fun _ => trivial, fun _ => hr⟩
      rw [this]; exact hv)

/-- Several temporaries set. -/
def updL (F : TF) : List Nat → List Value → TF
  | t :: ts, v :: vs => upd (updL F ts vs) t v
  | _, _ => F
theorem updL_self {F : TF} : ∀ {ts : List Nat} {vs : List Value}, ts.map F = vs → updL F ts vs = F
  | [], _, _ => by simp [updL]
  | t :: ts, [], h => by simp at h
  | t :: ts, v :: vs, h => by
    simp only [List.map_cons, List.cons.injEq] at h
    funext n
    simp only [updL, upd, updL_self h.2, nat_beq_eq]
    by_cases e : n = t
    · subst e; simp [h.1]
    · simp [e]

/-- Of a loop: the temporaries that live on and change, values like theirs; those that stay as they are. -/
structure LoopA where
  ts : List Nat
  zs : List Value
  ks : List Nat
abbrev Ann := List (Nat × LoopA)
def Ann.find : Ann → Nat → Option LoopA
  | [], _ => none
  | p :: l, i => bif Nat.beq p.1 i then some p.2 else Ann.find l i
/-- They are as they were. -/
def kept (ks : List Nat) (F F' : TF) (K : Prop) : Prop :=
  match ks with
  | [] => K
  | ks => ks.map F' = ks.map F ∧ K
theorem kept_iff {ks : List Nat} {F F' : TF} {K : Prop} : kept ks F F' K ↔ ks.map F' = ks.map F ∧ K := by
  cases ks <;> simp [kept]
def wpLoop (L : LoopA) (F : TF) (H : AH) (body : TF → AH → (TF → AH → Prop) → Prop) : Prop :=
  ∀ X : List Value → AH → Prop,
    (allM L.zs fun vs => ∀ H, (∀ F1, body (updL (updL F1 L.ks (L.ks.map F)) L.ts vs) H (fun F' H' => kept L.ks F F' (ifM L.zs (L.ts.map F') (X (L.ts.map F') H')))) → X vs H) →
    ifM L.zs (L.ts.map F) (X (L.ts.map F) H)

/-- The ways meet: what comes behind is told once. -/
def wpCut (L : LoopA) (F : TF) (kn : TF → AH → Prop) (body : (TF → AH → Prop) → Prop) : Prop :=
  ∀ X : List Value → AH → Prop,
    (allM L.zs fun vs => ∀ H, (∀ F1, kn (updL (updL F1 L.ks (L.ks.map F)) L.ts vs) H) → X vs H) →
    body (fun F' H' => kept L.ks F F' (ifM L.zs (L.ts.map F') (X (L.ts.map F') H')))

/-! ### Operations -/
abbrev WT := FuncId → List Value → AH → (Value → AH → Prop) → Prop

/-- Does it end whatever the numbers are? -/
def PurOp.direct : PurOp → Bool
  | .mov _ => true
  | .build _ _ => true
  | .bin op _ _ => match op with
    | .add | .sub | .mul | .eql | .neq | .lss | .leq | .gtr | .geq | .and | .or | .xor | .andNot => true
    | _ => false
  | .eqB _ _ _ => true
  | .eqNil _ _ _ => true
  | .notB _ => true
  | .negI _ => true
  | .toInt _ _ => true
  | .iface _ _ => true
  | .func _ _ => true
  | .lenSl _ => true
  | .lenStr _ => true
  | .lenC _ => true
  | .max _ _ => true
  | .min _ _ => true
  | .extract _ _ => true
  | .part _ _ _ => true
  | .pick _ _ _ => true
  | .fldAddr _ _ => true
  | _ => false

def orF (o : Option Value) (K : Value → Prop) : Prop :=
  match o with
  | some v => K v
  | none => False

def orFL (o : Option (List Value)) (K : List Value → Prop) : Prop :=
  match o with
  | some v => K v
  | none => False

/-- The function that a value is, and what it gets. -/
def fnV (v : Value) (args : List Value) : Option (FuncId × List Value) :=
  match v with
  | .func (.func g) first captured => some (g, first.toList ++ args ++ captured.toList)
  | _ => none
def invA (P : Program) (H : AH) (v : Value) (name : String) : Option (FuncId × Value) :=
  match v with
  | .iface t v => methodA P H t v name
  | _ => none
def apA (H : AH) (size bytes : Nat) (s x : Value) : Option (Value × AH) := (srcA H size x).bind fun (n, xs) => appendA H size bytes s n xs
def apZ (H : AH) (size bytes : Nat) (zs : List Value) (s x : Value) : Option (Value × AH) :=
  match x with
  | .int .i64 n => if 0 ≤ n ∧ n ≤ 70368744177664 ∧ n * (bytes : Int) ≤ 140737488351232 then appendA H size bytes s n.toNat (zerosA zs n.toNat) else none
  | _ => none
def mkS (bytes : Nat) (zs : List Value) (l c : Value) : Option (Blk × Nat × Nat) :=
  match l, c with
  | .int .i64 l, .int .i64 c => if 0 ≤ l ∧ l ≤ c ∧ c * (bytes : Int) ≤ 140737488351232 ∧ c ≤ 140737488351232 then some (.cells (zerosA zs c.toNat) false 0, l.toNat, c.toNat) else none
  | _, _ => none

section
variable (P : Program) (C : WT)

/-- It is not nil; then. -/
def nilK (v : Value) (K : Value → Prop) : Prop :=
  match v with
  | .pointer a => ∃ b o, a = some ⟨b, o, none⟩ ∧ K (.pointer (some ⟨b, o, none⟩))
  | v => ∃ v', nilChk v = some v' ∧ K v'
theorem nilK_some {v : Value} {K : Value → Prop} (h : nilK v K) : ∃ v', nilChk v = some v' ∧ K v' := by
  unfold nilK at h
  split at h
  · obtain ⟨b, o, rfl, h⟩ := h
    exact ⟨_, rfl, h⟩
  · exact h
theorem nilK_of {v v' : Value} {K : Value → Prop} (h : nilChk v = some v') (hp : ∀ a, v ≠ .pointer a) (hK : K v') : nilK v K := by
  unfold nilK
  split
  · exact absurd rfl (hp _)
  · exact ⟨v', h, hK⟩
def wpPur (z : Value) (p : PurOp) (F : TF) (K : Value → Prop) : Prop :=
  match p with
  | .pick c a b => match evF F c with
    | .bool x => bcase x (K (evF F a)) (K (evF F b))
    | _ => False
  | .nilCheck x => nilK (evF F x) K
  | .eqNil neq .ifc x => ∃ b, isNilK .ifc (evF F x) = some b ∧ K (.bool (if neq then !b else b))
  | .eqNil neq .fn x => ∃ b, isNilK .fn (evF F x) = some b ∧ K (.bool (if neq then !b else b))
  | .idxAddr size x ix => match evF F x, evF F ix with
    | .slice a n _, .int _ i => ∃ b o, a = some ⟨b, o, none⟩ ∧ 0 ≤ i ∧ i < (n : Int) ∧ K (.pointer (some ⟨b, o + i.toNat * size, none⟩))
    | _, _ => False
  | .idxArr len size x ix => match evF F x, evF F ix with
    | .pointer (some ⟨b, o, none⟩), .int _ i => 0 ≤ i ∧ i < (len : Int) ∧ K (.pointer (some ⟨b, o + i.toNat * size, none⟩))
    | _, _ => False
  | p => bif p.direct then orF (p.run P (evF F)) K else typed z fun v => p.run P (evF F) = some v ∧ K v
def wpNew (n : NewOp) (F : TF) (H : AH) (K : Value → AH → Prop) : Prop :=
  match n with
  | .alloc zs => ∀ b H', b = H.next → H' = H.alloc (.cells zs false 0) → K (.pointer (some ⟨b, 0, none⟩)) H'
  | .box x => bif isTuple (evF F x) then False else ∀ b H', b = H.next → H' = H.alloc (.cells (cellsOf (evF F x)) false 0) → K (.pointer (some ⟨b, 0, none⟩)) H'
  | .buildSlice len zs ps => orFL (fillA zs (partsE (evF F) ps)) fun cs => ∀ b H', b = H.next → H' = H.alloc (.cells cs false 0) → K (.slice (some ⟨b, 0, none⟩) len len) H'
  | .mkSlice bytes zs l c => ∃ B n c', mkS bytes zs (evF F l) (evF F c) = some (B, n, c') ∧ ∀ b H', b = H.next → H' = H.alloc B → K (.slice (some ⟨b, 0, none⟩) n c') H'
  | .mkMap => ∀ b H', b = H.next → H' = H.alloc (.map [] 0) → K (.map (some b)) H'
def wpWr (z : Value) (w : WrOp) (F : TF) (H : AH) (K : Value → AH → Prop) : Prop :=
  match w with
  | .st n a x => ∃ H', stV H n (evF F a) (evF F x) = some H' ∧ K undef H'
  | .append size bytes s x => typed z fun v => ∃ H', apA H size bytes (evF F s) (evF F x) = some (v, H') ∧ K v H'
  | .appendZ size bytes zs s x => typed z fun v => ∃ H', apZ H size bytes zs (evF F s) (evF F x) = some (v, H') ∧ K v H'
  | .clear zs x => ∃ H', clearA H zs (evF F x) = some H' ∧ K (.tuple #[]) H'
  | .update m k v => ∃ H', updateA H (evF F m) (evF F k) (evF F v) = some H' ∧ K undef H'
  | .call f args => C f (args.map (evF F)) H fun v H' => typed z fun v' => v = v' ∧ K v' H'
  | .callv f args => ∃ g as, fnV (evF F f) (args.map (evF F)) = some (g, as) ∧ C g as H fun v H' => typed z fun v' => v = v' ∧ K v' H'
  | .invoke r name args => ∃ g x, invA P H (evF F r) name = some (g, x) ∧ C g (x :: args.map (evF F)) H fun v H' => typed z fun v' => v = v' ∧ K v' H'
def wpOp (z : Value) (op : ROp) (F : TF) (H : AH) (K : Value → AH → Prop) : Prop :=
  match op with
  | .pur p => wpPur P z p F fun v => K v H
  | .rd r => typed z fun v => (r.rd (evF F)).run H = some v ∧ K v H
  | .new n => wpNew n F H K
  | .wr w => wpWr P C z w F H K

/-- On a truth that stands in a temporary; it is told from then on. -/
def onB (F : TF) (t : Nat) (K : Bool → TF → Prop) : Prop :=
  match F t with
  | .bool b => bcase b (K true (upd F t (.bool true))) (K false (upd F t (.bool false)))
  | _ => False
/-- On a guard. -/
def onG (g : Option (Option Tmp × Bool)) (F : TF) (K : Bool → TF → Prop) : Prop :=
  match g with
  | none => K true F
  | some (some t, want) => match F t with
    | .bool b => bcase b (K (true == want) (upd F t (.bool true))) (K (false == want) (upd F t (.bool false)))
    | _ => K false F
  | some (none, _) => K false F

def wpSeq (len : Nat) : List (Row × Value) → TF → AH → (TF → AH → Prop) → Prop
  | [], F, H, K => K F H
  | (r, z) :: rest, F, H, K => onG r.guard F fun b F =>
    bif b then
      match r.op with
      | none => False
      | some op => wpOp P C z op F H fun v H' => wpSeq len rest (putF len F r.dst v) H' K
    else wpSeq len rest (putF len F r.dst undef) H K

/-- The same read elsewhere. -/
def Again (H : AH) (q : Rd) (v : Value) : Prop := q.run H = some v ∧ veq 60 v v = true
def agH : List (Nat × AH) → List Nat → Rd → Value → Prop → Prop
  | [], _, _, _, K => K
  | p :: l, vs, q, v, K => bif vs.contains p.1 then Again p.2 q v ∧ agH l vs q v K else agH l vs q v K
def agP : List (List Nat × Rd × Value) → Nat → AH → Prop → Prop
  | [], _, _, K => K
  | p :: l, i, H, K => bif p.1.contains i then Again H p.2.1 p.2.2 ∧ agP l i H K else agP l i H K

def wpD (len : Nat) : List (Row × Value) → Nat → TF → AH → List (Nat × AH) → List (List Nat × Rd × Value) → (TF → AH → Prop) → Prop
  | [], _, F, H, _, _, K => K F H
  | (r, z) :: rest, i, F, H, hist, pend, K => onG r.guard F fun b F =>
    bif b then
      match r.op with
      | none => False
      | some (.rd rd) => typed z fun v => (rd.rd (evF F)).run H = some v ∧
          agH hist r.vs (rd.rd (evF F)) v (wpD len rest (i + 1) (putF len F r.dst v) H hist ((r.vs, rd.rd (evF F), v) :: pend) K)
      | some (.wr w) => wpWr P C z w F H fun v H' => agP pend (i + 1) H' (wpD len rest (i + 1) (putF len F r.dst v) H' ((i + 1, H') :: hist) pend K)
      | some op => wpOp P C z op F H fun v H' => wpD len rest (i + 1) (putF len F r.dst v) H' hist pend K
    else
      bif r.wr then agP pend (i + 1) H (wpD len rest (i + 1) (putF len F r.dst undef) H ((i + 1, H) :: hist) pend K)
      else wpD len rest (i + 1) (putF len F r.dst undef) H hist pend K

/-- Like what is the answer of an operation? -/
def zOf1 (t : TypeId) : Value :=
  match P.info? t with
  | some i => i.zero.getD .nilIface
  | none => .nilIface
def zOf (t : TypeId) : Value :=
  match P.info? t with
  | some i => match i.desc with
    | .tuple ts => .tuple (ts.map (zOf1 P))
    | _ => i.zero.getD .nilIface
  | none => .nilIface

def rowsZ (ops : Array Oper) (draw : Bool) : Option (List (Row × Value)) :=
  match rowsOf P ops draw with
  | some rows => some (rows.zip (ops.toList.map fun o => zOf P o.type))
  | none => none

/-- Code; the number tells the place in the code. -/
def wpC (A : Ann) (len : Nat) : Code → Nat → TF → AH → (TF → AH → Prop) → (Nat → TF → AH → Prop) → (TF → AH → Prop) → Prop
  | .skip, _, F, H, kn, _, _ => kn F H
  | .region _ ops draw, _, F, H, kn, _, _ =>
    match rowsZ P ops draw with
    | none => False
    | some rows => bif draw then wpD P C len rows 0 F H [(0, H)] [] kn else wpSeq P C len rows F H kn
  | .seq a b, p, F, H, kn, ke, kr =>
    match A.find p with
    | none => wpC A len a (2 * p) F H (fun F H => wpC A len b (2 * p + 1) F H kn ke kr) ke kr
    | some L => wpCut L F (fun F H => wpC A len b (2 * p + 1) F H kn ke kr) fun K => wpC A len a (2 * p) F H K ke kr
  | .cond c a b, p, F, H, kn, ke, kr =>
    bif okOpd c then
      match c with
      | .tmp t => onB F t fun x F => bif x then wpC A len a (2 * p) F H kn ke kr else wpC A len b (2 * p + 1) F H kn ke kr
      | c => match evF F c with
        | .bool x => bif x then wpC A len a (2 * p) F H kn ke kr else wpC A len b (2 * p + 1) F H kn ke kr
        | _ => False
    else False
  | .block id a, p, F, H, kn, ke, kr => wpC A len a (2 * p) F H kn (fun id' F H => bif Nat.beq id' id then kn F H else ke id' F H) kr
  | .loop a, p, F, H, kn, ke, kr =>
    match A.find p with
    | none => False
    | some L => wpLoop L F H fun F H K => wpC A len a (2 * p) F H K ke kr
  | .exit id, _, F, H, _, ke, _ => ke id F H
  | .ret, _, F, H, _, _, kr => kr F H
  | _, _, _, _, _, _, _ => False

/-- What is handed back. -/
def wpRes (F : TF) (H : AH) : List ResultVar → (List Value → Prop) → Prop
  | [], K => K []
  | .tmp t :: l, K => wpRes F H l fun r => K (F t :: r)
  | .cell a t :: l, K =>
    match aggOf P t with
    | some (some n) => typed (zOf P t) fun v => ldN H n (F a) = some v ∧ wpRes F H l fun r => K (v :: r)
    | some none => typed (zOf P t) fun v => ld1 H (F a) = some v ∧ wpRes F H l fun r => K (v :: r)
    | none => False

def wpF (A : Ann) (f : FuncId) (args : List Value) (H : AH) (Q : Value → AH → Prop) : Prop :=
  match P.funcs[f]? with
  | none => False
  | some fn =>
    match fn.body with
    | none => False
    | some c =>
      bif okFuncB fn then
        wpC P C A (args.length + (fn.ntmps - args.length)) c 1 (ofL (args ++ List.replicate (fn.ntmps - args.length) undef)) H
          (fun F H => wpRes P F H fn.results.toList fun vs => Q (tup vs) H) (fun _ _ _ => False)
          (fun F H => wpRes P F H fn.results.toList fun vs => Q (tup vs) H)
      else False
end

/-! ### Soundness -/
section
variable {P : Program} {X : Ext}

theorem wpPur_sound {z : Value} {p : PurOp} {F : TF} {K : Value → Prop} (h : wpPur P z p F K) : ∃ v, p.run P (evF F) = some v ∧ K v := by
  unfold wpPur at h
  split at h
  · rename_i c a b
    simp only [PurOp.run]
    split at h
    · rename_i x hx
      rw [hx]
      cases x with
      | true => exact ⟨_, rfl, h⟩
      | false => exact ⟨_, rfl, h⟩
    · exact h.elim
  · exact nilK_some h
  · obtain ⟨b, h1, h2⟩ := h
    exact ⟨_, by simp [PurOp.run, h1], h2⟩
  · obtain ⟨b, h1, h2⟩ := h
    exact ⟨_, by simp [PurOp.run, h1], h2⟩
  · rename_i size x ix
    simp only [PurOp.run]
    split at h
    · rename_i a n c k i hx hi
      obtain ⟨b, o, rfl, h1, h2, h⟩ := h
      rw [hx, hi]
      exact ⟨_, by simp [Ez.idxAddr, h1, h2], h⟩
    · exact h.elim
  · rename_i len size x ix
    simp only [PurOp.run]
    split at h
    · rename_i b o k i hx hi
      obtain ⟨h1, h2, h⟩ := h
      rw [hx, hi]
      exact ⟨_, by simp [Ez.idxArr, h1, h2], h⟩
    · exact h.elim
  cases hd : p.direct with
  | true =>
    rw [hd] at h
    simp only [cond_true, orF] at h
    split at h
    · exact ⟨_, ‹_›, h⟩
    · exact h.elim
  | false =>
    rw [hd] at h
    exact typed_some h

theorem wpNew_sound {n : NewOp} {F : TF} {H : AH} {K : Value → AH → Prop} (h : wpNew n F H K) : ∃ x, n.made (evF F) = some x ∧ K (x.2.val H.next) (H.alloc x.1) := by
  cases n with
  | alloc zs => exact ⟨_, rfl, h _ _ rfl rfl⟩
  | box x =>
    simp only [wpNew] at h
    simp only [NewOp.made]
    cases hb : isTuple (evF F x) with
    | true => rw [hb] at h; exact h.elim
    | false => rw [hb] at h; exact ⟨_, rfl, h _ _ rfl rfl⟩
  | buildSlice len zs ps =>
    simp only [wpNew, orFL] at h
    split at h
    · rename_i cs hcs
      exact ⟨(.cells cs false 0, .slice len len), by simp [NewOp.made, hcs], h _ _ rfl rfl⟩
    · exact h.elim
  | mkSlice bytes zs l c =>
    obtain ⟨B, n, c', h1, h2⟩ := h
    refine ⟨(B, .slice n c'), ?_, h2 _ _ rfl rfl⟩
    unfold mkS at h1
    simp only [NewOp.made]
    split at h1
    · split at h1
      · cases h1
        rename_i e1 e2 hc
        rw [e1, e2]
        simp only
        rw [if_pos hc]
      · cases h1
    · cases h1
  | mkMap => exact ⟨_, rfl, h _ _ rfl rfl⟩

abbrev Evn (α : Type) := Nat → Option α
/-- From some point on it ends, and so. -/
def Evt {α : Type} (f : Nat → Option α) (K : α → Prop) : Prop := ∃ n0 a, (∀ n, n0 ≤ n → f n = some a) ∧ K a
theorem Evt.pure {α : Type} {f : Nat → Option α} {K : α → Prop} (a : α) (h : ∀ n, f n = some a) (k : K a) : Evt f K := ⟨0, a, fun n _ => h n, k⟩
theorem Evt.bind {α β : Type} {f : Nat → Option α} {g : Nat → α → Option β} {K : β → Prop} (h : Evt f fun a => Evt (fun n => g n a) K) : Evt (fun n => (f n).bind (g n)) K := by
  obtain ⟨n0, a, h1, n1, b, h2, h3⟩ := h
  refine ⟨max n0 n1, b, fun n hn => ?_, h3⟩
  show (f n).bind (g n) = some b
  rw [h1 n (Nat.le_trans (Nat.le_max_left _ _) hn)]
  exact h2 n (Nat.le_trans (Nat.le_max_right _ _) hn)
theorem Evt.mono {α : Type} {f : Nat → Option α} {K L : α → Prop} (h : Evt f K) (hK : ∀ a, K a → L a) : Evt f L :=
  let ⟨n0, a, h1, h2⟩ := h; ⟨n0, a, h1, hK a h2⟩
theorem Evt.congr {α : Type} {f g : Nat → Option α} {K : α → Prop} (h : Evt f K) (e : ∀ n, g n = f n) : Evt g K :=
  let ⟨n0, a, h1, h2⟩ := h; ⟨n0, a, fun n hn => (e n).trans (h1 n hn), h2⟩

theorem W.evt {f : FuncId} {args : List Value} {H : AH} {Q : Value → AH → Prop} (h : W P X f args H Q) : Evt (fun n => callX P X n f args H) fun x => Q x.1 x.2 :=
  let ⟨n0, v, H', h1, h2⟩ := h; ⟨n0, (v, H'), h1, h2⟩

theorem wpWr_sound {z : Value} {w : WrOp} {F : TF} {H : AH} {K : Value → AH → Prop} (h : wpWr P (W P X) z w F H K) :
    Evt (fun n => w.run P (evF F) (callX P X n) H) fun x => K x.1 x.2 := by
  cases w with
  | st n a x =>
    obtain ⟨H', h1, h2⟩ := h
    exact .pure (undef, H') (fun _ => by simp [WrOp.run, h1]) h2
  | append size bytes s x =>
    simp only [wpWr] at h
    obtain ⟨v, H', h1, h2⟩ := typed_some h
    exact .pure (v, H') (fun _ => by simpa [WrOp.run, apA] using h1) h2
  | appendZ size bytes zs s x =>
    simp only [wpWr] at h
    obtain ⟨v, H', h1, h2⟩ := typed_some h
    refine .pure (v, H') (fun _ => ?_) h2
    simp only [WrOp.run]
    simp only [apZ] at h1
    exact h1
  | clear zs x =>
    obtain ⟨H', h1, h2⟩ := h
    exact .pure (_, H') (fun _ => by simp [WrOp.run, h1]) h2
  | update m k v =>
    obtain ⟨H', h1, h2⟩ := h
    exact .pure (undef, H') (fun _ => by simp [WrOp.run, h1]) h2
  | call f args =>
    refine (W.evt h).mono fun x hx => ?_
    obtain ⟨v, e, hx⟩ := typed_some hx
    rw [e]; exact hx
  | callv f args =>
    obtain ⟨g, as, h1, h2⟩ := h
    refine ((W.evt h2).mono fun x hx => ?_).congr fun n => ?_
    · obtain ⟨v, e, hx⟩ := typed_some hx
      rw [e]; exact hx
    · simp only [WrOp.run]
      unfold fnV at h1
      split at h1
      · rename_i hf
        cases h1
        rw [hf]
      · cases h1
  | invoke r name args =>
    obtain ⟨g, x, h1, h2⟩ := h
    refine ((W.evt h2).mono fun x hx => ?_).congr fun n => ?_
    · obtain ⟨v, e, hx⟩ := typed_some hx
      rw [e]; exact hx
    · simp only [WrOp.run]
      unfold invA at h1
      split at h1
      · rename_i hf
        rw [hf]
        simp [h1]
      · cases h1

theorem wpOp_sound {len : Nat} {z : Value} {op : ROp} {F : TF} {T : List Value} (hF : Ag len F T) {H : AH} {K : Value → AH → Prop} (h : wpOp P (W P X) z op F H K) :
    Evt (fun n => runOp P (callX P X n) T H op) fun x => K x.1 x.2 := by
  cases op with
  | pur p =>
    simp only [wpOp] at h
    obtain ⟨v, h1, h2⟩ := wpPur_sound h
    exact .pure (v, H) (fun _ => by simp [runOp, hF.ev, h1]) h2
  | rd r =>
    simp only [wpOp] at h
    obtain ⟨v, h1, h2⟩ := typed_some h
    exact .pure (v, H) (fun _ => by simp [runOp, hF.ev, h1]) h2
  | new n =>
    obtain ⟨x, h1, h2⟩ := wpNew_sound h
    exact .pure _ (fun _ => by simp [runOp, hF.ev, h1]; rfl) h2
  | wr w =>
    refine (wpWr_sound h).congr fun n => ?_
    simp only [runOp, hF.ev]

theorem onB_sound {len : Nat} {F : TF} {T : List Value} (hF : Ag len F T) {t : Nat} {K : Bool → TF → Prop} (h : onB F t K) : ∃ b F', F t = .bool b ∧ Ag len F' T ∧ K b F' := by
  unfold onB at h
  split at h
  · rename_i b hb
    cases b with
    | true => exact ⟨true, _, hb, hF.write hb, h⟩
    | false => exact ⟨false, _, hb, hF.write hb, h⟩
  · exact h.elim

theorem onG_sound {len : Nat} {F : TF} {T : List Value} (hF : Ag len F T) {r : Row} {K : Bool → TF → Prop} (h : onG r.guard F K) (hlen : ∀ t w, r.guard = some (some t, w) → t < T.length ∨ True) : ∃ F', Ag len F' T ∧ K (wantedA r T) F' := by
  unfold onG at h
  unfold wantedA
  split at h
  · rename_i hg
    rw [hg]
    exact ⟨F, hF, h⟩
  · rename_i t want hg
    rw [hg]
    have e := hF.at_ t
    split at h
    · rename_i b hb
      rw [hb] at e
      have e2 : T[t]? = some (.bool b) := by
        cases hT : T[t]? with
        | none => rw [List.getD, hT] at e; cases e
        | some x => rw [List.getD, hT] at e; simpa using e
      simp only [e2]
      cases b with
      | true => exact ⟨_, hF.write hb, h⟩
      | false => exact ⟨_, hF.write hb, h⟩
    · rename_i hb
      refine ⟨F, hF, ?_⟩
      have e2 : ∀ b, T[t]? ≠ some (.bool b) := fun b hT => by
        rw [List.getD, hT] at e
        exact hb b (by simpa using e.symm)
      simp only
      first
      | exact h
      | (split
         · rename_i b hT; exact absurd hT (e2 b)
         · exact h)
  · rename_i hg
    rw [hg]
    exact ⟨F, hF, h⟩

theorem onG_sound' {len : Nat} {F : TF} {T : List Value} (hF : Ag len F T) {r : Row} {K : Bool → TF → Prop} (h : onG r.guard F K) : ∃ F', Ag len F' T ∧ K (wantedA r T) F' :=
  onG_sound hF h fun _ _ _ => .inr trivial

theorem wpSeq_sound {len : Nat} : ∀ {rows : List (Row × Value)} {F : TF} {T : List Value} {H : AH} {K : TF → AH → Prop}, Ag len F T → wpSeq P (W P X) len rows F H K →
    Evt (fun n => runSeq P (callX P X n) (rows.map (·.1)) T H) fun x => ∃ F', Ag len F' x.1 ∧ K F' x.2 := by
  intro rows
  induction rows with
  | nil => intro F T H K hF h; exact .pure (T, H) (fun _ => rfl) ⟨F, hF, h⟩
  | cons r rest ih =>
    intro F T H K hF h
    obtain ⟨r, z⟩ := r
    obtain ⟨F', hF', h⟩ := onG_sound' hF h
    simp only [List.map_cons, runSeq]
    cases hw : wantedA r T with
    | true =>
      rw [hw] at h
      simp only [cond_true] at h ⊢
      cases hop : r.op with
      | none => rw [hop] at h; exact h.elim
      | some op =>
        rw [hop] at h
        simp only at h ⊢
        exact Evt.bind ((wpOp_sound hF' h).mono fun x hx => ih (hF'.put r.dst x.1) hx)
    | false =>
      rw [hw] at h
      simp only [cond_false] at h ⊢
      exact ih (hF'.put r.dst undef) h

theorem agH_sound {q : Rd} {v : Value} {K : Prop} {vs : List Nat} : ∀ {l : List (Nat × AH)}, agH l vs q v K → (l.all fun p => !(vs.contains p.1) || chk p.2 q v) = true ∧ K := by
  intro l
  induction l with
  | nil => intro h; exact ⟨rfl, h⟩
  | cons p l ih =>
    intro h
    simp only [agH] at h
    simp only [List.all_cons, Bool.and_eq_true]
    cases hc : vs.contains p.1 with
    | true =>
      rw [hc] at h
      simp only [cond_true] at h
      obtain ⟨⟨h1, h2⟩, h⟩ := h
      obtain ⟨h3, h4⟩ := ih h
      refine ⟨⟨?_, h3⟩, h4⟩
      simp [chk, h1, h2]
    | false =>
      rw [hc] at h
      obtain ⟨h3, h4⟩ := ih h
      exact ⟨⟨rfl, h3⟩, h4⟩

theorem agP_sound {i : Nat} {H : AH} {K : Prop} : ∀ {l : List (List Nat × Rd × Value)}, agP l i H K → (l.all fun p => !(p.1.contains i) || chk H p.2.1 p.2.2) = true ∧ K := by
  intro l
  induction l with
  | nil => intro h; exact ⟨rfl, h⟩
  | cons p l ih =>
    intro h
    simp only [agP] at h
    simp only [List.all_cons, Bool.and_eq_true]
    cases hc : p.1.contains i with
    | true =>
      rw [hc] at h
      simp only [cond_true] at h
      obtain ⟨⟨h1, h2⟩, h⟩ := h
      obtain ⟨h3, h4⟩ := ih h
      refine ⟨⟨?_, h3⟩, h4⟩
      simp [chk, h1, h2]
    | false =>
      rw [hc] at h
      obtain ⟨h3, h4⟩ := ih h
      exact ⟨⟨rfl, h3⟩, h4⟩

theorem wpD_sound {len : Nat} : ∀ {rows : List (Row × Value)} {F : TF} {s : DSt} {K : TF → AH → Prop}, Ag len F s.T → wpD P (W P X) len rows s.i F s.H s.hist s.pend K →
    Evt (fun n => runD P (callX P X n) (rows.map (·.1)) s) fun x => ∃ F', Ag len F' x.T ∧ K F' x.H := by
  intro rows
  induction rows with
  | nil => intro F s K hF h; exact .pure s (fun _ => rfl) ⟨F, hF, h⟩
  | cons r rest ih =>
    intro F s K hF h
    obtain ⟨r, z⟩ := r
    obtain ⟨F', hF', h⟩ := onG_sound' hF h
    simp only [List.map_cons, runD, stepD]
    cases hw : wantedA r s.T with
    | true =>
      rw [hw] at h
      simp only [cond_true] at h ⊢
      cases hop : r.op with
      | none => rw [hop] at h; exact h.elim
      | some op =>
        rw [hop] at h
        cases op with
        | rd rd =>
          simp only at h ⊢
          obtain ⟨v, h1, h2⟩ := typed_some h
          obtain ⟨h3, h4⟩ := agH_sound h2
          rw [← hF'.ev] at h1 h3 h4
          have := ih (s := { i := s.i + 1, T := putA s.T r.dst v, H := s.H, hist := s.hist, pend := (r.vs, rd.rd (ev s.T), v) :: s.pend }) (hF'.put r.dst v) h4
          refine this.congr fun n => ?_
          rw [h1]
          simp only [Option.bind_some]
          rw [h3]
          rfl
        | wr w =>
          simp only at h ⊢
          refine Evt.bind (Evt.bind (((wpWr_sound h).congr fun n => by rw [hF'.ev]).mono fun x hx => ?_))
          obtain ⟨h3, h4⟩ := agP_sound hx
          rw [h3]
          simp only [cond_true]
          exact .pure _ (fun _ => rfl) (ih (s := { i := s.i + 1, T := putA s.T r.dst x.1, H := x.2, hist := (s.i + 1, x.2) :: s.hist, pend := s.pend }) (hF'.put r.dst x.1) h4)
        | pur p =>
          simp only at h ⊢
          refine Evt.bind (Evt.bind ((wpOp_sound hF' h).mono fun x hx => ?_))
          exact .pure _ (fun _ => rfl) (ih (s := { i := s.i + 1, T := putA s.T r.dst x.1, H := x.2, hist := s.hist, pend := s.pend }) (hF'.put r.dst x.1) hx)
        | new p =>
          simp only at h ⊢
          refine Evt.bind (Evt.bind ((wpOp_sound hF' h).mono fun x hx => ?_))
          exact .pure _ (fun _ => rfl) (ih (s := { i := s.i + 1, T := putA s.T r.dst x.1, H := x.2, hist := s.hist, pend := s.pend }) (hF'.put r.dst x.1) hx)
    | false =>
      rw [hw] at h
      simp only [cond_false] at h ⊢
      cases hwr : r.wr with
      | true =>
        rw [hwr] at h
        simp only [cond_true] at h ⊢
        obtain ⟨h3, h4⟩ := agP_sound h
        refine (ih (s := { i := s.i + 1, T := putA s.T r.dst undef, H := s.H, hist := (s.i + 1, s.H) :: s.hist, pend := s.pend }) (hF'.put r.dst undef) h4).congr fun n => ?_
        rw [h3]
        rfl
      | false =>
        rw [hwr] at h
        exact ih (s := { i := s.i + 1, T := putA s.T r.dst undef, H := s.H, hist := s.hist, pend := s.pend }) (hF'.put r.dst undef) h

theorem rowsZ_some {ops : Array Oper} {draw : Bool} {rows : List (Row × Value)} (h : rowsZ P ops draw = some rows) : rowsOf P ops draw = some (rows.map (·.1)) := by
  unfold rowsZ at h
  split at h
  · rename_i rs hrs
    cases h
    rw [hrs]
    congr 1
    have hl : rs.length = ops.size := by
      unfold rowsOf at hrs
      cases draw with
      | true =>
        simp only [cond_true] at hrs
        obtain ⟨_, hrs⟩ := bif_some hrs
        cases hrs; simp
      | false => simp only [cond_false, Option.some.injEq] at hrs; subst hrs; simp
    rw [List.map_fst_zip (by simp [hl])]
  · cases h

/-- How it goes on. -/
def Post (len : Nat) (kn : TF → AH → Prop) (ke : Nat → TF → AH → Prop) (kr : TF → AH → Prop) (x : EExit × List Value × AH) : Prop :=
  ∃ F, Ag len F x.2.1 ∧ match x.1 with
    | .normal => kn F x.2.2
    | .exit id => ke id F x.2.2
    | .ret => kr F x.2.2

theorem wpC_sound {A : Ann} {len : Nat} : ∀ (c : Code) {p : Nat} {F : TF} {T : List Value} {H : AH} {kn : TF → AH → Prop} {ke : Nat → TF → AH → Prop} {kr : TF → AH → Prop}, Ag len F T →
    wpC P (W P X) A len c p F H kn ke kr → Evt (fun n => execC P (callX P X n) n c T H) (Post len kn ke kr) := by
  intro c
  induction c with
  | skip => intro p F T H kn ke kr hF h; exact .pure (.normal, T, H) (fun _ => rfl) ⟨F, hF, h⟩
  | region id ops draw =>
    intro p F T H kn ke kr hF h
    simp only [wpC] at h
    split at h
    · exact h.elim
    · rename_i rows hrows
      have hr := rowsZ_some hrows
      simp only [execC, runRegion, hr, Option.bind_some]
      cases draw with
      | true =>
        simp only [cond_true] at h ⊢
        refine Evt.bind (Evt.bind ((wpD_sound (s := ⟨0, T, H, [(0, H)], []⟩) hF h).mono fun x hx => ?_))
        obtain ⟨F', h1, h2⟩ := hx
        exact .pure _ (fun _ => rfl) (.pure _ (fun _ => rfl) ⟨F', h1, h2⟩)
      | false =>
        simp only [cond_false] at h ⊢
        refine Evt.bind ((wpSeq_sound hF h).mono fun x hx => ?_)
        obtain ⟨F', h1, h2⟩ := hx
        exact .pure _ (fun _ => rfl) ⟨F', h1, h2⟩
  | seq a b iha ihb =>
    intro p F T H kn ke kr hF h
    simp only [execC]
    simp only [wpC] at h
    split at h
    · refine Evt.bind ((iha hF h).mono fun x hx => ?_)
      obtain ⟨x, T', H'⟩ := x
      obtain ⟨F', h1, h2⟩ := hx
      cases x with
      | normal => exact ihb h1 h2
      | exit id => exact .pure (.exit id, T', H') (fun _ => rfl) ⟨F', h1, h2⟩
      | ret => exact .pure (.ret, T', H') (fun _ => rfl) ⟨F', h1, h2⟩
    · rename_i L _
      have h0 := h (fun vs H => ifM L.zs vs True → ∀ F', L.ts.map F' = vs → L.ks.map F' = L.ks.map F → wpC P (W P X) A len b (2 * p + 1) F' H kn ke kr) ?_
      · refine Evt.bind ((iha hF h0).mono fun x hx => ?_)
        obtain ⟨x, T', H'⟩ := x
        obtain ⟨F', h1, h2⟩ := hx
        cases x with
        | normal =>
          obtain ⟨h6, h3⟩ := kept_iff.mp h2
          obtain ⟨h4, h5⟩ := ifM_and h3
          exact ihb h1 (h5 h4 F' rfl h6)
        | exit id => exact .pure (.exit id, T', H') (fun _ => rfl) ⟨F', h1, h2⟩
        | ret => exact .pure (.ret, T', H') (fun _ => rfl) ⟨F', h1, h2⟩
      · refine allM_of fun vs hvs H h _ F' hv hk => ?_
        have h' := h F'
        rw [updL_self hk, updL_self hv] at h'
        exact h'
  | cond c a b iha ihb =>
    intro p F T H kn ke kr hF h
    simp only [wpC] at h
    simp only [execC]
    cases hok : okOpd c with
    | false => rw [hok] at h; exact h.elim
    | true =>
      rw [hok] at h
      simp only [cond_true] at h ⊢
      have key : ∃ x F', Ez.ev T c = .bool x ∧ Ag len F' T ∧ (bif x then wpC P (W P X) A len a (2 * p) F' H kn ke kr else wpC P (W P X) A len b (2 * p + 1) F' H kn ke kr) := by
        rw [hF.ev]
        cases c with
        | tmp t =>
          obtain ⟨x, F', h1, h2, h3⟩ := onB_sound hF h
          exact ⟨x, F', h1, h2, h3⟩
        | const v =>
          simp only at h
          split at h
          · exact ⟨_, F, ‹_›, hF, h⟩
          · exact h.elim
        | global g =>
          simp only at h
          split at h
          · exact ⟨_, F, ‹_›, hF, h⟩
          · exact h.elim
        | func g =>
          simp only at h
          split at h
          · exact ⟨_, F, ‹_›, hF, h⟩
          · exact h.elim
      obtain ⟨x, F', h1, h2, h3⟩ := key
      rw [h1]
      cases x with
      | true => exact iha h2 h3
      | false => exact ihb h2 h3
  | block id a iha =>
    intro p F T H kn ke kr hF h
    simp only [execC]
    refine Evt.bind ((iha hF h).mono fun x hx => ?_)
    obtain ⟨x, T', H'⟩ := x
    obtain ⟨F', h1, h2⟩ := hx
    cases x with
    | normal => exact .pure (.normal, T', H') (fun _ => rfl) ⟨F', h1, h2⟩
    | exit id' =>
      simp only at h2 ⊢
      cases hb : Nat.beq id' id with
      | true => rw [hb] at h2; exact .pure (.normal, T', H') (fun _ => rfl) ⟨F', h1, h2⟩
      | false => rw [hb] at h2; exact .pure (.exit id', T', H') (fun _ => rfl) ⟨F', h1, h2⟩
    | ret => exact .pure (.ret, T', H') (fun _ => rfl) ⟨F', h1, h2⟩
  | loop a iha =>
    intro p F T H kn ke kr hF h
    simp only [execC]
    simp only [wpC] at h
    split at h
    · exact h.elim
    rename_i L _
    have key : ∃ n0 x, (∀ n m, n0 ≤ n → n0 ≤ m → loopC (execC P (callX P X n) n a) m T H = some x) ∧ Post len kn ke kr x := by
      have h0 := h (fun vs H => ifM L.zs vs True → ∀ F' T, Ag len F' T → L.ts.map F' = vs → L.ks.map F' = L.ks.map F →
        ∃ n0 x, (∀ n m, n0 ≤ n → n0 ≤ m → loopC (execC P (callX P X n) n a) m T H = some x) ∧ Post len kn ke kr x) ?_
      · obtain ⟨h1, h2⟩ := ifM_and h0
        exact h2 h1 F T hF rfl rfl
      clear h hF
      refine allM_of fun vs hvs H h _ F T hF hvF hkF => ?_
      replace h := h F
      rw [updL_self hkF, updL_self hvF] at h
      obtain ⟨n0, ⟨x, T', H'⟩, h1, F', h2, h3⟩ := iha hF h
      cases x with
      | normal =>
        obtain ⟨h6, h3⟩ := kept_iff.mp h3
        obtain ⟨h4, h5⟩ := ifM_and h3
        obtain ⟨n1, x, k1, k2⟩ := h5 h4 F' T' h2 rfl h6
        refine ⟨max n0 (n1 + 1), x, fun n m hn hm => ?_, k2⟩
        match m, hm with
        | 0, hm => omega
        | m + 1, hm =>
          simp only [loopC]
          have e := h1 n (by omega)
          simp only at e
          rw [e]
          exact k1 n m (by omega) (by omega)
      | exit id =>
        refine ⟨n0 + 1, (.exit id, T', H'), fun n m hn hm => ?_, F', h2, h3⟩
        match m, hm with
        | m + 1, hm =>
          simp only [loopC]
          have e := h1 n (by omega)
          simp only at e
          rw [e]
          rfl
      | ret =>
        refine ⟨n0 + 1, (.ret, T', H'), fun n m hn hm => ?_, F', h2, h3⟩
        match m, hm with
        | m + 1, hm =>
          simp only [loopC]
          have e := h1 n (by omega)
          simp only at e
          rw [e]
          rfl
    obtain ⟨n0, x, h1, h2⟩ := key
    exact ⟨n0, x, fun n hn => h1 n n hn hn, h2⟩
  | exit id => intro p F T H kn ke kr hF h; exact .pure (.exit id, T, H) (fun _ => rfl) ⟨F, hF, h⟩
  | ret => intro p F T H kn ke kr hF h; exact .pure (.ret, T, H) (fun _ => rfl) ⟨F, hF, h⟩
  | _ => intro p F T H kn ke kr hF h; exact h.elim

theorem wpRes_sound {len : Nat} {F : TF} {T : List Value} (hF : Ag len F T) {H : AH} : ∀ {l : List ResultVar} {K : List Value → Prop}, wpRes P F H l K → ∃ vs, resultA P T H l = some vs ∧ K vs := by
  intro l
  induction l with
  | nil => intro K h; exact ⟨[], rfl, h⟩
  | cons r l ih =>
    intro K h
    cases r with
    | tmp t =>
      obtain ⟨vs, h1, h2⟩ := ih h
      exact ⟨F t :: vs, by simp only [resultA, h1, hF.at_]; rfl, h2⟩
    | cell a t =>
      simp only [wpRes] at h
      simp only [resultA, hF.at_]
      split at h
      · rename_i n hn
        obtain ⟨v, h1, h⟩ := typed_some h
        obtain ⟨vs, h2, h3⟩ := ih h
        exact ⟨v :: vs, by simp [hn, h1, h2], h3⟩
      · rename_i hn
        obtain ⟨v, h1, h⟩ := typed_some h
        obtain ⟨vs, h2, h3⟩ := ih h
        exact ⟨v :: vs, by simp [hn, h1, h2], h3⟩
      · exact h.elim

/-- **What must hold so that a call ends as wished.** -/
theorem wpF_sound {f : FuncId} {args : List Value} {H : AH} {Q : Value → AH → Prop} (hd : X.dom f = false) (A : Ann) (h : wpF P (W P X) A f args H Q) : W P X f args H Q := by
  have key : Evt (fun n => stepE P (callX P X n) n f args H) fun x => Q x.1 x.2 := by
    unfold wpF at h
    unfold stepE
    split at h
    · exact h.elim
    · rename_i fn hfn
      split at h
      · exact h.elim
      · rename_i c hc
        cases hok : okFuncB fn with
        | false => rw [hok] at h; exact h.elim
        | true =>
          rw [hok] at h
          simp only [hfn, hc, hok, cond_true] at h ⊢
          have hF : Ag (args.length + (fn.ntmps - args.length)) (ofL (args ++ List.replicate (fn.ntmps - args.length) undef)) (args ++ List.replicate (fn.ntmps - args.length) undef) :=
            ⟨by simp, fun t => rfl⟩
          refine Evt.bind ((wpC_sound c hF h).mono fun x hx => ?_)
          obtain ⟨x, T, H'⟩ := x
          obtain ⟨F, h1, h2⟩ := hx
          cases x with
          | normal =>
            obtain ⟨vs, h3, h4⟩ := wpRes_sound h1 h2
            exact .pure (tup vs, H') (fun _ => by simp [h3]) h4
          | exit id => exact h2.elim
          | ret =>
            obtain ⟨vs, h3, h4⟩ := wpRes_sound h1 h2
            exact .pure (tup vs, H') (fun _ => by simp [h3]) h4
  obtain ⟨n0, ⟨v, H'⟩, h1, h2⟩ := key
  refine ⟨n0 + 1, v, H', fun n hn => ?_, h2⟩
  match n, hn with
  | n + 1, hn =>
    simp only [callX, hd, cond_false]
    exact h1 n (by omega)
end
end Go.Ez
