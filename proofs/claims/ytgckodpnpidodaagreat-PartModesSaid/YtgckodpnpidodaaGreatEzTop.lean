import Derived.Test.YtgckodpnpidodaaGreatEzRep2
set_option linter.all false
/- Functions that leave nothing behind, one behind the other in one list. -/
set_option linter.all false
namespace Go.Ez
section
variable {P : Program} {X0 : Ext} {TL : List FuncId}
noncomputable def XT (P : Program) (X0 : Ext) (TL : List FuncId) (i : Nat) : Ext := pureX P X0 (TL.take i).reverse
theorem XT_ok (hmx : P.follows .mixedOrders = true) (hX : X0.Ok P) (i : Nat) : (XT P X0 TL i).Ok P := pureX_ok hmx hX _
theorem inL_mem {f : FuncId} : ∀ {l : List FuncId}, inL l f = true → f ∈ l
  | [], h => by cases h
  | g :: l, h => by
    simp only [inL, Bool.or_eq_true] at h
    rcases h with h | h
    · rw [Nat.eq_of_beq_eq_true h]; simp
    · exact List.mem_cons_of_mem _ (inL_mem h)
theorem enterT {i : Nat} {f : FuncId} {args : List Value} {H : AH} {Q : Value → AH → Prop} (A : Ann) {V : Prop} (e : wpF P (W P (XT P X0 TL i)) A f args H Q = V) (hd : (inL (TL.take i).reverse f || X0.dom f) = false) (h : V) :
    W P (XT P X0 TL i) f args H Q := wpF_sound (by unfold XT; rw [pureX_dom]; exact hd) A (by rw [e]; exact h)
theorem callT {i j : Nat} {f : FuncId} {args : List Value} {H : AH} {v : Value} (h : PureC P (XT P X0 TL i) f args H v) (hnd : TL.Nodup) (hi : TL[i]? = some f) (hj : i < j) {Q : Value → AH → Prop} (hQ : Q v H) :
    W P (XT P X0 TL j) f args H Q := by
  have hil : i < TL.length := by
    rcases Nat.lt_or_ge i TL.length with h | h
    · exact h
    · rw [List.getElem?_eq_none h] at hi; cases hi
  have e1 : TL.take j = TL.take i ++ f :: (TL.take j).drop (i + 1) := by
    have h1 : TL.take j = (TL.take j).take i ++ (TL.take j).drop i := (List.take_append_drop _ _).symm
    have h2 : (TL.take j).take i = TL.take i := by rw [List.take_take]; congr 1; omega
    have h3 : (TL.take j).drop i = f :: (TL.take j).drop (i + 1) := by
      rw [List.drop_eq_getElem_cons (by simp; omega)]
      congr 1
      have : TL[i] = f := by rw [List.getElem?_eq_getElem hil] at hi; simpa using hi
      rw [List.getElem_take, this]
    rw [h2, h3] at h1
    exact h1
  refine h.call (l := ((TL.take j).drop (i + 1)).reverse) (by rw [e1]; simp [← e1]) ?_ hQ
  cases hb : inL ((TL.take j).drop (i + 1)).reverse f with
  | false => rfl
  | true =>
    have hm := inL_mem hb
    rw [List.mem_reverse] at hm
    have hn : (TL.take j).Nodup := hnd.sublist (List.take_sublist _ _)
    rw [e1, List.nodup_append] at hn
    have := (List.nodup_cons.mp hn.2.1).1
    exact absurd hm this
theorem pure_of {i : Nat} {f : FuncId} {args : List Value} {H : AH} {v : Value} (A : Ann) {V : Nat → Prop} (hv : oldD 9 H.next v = true) (e : ∀ N, wpF P (W P (XT P X0 TL i)) A f args (H.up N) (fun u H1 => u = v ∧ Keep N (H.up N) H1) = V N)
    (hd : (inL (TL.take i).reverse f || X0.dom f) = false) (h : ∀ N, H.next ≤ N → V N) : PureC P (XT P X0 TL i) f args H v :=
  ⟨hv, fun N hN => enterT A (e N) hd (h N hN)⟩
end
end Go.Ez
