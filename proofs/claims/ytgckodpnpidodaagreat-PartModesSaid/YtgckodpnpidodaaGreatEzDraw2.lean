import Derived.Test.YtgckodpnpidodaaGreatEzDraw
set_option linter.all false
/- A region whose order is open: the temporaries. -/
set_option linter.unusedVariables false
set_option linter.unusedSimpArgs false
namespace Go.Ez
section
variable {P : Program} {call : CallF} {ops : Array Oper} {rows : List Row} {S : Nat → DSt} {V : Nat → Value}

/-- What a temporary holds, the rows in L having been carried out. -/
def vl (rows : List Row) (V : Nat → Value) (T0 : List Value) (L : Nat → Bool) : Nat → Tmp → Value
  | 0, t => T0.getD t undef
  | i + 1, t => match rows[i]? with
    | some r => if L i = true ∧ r.dst = some t ∧ t < T0.length then V i else vl rows V T0 L i t
    | none => vl rows V T0 L i t

theorem vl_succ {T0 : List Value} {L : Nat → Bool} {i : Nat} {r : Row} (hr : rows[i]? = some r) (t : Tmp) :
    vl rows V T0 L (i + 1) t = if L i = true ∧ r.dst = some t ∧ t < T0.length then V i else vl rows V T0 L i t := by
  simp only [vl, hr]

namespace Trace

theorem opAt (t : Trace P call ops rows S V) {i : Nat} {r : Row} (hr : rows[i]? = some r) : ∃ o, ops[i]? = some o ∧ RowIs P ops o r := by
  have hi : i < rows.length := by
    rcases Nat.lt_or_ge i rows.length with h | h
    · exact h
    · simp [h] at hr
  have ho : ops[i]? = some (ops[i]'(by rw [← t.len]; exact hi)) := by simp [show i < ops.size by rw [← t.len]; exact hi]
  exact ⟨_, ho, t.row i r _ hr ho⟩
theorem rowAt (t : Trace P call ops rows S V) {i : Nat} (hi : i < ops.size) : ∃ r, rows[i]? = some r :=
  ⟨rows[i]'(by rw [t.len]; exact hi), by simp [show i < rows.length by rw [t.len]; exact hi]⟩
theorem rowLt (t : Trace P call ops rows S V) {i : Nat} {r : Row} (hr : rows[i]? = some r) : i < ops.size := by
  rcases Nat.lt_or_ge i rows.length with h | h
  · rw [← t.len]; exact h
  · simp [h] at hr

theorem tmps (t : Trace P call ops rows S V) : ∀ i, i ≤ rows.length → (S i).T.length = (S 0).T.length ∧ ∀ x, (S i).T.getD x undef = vl rows V (S 0).T (fun _ => true) i x := by
  intro i
  induction i with
  | zero => intro _; exact ⟨rfl, fun x => rfl⟩
  | succ i ih =>
    intro hi
    obtain ⟨h1, h2⟩ := ih (by omega)
    obtain ⟨r, hr⟩ : ∃ r, rows[i]? = some r := ⟨rows[i], by simp [show i < rows.length by omega]⟩
    rw [(t.val i r hr).1]
    refine ⟨?_, fun x => ?_⟩
    · unfold putA
      split
      · simp [h1]
      · exact h1
    · rw [vl_succ hr]
      unfold putA
      cases hd : r.dst with
      | none => simp; exact h2 x
      | some d =>
        by_cases hx : d = x
        · subst hx
          by_cases hl : d < (S 0).T.length
          · have hl' : d < (S i).T.length := by rw [h1]; exact hl
            rw [if_pos ⟨rfl, rfl, hl⟩]
            rw [List.getD_eq_getElem?_getD, List.getElem?_set_self hl']
            rfl
          · rw [if_neg (by simp [hl])]
            rw [← h2]
            have hl' : (S i).T.length ≤ d := by rw [h1]; exact Nat.le_of_not_lt hl
            simp only [List.getD_eq_getElem?_getD]
            rw [List.getElem?_eq_none (by simpa using hl'), List.getElem?_eq_none hl']
        · rw [if_neg (by simp [hx])]
          rw [← h2]
          simp only [List.getD_eq_getElem?_getD]
          rw [List.getElem?_set_ne hx]

theorem back (t : Trace P call ops rows S V) {j : Nat} {o : Oper} (ho : ops[j]? = some o) : ∀ e ∈ o.after.toList, Region.binds .any e = true → e.on < j := by
  have h := t.ok
  unfold okDraw at h
  have hj : j < ops.size := by
    rcases Nat.lt_or_ge j ops.size with h | h
    · exact h
    · simp [h] at ho
  have h2 := List.all_eq_true.1 h j (by simpa using hj)
  simp only [Bool.and_eq_true] at h2
  have e1 : ops.getD j default = o := by simp [Array.getD, hj]; simpa [hj] using ho
  rw [e1] at h2
  intro e he hb
  have := List.all_eq_true.1 h2.1 e he
  rw [hb] at this
  simp only [Bool.not_true, Bool.false_or, Nat.blt_eq] at this
  exact this

theorem pair (t : Trace P call ops rows S V) {i j : Nat} (hij : i < j) {oi oj : Oper} (hi : ops[i]? = some oi) (hj : ops[j]? = some oj) :
    ordB (masksF ops.toList []) i j = true ∨ (oi.apart ops oj = true ∧ ¬ (kw (kindsOf rows) i = true ∧ kw (kindsOf rows) j = true)) := by
  have h := t.ok
  unfold okDraw at h
  have hj' : j < ops.size := by
    rcases Nat.lt_or_ge j ops.size with h | h
    · exact h
    · simp [h] at hj
  have h2 := List.all_eq_true.1 h j (by simpa using hj')
  simp only [Bool.and_eq_true] at h2
  have e1 : ops.getD j default = oj := by simp [Array.getD, hj']; simpa [hj'] using hj
  have hi' : i < ops.size := by omega
  have e2 : ops.getD i default = oi := by simp [Array.getD, hi']; simpa [hi'] using hi
  have h3 := List.all_eq_true.1 h2.2 i (by simpa using hij)
  rw [e1, e2] at h3
  simp only [Bool.or_eq_true, Bool.and_eq_true, Bool.not_eq_true', Bool.and_eq_false_iff] at h3
  rcases h3 with h | ⟨h, h'⟩
  · exact .inl h
  · refine .inr ⟨h, fun ⟨k1, k2⟩ => ?_⟩
    rcases h' with h' | h' <;> simp_all

/-- What has been carried out is closed. -/
def Closed (ops : Array Oper) (L : Nat → Bool) : Prop := ∀ j o, ops[j]? = some o → L j = true → ∀ e ∈ o.after.toList, Region.binds .any e = true → L e.on = true

theorem ord (t : Trace P call ops rows S V) {L : Nat → Bool} (hcl : Closed ops L) {i j : Nat} {oj : Oper} (hj : ops[j]? = some oj) (hpre : ∀ e ∈ oj.after.toList, Region.binds .any e = true → L e.on = true)
    (h : ordB (masksF ops.toList []) i j = true) : L i = true :=
  ord_closed (l := ops.toList) (L := fun i => L i = true) (fun j o ho hL => hcl j o (by simpa using ho) hL) (fun j o ho => t.back (by simpa using ho)) j oj i (by simpa using hj) hpre h

/-- A temporary that a row looks at holds what it holds in the run. -/
theorem vl_look (t : Trace P call ops rows S V) {L : Nat → Bool} (hcl : Closed ops L) {j : Nat} {oj : Oper} (hj : ops[j]? = some oj) (hpre : ∀ e ∈ oj.after.toList, Region.binds .any e = true → L e.on = true) (hLj : L j = false)
    {x : Tmp} (hx : x ∈ oj.looksAt ops) : vl rows V (S 0).T L rows.length x = (S j).T.getD x undef := by
  have hjl : j < rows.length := by
    rw [t.len]
    rcases Nat.lt_or_ge j ops.size with h | h
    · exact h
    · simp [h] at hj
  rw [((t.tmps j (by omega)).2 x)]
  have up : ∀ k, j ≤ k → k ≤ rows.length → vl rows V (S 0).T L k x = vl rows V (S 0).T L j x := by
    intro k
    induction k with
    | zero => intro h _; have : j = 0 := by omega
              subst this; rfl
    | succ k ih =>
      intro h1 h2
      rcases Nat.lt_or_ge k j with h | h
      · have : j = k + 1 := by omega
        subst this; rfl
      · obtain ⟨r, hr⟩ : ∃ r, rows[k]? = some r := ⟨rows[k], by simp [show k < rows.length by omega]⟩
        rw [vl_succ hr, if_neg, ih h (by omega)]
        rintro ⟨hk, hd, _⟩
        rcases Nat.eq_or_lt_of_le h with e | hlt
        · subst e; rw [hLj] at hk; cases hk
        · obtain ⟨ok, hok, hri⟩ := t.opAt hr
          rcases t.pair hlt hj hok with ho | ⟨hap, _⟩
          · have := t.ord hcl hok (hcl k ok hok hk) ho
            rw [hLj] at this; cases this
          · have := (Oper.apart_spec hap).2.2 x (by rw [← hri.dst]; exact hd)
            exact this hx
  have lo : ∀ k, k ≤ j → vl rows V (S 0).T L k x = vl rows V (S 0).T (fun _ => true) k x := by
    intro k
    induction k with
    | zero => intro _; rfl
    | succ k ih =>
      intro h
      obtain ⟨r, hr⟩ : ∃ r, rows[k]? = some r := ⟨rows[k], by simp [show k < rows.length by omega]⟩
      rw [vl_succ hr, vl_succ hr, ih (by omega)]
      by_cases hd : r.dst = some x ∧ x < (S 0).T.length
      · obtain ⟨ok, hok, hri⟩ := t.opAt hr
        have hL : L k = true := by
          rcases t.pair (show k < j by omega) hok hj with ho | ⟨hap, _⟩
          · exact t.ord hcl hj hpre ho
          · exact absurd hx ((Oper.apart_spec hap).1 x (by rw [← hri.dst]; exact hd.1))
        rw [if_pos ⟨hL, hd⟩, if_pos ⟨rfl, hd⟩]
      · rw [if_neg (fun h => hd h.2), if_neg (fun h => hd h.2)]
  rw [up rows.length (by omega) (Nat.le_refl _), lo j (Nat.le_refl _)]

/-- One row more has been carried out. -/
theorem vl_add (t : Trace P call ops rows S V) {L L' : Nat → Bool} (hcl : Closed ops L) {j : Nat} {oj : Oper} {rj : Row} (hj : ops[j]? = some oj) (hrj : rows[j]? = some rj) (hLj : L j = false) (hL' : ∀ i, L' i = if i = j then true else L i)
    (x : Tmp) : vl rows V (S 0).T L' rows.length x = if rj.dst = some x ∧ x < (S 0).T.length then V j else vl rows V (S 0).T L rows.length x := by
  have hjl : j < rows.length := by rw [t.len]; exact t.rowLt hrj
  have lo : ∀ k, k ≤ j → vl rows V (S 0).T L' k x = vl rows V (S 0).T L k x := by
    intro k
    induction k with
    | zero => intro _; rfl
    | succ k ih =>
      intro h
      obtain ⟨r, hr⟩ : ∃ r, rows[k]? = some r := ⟨rows[k], by simp [show k < rows.length by omega]⟩
      have hkj : ¬ k = j := by omega
      rw [vl_succ hr, vl_succ hr, ih (by omega), hL', if_neg hkj]
  have up : ∀ k, j + 1 ≤ k → k ≤ rows.length → vl rows V (S 0).T L' k x = if rj.dst = some x ∧ x < (S 0).T.length then V j else vl rows V (S 0).T L k x := by
    intro k
    induction k with
    | zero => intro h _; omega
    | succ k ih =>
      intro h1 h2
      rcases Nat.lt_or_ge k (j + 1) with h | h
      · have : k = j := by omega
        subst this
        rw [vl_succ hrj, vl_succ hrj, hL', if_pos rfl, hLj, lo k (Nat.le_refl _)]
        simp
      · obtain ⟨r, hr⟩ : ∃ r, rows[k]? = some r := ⟨rows[k], by simp [show k < rows.length by omega]⟩
        have hkj : ¬ k = j := by omega
        rw [vl_succ hr, vl_succ hr, hL', if_neg hkj, ih h (by omega)]
        by_cases hd : rj.dst = some x ∧ x < (S 0).T.length
        · rw [if_pos hd, if_pos hd, if_neg]
          rintro ⟨hk, hd2, _⟩
          obtain ⟨ok, hok, hri⟩ := t.opAt hr
          obtain ⟨oj', hoj', hri'⟩ := t.opAt hrj
          rw [hj] at hoj'
          cases hoj'
          rcases t.pair (show j < k by omega) hj hok with ho | ⟨hap, _⟩
          · have := t.ord hcl hok (hcl k ok hok hk) ho
            rw [hLj] at this; cases this
          · exact (Oper.apart_spec hap).2.1 x (by rw [← hri'.dst]; exact hd.1) (by rw [← hri.dst]; exact hd2)
        · rw [if_neg hd, if_neg hd]
  exact up rows.length (by omega) (Nat.le_refl _)

theorem vl_all (t : Trace P call ops rows S V) {L : Nat → Bool} (hall : ∀ i, i < rows.length → L i = true) (x : Tmp) : vl rows V (S 0).T L rows.length x = (S rows.length).T.getD x undef := by
  rw [(t.tmps rows.length (Nat.le_refl _)).2 x]
  have : ∀ k, k ≤ rows.length → vl rows V (S 0).T L k x = vl rows V (S 0).T (fun _ => true) k x := by
    intro k
    induction k with
    | zero => intro _; rfl
    | succ k ih =>
      intro h
      obtain ⟨r, hr⟩ : ∃ r, rows[k]? = some r := ⟨rows[k], by simp [show k < rows.length by omega]⟩
      rw [vl_succ hr, vl_succ hr, ih (by omega), hall k (by omega)]
  exact this _ (Nat.le_refl _)
end Trace
end
end Go.Ez
