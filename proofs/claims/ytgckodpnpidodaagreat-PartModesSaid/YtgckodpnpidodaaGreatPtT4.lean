import Derived.Test.YtgckodpnpidodaaGreatPtT
set_option linter.all false
/- A partition's table of jobs: who goes, the mode. -/
set_option linter.all false
namespace Go.Ez
open Go.Proofs Go.IntWalk
section
variable {H H' : AH} {col col' : Col} {c : List Nat}
variable {p : Nat} {raw : List RawC} {sl : List SlotC} {high : Bool} {f : Nat → Option Int} {sa : Option Addr} {sn sc bh : Nat}

theorem goneK_app (pr : TaskC → JobC → Bool) : ∀ (l m : List SlotC) (k : Nat), goneK pr k (l ++ m) = goneK pr k l ++ goneK pr (k + l.length) m
  | [], m, k => by simp [goneK]
  | s :: l, m, k => by
    simp only [List.cons_append, goneK, List.length_cons]
    rw [goneK_app pr l m (k + 1), show k + 1 + l.length = k + (l.length + 1) by omega]
    split <;> rfl
/-- The first k are through. -/
def thru (pr : TaskC → JobC → Bool) (k : Nat) (sl : List SlotC) : List SlotC := (sl.take k).map (stay pr) ++ sl.drop k
theorem thru_len (pr : TaskC → JobC → Bool) (k : Nat) : (thru pr k sl).length = sl.length := by simp [thru]; omega
theorem thru_get (pr : TaskC → JobC → Bool) {k i : Nat} (hk : k ≤ sl.length) : (thru pr k sl)[i]? = if i < k then (sl[i]?).map (stay pr) else sl[i]? := by
  unfold thru
  by_cases h : i < k
  · rw [if_pos h, List.getElem?_append_left (by simp; omega), List.getElem?_map, List.getElem?_take, if_pos h]
  · rw [if_neg h, List.getElem?_append_right (by simp; omega), List.getElem?_drop]
    congr 1; simp; omega
theorem thru_succ (pr : TaskC → JobC → Bool) {k : Nat} {s : SlotC} (hs : sl[k]? = some s) : thru pr (k + 1) sl = (thru pr k sl).set k (stay pr s) := by
  have hk : k < sl.length := by
    rcases Nat.lt_or_ge k sl.length with h | h
    · exact h
    · rw [List.getElem?_eq_none h] at hs; cases hs
  apply List.ext_getElem?
  intro i
  rw [thru_get pr (by omega), List.getElem?_set, thru_get pr (by omega), thru_len]
  by_cases h1 : k = i
  · subst h1; rw [if_pos (by omega), if_pos rfl, if_pos hk, hs]; rfl
  · rw [if_neg h1]
    by_cases h2 : i < k
    · rw [if_pos (by omega), if_pos h2]
    · rw [if_neg (by omega), if_neg h2]
theorem thru_all (pr : TaskC → JobC → Bool) : thru pr sl.length sl = sl.map (stay pr) := by simp [thru]
theorem goneK_succ (pr : TaskC → JobC → Bool) {k : Nat} {s : SlotC} (hs : sl[k]? = some s) : goneK pr 0 (sl.take (k + 1)) = goneK pr 0 (sl.take k) ++ (if goesK pr s then [k] else []) := by
  have hk : k < sl.length := by
    rcases Nat.lt_or_ge k sl.length with h | h
    · exact h
    · rw [List.getElem?_eq_none h] at hs; cases hs
  rw [List.take_succ, goneK_app, hs]
  simp only [List.length_take, Nat.min_eq_left (Nat.le_of_lt hk), Nat.zero_add, Option.toList_some, goneK]

theorem w_each {md : Nat → Bool} (h : TabM H col c p sl high md) (hcn : c ≠ []) (hfr : Fresh col H) {v : Value} {g : FuncId} {az : Value → List Value} {pr : TaskC → JobC → Bool} (hv : ∀ x, fnV v [x] = some (g, az x))
    (hg : ∀ (G : AH) (col1 : Col) raw f b o sn sc bh (sl' : List SlotC) (k : Nat) (t : TaskC) (j : JobC), TabO G col1 c p raw sl' high f (some ⟨b, o, none⟩) sn sc bh → sl'[k]? = some (t, some j) → (∀ b, b < H.next → ¬ Under c (col b) → G.get b = H.get b) → ∀ Q : Value → AH → Prop, Q (.bool (pr t j)) G →
      W prog XP g (az (.pointer (some ⟨b, o + k * 7, none⟩))) G Q)
    {Q : Value → AH → Prop}
    (hQ : ∀ H' col' m a n cap, RdE eN 1 H' col' [m] a n cap (goneK pr 0 sl) → (∀ b, b < H.next → ¬ Under [m] (col b)) → TabM H' col' c p (sl.map (stay pr)) high md → Stp (Under c) col H col' H' → Q (.slice a n cap) H') :
    W prog XP F_tasks_Table_each [.pointer (some ⟨p, 0, none⟩), v] H Q := by
  refine enterT _ (nf_F_tasks_Table_each _ _ _ _ _) rfl ?_
  unfold vc_F_tasks_Table_each
  obtain ⟨m, hm⟩ := new_root col H
  have hp := h.lt
  have hpc : col p = c := let ⟨_, _, _, _, _, _, h1, _⟩ := h; h1.bk.cl
  have hcm : ¬ Under c [m] := under_root hcn hp hpc hm
  have h0 := h
  obtain ⟨raw, f, sa, sn, sc, bh, h1, h2⟩ := h0
  have hlen := h1.len
  have hl6 := h1.ok.len
  refine dr.mk (ld_l.mk h1.bk.get rfl ?_)
  intro X hX
  have loop := loop_up (X := X) (fun k (s : Option Addr × Nat × Nat) => [.slice s.1 s.2.1 s.2.2, vI k]) (fun k s G => ∃ col1, SlE eN 1 G col1 [m] s.1 s.2.1 s.2.2 (goneK pr 0 (sl.take k)) ∧ TabM G col1 c p (thru pr k sl) high md ∧ Stp (Under c) col H col1 G) sl.length ?_ ?_
  · exact loop 0 (none, 0, 0) H (by omega) ⟨col, by simpa [goneK] using SlE.nil, by simpa [thru] using h, Stp.refl _ _ _⟩
  · rintro ⟨a, n, cap⟩ G ⟨col1, k1, k2, k4⟩
    refine hX _ _ _ _ _ fun _ => bcase_dec (fun h => absurd h (by omega)) fun _ => ?_
    refine hQ G col1 m a n cap (by simpa using k1.rd eN_len) hm (by rw [thru_all] at k2; exact k2) k4
  · rintro k ⟨a, n, cap⟩ G hk ⟨col1, k1, k2, k4⟩ go
    simp only at k1
    have e1 : IntKind.i64.wrap ((k : Int) + 1) = ((k + 1 : Nat) : Int) := by rw [i64_in _ (by omega)]; omega
    refine hX _ _ _ _ _ fun _ => bcase_dec (fun _ => ?_) fun h => absurd (by omega) h
    have hs : sl[k]? = some sl[k] := by simp
    have hst : (thru pr k sl)[k]? = some sl[k] := by rw [thru_get pr (by omega), if_neg (by omega)]; exact hs
    have k2' := k2
    obtain ⟨raw1, f1, sa1, sn1, sc1, bh1, q1, q2⟩ := k2'
    have next : ¬ goesK pr sl[k] = true → X [.slice a n cap, vI ((k + 1 : Nat) : Int)] G := fun hgo => by
      refine go (a, n, cap) G ⟨col1, ?_, ?_, k4⟩
      · rw [goneK_succ pr hs, if_neg hgo, List.append_nil]; exact k1
      · rw [thru_succ pr hs]
        have : stay pr sl[k] = sl[k] := by unfold stay; rw [if_neg hgo]
        rw [this]
        have : (thru pr k sl).set k sl[k] = thru pr k sl := by
          apply List.ext_getElem?
          intro i
          rw [List.getElem?_set]
          by_cases h : k = i
          · subst h; rw [if_pos rfl, if_pos (by rw [thru_len]; exact hk), hst]
          · rw [if_neg h]
        rw [this]; exact k2
    rcases hsk : sl[k] with ⟨t, oj⟩
    rw [hsk] at hst next
    cases oj with
    | none =>
      refine c_busy_no q1 hst (by decide) ?_
      simp only [r_p_eq]
      intro X13 h13
      refine bcase_f rfl (kp.mk (h13 _ _ fun _ => bcase_f rfl (kp.mk ?_)))
      rw [e1]
      exact next (by simp [goesK])
    | some j =>
      obtain ⟨b, o, ds, gg, q, rfl, e2, _⟩ := q1.slot hst
      refine c_busy q1 hst rfl (by decide) ?_
      simp only [r_p_eq]
      intro X13 h13
      refine bcase_t rfl ⟨_, _, hv _, hg G col1 _ _ _ _ _ _ _ _ k t j q1 hst (fun b hb hn => k4.get b hb hn) _ ?_⟩
      simp only [r_b_eq]
      refine kp.mk (h13 _ _ fun _ => bcase_both (fun hgo => ?_) fun hgo => kp.mk (by rw [e1]; exact next (by simp [goesK, hgo])))
      -- one goes
      refine nw.new fun qn G1 a1 => ?_
      have hfr1 := k4.fresh hfr
      have t1 : Stp (fun _ => False) col1 G col1 G1 := a1.keep.stp _ _
      have hle : goneK pr 0 (sl.take k) = goneK pr 0 (sl.take k) := rfl
      have hnle : n ≤ 6 := by
        have := k1.1
        have h2 : ∀ (l : List SlotC) (i : Nat), (goneK pr i l).length ≤ l.length := by
          intro l
          induction l with
          | nil => intro i; simp [goneK]
          | cons s l ih => intro i; simp only [goneK]; split <;> simp <;> have := ih (i + 1) <;> omega
        have := h2 (sl.take k) 0
        simp at this; omega
      refine (k1.fr t1 id).push (y := k) eN_len eN_cell a1.at_ (by decide) (by decide) (by omega) (by omega) fun a' cap' G2 col2 p2 s2 _ => ?_
      have kT := (k2.fr t1 fun _ _ h => h).fr s2 fun x hx e => hcm (by rw [← e]; exact hx)
      have s4 : Stp (Under c) col H col2 G2 := (a1.newer k4).newer s2 fun b hb e => absurd (by rw [e]; exact Under.refl _) (hm b hb)
      refine w_gone kT (s4.fresh hfr) hst fun G3 g3 s3 => ?_
      simp only [r_T_eq]
      refine kp.mk ?_
      rw [e1]
      refine go (a', n + 1, cap') G3 ⟨col2, ?_, ?_, s4.trans s3⟩
      · rw [goneK_succ pr hs, hsk, if_pos (by simp [goesK, hgo])]
        exact p2.fr s3 hcm
      · rw [thru_succ pr hs, hsk]
        have : stay pr (t, some j) = (t, none) := by unfold stay; rw [if_pos (by simp [goesK, hgo])]
        rw [this]; exact g3
end
end Go.Ez

/- A partition's table of jobs: the mode rises and falls, jobs are missed, put, looked at. -/
set_option linter.all false
namespace Go.Ez
open Go.Proofs Go.IntWalk
section
variable {H H' : AH} {col col' : Col} {c : List Nat}
variable {p : Nat} {raw : List RawC} {sl : List SlotC} {high : Bool} {f : Nat → Option Int} {sa : Option Addr} {sn sc bh : Nat}

theorem TabM.bk {md : Nat → Bool} (h : TabM H col c p sl high md) : ∃ sa sn sc bh, Bk H col c p [.slice sa sn sc, .pointer (some ⟨bh, 0, none⟩), .bool high] 0 := let ⟨_, _, sa, sn, sc, bh, h1, _⟩ := h; ⟨sa, sn, sc, bh, h1.bk⟩
theorem TabM.ok {md : Nat → Bool} (h : TabM H col c p sl high md) : TabOk sl := let ⟨_, _, _, _, _, _, h1, _⟩ := h; h1.ok
/-- The flag is set. -/
theorem w_flag {md : Nat → Bool} {x : Bool} (h : TabM H col c p sl high md) {K : AH → Prop} (hK : ∀ H', TabM H' col c p sl x md → Stp (Under c) col H col H' → K H') : st H 1 (some ⟨p, 2, none⟩) (.bool x) K := by
  obtain ⟨raw, f, sa, sn, sc, bh, h1, h2⟩ := h
  refine st.do h1.bk.get rfl rfl (by simp) fun G w => ?_
  obtain ⟨b1, s1⟩ := h1.bk.wrote w
  have no : ∀ {x : List Nat} {m : Nat}, Under (m :: c) x → ¬ x = c := fun {x m} hx e => by subst e; exact hx.self
  exact hK G ⟨raw, f, sa, sn, sc, bh, ⟨by simpa [setMany, cellsOf] using b1, h1.sls.fr s1 (no (Under.refl (0 :: c))), h1.hp.fr s1 fun x hx => no hx, h1.jobs.fr s1 fun x hx => no hx, h1.ok⟩, h2⟩ s1.under0

theorem w_missed (h : TabR H col c p sl high) (hcn : c ≠ []) (hfr : Fresh col H) {now : Int} {Q : Value → AH → Prop}
    (hQ : ∀ H' col' m a n cap, RdE eN 1 H' col' [m] a n cap (goneK (fun t j => decide (dueJ true t j ≤ now)) 0 sl) → (∀ b, b < H.next → ¬ Under [m] (col b)) → TabR H' col' c p (sl.map (stay fun t j => decide (dueJ true t j ≤ now))) high → Stp (Under c) col H col' H' → Q (.slice a n cap) H') :
    W prog XP F_tasks_Table_Missed [.pointer (some ⟨p, 0, none⟩), vI now] H Q := by
  refine enterT _ (nf_F_tasks_Table_Missed _ _ _ _ _) rfl ?_
  unfold vc_F_tasks_Table_Missed
  refine nw.new fun q G a => ?_
  have s1 : Stp (Under c) col H col G := Stp.none a.keep
  have hG := h.fr (a.keep.stp (fun _ => False) col) fun _ _ h => h
  have hfG := s1.fresh hfr
  have o1 := a.own hfr
  have hG' := hG
  obtain ⟨raw, f, sa, sn, sc, bh, h1, h2⟩ := hG'
  refine c_tnone h1 (by decide) ?_
  simp only [r_b_eq, bcase_false]
  refine w_each hG hcn hfG (az := fun x => [x, .pointer (some ⟨q, 0, none⟩)]) (pr := fun t j => decide (dueJ true t j ≤ now)) (fun x => rfl) (fun G1 col1 raw f b o sn sc bh sl' k t j hT hs hE Q hQ => ?_) fun H2 col2 m a2 n2 cap2 hr hm hT hS => ?_
  · refine callT (p_missed1 hT hs rfl (now := now) (q := q) (g := 0) (ro := false) ?_) TL_nd rfl (by decide) hQ
    rw [hE q o1.lt (by rw [o1.cl]; exact under_nil hcn)]; exact o1.get
  · simp only [r_l_eq]
    exact hQ H2 col2 m a2 n2 cap2 hr (fun b hb => hm b (by have := a.next; omega)) hT (s1.trans hS)

theorem w_clear (h : TabR H col c p sl high) (hcn : c ≠ []) (hfr : Fresh col H) {Q : Value → AH → Prop}
    (hQ : ∀ H' col', TabR H' col' c p (sl.map fun s => (s.1, none)) false → Stp (Under c) col H col' H' → Q (.tuple #[]) H') : W prog XP F_tasks_Table_Clear [.pointer (some ⟨p, 0, none⟩)] H Q := by
  refine enterT _ (nf_F_tasks_Table_Clear _ _ _ _) rfl ?_
  unfold vc_F_tasks_Table_Clear
  have h' := h
  obtain ⟨raw, f, sa, sn, sc, bh, h1, h2⟩ := h'
  refine c_tnone h1 (by decide) ?_
  simp only [r_b_eq, Bool.not_false, bcase_true]
  refine w_each h hcn hfr (az := fun x => [x]) (pr := fun _ _ => true) (fun x => rfl) (fun G1 col1 raw f b o sn sc bh sl' k t j hT hs hE Q hQ => callT p_clear1 TL_nd rfl (by decide) hQ) fun H2 col2 m a2 n2 cap2 hr hm hT hS => ?_
  simp only [r_l_eq]
  refine dr.mk (w_flag (x := false) hT fun H3 hT3 hS3 => ?_)
  have e : sl.map (stay fun _ _ => true) = sl.map fun s => (s.1, none) := by
    apply List.map_congr_left
    rintro ⟨t, oj⟩ _
    cases oj <;> simp [stay, goesK]
  rw [e] at hT3
  obtain ⟨raw3, f3, sa3, sn3, sc3, bh3, k1, k2⟩ := hT3
  refine hQ H3 col2 ⟨raw3, f3, sa3, sn3, sc3, bh3, k1, fun k => ?_⟩ (hS.trans hS3)
  rw [k2]
  unfold dueM
  rw [List.getElem?_map]
  cases sl[k]? <;> rfl

theorem w_rise (h : TabR H col c p sl high) (hcn : c ≠ []) (hfr : Fresh col H) {Q : Value → AH → Prop}
    (hQ : ∀ H' col' m a n cap, RdE eN 1 H' col' [m] a n cap (goneK (fun t _ => !t.hi) 0 sl) → (∀ b, b < H.next → ¬ Under [m] (col b)) → TabR H' col' c p (sl.map (stay fun t _ => !t.hi)) true → Stp (Under c) col H col' H' → Q (.slice a n cap) H') :
    W prog XP F_tasks_Table_Rise [.pointer (some ⟨p, 0, none⟩)] H Q := by
  refine enterT _ (nf_F_tasks_Table_Rise _ _ _ _) rfl ?_
  unfold vc_F_tasks_Table_Rise
  have h' := h
  obtain ⟨raw, f, sa, sn, sc, bh, h1, h2⟩ := h'
  refine c_tnone h1 (by decide) ?_
  simp only [r_b_eq, bcase_false]
  refine dr.mk (w_flag (x := true) h fun H1 hT1 hS1 => ?_)
  refine w_each hT1 hcn (hS1.fresh hfr) (az := fun x => [x]) (pr := fun t _ => !t.hi) (fun x => rfl) (fun G1 col1 raw f b o sn sc bh sl' k t j hT hs hE Q hQ => callT (p_rise1 hT hs rfl) TL_nd rfl (by decide) hQ) fun H2 col2 m a2 n2 cap2 hr hm hT hS => ?_
  have hm0 : ∀ b, b < H.next → ¬ Under [m] (col b) := fun b hb => hm b (Nat.lt_of_lt_of_le hb hS1.next)
  have hS2 := hS1.trans hS
  simp only [r_l_eq]
  have hpc : col2 p = c := let ⟨_, _, _, _, hb⟩ := hT.bk; hb.cl
  have hcm : ¬ Under c [m] := by
    have hp0 := h.lt
    have : col p = c := by rw [← hS2.cl p hp0]; exact hpc
    exact under_root hcn hp0 this hm0
  have hT' := hT
  obtain ⟨raw2, f2, sa2, sn2, sc2, bh2, k1, k2⟩ := hT'
  have hlen := k1.len
  have hl6 := k1.ok.len
  refine dr.mk (ld_l.mk k1.bk.get rfl ?_)
  intro X hX
  obtain ⟨sl2, hsl2⟩ : ∃ x, x = sl.map (stay fun t _ => !t.hi) := ⟨_, rfl⟩
  rw [← hsl2] at hT hlen hl6 hQ
  have loop := loop_up (X := X) (fun k (_ : Unit) => [vI k]) (fun k _ G => TabM G col2 c p sl2 true (fun i => if i < k then true else high) ∧ Stp (Under c) col2 H2 col2 G) sl2.length ?_ ?_
  · refine loop 0 () H2 (by omega) ⟨?_, Stp.refl _ _ _⟩
    have : (fun i => if i < 0 then true else high) = fun _ => high := by funext i; simp
    rw [this]; exact hT
  · rintro _ G ⟨g1, g2⟩
    refine hX _ _ fun _ => bcase_dec (fun h => absurd h (by omega)) fun _ => ?_
    refine hQ G col2 m a2 n2 cap2 (hr.fr g2 hcm) hm0 ?_ (hS2.trans g2)
    obtain ⟨r3, f3, s3, n3, c3, b3, q1, q2⟩ := g1
    refine ⟨r3, f3, s3, n3, c3, b3, q1, fun k => ?_⟩
    rw [q2]
    unfold dueM
    cases hs : sl2[k]? with
    | none => rfl
    | some s =>
      have hk : k < sl2.length := by
        rcases Nat.lt_or_ge k sl2.length with h | h
        · exact h
        · rw [List.getElem?_eq_none h] at hs; cases hs
      simp [hk]
  · rintro k _ G hk ⟨g1, g2⟩ go
    have e1 : IntKind.i64.wrap ((k : Int) + 1) = ((k + 1 : Nat) : Int) := by rw [i64_in _ (by omega)]; omega
    refine hX _ _ fun _ => bcase_dec (fun _ => ?_) fun h => absurd (by omega) h
    have hs : sl2[k]? = some sl2[k] := by simp
    obtain ⟨r3, f3, s3, n3, c3, b3, q1, q2⟩ := g1
    rcases hsk : sl2[k] with ⟨t, oj⟩
    rw [hsk] at hs
    cases oj with
    | none =>
      refine c_busy_no q1 hs (by decide) ?_
      simp only [r_p_eq]
      refine bcase_f rfl (kp.mk ?_)
      rw [e1]
      refine go () G ⟨⟨r3, f3, s3, n3, c3, b3, q1, fun i => ?_⟩, g2⟩
      rw [q2]
      unfold dueM
      by_cases hik : i = k
      · subst hik; rw [hs]; rfl
      · have : (i < k + 1) = (i < k) := by
          apply propext; omega
        simp only [this]
    | some j =>
      obtain ⟨b, o, ds, gg, q, rfl, e2, _⟩ := q1.slot hs
      refine c_busy q1 hs rfl (by decide) ?_
      simp only [r_p_eq]
      refine bcase_t rfl (dr.mk (ld_p.mk q1.bk.get rfl ?_))
      refine callT (p_due q1 hs rfl) TL_nd rfl (by decide) ?_
      simp only [r_i_eq]
      refine ⟨⟨ld1_at q1.bk.get rfl, by simp [veq]⟩, ?_⟩
      have hf3 : f3 k = some (dueJ (if k < k then true else high) t j) := by rw [q2]; simp [dueM, hs]
      have hfrG : Fresh col2 G := g2.fresh (hS2.fresh hfr)
      refine w_hchange q1.hp hfrG (by simp) hf3 fun G2 p2 t2 => ?_
      simp only [r_i_eq]
      refine kp.mk ?_
      rw [e1]
      have n2 : ∀ {x : List Nat} {mm : Nat}, Under (mm :: c) x → mm ≠ 1 → ¬ Under (1 :: c) x := fun hx hmm e => hmm (Under.apart hx e)
      refine go () G2 ⟨⟨r3, _, _, n3, c3, b3, ⟨q1.bk.fr t2 (fun e => e.self), q1.sls.fr t2 (n2 (Under.refl (0 :: c)) (by decide)), p2, q1.jobs.fr t2 fun x hx => n2 hx (by decide), q1.ok⟩, fun i => ?_⟩, g2.trans t2.under1⟩
      by_cases hik : i = k
      · subst hik; simp [dueM, hs]
      · rw [if_neg hik, q2]
        unfold dueM
        have : (i < k + 1) = (i < k) := by
          apply propext; omega
        simp only [this]

theorem w_fall (h : TabR H col c p sl high) {Q : Value → AH → Prop}
    (hno : ¬ (high = true ∧ noJobs sl) → Q (.bool false) H) (hyes : high = true → noJobs sl → ∀ H', TabR H' col c p sl false → Stp (Under c) col H col H' → Q (.bool true) H') : W prog XP F_tasks_Table_Fall [.pointer (some ⟨p, 0, none⟩)] H Q := by
  refine enterT _ (nf_F_tasks_Table_Fall _ _ _ _) rfl ?_
  unfold vc_F_tasks_Table_Fall
  intro X hX
  refine c_thigh h (by decide) ?_
  simp only [r_b_eq]
  cases high with
  | false => exact bcase_t rfl (hno (by simp))
  | true =>
    refine bcase_f rfl ?_
    obtain ⟨m, hm, _, hpu⟩ := c_tlen h
    refine hpu _ (by decide) _ ?_
    simp only [r_i_eq]
    refine bcase_dec (fun h0 => hno fun hh => ?_) fun h0 => kp.mk (hX _ fun _ => dr.mk (w_flag (x := false) h fun H' hT hS => ?_))
    · have := hm.mpr hh.2; omega
    · have hnj := hm.mp (by omega)
      refine hyes rfl hnj H' ?_ hS
      obtain ⟨r3, f3, s3, n3, c3, b3, q1, q2⟩ := hT
      refine ⟨r3, f3, s3, n3, c3, b3, q1, fun k => ?_⟩
      rw [q2, noJobs_due.mp hnj, noJobs_due.mp hnj]
end
end Go.Ez

/- A partition's table of jobs: a job is put; looks; a new table. -/
set_option linter.all false
namespace Go.Ez
open Go.Proofs Go.IntWalk
section
variable {H H' : AH} {col col' : Col} {c : List Nat}
variable {p : Nat} {raw : List RawC} {sl : List SlotC} {high : Bool} {f : Nat → Option Int} {sa : Option Addr} {sn sc bh : Nat}

theorem w_clone {d cc : List Nat} {a : Option Addr} {n cap : Nat} {l : List OpC} (h : RdE eOp 3 H col d a n cap l) (hn : n ≤ 1000000) {Q : Value → AH → Prop}
    (hQ : ∀ H' col' a' cap', SlE eOp 3 H' col' cc a' n cap' l → Stp (fun x => x = cc) col H col' H' → (∀ b, b < H.next → H'.get b = H.get b) → Q (.slice a' n cap') H') : W prog XP F_slices_Clone__tasks_Optasks_Op [.slice a n cap] H Q := by
  refine enterT _ (nf_F_slices_Clone__tasks_Optasks_Op _ _ _ _ _ _) rfl ?_
  unfold vc_F_slices_Clone__tasks_Optasks_Op
  have hl := h.1
  rcases h.2 with ⟨rfl, rfl, rfl⟩ | ⟨b, o, ds, ro, g, rfl, _⟩
  · have : l = [] := List.eq_nil_of_length_eq_zero (by omega)
    subst this
    exact bcase_t rfl (hQ H col none 0 SlE.nil (Stp.refl _ _ _) fun _ _ => rfl)
  · refine bcase_f rfl (nw.new fun q G a1 => ?_)
    obtain ⟨k1, s1⟩ := a1.bk (fun x => x = cc) col cc
    have h0 : SlE eOp 3 G (setC col q cc) cc (some ⟨q, 0, none⟩) 0 0 [] := ⟨rfl, rfl, .inr ⟨q, 0, [], 0, rfl, k1, .inl rfl, Nat.le_refl _, by simp, by simp⟩⟩
    have hsrc := (h.kept a1.keep).src eOp_len
    refine h0.app (ys := l) eOp_len eOp_cell (by decide) (by decide) (by omega) (by omega) hsrc (by omega) fun a' cap' G2 col2 k2 s2 hg => ?_
    rw [Nat.zero_add] at k2 ⊢
    refine hQ G2 col2 a' cap' (by simpa using k2) (s1.trans s2) fun b' hb' => ?_
    have hq := a1.num; have hn1 := a1.next
    rw [hg b' (by omega) (fun o e => by cases e; omega)]
    exact a1.keep.get b' hb'

/-- What a job's arrival comes to. -/
def putM (sl : List SlotC) (high : Bool) (j : JobC) : Int × List SlotC :=
  if 0 ≤ j.task ∧ j.task < sl.length ∧ j.right = true then
    match sl[j.task.toNat]? with
    | some (t, none) => if high = true ∧ t.hi = false then (42, sl) else (0, sl.set j.task.toNat (t, some j))
    | _ => (4, sl)
  else (1, sl)
theorem TabOk.put (h : TabOk sl) {k : Nat} {t : TaskC} {j : JobC} (hs : sl[k]? = some (t, none)) (hj : JobOk k t j) : TabOk (sl.set k (t, some j)) := by
  have hk : k < sl.length := by
    rcases Nat.lt_or_ge k sl.length with h | h
    · exact h
    · rw [List.getElem?_eq_none h] at hs; cases hs
  refine ⟨by simpa using h.len, fun x hx => ?_, fun i t' j' hi => ?_⟩
  · rcases List.mem_or_eq_of_mem_set hx with h1 | h1
    · exact h.right x h1
    · rw [h1]; exact h.right (t, none) (List.mem_of_getElem? hs)
  · rw [List.getElem?_set] at hi
    by_cases e : k = i
    · subst e; rw [if_pos rfl, if_pos hk] at hi; cases hi; exact hj
    · rw [if_neg e] at hi; exact h.job i t' j' hi

theorem w_put (h : TabR H col c p sl high) (hcn : c ≠ []) (hfr : Fresh col H) {j : JobC} {d : List Nat} {a : Option Addr} {n cap : Nat} (ho : RdE eOp 3 H col d a n cap j.ops) (hn : n ≤ 1000000) (hd : ¬ Under c d) {Q : Value → AH → Prop}
    (hQ : ∀ H' col', TabR H' col' c p (putM sl high j).2 high → Stp (Under c) col H col' H' → Q (vI (putM sl high j).1) H') :
    W prog XP F_tasks_Table_Put [.pointer (some ⟨p, 0, none⟩), .agg #[vI j.task, vI j.arrived, vI j.work, vI j.done, .slice a n cap]] H Q := by
  refine enterT _ (nf_F_tasks_Table_Put _ _ _ _ _ _ _ _ _ _ _) rfl ?_
  unfold vc_F_tasks_Table_Put
  have hno := ho.1
  refine nw.new fun q G1 a1 => ?_
  let k := j.task.toNat
  obtain ⟨b1, s1⟩ := a1.bk (fun _ => False) col (k :: 2 :: c)
  have s1' : Stp (Under c) col H (setC col q (k :: 2 :: c)) G1 := s1.mono fun _ h => h.elim
  have h1 := h.fr s1 fun _ _ h => h
  have ho1 := ho.fr s1 id
  have h1' := h1
  obtain ⟨raw, f, sa, sn, sc, bh, t1, t2⟩ := h1'
  have hlen := t1.len
  refine ld_i.mk a1.at_ rfl ?_
  by_cases hin : 0 ≤ j.task ∧ j.task < sl.length
  case neg =>
    have hr : putM sl high j = (1, sl) := by unfold putM; rw [if_neg (fun h => hin ⟨h.1, h.2.1⟩)]
    refine c_slot_out t1 hin (by decide) ?_
    simp only [r_p_eq]
    intro X12 _ X13 h13
    refine bcase_t rfl (kp.mk (h13 _ _ fun _ => bcase_t rfl ?_))
    have := hQ G1 _ (by rw [hr]; exact h1) s1'
    rw [hr] at this; exact this
  case pos =>
  have hk : k < sl.length := by omega
  have hkj : j.task = k := by omega
  have hs : sl[k]? = some sl[k] := by simp
  obtain ⟨b, o, ds, g, qq, rfl, e2, e3, e4, e5, e6, e7, e8, e9, e10⟩ := t1.slot hs
  rw [show (vI j.task : Value) = vI k by rw [hkj]]
  refine c_slot_in t1 hk rfl (by decide) ?_
  simp only [r_p_eq]
  intro X12 h12 X13 h13
  refine bcase_f rfl (ld_Aiiiil.mk a1.at_ rfl (by simp) ?_)
  refine callT p_jright TL_nd rfl (by decide) ?_
  simp only [r_b_eq]
  refine kp.mk (h13 _ _ fun _ => ?_)
  have hrt : (decide (0 ≤ j.arrived) && decide (j.arrived ≤ 4611686018427387904) && decide (1 ≤ j.work) && decide (j.work ≤ 1048576) && (j.done == 0) && decide ((n : Int) ≤ 64)) = j.right := by
    unfold JobC.right; rw [hno]
    congr 1
    exact decide_eq_decide.mpr (by omega)
  rw [hrt]
  refine bcase_both (fun hr => ?_) fun hr => ?_
  · have hr' : ¬ j.right = true := by simpa using hr
    have hp : putM sl high j = (1, sl) := by unfold putM; rw [if_neg (fun h => hr' h.2.2)]
    have := hQ G1 _ (by rw [hp]; exact h1) s1'
    rw [hp] at this; exact this
  have hr' : j.right = true := by simpa using hr
  have hcond : 0 ≤ j.task ∧ j.task < sl.length ∧ j.right = true := ⟨hin.1, hin.2, hr'⟩
  refine dr.mk (ld_p.mk e2.get (e4 6 (by decide)) ?_)
  rcases hsk : sl[k] with ⟨t, oj⟩
  rw [hsk] at hs e4 e5 e6 e10
  cases oj with
  | some j0 =>
    cases qq with
    | none => simp [SlotJ] at e6
    | some qq =>
      have hp : putM sl high j = (4, sl) := by unfold putM; rw [if_pos hcond]; simp only [show j.task.toNat = k from rfl, hs]
      refine bcase_t rfl ?_
      have := hQ G1 _ (by rw [hp]; exact h1) s1'
      rw [hp] at this; exact this
  | none =>
    cases qq with
    | some qq => simp [SlotJ] at e6
    | none =>
    refine bcase_f rfl (dr.mk (ld_b.mk t1.bk.get rfl ?_))
    have h12' : ∀ (hok : ¬ (high = true ∧ t.hi = false)), X12 [] G1 := fun hok => by
      have hp : putM sl high j = (0, sl.set k (t, some j)) := by unfold putM; rw [if_pos hcond]; simp only [show j.task.toNat = k from rfl, hs]; rw [if_neg hok]
      refine h12 _ fun _ => ld_l.mk a1.at_ rfl ?_
      refine w_clone (cc := 0 :: k :: 2 :: c) ho1 hn fun G2 col2 ca ccap c1 s2 hget => ?_
      simp only [r_l_eq]
      have nq : ∀ x : List Nat, x = 0 :: k :: 2 :: c → ¬ Under (0 :: c) x ∧ ¬ Under (1 :: c) x ∧ x ≠ c := fun x hx => by
        subst hx
        have hu : Under (2 :: c) (0 :: k :: 2 :: c) := ⟨[0, k], rfl⟩
        refine ⟨fun e => ?_, fun e => ?_, fun e => ?_⟩
        · have := Under.apart e hu; omega
        · have := Under.apart e hu; omega
        · have := congrArg List.length e; simp at this; omega
      have b2 := b1.fr s2 (by simp)
      have u2 := t1.bk.fr s2 (fun e => (nq _ e.symm.symm).2.2 rfl)
      have e22 := e2.fr s2 (fun e => (nq _ e).1 (Under.refl _))
      have hp2 := t1.hp.fr s2 fun x hx e => (nq _ e).2.1 hx
      refine st.do b2.get rfl rfl (by simp) fun G3 w3 => ?_
      obtain ⟨b3, s3⟩ := b2.wrote w3
      have hu3 : Under (2 :: c) (k :: 2 :: c) := ⟨[k], rfl⟩
      have n3 : ∀ x : List Nat, x = k :: 2 :: c → ¬ Under (0 :: c) x ∧ ¬ Under (1 :: c) x ∧ x ≠ c := fun x hx => by
        subst hx
        refine ⟨fun e => ?_, fun e => ?_, fun e => ?_⟩
        · have := Under.apart e hu3; omega
        · have := Under.apart e hu3; omega
        · have := congrArg List.length e; simp at this; omega
      have u3 := u2.fr s3 (fun e => (n3 _ e).2.2 rfl)
      have e23 := e22.fr s3 (fun e => (n3 _ e).1 (Under.refl _))
      have hp3 := hp2.fr s3 fun x hx e => (n3 _ e).2.1 hx
      have c3 := c1.fr s3 (by simp)
      refine dr.mk (st.do e23.get rfl rfl (by omega) fun G4 w4 => ?_)
      obtain ⟨e24, s4⟩ := e23.wrote w4
      have hset : setMany ds (o + k * 7 + 6) (cellsOf (.pointer (some ⟨q, 0, none⟩))) = setMany ds (o + k * 7) (eSlot (t, some q)) := by
        rw [setMany_within e10 e3 (by simp [cellsOf])]; rfl
      rw [hset] at e24
      have sl4 := e9 (t, some q) G4 col2 e24
      have n4 : ∀ {x : List Nat} {m : Nat}, Under (m :: c) x → m ≠ 0 → ¬ x = 0 :: c := fun hx hm e => by subst e; exact hm (Under.apart (Under.refl (0 :: c)) hx).symm
      have u4 := u3.fr s4 (fun e => by have := congrArg List.length e; simp at this)
      have hp4 := hp3.fr s4 fun x hx e => n4 hx (by decide) e
      have b4 := b3.fr s4 (fun e => n4 hu3 (by decide) e)
      have c4 := c3.fr s4 (fun e => n4 (⟨[0, k], rfl⟩ : Under (2 :: c) (0 :: k :: 2 :: c)) (by decide) e)
      have jr : JobR G4 col2 (k :: 2 :: c) q j := ⟨ca, n, ccap, by simpa [setMany, cellsOf, hkj] using b4, c4⟩
      have jobs4 : SlotsR G4 col2 c (raw.set k (t, some q)) (sl.set k (t, some j)) := by
        refine ⟨by simpa using t1.jobs.1, fun i s hi => ?_⟩
        rw [List.getElem?_set] at hi ⊢
        have hrl : raw.length = sl.length := t1.jobs.1
        by_cases hik : k = i
        · subst hik
          rw [if_pos rfl, if_pos hk] at hi
          cases hi
          exact ⟨some q, (if_pos rfl).trans (if_pos (by omega)), jr⟩
        · rw [if_neg hik] at hi ⊢
          obtain ⟨q', k1, k2⟩ := t1.jobs.2 i s hi
          refine ⟨q', k1, ((k2.fr s2 fun x hx e => ?_).fr s3 fun x hx e => ?_).fr s4 fun x hx e => n4 hx.cons (by decide) e⟩
          · subst e; exact hik (Under.apart (⟨[0], rfl⟩ : Under (k :: 2 :: c) (0 :: k :: 2 :: c)) hx)
          · subst e; exact hik (Under.apart (Under.refl (k :: 2 :: c)) hx)
      have hjr := JobC.right_iff.mp hr'
      have hjok : JobOk k t j := ⟨hkj, hjr.1, hjr.2.1, hjr.2.2.2.1, by omega, by omega, hjr.2.2.2.2.2⟩
      have T4 : TabO G4 col2 c p (raw.set k (t, some q)) (sl.set k (t, some j)) high f (some ⟨b, o, none⟩) sn sc bh := ⟨u4, sl4, hp4, jobs4, t1.ok.put hs hjok⟩
      have hsk' : (sl.set k (t, some j))[k]? = some (t, some j) := by rw [List.getElem?_set_self hk]
      have b4g : G4.get q = some (.cells [vI k, vI j.arrived, vI j.work, vI j.done, .slice ca n ccap] false 0) := by simpa [setMany, cellsOf, hkj] using b4.get
      refine dr.mk (ld_p.mk u4.get rfl (ld_i.mk b4g rfl (dr.mk (ld_b.mk u4.get rfl ?_))))
      refine callT (p_due T4 hsk' rfl) TL_nd rfl (by decide) ?_
      simp only [r_i_eq]
      refine ⟨⟨ld1_at b4g rfl, by simp [veq]⟩, ⟨ld1_at u4.get rfl, by simp [veq]⟩, ?_⟩
      have s04 : Stp (Under c) col H col2 G4 := (((s1'.trans (s2.mono fun x hx => by rw [hx]; exact ⟨[0, k, 2], rfl⟩)).trans (s3.mono fun x hx => by rw [hx]; exact ⟨[k, 2], rfl⟩)).trans s4.under)
      have hfk : f k = none := by rw [t2]; simp [dueM, hs]
      refine w_hput hp4 (s04.fresh hfr) (by have := t1.ok.len; omega) hfk fun G5 col5 h5 s5 => ?_
      simp only [r_i_eq]
      have n5 : ∀ {x : List Nat} {m : Nat}, Under (m :: c) x → m ≠ 1 → ¬ Under (1 :: c) x := fun hx hm e => hm (Under.apart hx e)
      have := hQ G5 col5 (by
        rw [hp]
        refine ⟨_, _, _, _, _, _, ⟨u4.fr s5 (fun e => e.self), sl4.fr s5 (n5 (Under.refl (0 :: c)) (by decide)), h5, jobs4.fr s5 fun x hx => n5 hx (by decide), T4.ok⟩, fun i => ?_⟩
        rw [due_set hk]
        by_cases e : i = k
        · simp [e]
        · simp [e, t2]) (s04.trans s5.under1)
      rw [hp] at this; exact this
    cases high with
    | false => exact bcase_f rfl (kp.mk (h12' (by simp)))
    | true =>
      refine bcase_t rfl (dr.mk (ld_b.mk e2.get (e4 0 (by decide)) (bcase_both (fun hh => ?_) fun hh => kp.mk (h12' (by simpa using hh)))))
      have hi : t.hi = false := by simpa using hh
      have hp : putM sl true j = (42, sl) := by unfold putM; rw [if_pos hcond]; simp only [show j.task.toNat = k from rfl, hs]; rw [if_pos (by exact ⟨by trivial, hi⟩)]
      have := hQ G1 _ (by rw [hp]; exact h1) s1'
      rw [hp] at this; exact this
end
end Go.Ez

/- A partition's table of jobs: one is got; a new table. -/
set_option linter.all false
namespace Go.Ez
open Go.Proofs Go.IntWalk
section
variable {H H' : AH} {col col' : Col} {c : List Nat}
variable {p : Nat} {raw : List RawC} {sl : List SlotC} {high : Bool} {f : Nat → Option Int} {sa : Option Addr} {sn sc bh : Nat}

theorem w_get_no (h : TabR H col c p sl high) (hcn : c ≠ []) (hfr : Fresh col H) {n : Int} (hn : ∀ k : Nat, n = k → ∀ t j, sl[k]? ≠ some (t, some j)) {Q : Value → AH → Prop}
    (hQ : ∀ H', TabR H' col c p sl high → Stp (fun _ => False) col H col H' → Q (.tuple #[.agg #[vI 0, vI 0, vI 0, vI 0, .slice none 0 0], .bool false]) H') : W prog XP F_tasks_Table_Get [.pointer (some ⟨p, 0, none⟩), vI n] H Q := by
  refine enterT _ (nf_F_tasks_Table_Get _ _ _ _ _) rfl ?_
  unfold vc_F_tasks_Table_Get
  refine nw.new fun q G a => ?_
  have sa' : Stp (fun _ => False) col H col G := Stp.none a.keep
  have hG := h.fr sa' fun _ _ h => h
  have hG' := hG
  obtain ⟨raw, f, sa, sn, sc, bh, h1, h2⟩ := hG
  have key : ∀ {X : Value → AH → Prop}, X (.pointer none) G → W prog XP F_tasks_Table_busy [.pointer (some ⟨p, 0, none⟩), vI n] G X := fun hX => by
    by_cases hin : 0 ≤ n ∧ n < sl.length
    · obtain ⟨k, rfl⟩ : ∃ k : Nat, n = k := ⟨n.toNat, by omega⟩
      have hk : k < sl.length := by omega
      cases hs : sl[k] with
      | mk t oj =>
        cases oj with
        | none => exact c_busy_no h1 (t := t) (by rw [List.getElem?_eq_getElem hk, hs]) (by decide) hX
        | some j => exact absurd (by rw [List.getElem?_eq_getElem hk, hs]) (hn k rfl t j)
    · exact c_busy_out h1 hin (by decide) hX
  refine key ?_
  simp only [r_p_eq]
  refine bcase_t rfl (st.do a.at_ rfl rfl (by simp) fun G2 w => ld_Aiiiil.mk w.at_ rfl (by simp [setMany, cellsOf]) ?_)
  obtain ⟨_, s2, s3⟩ := (a.own hfr).own_wr sa' (by rw [a.num]; exact Nat.le_refl _) w
  exact hQ G2 (hG'.fr s2 (nil_d hcn)) s3

theorem w_get (h : TabR H col c p sl high) (hcn : c ≠ []) (hfr : Fresh col H) {k : Nat} {t : TaskC} {j : JobC} (hs : sl[k]? = some (t, some j)) {Q : Value → AH → Prop}
    (hQ : ∀ H' col' m a n cap, RdE eOp 3 H' col' [m] a n cap j.ops → (∀ b, b < H.next → ¬ Under [m] (col b)) → TabR H' col' c p sl high → Stp (fun _ => False) col H col' H' →
      Q (.tuple #[.agg #[vI j.task, vI j.arrived, vI j.work, vI j.done, .slice a n cap], .bool true]) H') : W prog XP F_tasks_Table_Get [.pointer (some ⟨p, 0, none⟩), vI k] H Q := by
  refine enterT _ (nf_F_tasks_Table_Get _ _ _ _ _) rfl ?_
  unfold vc_F_tasks_Table_Get
  obtain ⟨m, hm⟩ := new_root col H
  have hpc : col p = c := let ⟨_, _, _, _, hb⟩ := h.bk; hb.cl
  have hcm : ¬ Under c [m] := under_root hcn h.lt hpc hm
  refine nw.new fun q1 G1 a1 => ?_
  have s1 : Stp (fun _ => False) col H col G1 := Stp.none a1.keep
  have h1 := h.fr s1 fun _ _ h => h
  have h1' := h1
  obtain ⟨raw, f, sa, sn, sc, bh, t1, t2⟩ := h1'
  obtain ⟨b, o, ds, g, q, rfl, e2, e3, e4, e5, e6, e7, e8, e9, e10⟩ := t1.slot hs
  cases q with
  | none => simp [SlotJ] at e6
  | some q =>
  obtain ⟨ja, jn, jc, k1, k2⟩ := e6
  refine c_busy t1 hs rfl (by decide) ?_
  simp only [r_p_eq]
  refine bcase_f rfl (dr.mk (ld_p.mk e2.get (e4 6 (by decide)) (dr.mk (ld_Aiiiil.mk k1.get rfl (by simp) (nw.new fun q2 G2 a2 => st.do a2.at_ rfl rfl (by simp) fun G3 w3 => ?_)))))
  have o1 := a1.own hfr
  have hf1 := s1.fresh hfr
  have s2 : Stp (fun _ => False) col H col G2 := a2.newer s1
  obtain ⟨o3, t3, s3⟩ := (a2.own hf1).own_wr s2 (by rw [a2.num]; exact s1.next) w3
  have t2' : Stp (fun _ => False) col G1 col G2 := a2.keep.stp _ _
  have o3' : Bk G3 col [] q2 [vI j.task, vI j.arrived, vI j.work, vI j.done, .slice ja jn jc] 0 := by simpa [setMany, cellsOf] using o3
  refine ld_l.mk o3'.get rfl ?_
  have hops := ((k2.fr t2' id).fr t3 (by simp)).rd eOp_len
  have hok := t1.ok.job k t j hs
  have hn : jn ≤ 1000000 := by have := k2.1; have := hok.ops; omega
  refine w_clone (cc := [m]) hops hn fun G4 col4 ca cc c4 s4 hget => ?_
  simp only [r_l_eq]
  have t4 : Stp (fun _ => False) col G3 col4 G4 := ⟨s4.next, s4.cl, fun b hb _ => hget b hb, s4.fresh⟩
  have o4 := o3'.fr t4 id
  refine st.do o4.get rfl rfl (by simp) fun G5 w5 => ?_
  have s04 : Stp (fun _ => False) col H col4 G4 := s3.trans t4
  obtain ⟨o5, t5, s5⟩ := o4.own_wr s04 (by rw [a2.num]; exact s1.next) w5
  have o5' : Bk G5 col4 [] q2 [vI j.task, vI j.arrived, vI j.work, vI j.done, .slice ca jn cc] 0 := by simpa [setMany, cellsOf] using o5
  refine ld_Aiiiil.mk o5'.get rfl (by simp) ?_
  have ne : q1 ≠ q2 := by have := o1.lt; have := a2.num; omega
  have o15 := (((o1.fr t2' id).other w3 ne).fr t4 id).other w5 ne
  refine st.do o15.get rfl rfl (by simp) fun G6 w6 => ld_Aiiiil.mk w6.at_ rfl (by simp [setMany, cellsOf]) ?_
  obtain ⟨_, t6, s6⟩ := o15.own_wr s5 (by rw [a1.num]; exact Nat.le_refl _) w6
  refine hQ G6 col4 m ca jn cc (((c4.rd eOp_len).fr t5 (by simp)).fr t6 (by simp)) hm ?_ s6
  exact ((((h1.fr t2' fun _ _ h => h).fr t3 (nil_d hcn)).fr t4 fun _ _ h => h).fr t5 (nil_d hcn)).fr t6 (nil_d hcn)

theorem w_tnew {d : List Nat} {a : Option Addr} {n cap : Nat} {ts : List TaskC} (h : RdE eTask 6 H col d a n cap ts) (hl : ts.length < 10000000000000) (hcn : c ≠ []) (hfr : Fresh col H) (hfc : ∀ b, b < H.next → ¬ Under c (col b)) {Q : Value → AH → Prop}
    (hno : ¬ (ts.length ≤ 6 ∧ ts.all (·.right) = true) → Q (.pointer none) H)
    (hQ : ts.length ≤ 6 → ts.all (·.right) = true → ∀ H' col' p, TabR H' col' c p (ts.map fun t => (t, none)) false → Stp (fun _ => False) col H col' H' → Q (.pointer (some ⟨p, 0, none⟩)) H') :
    W prog XP F_tasks_New [.slice a n cap] H Q := by
  refine enterT _ (nf_F_tasks_New _ _ _ _ _ _) rfl ?_
  unfold vc_F_tasks_New
  have hn := h.1
  intro X1 hX1
  refine bcase_dec (fun h6 => hno fun hh => by omega) fun h6 => ?_
  refine callT (p_contT (p := fun t => !t.right) h hl (fun t => rfl) fun t M Q hQ => callT (p_tnew1 t) TL_nd rfl (by decide) hQ) TL_nd rfl (by decide) ?_
  simp only [r_b_eq]
  refine bcase_both (fun hx => hno fun hh => ?_) fun hx => kp.mk (hX1 _ fun _ => ?_)
  · have : (!ts.any fun t => !t.right) = true := by rw [any_not]; exact hh.2
    rw [hx] at this; cases this
  · have hall : ts.all (·.right) = true := by rw [← any_not, hx]; rfl
    have hl6 : ts.length ≤ 6 := by omega
    have hfc1 : ∀ b, b < H.next → ¬ Under (1 :: c) (col b) := fun b hb e => hfc b hb e.cons
    refine w_hnew (room := 6) (c := 1 :: c) (by decide) hfc1 fun bh G1 col1 h1 s1 => ?_
    simp only [r_p_eq]
    refine nw.new fun p G2 a2 => ?_
    obtain ⟨k2, s2⟩ := a2.bk (fun _ => False) col1 c
    have h2 := h1.fr s2 fun _ _ h => h
    have s02 := s1.trans s2
    intro X hX
    have hr2 := h.fr s02 id
    have hdc : d ≠ c ∨ n = 0 := by
      rcases h.2 with ⟨_, h0, _⟩ | ⟨b, o, ds, ro, g, h1, h2, h3, _⟩
      · exact .inr h0
      · exact .inl fun e => hfc b h2 (by rw [h3, e]; exact Under.refl _)
    have loop := loop_up (X := X) (fun k (_ : Unit) => [vI k]) (fun k _ G => ∃ col3 sa sn sc, Bk G col3 c p [.slice sa sn sc, .pointer (some ⟨bh, 0, none⟩), .bool false] 0 ∧ SlE eSlot 7 G col3 (0 :: c) sa sn sc ((ts.take k).map fun t => (t, none)) ∧
        HpR G col3 (1 :: c) bh 6 (fun _ => none) ∧ Stp (fun _ => False) col H col3 G) n ?_ ?_
    · exact loop 0 () G2 (by omega) ⟨_, none, 0, 0, k2, by simpa using SlE.nil, h2, s02⟩
    · rintro _ G ⟨col3, sa, sn, sc, q1, q2, q3, q4⟩
      refine hX _ _ fun _ => bcase_dec (fun h => absurd h (by omega)) fun _ => ?_
      rw [hn, List.take_length] at q2
      refine hQ hl6 hall G col3 p ⟨_, _, sa, sn, sc, bh, ⟨q1, q2, q3, ⟨by simp, fun k s hs => ?_⟩, ⟨by simpa using hl6, fun s hs => ?_, fun k t j hs => ?_⟩⟩, fun k => ?_⟩ q4
      · rw [List.getElem?_map] at hs ⊢
        cases ht : ts[k]? with
        | none => rw [ht] at hs; cases hs
        | some t =>
          rw [ht] at hs; cases hs
          exact ⟨none, rfl, trivial⟩
      · simp only [List.mem_map] at hs
        obtain ⟨t, ht, rfl⟩ := hs
        exact List.all_eq_true.mp hall t ht
      · rw [List.getElem?_map] at hs
        cases ht : ts[k]? <;> rw [ht] at hs <;> cases hs
      · unfold dueM
        rw [List.getElem?_map]
        cases ts[k]? <;> rfl
    · rintro k _ G hk ⟨col3, sa, sn, sc, q1, q2, q3, q4⟩ go
      have e1 : IntKind.i64.wrap ((k : Int) + 1) = ((k + 1 : Nat) : Int) := by rw [i64_in _ (by omega)]; omega
      have hkt : k < ts.length := by omega
      obtain ⟨b, o, ds, ro, g', rfl, r2, r3, r4, r5, r6⟩ := (h.fr q4 id).at_ (i := k) (x := ts[k]) (by simp)
      refine hX _ _ fun _ => bcase_dec (fun _ => ix.mk (by omega) (by omega) (ld_Abiiiii.mk r3 (by rw [Int.toNat_natCast]; exact r6) (by rw [Int.toNat_natCast]; omega) (nw.new fun t1 G3 a3 => st.do a3.at_ rfl rfl (by simp) fun G4 w4 => ?_))) fun h => absurd (by omega) h
      have hf := q4.fresh hfr
      have s3 : Stp (fun _ => False) col H col3 G3 := a3.newer q4
      have t3 : Stp (fun _ => False) col3 G col3 G3 := a3.keep.stp _ _
      obtain ⟨o4, t4, s4⟩ := (a3.own hf).own_wr s3 (by rw [a3.num]; exact q4.next) w4
      have p1 := (q1.fr t3 id).fr t4 hcn
      have p2 := (q2.fr t3 id).fr t4 (by simp)
      have p3 := (q3.fr t3 fun _ _ h => h).fr t4 (nil_d (by simp))
      have o4' : Bk G4 col3 [] t1 (eTask ts[k]) 0 := by simpa [setMany, cellsOf, eTask] using o4
      refine dr.mk (ld_l.mk p1.get rfl (ld_Abiiiii.mk o4'.get rfl (by simp [eTask]) (nw.new fun t2 G5 a5 => ?_)))
      have t5 : Stp (fun _ => False) col3 G4 col3 G5 := a5.keep.stp _ _
      refine (p2.fr t5 id).push (y := (ts[k], none)) eSlot_len eSlot_cell a5.at_ (by decide) (by decide) (by have := p2.1; simp at this; omega) (by have := p2.1; simp at this; omega) fun a' cap' G6 col6 k6 s6 hget => ?_
      have p16 := (p1.fr t5 id).fr s6 (by simp)
      refine dr.mk (st.do p16.get rfl rfl (by simp) fun G7 w7 => kp.mk ?_)
      obtain ⟨p17, s7⟩ := p16.wrote w7
      rw [e1]
      have hp2 : H.next ≤ p := by rw [a2.num]; exact s1.next
      have hE6 : Stp (fun _ => False) col H col6 G6 := (a5.newer s4).newer s6 fun b hb e => hfc b hb (by rw [e]; exact ⟨[0], rfl⟩)
      refine go () G7 ⟨col6, a', sn + 1, cap', by simpa [setMany, cellsOf] using p17, ?_, ?_, Wrote1.newer hE6 w7 hp2⟩
      · have : ((ts.take (k + 1)).map fun t => ((t, none) : RawC)) = ((ts.take k).map fun t => (t, none)) ++ [(ts[k], none)] := by
          rw [List.take_succ, List.getElem?_eq_getElem hkt, List.map_append]; rfl
        rw [this]
        exact k6.fr s7 (by simp)
      · refine ((p3.fr t5 fun _ _ h => h).fr s6 fun x hx e => ?_).fr s7 fun x hx e => ?_
        · subst e; have := Under.apart (Under.refl (0 :: c)) hx; omega
        · subst e; exact hx.self
end
end Go.Ez
