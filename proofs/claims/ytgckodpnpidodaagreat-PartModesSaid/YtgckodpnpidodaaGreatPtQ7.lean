import Derived.Test.YtgckodpnpidodaaGreatPtQ4
set_option linter.all false
/- A partition: a tick of who runs. -/
set_option linter.all false
namespace Go.Ez
open Go.Proofs Go.IntWalk
def PartM.ran (m : PartM) (k : Nat) (t : TaskC) (j : JobC) : PartM := { m with sl := m.sl.set k (t, (runJ m.high t j).2) }
def PartM.work (m : PartM) (k : Nat) (t : TaskC) (j : JobC) : PartM :=
  if (runJ m.high t j).1 = 3 then (m.ran k t j).rise else if (runJ m.high t j).1 = 1 ∨ (runJ m.high t j).1 = 2 then (m.ran k t j).settle else m.ran k t j
def PartM.workE (m : PartM) (k : Nat) (t : TaskC) (j : JobC) : List EvC :=
  if (runJ m.high t j).1 = 3 then (m.ran k t j).riseE else if (runJ m.high t j).1 = 1 then (0, (k : Int), 0) :: (m.ran k t j).settleE else if (runJ m.high t j).1 = 2 then (1, (k : Int), 0) :: (m.ran k t j).settleE else []
section
variable {H H' : AH} {col col' : Col} {c : List Nat} {p : Nat} {m : PartM} {pt pp : Nat} {a : Option Addr} {n cap : Nat} {ptrs : List Nat}
theorem again3 {H : AH} {b g : Nat} {ro : Bool} {x y z : Int} (h : H.get b = some (.cells [vI x, vI y, vI z] ro g)) : Again H (.ldN 3 (.pointer (some ⟨b, 0, none⟩))) (.agg #[vI x, vI y, vI z]) := ⟨ldN_at h (by simp) rfl, by simp [veq]⟩
theorem w_work (h : PartR H col c p m) (hcn : c ≠ []) (hfr : Fresh col H) {k : Nat} {t : TaskC} {j : JobC} (hs : m.sl[k]? = some (t, some j)) {Q : Value → AH → Prop}
    (hQ : ∀ H' col' mm a cap, RdE eEv 3 H' col' [mm] a (m.workE k t j).length cap (m.workE k t j) → (∀ b, b < H.next → ¬ Under [mm] (col b)) → PartR H' col' c p (m.work k t j) → Stp (Under c) col H col' H' →
      Q (.tuple #[.agg #[vI j.op.1, vI j.op.2.1, vI j.op.2.2], .slice a (m.workE k t j).length cap]) H') :
    W prog XP F_part_Part_work [.pointer (some ⟨p, 0, none⟩), vI k] H Q := by
  refine enterT _ (nf_F_part_Part_work _ _ _ _ _) rfl ?_
  unfold vc_F_part_Part_work
  have hpl := h.lt
  have hpc := h.cl
  obtain ⟨pt, pp, a, n, cap, ptrs, k0⟩ := h
  have root : ∀ {mm : Nat} {col1 : Col} {G1 : AH}, Stp (Under c) col H col1 G1 → (∀ b, b < G1.next → ¬ Under [mm] (col1 b)) → ∀ b, b < H.next → ¬ Under [mm] (col b) := fun s hm b hb => by
    rw [← s.cl b hb]; exact hm b (Nat.lt_of_lt_of_le hb s.next)
  refine nw.new fun b1 G1 a1 => ?_
  have t1 : Stp (fun _ => False) col H col G1 := a1.keep.stp _ _
  have s1 : Stp (Under c) col H col G1 := t1.none'
  have k1 := k0.fr t1 fun _ _ h => h
  have o1 := a1.own hfr
  refine dr.mk (ld_p.mk k1.bk.get rfl (w_run k1.tab (by simp) (s1.fresh hfr) hs (k0.live k t j hs) fun G2 h2 t2 => ?_))
  simp only [r_T_Aiii_i_eq]
  have k2 : PartO G2 col c p (m.ran k t j) pt pp a n cap ptrs := k1.tab' t2 h2 (k0.live.run hs _)
  have s2 := s1.trans t2.under1
  have o1a := o1.fr t2 (under_nil (by simp))
  refine nw.new fun b2 G3 a3 => st.do a3.at_ rfl rfl (by simp) fun G4 w4 => ?_
  have t3 : Stp (fun _ => False) col G2 col G3 := a3.keep.stp _ _
  have s3 := s2.trans t3.none'
  obtain ⟨o2', t4, s4⟩ := (a3.own (s2.fresh hfr)).own_wr s3 (by rw [a3.num]; exact s2.next) w4
  have o2' : Bk G4 col [] b2 [vI j.op.1, vI j.op.2.1, vI j.op.2.2] 0 := by simpa [setMany, cellsOf] using o2'
  have ne : b1 ≠ b2 := by have := o1a.lt; rw [a3.num]; omega
  have o1b := (o1a.fr t3 id).other w4 ne
  have k4 := (k2.fr t3 fun _ _ h => h).fr t4 (nil_d hcn)
  have hb1 : H.next ≤ b1 := by rw [a1.num]; exact Nat.le_refl _
  obtain ⟨m1, hm1⟩ : ∃ m1, m1 = m.ran k t j := ⟨_, rfl⟩
  rw [← hm1] at k4
  have fin : ∀ (G : AH) (col1 : Col) (mm : Nat) (a : Option Addr) (cap : Nat), RdE eEv 3 G col1 [mm] a (m.workE k t j).length cap (m.workE k t j) → (∀ b, b < H.next → ¬ Under [mm] (col b)) → PartR G col1 c p (m.work k t j) → Stp (Under c) col H col1 G → Bk G col1 [] b1 [vI 0, vI 0, vI 0] 0 →
      (st G 3 (some ⟨b1, 0, none⟩) (.agg #[vI j.op.1, vI j.op.2.1, vI j.op.2.2]) fun H42 => ld_Aiii H42 (some ⟨b1, 0, none⟩) fun n43 n44 n45 => Q (.tuple #[(.agg #[(vI n43), (vI n44), (vI n45)]), (.slice a (m.workE k t j).length cap)]) H42) ∧ True := fun G col1 mm a cap r hm kk s o => by
    refine ⟨st.do o.get rfl rfl (by simp) fun G5 w5 => ld_Aiii.mk w5.at_ rfl (by simp [setMany, cellsOf]) ?_, trivial⟩
    obtain ⟨_, t5, s5⟩ := o.own_wr s hb1 w5
    exact hQ G5 col1 mm a cap (r.fr t5 (by simp)) hm (kk.fr t5 (nil_d hcn)) s5
  refine bcase_both (fun hr => ?_) fun hr3 => bcase_both (fun hr => ?_) fun hr1 => bcase_both (fun hr => ?_) fun hr2 => ?_
  · have hr : (runJ m.high t j).1 = 3 := by simpa using hr
    have eE : m.workE k t j = m1.riseE := by unfold PartM.workE; rw [if_pos hr, hm1]
    have eM : m.work k t j = m1.rise := by unfold PartM.work; rw [if_pos hr, hm1]
    refine ld_Aiii.mk o2'.get rfl (by simp [setMany, cellsOf]) (w_prise ⟨pt, pp, a, n, cap, ptrs, k4⟩ hcn (s4.fresh hfr) fun G5 col5 m5 a5 c5 r5 hm5 k5 t5 => ?_)
    simp only [r_l_eq]
    have q2 := o2'.fr t5 (under_nil hcn)
    refine ⟨again3 q2.get, ?_⟩
    rw [← eE] at r5 ⊢
    exact (fin G5 col5 m5 a5 c5 r5 (root s4 hm5) (by rw [eM]; exact k5) (s4.trans t5) (o1b.fr t5 (under_nil hcn))).1
  · have hr : (runJ m.high t j).1 = 1 := by simpa using hr
    have eE : m.workE k t j = (0, (k : Int), 0) :: m1.settleE := by unfold PartM.workE; rw [hm1]; simp [hr]
    have eM : m.work k t j = m1.settle := by unfold PartM.work; rw [hm1]; simp [hr]
    refine ld_Aiii.mk o2'.get rfl (by simp [setMany, cellsOf]) (nw.new fun b3 G5 a5 => ?_)
    have t5 : Stp (fun _ => False) col G4 col G5 := a5.keep.stp _ _
    have s5 := s4.trans t5.none'
    have o3 := a5.own (s4.fresh hfr)
    have k5 := k4.fr t5 fun _ _ h => h
    have rk : RdE eN 1 G5 col [] (some ⟨b3, 0, none⟩) 1 1 [k] := ⟨rfl, .inr ⟨b3, 0, _, false, 0, rfl, o3.lt, o3.cl, o3.get, by simp, fun i x hx => by
      rcases i with _ | i
      · cases hx; rfl
      · cases hx⟩⟩
    refine w_of rk (by omega) fun G6 col6 m6 a6 c6 r6 hm6 t6 => ?_
    simp only [r_l_eq]
    have s6 := s5.trans t6.none'
    have k6 := k5.fr t6 fun _ _ h => h
    have p1 := ((o1b.fr t5 id).fr t6 id)
    have p2 := ((o2'.fr t5 id).fr t6 id)
    have hm6' := root s5 hm6
    have hcm6 : ¬ Under c [m6] := under_root hcn hpl hpc hm6'
    refine ⟨again3 p2.get, w_settle ⟨pt, pp, a, n, cap, ptrs, k6⟩ hcn fun G7 col7 m7 a7 c7 r7 hm7 k7 t7 => ?_⟩
    simp only [r_l_eq]
    have s7 := s6.trans t7
    have q1 := p1.fr t7 (under_nil hcn)
    have q2 := p2.fr t7 (under_nil hcn)
    refine ⟨again3 q2.get, nw.new fun b8 G8 a8 => ?_⟩
    have t8 : Stp (fun _ => False) col7 G7 col7 G8 := a8.keep.stp _ _
    have hle := settleE_len (m := m1)
    refine w_concat ((((r6.fr t7 hcm6).fr t8 id)).rd eEv_len) (r7.fr t8 id) a8.at_ (by rw [a8.next, a8.num]; omega) (by omega) fun G9 col9 m9 a9 c9 r9 hm9 t9 => ?_
    simp only [r_l_eq]
    have hm9' := root (s7.trans t8.none') hm9
    have u2 := (q2.fr t8 id).fr t9 id
    refine ⟨again3 u2.get, ?_⟩
    have e : 1 + m1.settleE.length = (m.workE k t j).length := by rw [eE]; simp; omega
    have e2 : evs 0 [k] ++ m1.settleE = m.workE k t j := by rw [eE]; rfl
    rw [e, e2] at r9
    rw [e]
    have kk : PartR G9 col9 c p (m.work k t j) := by rw [eM]; exact (k7.fr t8 fun _ _ h => h).fr t9 fun _ _ h => h
    obtain ⟨fb, fh⟩ := fin G9 col9 m9 a9 c9 (r9.rd eEv_len) hm9' kk ((s7.trans t8.none').trans t9.none') ((q1.fr t8 id).fr t9 id)
    exact fb
  · have hr : (runJ m.high t j).1 = 2 := by simpa using hr
    have eE : m.workE k t j = (1, (k : Int), 0) :: m1.settleE := by unfold PartM.workE; rw [hm1]; simp [hr]
    have eM : m.work k t j = m1.settle := by unfold PartM.work; rw [hm1]; simp [hr]
    refine ld_Aiii.mk o2'.get rfl (by simp [setMany, cellsOf]) (nw.new fun b3 G5 a5 => ?_)
    have t5 : Stp (fun _ => False) col G4 col G5 := a5.keep.stp _ _
    have s5 := s4.trans t5.none'
    have o3 := a5.own (s4.fresh hfr)
    have k5 := k4.fr t5 fun _ _ h => h
    have rk : RdE eN 1 G5 col [] (some ⟨b3, 0, none⟩) 1 1 [k] := ⟨rfl, .inr ⟨b3, 0, _, false, 0, rfl, o3.lt, o3.cl, o3.get, by simp, fun i x hx => by
      rcases i with _ | i
      · cases hx; rfl
      · cases hx⟩⟩
    refine w_of rk (by omega) fun G6 col6 m6 a6 c6 r6 hm6 t6 => ?_
    simp only [r_l_eq]
    have s6 := s5.trans t6.none'
    have k6 := k5.fr t6 fun _ _ h => h
    have p1 := ((o1b.fr t5 id).fr t6 id)
    have p2 := ((o2'.fr t5 id).fr t6 id)
    have hm6' := root s5 hm6
    have hcm6 : ¬ Under c [m6] := under_root hcn hpl hpc hm6'
    refine ⟨again3 p2.get, w_settle ⟨pt, pp, a, n, cap, ptrs, k6⟩ hcn fun G7 col7 m7 a7 c7 r7 hm7 k7 t7 => ?_⟩
    simp only [r_l_eq]
    have s7 := s6.trans t7
    have q1 := p1.fr t7 (under_nil hcn)
    have q2 := p2.fr t7 (under_nil hcn)
    refine ⟨again3 q2.get, nw.new fun b8 G8 a8 => ?_⟩
    have t8 : Stp (fun _ => False) col7 G7 col7 G8 := a8.keep.stp _ _
    have hle := settleE_len (m := m1)
    refine w_concat ((((r6.fr t7 hcm6).fr t8 id)).rd eEv_len) (r7.fr t8 id) a8.at_ (by rw [a8.next, a8.num]; omega) (by omega) fun G9 col9 m9 a9 c9 r9 hm9 t9 => ?_
    simp only [r_l_eq]
    have hm9' := root (s7.trans t8.none') hm9
    have u2 := (q2.fr t8 id).fr t9 id
    refine ⟨again3 u2.get, ?_⟩
    have e : 1 + m1.settleE.length = (m.workE k t j).length := by rw [eE]; simp; omega
    have e2 : evs 1 [k] ++ m1.settleE = m.workE k t j := by rw [eE]; rfl
    rw [e, e2] at r9
    rw [e]
    have kk : PartR G9 col9 c p (m.work k t j) := by rw [eM]; exact (k7.fr t8 fun _ _ h => h).fr t9 fun _ _ h => h
    obtain ⟨fb, fh⟩ := fin G9 col9 m9 a9 c9 (r9.rd eEv_len) hm9' kk ((s7.trans t8.none').trans t9.none') ((q1.fr t8 id).fr t9 id)
    exact fb
  · have eE : m.workE k t j = [] := by unfold PartM.workE; simp at hr1 hr2 hr3; simp [hr1, hr2, hr3]
    have eM : m.work k t j = m1 := by unfold PartM.work; simp at hr1 hr2 hr3; simp [hr1, hr2, hr3, hm1]
    obtain ⟨mm, hm⟩ := new_root col H
    refine ld_Aiii.mk o2'.get rfl (by simp [setMany, cellsOf]) ?_
    have := fin G4 col mm none 0 (by rw [eE]; exact RdE.nil) hm (by rw [eM]; exact ⟨pt, pp, a, n, cap, ptrs, k4⟩) s4 o1b
    rw [eE] at this
    exact this.1
end
end Go.Ez

/- A partition: a tick. -/
set_option linter.all false
namespace Go.Ez
open Go.Proofs Go.IntWalk
structure RunO where
  srv : Bool
  n : Int
  op : OpC
  ev : List EvC
  next : PartM
def RunO.none (m : PartM) : RunO := ⟨false, 0, (0, 0, 0), [], m⟩
def PartM.run (m : PartM) (s0 : PickS) : RunO :=
  let s := m.pick s0
  if s.ok = false then RunO.none m
  else if s.srv = false then
    match m.sl[s.n.toNat]? with
    | some (t, some j) => ⟨false, s.n, j.op, m.workE s.n.toNat t j, m.work s.n.toNat t j⟩
    | _ => RunO.none m
  else
    match m.rows[s.n.toNat]? with
    | some r => ⟨true, s.n, (0, 0, 0), if r.serve.1 = 0 then [] else [(6, s.n, r.serve.1)], { m with rows := m.rows.set s.n.toNat r.serve.2 }⟩
    | none => RunO.none m
theorem RowM.Ok.serve {r : RowM} (h : r.Ok) : r.serve.2.Ok := by
  unfold RowM.serve
  cases hq : r.q with
  | nil => simpa [hq] using h
  | cons x q =>
    have hx : ∀ y ∈ x :: q, 1 ≤ y ∧ y ≤ 1048576 := fun y hy => h y (by rw [hq]; exact hy)
    simp only
    split
    · intro y hy
      simp only [List.mem_cons] at hy
      rcases hy with rfl | hy
      · have := hx x (by simp); omega
      · exact hx y (by simp [hy])
    · intro y hy
      exact hx y (by simp [hy])
section
variable {H H' : AH} {col col' : Col} {c : List Nat} {p : Nat} {m : PartM} {pt pp : Nat} {a : Option Addr} {n cap : Nat} {ptrs : List Nat}
/-- Who is picked is there. -/
theorem pick_job {s0 : PickS} (h0 : FirstOf m.sl m.high s0) (hok : (m.pick s0).ok = true) (hs : (m.pick s0).srv = false) : ∃ (k : Nat) (t : TaskC) (j : JobC), (m.pick s0).n = k ∧ m.sl[k]? = some (t, some j) := by
  unfold PartM.pick at hok hs ⊢
  split at hok
  · rename_i hu
    rw [if_pos hu] at hs ⊢
    rcases pickRows_srv 0 m.rows s0 with e | ⟨k, r, h1, h2, h3, h4, h5⟩
    · rw [e] at hok ⊢
      rcases h0 with ⟨_, rfl⟩ | ⟨x, d, e1, _, rfl⟩
      · cases hok
      · unfold dueOf dueM at e1
        cases hx : m.sl[x]? with
        | none => rw [hx] at e1; cases e1
        | some s =>
          obtain ⟨t, j⟩ := s
          cases j with
          | none => rw [hx] at e1; cases e1
          | some j => exact ⟨x, t, j, rfl, hx⟩
    · rw [h4] at hs; cases hs
  · cases hok
theorem pick_srv {s0 : PickS} (h0 : FirstOf m.sl m.high s0) (hok : (m.pick s0).ok = true) (hs : (m.pick s0).srv = true) : ∃ (k : Nat) (r : RowM), (m.pick s0).n = k ∧ m.rows[k]? = some r ∧ r.q ≠ [] := by
  unfold PartM.pick at hok hs ⊢
  split at hok
  · rename_i hu
    rw [if_pos hu] at hs ⊢
    rcases pickRows_srv 0 m.rows s0 with e | ⟨k, r, h1, h2, h3, h4, h5⟩
    · rw [e] at hs
      rcases h0 with ⟨_, rfl⟩ | ⟨x, d, e1, _, rfl⟩ <;> cases hs
    · exact ⟨k, r, by rw [h3]; simp, h1, h2⟩
  · cases hok
theorem w_prun (h : PartR H col c p m) (hcn : c ≠ []) (hfr : Fresh col H) {s0 : PickS} (h0 : FirstOf m.sl m.high s0) {Q : Value → AH → Prop}
    (hQ : ∀ H' col' mm a cap, RdE eEv 3 H' col' [mm] a (m.run s0).ev.length cap (m.run s0).ev → (∀ b, b < H.next → ¬ Under [mm] (col b)) → PartR H' col' c p (m.run s0).next → Stp (Under c) col H col' H' →
      Q (.tuple #[.agg #[.bool (m.run s0).srv, vI (m.run s0).n], .agg #[vI (m.run s0).op.1, vI (m.run s0).op.2.1, vI (m.run s0).op.2.2], .slice a (m.run s0).ev.length cap]) H') :
    W prog XP F_part_Part_Run [.pointer (some ⟨p, 0, none⟩)] H Q := by
  refine enterT _ (nf_F_part_Part_Run _ _ _ _) rfl ?_
  unfold vc_F_part_Part_Run
  have hpl := h.lt
  have hpc := h.cl
  have root : ∀ {mm : Nat} {col1 : Col} {G1 : AH}, Stp (Under c) col H col1 G1 → (∀ b, b < G1.next → ¬ Under [mm] (col1 b)) → ∀ b, b < H.next → ¬ Under [mm] (col b) := fun s hm b hb => by
    rw [← s.cl b hb]; exact hm b (Nat.lt_of_lt_of_le hb s.next)
  refine nw.new fun b1 G1 a1 => nw.new fun b2 G2 a2 => ?_
  have t1 : Stp (fun _ => False) col H col G1 := a1.keep.stp _ _
  have t2 : Stp (fun _ => False) col G1 col G2 := a2.keep.stp _ _
  have s2 : Stp (Under c) col H col G2 := t1.none'.trans t2.none'
  have o1 := (a1.own hfr).fr t2 id
  have o2 := a2.own (t1.fresh hfr)
  have h2 := (h.fr t1 fun _ _ h => h).fr t2 fun _ _ h => h
  have hb1 : H.next ≤ b1 := by rw [a1.num]; exact Nat.le_refl _
  have hb2 : H.next ≤ b2 := by rw [a2.num]; exact t1.next
  have ne12 : b1 ≠ b2 := by have := (a1.own hfr).lt; rw [a2.num]; omega
  refine c_pick h2 h0 (by decide) ?_
  unfold pickV
  simp only [r_T_Abi_b_eq]
  refine nw.new fun b3 G3 a3 => st.do a3.at_ rfl rfl (by simp) fun G4 w4 => ?_
  have t3 : Stp (fun _ => False) col G2 col G3 := a3.keep.stp _ _
  have s3 := s2.trans t3.none'
  have hb3 : H.next ≤ b3 := by rw [a3.num]; exact s2.next
  obtain ⟨o3, t4, s4⟩ := (a3.own (s2.fresh hfr)).own_wr s3 hb3 w4
  have o3 : Bk G4 col [] b3 [.bool (m.pick s0).srv, vI (m.pick s0).n] 0 := by simpa [setMany, cellsOf] using o3
  have ne13 : b1 ≠ b3 := by have := o1.lt; rw [a3.num]; omega
  have ne23 : b2 ≠ b3 := by have := o2.lt; rw [a3.num]; omega
  have o1 := (o1.fr t3 id).other w4 ne13
  have o2 := (o2.fr t3 id).other w4 ne23
  have h4 := (h2.fr t3 fun _ _ h => h).fr t4 (nil_d hcn)
  -- the end
  have fin : ∀ (G : AH) (col1 : Col) (mm : Nat) (a : Option Addr) (cap : Nat) (R : RunO), m.run s0 = R → RdE eEv 3 G col1 [mm] a R.ev.length cap R.ev → (∀ b, b < H.next → ¬ Under [mm] (col b)) → PartR G col1 c p R.next → Stp (Under c) col H col1 G →
      Bk G col1 [] b1 [.bool R.srv, vI R.n] 0 → Bk G col1 [] b2 [vI R.op.1, vI R.op.2.1, vI R.op.2.2] 0 → ld_Abi G (some ⟨b1, 0, none⟩) fun b38 n39 => ld_Aiii G (some ⟨b2, 0, none⟩) fun n40 n41 n42 =>
      Q (.tuple #[(.agg #[(.bool b38), (vI n39)]), (.agg #[(vI n40), (vI n41), (vI n42)]), (.slice a R.ev.length cap)]) G := fun G col1 mm a cap R e r hm kk s p1 p2 => by
    subst e
    exact ld_Abi.mk p1.get rfl (by simp) (ld_Aiii.mk p2.get rfl (by simp) (hQ G col1 mm a cap r hm kk s))
  obtain ⟨mm, hm⟩ := new_root col H
  refine bcase_both (fun hok => ?_) fun hok => ?_
  · have hok' : (m.pick s0).ok = false := by simpa using hok
    have eR : m.run s0 = RunO.none m := by unfold PartM.run; simp only [hok', if_true]
    refine st.do o1.get rfl rfl (by simp) fun G5 w5 => ?_
    obtain ⟨p1, t5, s5⟩ := o1.own_wr s4 hb1 w5
    have p2 := o2.other w5 ne12.symm
    refine st.do p2.get rfl rfl (by simp) fun G6 w6 => ?_
    obtain ⟨q2, t6, s6⟩ := p2.own_wr s5 hb2 w6
    have q1 := p1.other w6 ne12
    exact fin G6 col mm none 0 _ eR RdE.nil hm ((h4.fr t5 (nil_d hcn)).fr t6 (nil_d hcn)) s6 (by simp [setMany, cellsOf] at q1; exact q1) (by simp [setMany, cellsOf] at q2; exact q2)
  have hok' : (m.pick s0).ok = true := by simpa using hok
  refine ld_b.mk o3.get rfl (bcase_both (fun hsv => ?_) fun hsv => ?_)
  · have hsv' : (m.pick s0).srv = false := by simpa using hsv
    obtain ⟨k, t, j, hk, hj⟩ := pick_job h0 hok' hsv'
    have eR : m.run s0 = ⟨false, k, j.op, m.workE k t j, m.work k t j⟩ := by
      unfold PartM.run
      simp only [hok', hsv', hk, Int.toNat_natCast, hj]; rfl
    refine ld_i.mk o3.get rfl ?_
    rw [hk]
    refine w_work h4 hcn (s4.fresh hfr) hj fun G5 col5 m5 a5 c5 r5 hm5 k5 t5 => ?_
    simp only [r_T_Aiii_l_eq]
    have s5 := s4.trans t5
    have n0 := under_nil hcn
    have p1 := o1.fr t5 n0
    have p2 := o2.fr t5 n0
    have p3 := o3.fr t5 n0
    refine nw.new fun b6 G6 a6 => st.do a6.at_ rfl rfl (by simp) fun G7 w7 => ?_
    have t6 : Stp (fun _ => False) col5 G5 col5 G6 := a6.keep.stp _ _
    have s6 := s5.trans t6.none'
    have hb6 : H.next ≤ b6 := by rw [a6.num]; exact s5.next
    obtain ⟨q4, t7, s7⟩ := (a6.own (s5.fresh hfr)).own_wr s6 hb6 w7
    have ne16 : b1 ≠ b6 := by have := p1.lt; rw [a6.num]; omega
    have ne26 : b2 ≠ b6 := by have := p2.lt; rw [a6.num]; omega
    have ne36 : b3 ≠ b6 := by have := p3.lt; rw [a6.num]; omega
    have q1 := (p1.fr t6 id).other w7 ne16
    have q2 := (p2.fr t6 id).other w7 ne26
    have q3 := (p3.fr t6 id).other w7 ne36
    have q4 : Bk G7 col5 [] b6 [vI j.op.1, vI j.op.2.1, vI j.op.2.2] 0 := by simpa [setMany, cellsOf] using q4
    refine ld_Abi.mk q3.get rfl (by simp) (ld_Aiii.mk q4.get rfl (by simp) (st.do q1.get rfl rfl (by simp) fun G8 w8 => ?_))
    obtain ⟨u1, t8, s8⟩ := q1.own_wr s7 hb1 w8
    have u2 := q2.other w8 ne12.symm
    have u4 := q4.other w8 ne16.symm
    refine ⟨again3 u4.get, st.do u2.get rfl rfl (by simp) fun G9 w9 => ?_⟩
    obtain ⟨v2, t9, s9⟩ := u2.own_wr s8 hb2 w9
    have v1 := u1.other w9 ne12
    have rr := (((r5.fr t6 id).fr t7 (by simp)).fr t8 (by simp)).fr t9 (by simp)
    have kk := (((k5.fr t6 fun _ _ h => h).fr t7 (nil_d hcn)).fr t8 (nil_d hcn)).fr t9 (nil_d hcn)
    exact fin G9 col5 m5 a5 c5 _ eR rr (root s4 hm5) kk s9 (by rw [hsv', hk] at v1; simpa [setMany, cellsOf] using v1) (by simpa [setMany, cellsOf] using v2)
  · have hsv' : (m.pick s0).srv = true := by simpa using hsv
    obtain ⟨k, r, hk, hr, hq⟩ := pick_srv h0 hok' hsv'
    have eR : m.run s0 = ⟨true, k, (0, 0, 0), if r.serve.1 = 0 then [] else [(6, (k : Int), r.serve.1)], { m with rows := m.rows.set k r.serve.2 }⟩ := by
      unfold PartM.run
      simp only [hok', hsv', hk, Int.toNat_natCast, hr]; rfl
    obtain ⟨pt, pp, a, n, cap, ptrs, k4⟩ := h4
    have hkl : k < m.rows.length := by
      rcases Nat.lt_or_ge k m.rows.length with h | h
      · exact h
      · rw [List.getElem?_eq_none h] at hr; cases hr
    have hkn : k < n := by have := k4.sls.1; have := k4.rows.1; omega
    obtain ⟨b, o, ds, g, q, r', ea, e2, e3, e4, e5, e6, e7⟩ := RowsR.at_ k4.sls k4.rows hkn
    rw [hr] at e4; cases e4
    subst ea
    refine dr.mk (ld_l.mk k4.bk.get rfl (ld_i.mk o3.get rfl ?_))
    rw [hk]
    cases hqq : r.q with
    | nil => exact absurd hqq hq
    | cons x qs =>
      refine ix.mk (by omega) (by omega) (ld_p.mk e2 (by rw [Int.toNat_natCast]; exact e3) (w_serve e5 (by simp) (s4.fresh hfr) hqq (e6 x (by rw [hqq]; simp)) fun G5 col5 r5 t5 => ?_))
      simp only [r_i_eq]
      have t5' : Stp (Under (3 :: c)) col G4 col5 G5 := t5.under1
      have rows5 := k4.rows.set hkl e7 t5 r5 e6.serve
      have k5 := k4.rows' t5' rows5
      have s5 := s4.trans t5'.under1
      have n0 := under_nil (c := 3 :: c) (by simp)
      have p1 := o1.fr t5' n0
      have p2 := o2.fr t5' n0
      have p3 := o3.fr t5' n0
      refine bcase_both (fun hz => ?_) fun hz => ?_
      · have hz' : r.serve.1 = 0 := by simpa using hz
        rw [if_pos hz'] at eR
        refine ld_Abi.mk p3.get rfl (by simp) (st.do p1.get rfl rfl (by simp) fun G8 w8 => ?_)
        obtain ⟨u1, t8, s8⟩ := p1.own_wr s5 hb1 w8
        have u2 := p2.other w8 ne12.symm
        refine st.do u2.get rfl rfl (by simp) fun G9 w9 => ?_
        obtain ⟨v2, t9, s9⟩ := u2.own_wr s8 hb2 w9
        have v1 := u1.other w9 ne12
        have kk := (k5.fr t8 (nil_d hcn)).fr t9 (nil_d hcn)
        exact fin G9 col5 mm none 0 _ eR RdE.nil hm ⟨_, _, _, _, _, _, kk⟩ s9 (by rw [hsv', hk] at v1; simpa [setMany, cellsOf] using v1) (by simpa [setMany, cellsOf] using v2)
      · have hz' : ¬ r.serve.1 = 0 := by simpa using hz
        rw [if_neg hz'] at eR
        refine ld_Abi.mk p3.get rfl (by simp) (ld_i.mk p3.get rfl (nw.new fun b6 G6 a6 => ?_))
        rw [hk]
        have t6 : Stp (fun _ => False) col5 G5 (setC col5 b6 [mm]) G6 := (a6.bk (fun _ => False) col5 [mm]).2
        have e6b := (a6.bk (fun _ => False) col5 [mm]).1
        have s6 := s5.trans t6.none'
        have p1 := p1.fr t6 id
        have p2 := p2.fr t6 id
        have p3 := p3.fr t6 id
        refine st.do p1.get rfl rfl (by simp) fun G8 w8 => ?_
        obtain ⟨u1, t8, s8⟩ := p1.own_wr s6 hb1 w8
        have u2 := p2.other w8 ne12.symm
        have u3 := p3.other w8 ne13.symm
        refine ⟨⟨ld1_at u3.get (by simp [hk]), by simp [veq]⟩, st.do u2.get rfl rfl (by simp) fun G9 w9 => ?_⟩
        obtain ⟨v2, t9, s9⟩ := u2.own_wr s8 hb2 w9
        have v1 := u1.other w9 ne12
        have v3 := u3.other w9 ne23.symm
        refine ⟨⟨ld1_at v3.get (by simp [hk]), by simp [veq]⟩, ?_⟩
        have kk := ((k5.fr t6 fun _ _ h => h).fr t8 (nil_d hcn)).fr t9 (nil_d hcn)
        have eb := (e6b.fr t8 (by simp)).fr t9 (by simp)
        refine fin G9 _ mm _ 1 _ eR ⟨rfl, .inr ⟨b6, 0, _, false, 0, rfl, eb.lt, eb.cl, eb.get, by simp, fun i y hy => ?_⟩⟩ hm ⟨_, _, _, _, _, _, kk⟩ s9 (by rw [hsv'] at v1; simpa [setMany, cellsOf] using v1) (by simpa [setMany, cellsOf] using v2)
        rcases i with _ | i
        · cases hy; rw [← hk]; rfl
        · cases hy
end
end Go.Ez

/- A partition: stop, restart, arrivals, requests, jobs. -/
set_option linter.all false
namespace Go.Ez
open Go.Proofs Go.IntWalk
def PartM.stop (m : PartM) : PartM := { m with sl := m.sl.map fun s => (s.1, none), high := false, ph := false, rows := m.rows.map RowM.empty, up := false }
def PartM.restart (m : PartM) : PartM := { m.stop with up := true }
theorem RowM.Ok.empty {r : RowM} : r.empty.Ok := fun x hx => by simp [RowM.empty] at hx
section
variable {H H' : AH} {col col' : Col} {c : List Nat} {p : Nat} {m : PartM} {pt pp : Nat} {a : Option Addr} {n cap : Nat} {ptrs : List Nat}
theorem PartO.flag (h : PartO H col c p m pt pp a n cap ptrs) {x : Bool} {K : AH → Prop} (hK : ∀ H', PartO H' col c p { m with up := x } pt pp a n cap ptrs → Stp (Under c) col H col H' → K H') : st H 1 (some ⟨p, 0 + 3, none⟩) (.bool x) K := by
  refine st.do h.bk.get rfl rfl (by simp) fun G w => ?_
  obtain ⟨b1, s1⟩ := h.bk.wrote w
  exact hK G ⟨by simpa [setMany, cellsOf] using b1, h.tab.fr s1 fun x hx => und0c hx, h.pol.fr s1 fun x hx => und0c hx, h.sls.fr s1 (by simp), h.rows.fr s1 fun x hx => und0c hx, h.few, h.live⟩ s1.under0
theorem w_pstop (h : PartR H col c p m) (hcn : c ≠ []) (hfr : Fresh col H) {Q : Value → AH → Prop}
    (hQ : ∀ H' col', PartR H' col' c p m.stop → Stp (Under c) col H col' H' → Q (.tuple #[]) H') : W prog XP F_part_Part_Stop [.pointer (some ⟨p, 0, none⟩)] H Q := by
  refine enterT _ (nf_F_part_Part_Stop _ _ _ _) rfl ?_
  unfold vc_F_part_Part_Stop
  refine c_pnone h (by decide) ?_
  simp only [r_b_eq]
  obtain ⟨pt, pp, a, n, cap, ptrs, k⟩ := h
  refine bcase_f rfl (dr.mk (k.flag fun G1 k1 s1 => dr.mk (ld_p.mk k1.bk.get rfl (w_clear k1.tab (by simp) (s1.fresh hfr) fun G2 col2 t2 s2 => ?_))))
  have k2 := k1.tab' s2 t2 Wants.none
  simp only [r_T_eq]
  refine dr.mk (ld_p.mk k2.bk.get rfl (w_drop k2.pol fun G3 t3 s3 => ?_))
  have k3 := k2.pol' s3 t3
  simp only [r_T_eq]
  have s03 := (s1.trans s2.under1).trans s3.under1
  refine dr.mk (ld_l.mk k3.bk.get rfl ?_)
  intro X hX
  refine rows_loop (g := RowM.empty) k3.sls k3.rows k3.few no23 (fun i G col4 b o ds g' r q hi ea e1 e2 e3 e4 s4 go => ?_) fun G col4 q1 q2 => ?_
  · subst ea
    refine hX _ _ fun _ => bcase_dec (fun _ => ix.mk (by omega) (by omega) (ld_p.mk e1 (by rw [Int.toNat_natCast]; exact e2) (w_empty e3 fun G' col' g2 s5 => ?_))) fun h => absurd (by omega) h
    simp only [r_T_eq]
    exact kp.mk (go G' col' g2 RowM.Ok.empty s5)
  · refine hX _ _ fun _ => bcase_dec (fun h => absurd h (by omega)) fun _ => ?_
    exact hQ G col4 ⟨pt, pp, a, n, cap, ptrs, k3.rows' q2 q1⟩ (s03.trans q2.under1)
theorem w_prestart (h : PartR H col c p m) (hcn : c ≠ []) (hfr : Fresh col H) {Q : Value → AH → Prop}
    (hQ : ∀ H' col', PartR H' col' c p m.restart → Stp (Under c) col H col' H' → Q (.tuple #[]) H') : W prog XP F_part_Part_Restart [.pointer (some ⟨p, 0, none⟩)] H Q := by
  refine enterT _ (nf_F_part_Part_Restart _ _ _ _) rfl ?_
  unfold vc_F_part_Part_Restart
  refine c_pnone h (by decide) ?_
  simp only [r_b_eq]
  refine bcase_t rfl (w_pstop h hcn hfr fun G1 col1 k1 s1 => ?_)
  simp only [r_T_eq]
  obtain ⟨pt, pp, a, n, cap, ptrs, k⟩ := k1
  exact dr.mk (k.flag fun G2 k2 s2 => hQ G2 col1 ⟨pt, pp, a, n, cap, ptrs, k2⟩ (s1.trans s2))

def PartM.arrive (m : PartM) (now : Int) (j : JobC) : Int × PartM :=
  if m.up = false then (41, m) else if mayM m.ks m.ph j.task now ≠ 0 then (mayM m.ks m.ph j.task now, m) else
    let e := putM m.sl m.high { j with arrived := now }
    if e.1 ≠ 0 then (e.1, { m with sl := e.2 }) else (0, { m with sl := e.2, ks := takeM m.ks j.task now })
theorem Wants.put {sl : List SlotC} (h : Wants sl) (high : Bool) (j : JobC) : Wants (putM sl high j).2 := by
  unfold putM
  split
  · rename_i hr
    have hj := JobC.right_iff.mp hr.2.2
    split
    · split
      · exact h
      · exact h.set fun x hx => by cases hx; omega
    · exact h
  · exact h
theorem w_arrive (h : PartR H col c p m) (hcn : c ≠ []) (hfr : Fresh col H) {now : Int} {j : JobC} {d : List Nat} {ja : Option Addr} {jn jc : Nat} (ho : RdE eOp 3 H col d ja jn jc j.ops) (hn : jn ≤ 1000000) (hd : ¬ Under c d) {Q : Value → AH → Prop}
    (hQ : ∀ H' col', PartR H' col' c p (m.arrive now j).2 → Stp (Under c) col H col' H' → Q (vI (m.arrive now j).1) H') :
    W prog XP F_part_Part_Arrive [.pointer (some ⟨p, 0, none⟩), vI now, .agg #[vI j.task, vI j.arrived, vI j.work, vI j.done, .slice ja jn jc]] H Q := by
  refine enterT _ (nf_F_part_Part_Arrive _ _ _ _ _ _ _ _ _ _ _ _) rfl ?_
  unfold vc_F_part_Part_Arrive
  refine nw.new fun b1 G1 a1 => ?_
  have t1 : Stp (fun _ => False) col H col G1 := a1.keep.stp _ _
  have s1 : Stp (Under c) col H col G1 := t1.none'
  have o1 := a1.own hfr
  have hb1 : H.next ≤ b1 := by rw [a1.num]; exact Nat.le_refl _
  have h1 := h.fr t1 fun _ _ h => h
  have h1' := h1
  refine c_pnone h1 (by decide) ?_
  simp only [r_b_eq]
  obtain ⟨pt, pp, a, n, cap, ptrs, k⟩ := h1
  refine bcase_f rfl (dr.mk (ld_b.mk k.bk.get rfl (bcase_both (fun hu => ?_) fun hu => ?_)))
  · have hu' : m.up = false := by simpa using hu
    have e : m.arrive now j = (41, m) := by unfold PartM.arrive; rw [if_pos hu']
    rw [e] at hQ
    exact hQ G1 col h1' s1
  have hu' : ¬ m.up = false := by simpa using hu
  refine dr.mk (ld_p.mk k.bk.get rfl (ld_i.mk o1.get rfl (c_may k.pol (by decide) ?_)))
  simp only [r_i_eq]
  refine bcase_both (fun hm => ?_) fun hm => ?_
  · have hm' : mayM m.ks m.ph j.task now ≠ 0 := by simpa using hm
    have e : m.arrive now j = (mayM m.ks m.ph j.task now, m) := by unfold PartM.arrive; rw [if_neg hu', if_pos hm']
    rw [e] at hQ
    exact hQ G1 col h1' s1
  have hm' : mayM m.ks m.ph j.task now = 0 := by simpa using hm
  refine st.do o1.get rfl rfl (by simp) fun G2 w2 => ?_
  obtain ⟨o2, t2, s2⟩ := o1.own_wr s1 hb1 w2
  have o2 : Bk G2 col [] b1 [vI j.task, vI now, vI j.work, vI j.done, .slice ja jn jc] 0 := by simpa [setMany, cellsOf] using o2
  have k2 := k.fr t2 (nil_d hcn)
  have ho2 := (ho.fr t1 id)
  -- the operations' block is not the call's own
  have ho2 : RdE eOp 3 G2 col d ja jn jc j.ops := by
    refine ⟨ho2.1, ho2.2.imp id fun ⟨b, o, ds, ro, g, e1, e2, e3, e4, e5⟩ => ⟨b, o, ds, ro, g, e1, by rw [w2.next]; exact e2, e3, ?_, e5⟩⟩
    have hbn : b ≠ b1 := by
      rcases ho.2 with ⟨h, _⟩ | ⟨b', o', _, _, _, h1, h2, _⟩
      · rw [h] at e1; cases e1
      · rw [h1] at e1; cases e1; omega
    exact (w2.other b hbn).trans e4
  refine dr.mk (ld_p.mk k2.bk.get rfl (ld_Aiiiil.mk o2.get rfl (by simp) ?_))
  have hde : ¬ Under (0 :: c) d := fun e => hd e.cons
  refine w_put (j := { j with arrived := now }) k2.tab (by simp) (s2.fresh hfr) ho2 hn hde fun G3 col3 t3 s3 => ?_
  simp only [r_i_eq]
  have k3 := k2.tab' s3 t3 (k2.live.put _ _)
  refine bcase_both (fun he => ?_) fun he => ?_
  · have he' : (putM m.sl m.high { j with arrived := now }).1 ≠ 0 := by simpa using he
    have e : m.arrive now j = ((putM m.sl m.high { j with arrived := now }).1, { m with sl := (putM m.sl m.high { j with arrived := now }).2 }) := by
      unfold PartM.arrive; rw [if_neg hu', if_neg (by simpa using hm')]; simp only; rw [if_pos he']
    rw [e] at hQ
    exact hQ G3 col3 ⟨_, _, _, _, _, _, k3⟩ (s2.trans s3.under1)
  have he' : (putM m.sl m.high { j with arrived := now }).1 = 0 := by simpa using he
  have e : m.arrive now j = (0, { m with sl := (putM m.sl m.high { j with arrived := now }).2, ks := takeM m.ks j.task now }) := by
    unfold PartM.arrive; rw [if_neg hu', if_neg (by simpa using hm')]; simp only; rw [if_neg (by simpa using he')]
  rw [e] at hQ
  have o3 := o2.fr s3 (under_nil (by simp))
  refine dr.mk (ld_p.mk k3.bk.get rfl (ld_i.mk o3.get rfl (w_take k3.pol (fun h => absurd hm' h) fun _ G4 t4 s4 => ?_)))
  simp only [r_i_eq]
  exact hQ G4 col3 ⟨_, _, _, _, _, _, k3.pol' s4 t4⟩ ((s2.trans s3.under1).trans s4.under1)

def PartM.request (m : PartM) (i x : Int) : Int × PartM :=
  if m.up = false then (41, m) else if 0 ≤ i ∧ 1 ≤ x ∧ x ≤ 1048576 then
    match m.rows[i.toNat]? with
    | some r => if r.q.length = 8 then (5, m) else (0, { m with rows := m.rows.set i.toNat ⟨r.bud, r.q ++ [x], r.first⟩ })
    | none => (1, m)
  else (1, m)
theorem w_prequest (h : PartR H col c p m) {i x : Int} {Q : Value → AH → Prop}
    (hQ : ∀ H' col', PartR H' col' c p (m.request i x).2 → Stp (Under c) col H col' H' → Q (vI (m.request i x).1) H') :
    W prog XP F_part_Part_Request [.pointer (some ⟨p, 0, none⟩), vI i, vI x] H Q := by
  refine enterT _ (nf_F_part_Part_Request _ _ _ _ _ _) rfl ?_
  unfold vc_F_part_Part_Request
  have h' := h
  refine c_pnone h (by decide) ?_
  simp only [r_b_eq]
  obtain ⟨pt, pp, a, n, cap, ptrs, k⟩ := h
  have hl := k.rows.1
  have hn := k.sls.1
  refine bcase_f rfl (dr.mk (ld_b.mk k.bk.get rfl (bcase_both (fun hu => ?_) fun hu => ?_)))
  · have hu' : m.up = false := by simpa using hu
    have e : m.request i x = (41, m) := by unfold PartM.request; rw [if_pos hu']
    rw [e] at hQ
    exact hQ H col h' (Stp.refl _ _ _)
  have hu' : ¬ m.up = false := by simpa using hu
  intro X hX
  have bad : ¬ (0 ≤ i ∧ i < n ∧ 1 ≤ x ∧ x ≤ 1048576) → X [.bool true] H := fun hb => by
    have e : m.request i x = (1, m) := by
      unfold PartM.request; rw [if_neg hu']
      by_cases h1 : 0 ≤ i ∧ 1 ≤ x ∧ x ≤ 1048576
      · rw [if_pos h1, List.getElem?_eq_none (by omega)]
      · rw [if_neg h1]
    rw [e] at hQ
    exact hX _ _ fun _ => bcase_t rfl (hQ H col h' (Stp.refl _ _ _))
  refine bcase_dec (fun h0 => kp.mk (bad (by omega))) fun h0 => dr.mk (ld_l.mk k.bk.get rfl (bcase_dec (fun h1 => kp.mk (bad (by omega))) fun h1 => bcase_dec (fun h2 => kp.mk (bad (by omega))) fun h2 => kp.mk ?_))
  by_cases h3 : 1048576 < x
  · rw [decide_eq_true h3]; exact bad (by omega)
  rw [decide_eq_false h3]
  obtain ⟨b, o, ds, g, q, r, ea, e2, e3, e4, ⟨vb, pr, e5, e6, e7⟩, e8, e9⟩ := RowsR.at_ k.sls k.rows (k := i.toNat) (by omega)
  subst ea
  have er : m.request i x = if r.q.length = 8 then (5, m) else (0, { m with rows := m.rows.set i.toNat ⟨r.bud, r.q ++ [x], r.first⟩ }) := by
    unfold PartM.request; rw [if_neg hu', if_pos (by omega), e4]
  rw [er] at hQ
  refine hX _ _ fun _ => bcase_f rfl (dr.mk (ld_l.mk k.bk.get rfl (ix.mk (by omega) (by omega) (ld_p.mk e2 e3 (dr.mk (ld_p.mk e5.get rfl (w_rpush e7 (fun hf => ?_) fun hf G1 k1 s1 => ?_)))))))
  · simp only [r_b_eq]
    rw [if_pos hf] at hQ
    exact bcase_t rfl (hQ H col h' (Stp.refl _ _ _))
  · simp only [r_b_eq]
    rw [if_neg (by omega)] at hQ
    have hrow : RowR G1 col (i.toNat :: 3 :: c) q ⟨r.bud, r.q ++ [x], r.first⟩ := ⟨vb, pr, e5.fr s1 (fun e => e.self), e6.fr s1 fun x => und01, k1⟩
    have rows1 := k.rows.set (k := i.toNat) (by omega) e9 s1.under1 hrow (fun y hy => by
      rcases List.mem_append.mp hy with h | h
      · exact e8 y h
      · simp at h; omega)
    exact bcase_f rfl (hQ G1 col ⟨_, _, _, _, _, _, k.rows' s1.under1.under1 rows1⟩ s1.under1.under1.under1)
end
end Go.Ez
