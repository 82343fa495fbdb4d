import Derived.Test.YtgckodpnpidodaaGreatPtB4
set_option linter.all false
/- A row: a server's requests and its budget, of either kind. -/
set_option linter.all false
namespace Go.Ez
open Go.Proofs Go.IntWalk
inductive BudM where
  | ref (b : RefB)
  | chk (b : ChkB)
def BudM.use : BudM → BudM
  | .ref b => .ref b.use
  | .chk b => .chk b.use
def BudM.done : BudM → BudM
  | .ref b => .ref b.done
  | .chk b => .chk b.done
def BudM.stop : BudM → BudM
  | .ref b => .ref b.stop
  | .chk b => .chk b.stop
def BudM.resume : BudM → BudM
  | .ref b => .ref b.resume
  | .chk b => .chk b.resume
def BudM.reset : BudM → BudM
  | .ref b => .ref b.reset
  | .chk b => .chk b.reset
def BudM.go (now : Int) (busy : Bool) : BudM → BudM
  | .ref b => .ref (b.go now busy)
  | .chk b => .chk (b.go now busy)
def BudM.due : BudM → Option Int
  | .ref b => b.due
  | .chk b => b.due
structure RowM where
  bud : BudM
  q : List Int
  first : Int
section
variable {H H' : AH} {col col' : Col} {c : List Nat}
def BudR (H : AH) (col : Col) (c : List Nat) (v : Value) : BudM → Prop
  | .ref b => ∃ p, v = .iface T_Prefill_Budget (.pointer (some ⟨p, 0, none⟩)) ∧ RefR H col c p b
  | .chk b => ∃ p, v = .iface T_Pchunk_Budget (.pointer (some ⟨p, 0, none⟩)) ∧ ChkR H col c p b
theorem BudR.fr {v : Value} {b : BudM} (h : BudR H col c v b) {D : List Nat → Prop} (s : Stp D col H col' H') (hd : ∀ x, Under c x → ¬ D x) : BudR H' col' c v b := by
  cases b with
  | ref b => obtain ⟨p, h1, h2⟩ := h; exact ⟨p, h1, h2.fr s hd⟩
  | chk b => obtain ⟨p, h1, h2⟩ := h; exact ⟨p, h1, h2.fr s hd⟩
theorem BudR.up {v : Value} {b : BudM} (h : BudR H col c v b) {N : Nat} (hN : H.next ≤ N) : BudR (H.up N) col c v b := by
  cases b with
  | ref b => obtain ⟨p, h1, h2⟩ := h; exact ⟨p, h1, h2.up hN⟩
  | chk b => obtain ⟨p, h1, h2⟩ := h; exact ⟨p, h1, h2.up hN⟩
theorem BudR.cell {v : Value} {b : BudM} (h : BudR H col c v b) : isCell v = true := by
  cases b with
  | ref b => obtain ⟨p, rfl, _⟩ := h; rfl
  | chk b => obtain ⟨p, rfl, _⟩ := h; rfl

theorem inv_r1 {G : AH} {v : Value} : invA Tryz.prog G (.iface T_Prefill_Budget v) "Use" = some (F_refill_Budget_Use, v) := by kernel_rfl
theorem inv_r2 {G : AH} {v : Value} : invA Tryz.prog G (.iface T_Prefill_Budget v) "Done" = some (F_refill_Budget_Done, v) := by kernel_rfl
theorem inv_r3 {G : AH} {v : Value} : invA Tryz.prog G (.iface T_Prefill_Budget v) "Stop" = some (F_refill_Budget_Stop, v) := by kernel_rfl
theorem inv_r4 {G : AH} {v : Value} : invA Tryz.prog G (.iface T_Prefill_Budget v) "Resume" = some (F_refill_Budget_Resume, v) := by kernel_rfl
theorem inv_r5 {G : AH} {v : Value} : invA Tryz.prog G (.iface T_Prefill_Budget v) "Reset" = some (F_refill_Budget_Reset, v) := by kernel_rfl
theorem inv_r6 {G : AH} {v : Value} : invA Tryz.prog G (.iface T_Prefill_Budget v) "Go" = some (F_refill_Budget_Go, v) := by kernel_rfl
theorem inv_r7 {G : AH} {v : Value} : invA Tryz.prog G (.iface T_Prefill_Budget v) "Due" = some (F_refill_Budget_Due, v) := by kernel_rfl
theorem inv_c1 {G : AH} {v : Value} : invA Tryz.prog G (.iface T_Pchunk_Budget v) "Use" = some (F_chunk_Budget_Use, v) := by kernel_rfl
theorem inv_c2 {G : AH} {v : Value} : invA Tryz.prog G (.iface T_Pchunk_Budget v) "Done" = some (F_chunk_Budget_Done, v) := by kernel_rfl
theorem inv_c3 {G : AH} {v : Value} : invA Tryz.prog G (.iface T_Pchunk_Budget v) "Stop" = some (F_chunk_Budget_Stop, v) := by kernel_rfl
theorem inv_c4 {G : AH} {v : Value} : invA Tryz.prog G (.iface T_Pchunk_Budget v) "Resume" = some (F_chunk_Budget_Resume, v) := by kernel_rfl
theorem inv_c5 {G : AH} {v : Value} : invA Tryz.prog G (.iface T_Pchunk_Budget v) "Reset" = some (F_chunk_Budget_Reset, v) := by kernel_rfl
theorem inv_c6 {G : AH} {v : Value} : invA Tryz.prog G (.iface T_Pchunk_Budget v) "Go" = some (F_chunk_Budget_Go, v) := by kernel_rfl
theorem inv_c7 {G : AH} {v : Value} : invA Tryz.prog G (.iface T_Pchunk_Budget v) "Due" = some (F_chunk_Budget_Due, v) := by kernel_rfl

theorem b_use {v : Value} {b : BudM} (h : BudR H col c v b) {Q : Value → AH → Prop} (hQ : ∀ r H' col', BudR H' col' c v b.use → Stp (Under c) col H col' H' → Q (.bool r) H') :
    ∃ (g : Nat) (x : Value), invA Tryz.prog H v "Use" = some (g, x) ∧ W prog XP g [x] H Q := by
  cases b with
  | ref b => obtain ⟨p, rfl, h2⟩ := h; exact ⟨_, _, inv_r1, w_fuse h2 fun r H' k s => hQ r H' col ⟨p, rfl, k⟩ s⟩
  | chk b => obtain ⟨p, rfl, h2⟩ := h; exact ⟨_, _, inv_c1, w_cuse h2 fun r H' col' k s => hQ r H' col' ⟨p, rfl, k⟩ s⟩
theorem b_done {v : Value} {b : BudM} (h : BudR H col c v b) (hcn : c ≠ []) (hfr : Fresh col H) {Q : Value → AH → Prop} (hQ : ∀ H' col', BudR H' col' c v b.done → Stp (Under c) col H col' H' → Q (.tuple #[]) H') :
    ∃ (g : Nat) (x : Value), invA Tryz.prog H v "Done" = some (g, x) ∧ W prog XP g [x] H Q := by
  cases b with
  | ref b => obtain ⟨p, rfl, h2⟩ := h; exact ⟨_, _, inv_r2, w_fdone h2 fun H' k s => hQ H' col ⟨p, rfl, k⟩ s⟩
  | chk b => obtain ⟨p, rfl, h2⟩ := h; exact ⟨_, _, inv_c2, w_cdone h2 hcn hfr fun H' col' k s => hQ H' col' ⟨p, rfl, k⟩ s⟩
theorem b_stop {v : Value} {b : BudM} (h : BudR H col c v b) (hcn : c ≠ []) (hfr : Fresh col H) {Q : Value → AH → Prop} (hQ : ∀ H' col', BudR H' col' c v b.stop → Stp (Under c) col H col' H' → Q (.tuple #[]) H') :
    ∃ (g : Nat) (x : Value), invA Tryz.prog H v "Stop" = some (g, x) ∧ W prog XP g [x] H Q := by
  cases b with
  | ref b => obtain ⟨p, rfl, h2⟩ := h; exact ⟨_, _, inv_r3, w_fstop h2 fun H' k s => hQ H' col ⟨p, rfl, k⟩ s⟩
  | chk b => obtain ⟨p, rfl, h2⟩ := h; exact ⟨_, _, inv_c3, w_cstop h2 hcn hfr fun H' col' k s => hQ H' col' ⟨p, rfl, k⟩ s⟩
theorem b_resume {v : Value} {b : BudM} (h : BudR H col c v b) {Q : Value → AH → Prop} (hQ : ∀ H' col', BudR H' col' c v b.resume → Stp (Under c) col H col' H' → Q (.tuple #[]) H') :
    ∃ (g : Nat) (x : Value), invA Tryz.prog H v "Resume" = some (g, x) ∧ W prog XP g [x] H Q := by
  cases b with
  | ref b => obtain ⟨p, rfl, h2⟩ := h; exact ⟨_, _, inv_r4, w_fresume h2 fun H' k s => hQ H' col ⟨p, rfl, k⟩ s⟩
  | chk b => obtain ⟨p, rfl, h2⟩ := h; exact ⟨_, _, inv_c4, w_cresume h2 fun H' k s => hQ H' col ⟨p, rfl, k⟩ s⟩
theorem b_reset {v : Value} {b : BudM} (h : BudR H col c v b) {Q : Value → AH → Prop} (hQ : ∀ H' col', BudR H' col' c v b.reset → Stp (Under c) col H col' H' → Q (.tuple #[]) H') :
    ∃ (g : Nat) (x : Value), invA Tryz.prog H v "Reset" = some (g, x) ∧ W prog XP g [x] H Q := by
  cases b with
  | ref b => obtain ⟨p, rfl, h2⟩ := h; exact ⟨_, _, inv_r5, w_freset h2 fun H' k s => hQ H' col ⟨p, rfl, k⟩ s⟩
  | chk b => obtain ⟨p, rfl, h2⟩ := h; exact ⟨_, _, inv_c5, w_creset h2 fun H' k s => hQ H' col ⟨p, rfl, k⟩ s⟩
theorem b_go {v : Value} {b : BudM} (h : BudR H col c v b) (hcn : c ≠ []) (hfr : Fresh col H) {now : Int} {busy : Bool} (h0 : 0 ≤ now) (h1 : now ≤ tickMax) {Q : Value → AH → Prop} (hQ : ∀ H' col', BudR H' col' c v (b.go now busy) → Stp (Under c) col H col' H' → Q (.tuple #[]) H') :
    ∃ (g : Nat) (x : Value), invA Tryz.prog H v "Go" = some (g, x) ∧ W prog XP g [x, vI now, .bool busy] H Q := by
  cases b with
  | ref b => obtain ⟨p, rfl, h2⟩ := h; exact ⟨_, _, inv_r6, w_fgo h2 h0 h1 fun H' col' k s => hQ H' col' ⟨p, rfl, k⟩ s⟩
  | chk b => obtain ⟨p, rfl, h2⟩ := h; exact ⟨_, _, inv_c6, w_cgo h2 hcn hfr h0 h1 fun H' col' k s => hQ H' col' ⟨p, rfl, k⟩ s⟩
theorem b_due {v : Value} {b : BudM} (h : BudR H col c v b) {j : Nat} (hj : 57 < j) {Q : Value → AH → Prop} (hQ : Q (match b.due with | some d => .tuple #[vI d, .bool true] | none => .tuple #[vI 0, .bool false]) H) :
    ∃ (g : Nat) (x : Value), invA Tryz.prog H v "Due" = some (g, x) ∧ W prog (XK j) g [x] H Q := by
  cases b with
  | ref b => obtain ⟨p, rfl, h2⟩ := h; exact ⟨_, _, inv_r7, callT (p_fdue h2) TL_nd rfl (by omega) hQ⟩
  | chk b => obtain ⟨p, rfl, h2⟩ := h; exact ⟨_, _, inv_c7, callT (p_cdue h2) TL_nd rfl hj hQ⟩

/-- A row. -/
def RowR (H : AH) (col : Col) (c : List Nat) (r : Nat) (m : RowM) : Prop :=
  ∃ vb pr, Bk H col c r [vb, .pointer (some ⟨pr, 0, none⟩), vI m.first] 0 ∧ BudR H col (0 :: c) vb m.bud ∧ RgR H col (1 :: c) pr 8 m.q
theorem RowR.fr {r : Nat} {m : RowM} (h : RowR H col c r m) {D : List Nat → Prop} (s : Stp D col H col' H') (hd : ∀ x, Under c x → ¬ D x) : RowR H' col' c r m := by
  obtain ⟨vb, pr, h1, h2, h3⟩ := h
  exact ⟨vb, pr, h1.fr s (hd _ (Under.refl _)), h2.fr s fun x hx => hd x hx.cons, h3.fr s fun x hx => hd x hx.cons⟩
theorem RowR.up {r : Nat} {m : RowM} (h : RowR H col c r m) {N : Nat} (hN : H.next ≤ N) : RowR (H.up N) col c r m := by
  obtain ⟨vb, pr, h1, h2, h3⟩ := h
  exact ⟨vb, pr, h1.up hN, h2.up hN, h3.up hN⟩
theorem RowR.lt {r : Nat} {m : RowM} (h : RowR H col c r m) : r < H.next := let ⟨_, _, h1, _⟩ := h; h1.lt
def RowM.empty (m : RowM) : RowM := ⟨m.bud.reset, [], IntKind.i64.wrap (m.first + m.q.length)⟩
/-- A tick; the number of the request that is done, 0: none. -/
def RowM.serve (m : RowM) : Int × RowM :=
  match m.q with
  | [] => (0, m)
  | x :: q => if 1 < x then (0, ⟨m.bud.use, (x - 1) :: q, m.first⟩) else
      (IntKind.i64.wrap (IntKind.i64.wrap (m.first + 1) - 1), ⟨if q = [] then m.bud.use.done else m.bud.use, q, IntKind.i64.wrap (m.first + 1)⟩)
theorem und01 {x : List Nat} (h : Under (0 :: c) x) : ¬ Under (1 :: c) x := fun e => by have := Under.apart h e; omega
theorem und10 {x : List Nat} (h : Under (1 :: c) x) : ¬ Under (0 :: c) x := fun e => by have := Under.apart h e; omega
theorem und0c {x : List Nat} {k : Nat} (h : Under (k :: c) x) : ¬ x = c := fun e => by subst e; exact h.self
theorem w_empty {r : Nat} {m : RowM} (h : RowR H col c r m) {Q : Value → AH → Prop} (hQ : ∀ H' col', RowR H' col' c r m.empty → Stp (Under c) col H col' H' → Q (.tuple #[]) H') : W prog XP F_part_row_empty [.pointer (some ⟨r, 0, none⟩)] H Q := by
  refine enterT _ (nf_F_part_row_empty _ _ _ _) rfl ?_
  unfold vc_F_part_row_empty
  obtain ⟨vb, pr, h1, h2, h3⟩ := h
  refine dr.mk (ld_i.mk h1.get rfl (dr.mk (ld_p.mk h1.get rfl (c_rlen h3 (by decide) ?_))))
  simp only [r_i_eq]
  refine ⟨⟨ld1_at h1.get rfl, by simp [veq]⟩, dr.mk (st.do h1.get rfl rfl (by simp) fun G1 w1 => ?_)⟩
  obtain ⟨k1, s1⟩ := h1.wrote w1
  have k2 := h2.fr s1 fun x hx => und0c hx
  have k3 := h3.fr s1 fun x hx => und0c hx
  refine dr.mk (ld_p.mk k1.get rfl (w_rclear k3 fun G2 g3 s2 => ?_))
  simp only [r_T_eq]
  have g1 := k1.fr s2 (fun e => e.self)
  have g2 := k2.fr s2 fun x hx => und01 hx
  refine dr.mk (ld_v.mk g1.get rfl (b_reset g2 fun G3 col3 q2 s3 => ?_))
  simp only [r_T_eq]
  exact hQ G3 col3 ⟨vb, pr, by have := g1.fr s3 (fun e => e.self); simp [setMany, cellsOf] at this; exact this, q2, g3.fr s3 fun x hx => und10 hx⟩ ((s1.under0.trans s2.under1).trans s3.under1)
theorem w_serve {r : Nat} {m : RowM} (h : RowR H col c r m) (hcn : c ≠ []) (hfr : Fresh col H) {x : Int} {q : List Int} (hq : m.q = x :: q) (hx : 1 ≤ x ∧ x ≤ 1048576) {Q : Value → AH → Prop} (hQ : ∀ H' col', RowR H' col' c r m.serve.2 → Stp (Under c) col H col' H' → Q (vI m.serve.1) H') :
    W prog XP F_part_row_serve [.pointer (some ⟨r, 0, none⟩)] H Q := by
  refine enterT _ (nf_F_part_row_serve _ _ _ _) rfl ?_
  unfold vc_F_part_row_serve
  obtain ⟨vb, pr, h1, h2, h3⟩ := h
  refine dr.mk (ld_v.mk h1.get rfl (b_use h2 fun r' G1 col1 g2 s1 => ?_))
  simp only [r_b_eq]
  have g1 := h1.fr s1 (fun e => e.self)
  have g3 := h3.fr s1 fun x hx => und10 hx
  rw [hq] at g3
  have hat := p_rat g3 (i := 0)
  rw [if_pos (by simp), show (x :: q).getD 0 0 = x from rfl] at hat
  refine dr.mk (ld_p.mk g1.get rfl (callT hat TL_nd rfl (by decide) ?_))
  simp only [r_T_i_b_eq]
  refine bcase_dec (fun hlt => dr.mk (ld_p.mk g1.get rfl ?_)) fun hlt => dr.mk (ld_p.mk g1.get rfl ?_)
  · have hs : m.serve = (0, ⟨m.bud.use, (x - 1) :: q, m.first⟩) := by unfold RowM.serve; rw [hq]; simp only [hlt, if_true]
    rw [hs] at hQ
    have ew : IntKind.i64.wrap (x - 1) = x - 1 := i64_in _ (by omega)
    rw [ew]
    refine w_rset g3 (i := 0) (by simp) fun G2 k3 s2 => ?_
    simp only [r_b_eq]
    exact hQ G2 col1 ⟨vb, pr, g1.fr s2 (fun e => e.self), g2.fr s2 fun x hx => und01 hx, k3⟩ (s1.under1.trans s2.under1)
  · refine w_rpop g3 rfl fun G2 k3 s2 => ?_
    simp only [r_T_i_b_eq]
    have k1 := g1.fr s2 (fun e => e.self)
    have k2 := g2.fr s2 fun x hx => und01 hx
    refine dr.mk (ld_i.mk k1.get rfl (dr.mk (st.do k1.get rfl rfl (by simp) fun G3 w3 => ?_)))
    obtain ⟨q1, s3⟩ := k1.wrote w3
    have q1' : Bk G3 col1 c r [vb, .pointer (some ⟨pr, 0, none⟩), vI (IntKind.i64.wrap (m.first + 1))] 0 := by simpa [setMany, cellsOf] using q1
    have q2 := k2.fr s3 fun x hx => und0c hx
    have q3 := k3.fr s3 fun x hx => und0c hx
    have s03 : Stp (Under c) col H col1 G3 := (s1.under1.trans s2.under1).trans s3.under0
    intro X hX
    have hs1 : m.serve.1 = IntKind.i64.wrap (IntKind.i64.wrap (m.first + 1) - 1) := by unfold RowM.serve; rw [hq]; simp only [hlt, if_false]
    have hs2 : m.serve.2 = ⟨if q = [] then m.bud.use.done else m.bud.use, q, IntKind.i64.wrap (m.first + 1)⟩ := by unfold RowM.serve; rw [hq]; simp only [hlt, if_false]
    rw [hs1, hs2] at hQ
    refine dr.mk (ld_p.mk q1'.get rfl (c_rlen q3 (by decide) ?_))
    simp only [r_i_eq]
    by_cases he : q = []
    · rw [if_pos he] at hQ
      refine bcase_t (by simp [he]) (dr.mk (ld_v.mk q1'.get rfl (b_done q2 (by simp) (s03.fresh hfr) fun G4 col4 p2 s4 => ?_)))
      simp only [r_T_eq]
      have p1 := q1'.fr s4 (fun e => e.self)
      refine kp.mk (hX _ fun _ => dr.mk (ld_i.mk p1.get rfl (hQ G4 col4 ⟨vb, pr, p1, p2, q3.fr s4 fun x hx => und10 hx⟩ (s03.trans s4.under1))))
    · rw [if_neg he] at hQ
      have : q.length ≠ 0 := fun e => he (List.eq_nil_of_length_eq_zero e)
      refine bcase_f (by rw [beq_eq_false_iff_ne]; omega) (kp.mk (hX _ fun _ => dr.mk (ld_i.mk q1'.get rfl (hQ G3 col1 ⟨vb, pr, q1', q2, q3⟩ s03))))
end
end Go.Ez

/- A partition: what it holds; its looks. -/
set_option linter.all false
namespace Go.Ez
open Go.Proofs Go.IntWalk
def ePt (p : Nat) : List Value := [.pointer (some ⟨p, 0, none⟩)]
theorem ePt_len (x : Nat) : (ePt x).length = 1 := rfl
theorem ePt_cell (x : Nat) : (ePt x).all isCell = true := rfl
def eEv (x : Int × Int × Int) : List Value := [vI x.1, vI x.2.1, vI x.2.2]
theorem eEv_len (x : Int × Int × Int) : (eEv x).length = 3 := rfl
theorem eEv_cell (x : Int × Int × Int) : (eEv x).all isCell = true := rfl
structure PartM where
  sl : List SlotC
  high : Bool
  ks : List KnownC
  ph : Bool
  rows : List RowM
  up : Bool
/-- The jobs that are there want more. -/
def Wants (sl : List SlotC) : Prop := ∀ (k : Nat) t j, sl[k]? = some (t, some j) → j.done < j.work
theorem Wants.stay {sl : List SlotC} (h : Wants sl) (pr : TaskC → JobC → Bool) : Wants (sl.map (stay pr)) := fun k t j hk => by
  rw [List.getElem?_map] at hk
  cases hs : sl[k]? with
  | none => rw [hs] at hk; cases hk
  | some s =>
    rw [hs] at hk
    simp only [Option.map_some, Option.some.injEq] at hk
    unfold Go.Ez.stay at hk
    split at hk
    · cases hk
    · subst hk; exact h k t j hs
theorem Wants.set {sl : List SlotC} (h : Wants sl) {i : Nat} {s : SlotC} (hs : ∀ j, s.2 = some j → j.done < j.work) : Wants (sl.set i s) := fun k t j hk => by
  rw [List.getElem?_set] at hk
  split at hk
  · split at hk
    · cases hk; exact hs j rfl
    · cases hk
  · exact h k t j hk
theorem Wants.run {sl : List SlotC} (h : Wants sl) {i : Nat} {t : TaskC} {j : JobC} (hi : sl[i]? = some (t, some j)) (high : Bool) : Wants (sl.set i (t, (runJ high t j).2)) := h.set fun x hx => by
  have hd := h i t j hi
  unfold runJ at hx
  simp only at hx
  by_cases h1 : j.done + 1 = j.work
  · rw [if_pos h1] at hx; cases hx
  · rw [if_neg h1] at hx
    have h3 : j.done + 1 < j.work := by omega
    by_cases h2 : (if high = true then t.Top else t.Lo) ≤ j.done + 1
    · rw [if_pos h2] at hx
      by_cases h4 : high = true ∨ t.hi = false ∨ t.Top = t.Lo
      · rw [if_pos h4] at hx; cases hx
      · rw [if_neg h4] at hx; cases hx; exact h3
    · rw [if_neg h2] at hx; cases hx; exact h3
theorem Wants.none {sl : List SlotC} : Wants (sl.map fun s => (s.1, none)) := fun k t j hk => by
  rw [List.getElem?_map] at hk
  cases hs : sl[k]? <;> rw [hs] at hk <;> simp at hk
def RowM.Ok (m : RowM) : Prop := ∀ x ∈ m.q, 1 ≤ x ∧ x ≤ 1048576
section
variable {H H' : AH} {col col' : Col} {c : List Nat} {p : Nat} {m : PartM}
def RowsR (H : AH) (col : Col) (c : List Nat) (ptrs : List Nat) (rows : List RowM) : Prop :=
  ptrs.length = rows.length ∧ ∀ k r, rows[k]? = some r → ∃ q, ptrs[k]? = some q ∧ RowR H col (k :: c) q r ∧ r.Ok
theorem RowsR.fr {ptrs : List Nat} {rows : List RowM} (h : RowsR H col c ptrs rows) {D : List Nat → Prop} (s : Stp D col H col' H') (hd : ∀ x, Under c x → ¬ D x) : RowsR H' col' c ptrs rows :=
  ⟨h.1, fun k r hr => let ⟨q, h1, h2, h3⟩ := h.2 k r hr; ⟨q, h1, h2.fr s fun x hx => hd x hx.cons, h3⟩⟩
theorem RowsR.up {ptrs : List Nat} {rows : List RowM} (h : RowsR H col c ptrs rows) {N : Nat} (hN : H.next ≤ N) : RowsR (H.up N) col c ptrs rows :=
  ⟨h.1, fun k r hr => let ⟨q, h1, h2, h3⟩ := h.2 k r hr; ⟨q, h1, h2.up hN, h3⟩⟩
structure PartO (H : AH) (col : Col) (c : List Nat) (p : Nat) (m : PartM) (pt pp : Nat) (a : Option Addr) (n cap : Nat) (ptrs : List Nat) : Prop where
  bk : Bk H col c p [.pointer (some ⟨pt, 0, none⟩), .pointer (some ⟨pp, 0, none⟩), .slice a n cap, .bool m.up] 0
  tab : TabR H col (0 :: c) pt m.sl m.high
  pol : PolR H col (1 :: c) pp m.ks m.ph
  sls : SlE ePt 1 H col (2 :: c) a n cap ptrs
  rows : RowsR H col (3 :: c) ptrs m.rows
  few : n ≤ 4096
  live : Wants m.sl
theorem PartO.fr {pt pp : Nat} {a : Option Addr} {n cap : Nat} {ptrs : List Nat} (h : PartO H col c p m pt pp a n cap ptrs) {D : List Nat → Prop} (s : Stp D col H col' H') (hd : ∀ x, Under c x → ¬ D x) : PartO H' col' c p m pt pp a n cap ptrs :=
  ⟨h.bk.fr s (hd _ (Under.refl _)), h.tab.fr s fun x hx => hd x hx.cons, h.pol.fr s fun x hx => hd x hx.cons, h.sls.fr s (hd _ ⟨[2], rfl⟩), h.rows.fr s fun x hx => hd x hx.cons, h.few, h.live⟩
theorem PartO.upN {pt pp : Nat} {a : Option Addr} {n cap : Nat} {ptrs : List Nat} (h : PartO H col c p m pt pp a n cap ptrs) {N : Nat} (hN : H.next ≤ N) : PartO (H.up N) col c p m pt pp a n cap ptrs :=
  ⟨h.bk.up hN, h.tab.up hN, h.pol.up hN, h.sls.up hN, h.rows.up hN, h.few, h.live⟩
def PartR (H : AH) (col : Col) (c : List Nat) (p : Nat) (m : PartM) : Prop := ∃ pt pp a n cap ptrs, PartO H col c p m pt pp a n cap ptrs
theorem PartR.fr (h : PartR H col c p m) {D : List Nat → Prop} (s : Stp D col H col' H') (hd : ∀ x, Under c x → ¬ D x) : PartR H' col' c p m :=
  let ⟨pt, pp, a, n, cap, ptrs, k⟩ := h; ⟨pt, pp, a, n, cap, ptrs, k.fr s hd⟩
theorem PartR.upN (h : PartR H col c p m) {N : Nat} (hN : H.next ≤ N) : PartR (H.up N) col c p m :=
  let ⟨pt, pp, a, n, cap, ptrs, k⟩ := h; ⟨pt, pp, a, n, cap, ptrs, k.upN hN⟩
theorem PartR.lt (h : PartR H col c p m) : p < H.next := let ⟨_, _, _, _, _, _, k⟩ := h; k.bk.lt
theorem PartR.cl (h : PartR H col c p m) : col p = c := let ⟨_, _, _, _, _, _, k⟩ := h; k.bk.cl

theorem p_pnone (h : PartR H col c p m) : PureC prog (XK 58) F_part_Part_none [.pointer (some ⟨p, 0, none⟩)] H (.bool false) := by
  refine pure_of _ rfl (fun N => nf_F_part_Part_none _ _ _ _) rfl fun N hN => ?_
  unfold vc_F_part_Part_none
  obtain ⟨pt, pp, a, n, cap, ptrs, k⟩ := h.upN hN
  exact bcase_f rfl (dr.mk (ld_p.mk k.bk.get rfl ⟨rfl, Keep.refl _ _⟩))
theorem c_pnone (h : PartR H col c p m) {j : Nat} {Q : Value → AH → Prop} (hj : 58 < j) (hQ : Q (.bool false) H) : W prog (XK j) F_part_Part_none [.pointer (some ⟨p, 0, none⟩)] H Q := callT (p_pnone h) TL_nd rfl hj hQ
theorem p_up (h : PartR H col c p m) : PureC prog (XK 59) F_part_Part_Up [.pointer (some ⟨p, 0, none⟩)] H (.bool m.up) := by
  refine pure_of _ rfl (fun N => nf_F_part_Part_Up _ _ _ _) rfl fun N hN => ?_
  unfold vc_F_part_Part_Up
  have h' := h.upN hN
  refine c_pnone h' (by decide) ?_
  simp only [r_b_eq]
  obtain ⟨pt, pp, a, n, cap, ptrs, k⟩ := h'
  exact bcase_t rfl (dr.mk (ld_b.mk k.bk.get rfl ⟨rfl, Keep.refl _ _⟩))
theorem c_up (h : PartR H col c p m) {j : Nat} {Q : Value → AH → Prop} (hj : 59 < j) (hQ : Q (.bool m.up) H) : W prog (XK j) F_part_Part_Up [.pointer (some ⟨p, 0, none⟩)] H Q := callT (p_up h) TL_nd rfl hj hQ
theorem p_high (h : PartR H col c p m) : PureC prog (XK 60) F_part_Part_High [.pointer (some ⟨p, 0, none⟩)] H (.bool m.high) := by
  refine pure_of _ rfl (fun N => nf_F_part_Part_High _ _ _ _) rfl fun N hN => ?_
  unfold vc_F_part_Part_High
  have h' := h.upN hN
  refine c_pnone h' (by decide) ?_
  simp only [r_b_eq]
  obtain ⟨pt, pp, a, n, cap, ptrs, k⟩ := h'
  refine bcase_t rfl (dr.mk (ld_p.mk k.bk.get rfl (c_thigh k.tab (by decide) ?_)))
  simp only [r_b_eq]
  exact ⟨by trivial, Keep.refl _ _⟩
theorem c_high (h : PartR H col c p m) {j : Nat} {Q : Value → AH → Prop} (hj : 60 < j) (hQ : Q (.bool m.high) H) : W prog (XK j) F_part_Part_High [.pointer (some ⟨p, 0, none⟩)] H Q := callT (p_high h) TL_nd rfl hj hQ
/-- A row's place. -/
theorem RowsR.at_ {a : Option Addr} {n cap : Nat} {ptrs : List Nat} {rows : List RowM} {d : List Nat} (hs : SlE ePt 1 H col d a n cap ptrs) (h : RowsR H col c ptrs rows) {k : Nat} (hk : k < n) :
    ∃ b o ds g q r, a = some ⟨b, o, none⟩ ∧ H.get b = some (.cells ds false g) ∧ ds[o + k * 1]? = some (.pointer (some ⟨q, 0, none⟩)) ∧ rows[k]? = some r ∧ RowR H col (k :: c) q r ∧ r.Ok ∧ ptrs[k]? = some q := by
  have h1 := h.1
  have h2 := hs.1
  obtain ⟨q, e1, e2, e3⟩ := h.2 k rows[k] (by simp)
  obtain ⟨b, o, ds, g, i1, i2, i3, i4, i5, i6⟩ := hs.at_ ePt_len e1
  exact ⟨b, o, ds, g, q, rows[k], i1, i2.get, i5 0 (by decide), by simp, e2, e3, e1⟩
/-- How many requests a server has. -/
def PartM.queue (m : PartM) (i : Int) : Int := if 0 ≤ i then ((m.rows[i.toNat]?.map fun r => (r.q.length : Int)).getD 0) else 0
theorem p_queue (h : PartR H col c p m) {i : Int} : PureC prog (XK 62) F_part_Part_Queue [.pointer (some ⟨p, 0, none⟩), vI i] H (vI (m.queue i)) := by
  refine pure_of _ rfl (fun N => nf_F_part_Part_Queue _ _ _ _ _) rfl fun N hN => ?_
  unfold vc_F_part_Part_Queue
  have h' := h.upN hN
  intro X hX
  refine c_pnone h' (by decide) ?_
  simp only [r_b_eq]
  obtain ⟨pt, pp, a, n, cap, ptrs, k⟩ := h'
  have hl := k.rows.1
  have hn := k.sls.1
  refine bcase_f rfl (bcase_dec (fun h0 => ⟨by unfold PartM.queue; rw [if_neg (by omega)], Keep.refl _ _⟩) fun h0 => dr.mk (ld_l.mk k.bk.get rfl (bcase_dec (fun h1 => ⟨?_, Keep.refl _ _⟩) fun h1 => kp.mk (hX _ fun _ => dr.mk (ld_l.mk k.bk.get rfl ?_)))))
  · unfold PartM.queue
    rw [if_pos (by omega), List.getElem?_eq_none (by omega)]; rfl
  · obtain ⟨b, o, ds, g, q, r, rfl, e2, e3, e4, ⟨vb, pr, e5, e6, e7⟩, _⟩ := RowsR.at_ k.sls k.rows (k := i.toNat) (by omega)
    refine ix.mk (by omega) (by omega) (ld_p.mk e2 e3 (dr.mk (ld_p.mk e5.get rfl (c_rlen e7 (by decide) ?_))))
    simp only [r_i_eq]
    refine ⟨?_, Keep.refl _ _⟩
    unfold PartM.queue
    rw [if_pos (by omega), e4]; rfl
theorem c_queue (h : PartR H col c p m) {i : Int} {j : Nat} {Q : Value → AH → Prop} (hj : 62 < j) (hQ : Q (vI (m.queue i)) H) : W prog (XK j) F_part_Part_Queue [.pointer (some ⟨p, 0, none⟩), vI i] H Q := callT (p_queue h) TL_nd rfl hj hQ

/-- Each row by turns. -/
theorem RowsR.set {ptrs : List Nat} {rows : List RowM} {k q : Nat} {r : RowM} (h : RowsR H col c ptrs rows) (hk : k < rows.length) (hq : ptrs[k]? = some q) {H1 : AH} {col1 : Col} (s : Stp (Under (k :: c)) col H col1 H1) (hr : RowR H1 col1 (k :: c) q r) (ho : r.Ok) : RowsR H1 col1 c ptrs (rows.set k r) := by
  refine ⟨by rw [List.length_set]; exact h.1, fun i x hx => ?_⟩
  by_cases he : i = k
  · subst he
    rw [List.getElem?_set_self hk] at hx
    cases hx
    exact ⟨q, hq, hr, ho⟩
  · rw [List.getElem?_set_ne (fun e => he e.symm)] at hx
    obtain ⟨q', h1, h2, h3⟩ := h.2 i x hx
    exact ⟨q', h1, h2.fr s fun x hx hk => he (Under.apart hx hk), h3⟩
theorem upto_set {α : Type} (g : α → α) (l : List α) {k : Nat} {x : α} (hx : l[k]? = some x) : ((l.take k).map g ++ l.drop k).set k (g x) = (l.take (k + 1)).map g ++ l.drop (k + 1) := by
  have hk : k < l.length := by
    rcases Nat.lt_or_ge k l.length with h | h
    · exact h
    · rw [List.getElem?_eq_none h] at hx; cases hx
  have e : l.drop k = x :: l.drop (k + 1) := by
    rw [List.drop_eq_getElem_cons hk]
    rw [List.getElem?_eq_getElem hk] at hx; cases hx; rfl
  have hl : ((l.take k).map g).length = k := by simp; omega
  rw [e, List.set_append_right _ _ (by omega), hl, Nat.sub_self, List.set_cons_zero, List.take_succ, hx, List.map_append]
  simp
theorem upto_get {α : Type} (g : α → α) (l : List α) {k : Nat} : ((l.take k).map g ++ l.drop k)[k]? = l[k]? := by
  by_cases hk : k < l.length
  · have hl : ((l.take k).map g).length = k := by simp; omega
    rw [List.getElem?_append_right (by omega), hl, Nat.sub_self, List.getElem?_drop]; rfl
  · rw [List.getElem?_eq_none (by simp; omega), List.getElem?_eq_none (by omega)]
theorem rows_loop {X : List Value → AH → Prop} {g : RowM → RowM} {a : Option Addr} {n cap : Nat} {ptrs : List Nat} {rows : List RowM} {d : List Nat} (hs : SlE ePt 1 H col d a n cap ptrs) (hr : RowsR H col c ptrs rows) (hn4 : n ≤ 4096) (hd : ¬ Under c d)
    (step : ∀ (k : Nat) G col1 b o ds g' r q, k < n → a = some ⟨b, o, none⟩ → G.get b = some (.cells ds false g') → ds[o + k * 1]? = some (.pointer (some ⟨q, 0, none⟩)) → RowR G col1 (k :: c) q r → r.Ok → Stp (Under c) col H col1 G →
      (∀ G' col2, RowR G' col2 (k :: c) q (g r) → (g r).Ok → Stp (Under (k :: c)) col1 G col2 G' → X [vI (IntKind.i64.wrap ((k : Int) + 1))] G') → X [vI k] G)
    (fin : ∀ G col1, RowsR G col1 c ptrs (rows.map g) → Stp (Under c) col H col1 G → X [vI n] G) : X [vI 0] H := by
  have hl := hr.1
  have hn := hs.1
  have loop := loop_up (X := X) (fun k (_ : Unit) => [vI k]) (fun k _ G => ∃ col1, RowsR G col1 c ptrs ((rows.take k).map g ++ rows.drop k) ∧ Stp (Under c) col H col1 G) n ?_ ?_
  · exact loop 0 () H (by omega) ⟨col, by simpa using hr, Stp.refl _ _ _⟩
  · rintro _ G ⟨col1, k1, k2⟩
    rw [List.take_of_length_le (by omega), List.drop_eq_nil_of_le (by omega), List.append_nil] at k1
    exact fin G col1 k1 k2
  · rintro k _ G hk ⟨col1, k1, k2⟩ go
    obtain ⟨b, o, ds, g', q, r, e1, e2, e3, e4, e5, e6, e7⟩ := RowsR.at_ (hs.fr k2 hd) k1 hk
    refine step k G col1 b o ds g' r q hk e1 e2 e3 e5 e6 k2 fun G' col2 q1 q2 q3 => ?_
    rw [show IntKind.i64.wrap ((k : Int) + 1) = ((k + 1 : Nat) : Int) by rw [i64_in _ (by omega)]; omega]
    rw [upto_get] at e4
    have := k1.set (k := k) (by simp; omega) e7 q3 q1 q2
    rw [upto_set g rows e4] at this
    exact go () G' ⟨col2, this, k2.trans (q3.mono fun _ h => h.cons)⟩
end
end Go.Ez

/- Events: made, joined. -/
set_option linter.all false
namespace Go.Ez
open Go.Proofs Go.IntWalk
section
variable {H H' : AH} {col col' : Col} {c : List Nat} {p : Nat}
abbrev EvC := Int × Int × Int
def evs (kind : Int) (l : List Nat) : List EvC := l.map fun (x : Nat) => ((kind, (x : Int), 0) : EvC)
theorem w_of {d : List Nat} {a : Option Addr} {n cap : Nat} {l : List Nat} {kind : Int} (h : RdE eN 1 H col d a n cap l) (hn : n ≤ 1000000) {Q : Value → AH → Prop}
    (hQ : ∀ H' col' mm a' cap', SlE eEv 3 H' col' [mm] a' n cap' (evs kind l) → (∀ b, b < H.next → ¬ Under [mm] (col b)) → Stp (fun _ => False) col H col' H' → Q (.slice a' n cap') H') :
    W prog XP F_part_of [vI kind, .slice a n cap] H Q := by
  refine enterT _ (nf_F_part_of _ _ _ _ _ _ _) rfl ?_
  unfold vc_F_part_of
  obtain ⟨mm, hm⟩ := new_root col H
  have hln := h.1
  intro X hX
  have loop := loop_up (X := X) (fun k (s : Option Addr × Nat) => [.slice s.1 k s.2, vI k]) (fun k s G => ∃ col1, SlE eEv 3 G col1 [mm] s.1 k s.2 (evs kind (l.take k)) ∧ Stp (fun _ => False) col H col1 G) n ?_ ?_
  · exact loop 0 (none, 0) H (by omega) ⟨col, by simpa [evs] using SlE.nil, Stp.refl _ _ _⟩
  · rintro ⟨sa, sc⟩ G ⟨col1, k1, k2⟩
    rw [hln, List.take_length] at k1
    refine hX _ _ _ _ _ fun _ => bcase_dec (fun h => absurd h (by omega)) fun _ => ?_
    rw [hln]
    rw [hln] at hQ
    exact hQ G col1 mm sa sc k1 hm k2
  · rintro k ⟨sa, sc⟩ G hk ⟨col1, k1, k2⟩ go
    have e1 : IntKind.i64.wrap ((k : Int) + 1) = ((k + 1 : Nat) : Int) := by rw [i64_in _ (by omega)]; omega
    obtain ⟨b, o, ds, ro, g', rfl, r2, r3, r4, r5, r6⟩ := (h.fr k2 id).at_ (i := k) (x := l[k]) (by simp)
    have e2 : ds[o + k * 1 + 0]? = _ := chunk_get r6 (j := 0) (by decide)
    refine hX _ _ _ _ _ fun _ => bcase_dec (fun _ => ix.mk (by omega) (by omega) (ld_i.mk r3 (by rw [Int.toNat_natCast]; exact e2) (nw.new fun q G1 a1 => ?_))) fun h => absurd (by omega) h
    have t1 : Stp (fun _ => False) col1 G col1 G1 := a1.keep.stp _ _
    refine (k1.fr t1 id).push (y := (kind, (l[k] : Int), 0)) eEv_len eEv_cell a1.at_ (by decide) (by decide) (by omega) (by omega) fun a' cap' G2 col2 k3 s3 _ => kp.mk ?_
    rw [e1]
    refine go (a', cap') G2 ⟨col2, ?_, (a1.newer k2).newer s3 fun b hb e => hm b hb (by rw [e]; exact Under.refl _)⟩
    have : evs kind (l.take (k + 1)) = evs kind (l.take k) ++ [(kind, (l[k] : Int), 0)] := by
      unfold evs
      rw [List.take_succ, List.getElem?_eq_getElem (by omega), List.map_append]; rfl
    rw [this]; exact k3

theorem evs_flat (n : Nat) : zerosA [vI 0, vI 0, vI 0] n = (List.replicate n ((0, 0, 0) : EvC)).flatMap eEv := by
  unfold zerosA
  rw [List.flatMap_replicate]; rfl
theorem w_grow {n : Nat} {cc : List Nat} (hn : n ≤ 1000000) {Q : Value → AH → Prop}
    (hQ : ∀ H' col' a cap, SlE eEv 3 H' col' cc a 0 cap ([] : List EvC) → Stp (fun _ => False) col H col' H' → Q (.slice a 0 cap) H') : W prog XP F_slices_Grow__part_Eventpart_Event [.slice none 0 0, vI n] H Q := by
  refine enterT _ (nf_F_slices_Grow__part_Eventpart_Event _ _ _ _ _ _ _) rfl ?_
  unfold vc_F_slices_Grow__part_Eventpart_Event
  intro X hX
  refine bcase_dec (fun h => absurd h (by omega)) fun _ => kp.mk (hX _ fun _ => ⟨0, rfl, ?_⟩)
  have e0 : IntKind.i64.wrap ((0 : Int) - ((0 : Nat) : Int)) = 0 := by rfl
  have e1 : IntKind.i64.wrap ((n : Int) - 0) = n := by rw [i64_in _ (by omega)]; omega
  rw [e0, e1]
  refine bcase_dec (fun h => ⟨0, rfl, ?_⟩) fun h => hQ H col none 0 SlE.nil (Stp.refl _ _ _)
  have hz : 0 < n := by omega
  have a1 : New1 H (H.alloc (.cells (zerosA [vI 0, vI 0, vI 0] n) false 3)) H.next _ := new1 rfl rfl
  obtain ⟨k1, s1⟩ := a1.bk (fun _ => False) col cc
  have h1 : SlE eEv 3 (H.alloc (.cells (zerosA [vI 0, vI 0, vI 0] n) false 3)) (setC col H.next cc) cc (some ⟨H.next, 0, none⟩) n n (List.replicate n ((0, 0, 0) : EvC)) :=
    ⟨by simp, by rw [flat_len eEv_len]; simp, .inr ⟨H.next, 0, _, 3, rfl, k1, .inr rfl, Nat.le_refl _, by rw [evs_flat, flat_len eEv_len]; simp, by rw [evs_flat, List.drop_zero, List.take_of_length_le (by rw [flat_len eEv_len]; simp)]⟩⟩
  refine ⟨none, 0, 0, rfl, some ⟨H.next, 0, none⟩, n, n, H.alloc (.cells (zerosA [vI 0, vI 0, vI 0] n) false 3), ?_, ?_⟩
  · simp only [apZ, appendA]
    rw [if_pos (by omega), Int.toNat_natCast, if_neg (by omega), if_pos (by omega)]
  · refine h1.sub (lo := 0) (hi := 0) eEv_len (by omega) (by omega) rfl rfl fun a' cap' h0 => ?_
    exact hQ _ _ a' cap' (by simpa using h0) s1
theorem w_concat {d1 d2 : List Nat} {a1 a2 : Option Addr} {n1 c1 n2 c2 b : Nat} {ro : Bool} {g : Nat} {l1 l2 : List EvC} (h1 : RdE eEv 3 H col d1 a1 n1 c1 l1) (h2 : RdE eEv 3 H col d2 a2 n2 c2 l2) (hb : H.get b = some (.cells [.slice a1 n1 c1, .slice a2 n2 c2] ro g)) (hbl : b < H.next)
    (hn : n1 + n2 ≤ 1000000) {Q : Value → AH → Prop}
    (hQ : ∀ H' col' mm a' cap', SlE eEv 3 H' col' [mm] a' (n1 + n2) cap' (l1 ++ l2) → (∀ b, b < H.next → ¬ Under [mm] (col b)) → Stp (fun _ => False) col H col' H' → Q (.slice a' (n1 + n2) cap') H') :
    W prog XP F_slices_Concat__part_Eventpart_Event [.slice (some ⟨b, 0, none⟩) 2 2] H Q := by
  refine enterT _ (nf_F_slices_Concat__part_Eventpart_Event _ _ _ _ _ _) rfl ?_
  unfold vc_F_slices_Concat__part_Eventpart_Event
  obtain ⟨mm, hm⟩ := new_root col H
  have e1 : IntKind.i64.wrap ((0 : Int) + (n1 : Nat)) = (n1 : Int) := by rw [i64_in _ (by omega)]; omega
  have e2 : IntKind.i64.wrap ((n1 : Int) + (n2 : Nat)) = ((n1 + n2 : Nat) : Int) := by rw [i64_in _ (by omega)]; omega
  have f1 : IntKind.i64.wrap ((0 : Int) + 1) = 1 := by rfl
  have f2 : IntKind.i64.wrap ((1 : Int) + 1) = 2 := by rfl
  intro X hX
  refine hX 0 0 H fun _ => bcase_dec (fun _ => ix.mk (by decide) (by decide) (ld_l.mk hb rfl ?_)) fun h => absurd (by decide) h
  rw [e1, f1]
  refine bcase_dec (fun h => absurd h (by omega)) fun _ => kp.mk (hX _ 1 H fun _ => bcase_dec (fun _ => ix.mk (by decide) (by decide) (ld_l.mk hb rfl ?_)) fun h => absurd (by decide) h)
  rw [e2, f2]
  refine bcase_dec (fun h => absurd h (by omega)) fun _ => kp.mk (hX _ 2 H fun _ => bcase_dec (fun h => absurd h (by decide)) fun _ => w_grow (col := col) (cc := [mm]) hn fun G1 col1 ga gc k1 s1 => ?_)
  simp only [r_l_eq]
  have hb1 : G1.get b = some (.cells [.slice a1 n1 c1, .slice a2 n2 c2] ro g) := (s1.get b hbl id).trans hb
  intro Y hY
  refine hY ga 0 gc 0 G1 fun _ => bcase_dec (fun _ => ix.mk (by decide) (by decide) (ld_l.mk hb1 rfl ?_)) fun h => absurd (by decide) h
  have r1 := h1.fr s1 id
  refine k1.app (ys := l1) eEv_len eEv_cell (by decide) (by decide) (by omega) (by omega) (r1.src eEv_len) r1.1.symm fun a' cap' G2 col2 k2 s2 _ => kp.mk ?_
  rw [f1]
  have hmm : ∀ b, b < H.next → (col b) = [mm] → False := fun b hb e => hm b hb (by rw [e]; exact Under.refl _)
  have s02 : Stp (fun _ => False) col H col2 G2 := s1.newer s2 fun b hb e => hmm b hb e
  have hb2 : G2.get b = some (.cells [.slice a1 n1 c1, .slice a2 n2 c2] ro g) := (s02.get b hbl id).trans hb
  refine hY _ _ _ _ G2 fun _ => bcase_dec (fun _ => ix.mk (by decide) (by decide) (ld_l.mk hb2 rfl ?_)) fun h => absurd (by decide) h
  have r2 := h2.fr s02 id
  refine k2.app (ys := l2) eEv_len eEv_cell (by decide) (by decide) (by omega) (by omega) (r2.src eEv_len) r2.1.symm fun a'' cap'' G3 col3 k3 s3 _ => kp.mk ?_
  rw [f2]
  refine hY _ _ _ _ G3 fun _ => bcase_dec (fun h => absurd h (by decide)) fun _ => ?_
  have s03 : Stp (fun _ => False) col H col3 G3 := s02.newer s3 fun b hb e => hmm b hb e
  rw [Nat.zero_add] at k3 ⊢
  exact hQ G3 col3 mm a'' cap'' (by simpa using k3) hm s03
end
end Go.Ez
