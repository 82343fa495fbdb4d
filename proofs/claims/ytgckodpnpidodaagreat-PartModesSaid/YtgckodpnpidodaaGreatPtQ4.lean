import Derived.Test.YtgckodpnpidodaaGreatPtQ
set_option linter.all false
/- A partition: settles, rises; a tick's begin. -/
set_option linter.all false
namespace Go.Ez
open Go.Proofs Go.IntWalk
def emptyB (sl : List SlotC) : Bool := sl.all fun s => s.2.isNone
theorem emptyB_iff {sl : List SlotC} : emptyB sl = true ↔ noJobs sl := by
  unfold emptyB noJobs
  rw [List.all_eq_true]
  constructor
  · intro h k s hs
    exact Option.isNone_iff_eq_none.mp (h s (List.mem_of_getElem? hs))
  · intro h s hs
    obtain ⟨k, hk⟩ := List.getElem?_of_mem hs
    rw [h k s hk]; rfl
def RowM.mapB (f : BudM → BudM) (r : RowM) : RowM := ⟨f r.bud, r.q, r.first⟩
theorem RowM.Ok.mapB {f : BudM → BudM} {r : RowM} (h : r.Ok) : (r.mapB f).Ok := h
def PartM.falls (m : PartM) : Bool := m.high && emptyB m.sl
def PartM.settle (m : PartM) : PartM := if m.falls = true then { m with high := false, ph := false, rows := m.rows.map (RowM.mapB BudM.resume) } else m
def PartM.settleE (m : PartM) : List EvC := if m.falls = true then [(5, 0, 0)] else []
def PartM.rise (m : PartM) : PartM := { m with sl := m.sl.map (stay fun t _ => !t.hi), high := true, ph := true, rows := m.rows.map (RowM.mapB BudM.stop) }
def PartM.riseE (m : PartM) : List EvC := evs 4 (goneK (fun t _ => !t.hi) 0 m.sl) ++ [(3, 0, 0)]
theorem goneK_len (pr : TaskC → JobC → Bool) : ∀ (k : Nat) (sl : List SlotC), (goneK pr k sl).length ≤ sl.length
  | _, [] => by simp [goneK]
  | k, s :: l => by
    unfold goneK
    have := goneK_len pr (k + 1) l
    split <;> simp <;> omega
section
variable {H H' : AH} {col col' : Col} {c : List Nat} {p : Nat} {m : PartM} {pt pp : Nat} {a : Option Addr} {n cap : Nat} {ptrs : List Nat}
theorem under_ne {j k : Nat} (hjk : j ≠ k) {x : List Nat} (h : Under (j :: c) x) : ¬ Under (k :: c) x := fun e => hjk (Under.apart h e)
theorem PartO.tab' (h : PartO H col c p m pt pp a n cap ptrs) (s : Stp (Under (0 :: c)) col H col' H') {sl : List SlotC} {high : Bool} (ht : TabR H' col' (0 :: c) pt sl high) (hl : Wants sl) : PartO H' col' c p { m with sl := sl, high := high } pt pp a n cap ptrs :=
  ⟨h.bk.fr s (fun e => e.self), ht, h.pol.fr s fun x => under_ne (by decide), h.sls.fr s fun e => absurd (Under.refl (2 :: c)) (by intro k; have := Under.apart k e; omega), h.rows.fr s fun x => under_ne (by decide), h.few, hl⟩
theorem PartO.pol' (h : PartO H col c p m pt pp a n cap ptrs) (s : Stp (Under (1 :: c)) col H col' H') {ks : List KnownC} {ph : Bool} (ht : PolR H' col' (1 :: c) pp ks ph) : PartO H' col' c p { m with ks := ks, ph := ph } pt pp a n cap ptrs :=
  ⟨h.bk.fr s (fun e => e.self), h.tab.fr s fun x => under_ne (by decide), ht, h.sls.fr s fun e => absurd (Under.refl (2 :: c)) (by intro k; have := Under.apart k e; omega), h.rows.fr s fun x => under_ne (by decide), h.few, h.live⟩
theorem PartO.rows' (h : PartO H col c p m pt pp a n cap ptrs) (s : Stp (Under (3 :: c)) col H col' H') {rows : List RowM} (ht : RowsR H' col' (3 :: c) ptrs rows) : PartO H' col' c p { m with rows := rows } pt pp a n cap ptrs :=
  ⟨h.bk.fr s (fun e => e.self), h.tab.fr s fun x => under_ne (by decide), h.pol.fr s fun x => under_ne (by decide), h.sls.fr s fun e => absurd (Under.refl (2 :: c)) (by intro k; have := Under.apart k e; omega), ht, h.few, h.live⟩
theorem no23 : ¬ Under (3 :: c) (2 :: c) := fun e => by have := Under.apart (Under.refl (2 :: c)) e; omega
theorem Stp.none' {D : List Nat → Prop} (s : Stp (fun _ => False) col H col' H') : Stp D col H col' H' := s.mono fun _ h => h.elim
theorem RowR.setBud {r : Nat} {x : RowM} {vb : Value} {pr : Nat} {b : BudM} (h1 : Bk H col c r [vb, .pointer (some ⟨pr, 0, none⟩), vI x.first] 0) (h3 : RgR H col (1 :: c) pr 8 x.q) (s : Stp (Under (0 :: c)) col H col' H') (g2 : BudR H' col' (0 :: c) vb b) : RowR H' col' c r ⟨b, x.q, x.first⟩ :=
  ⟨vb, pr, h1.fr s (fun e => e.self), g2, h3.fr s fun x => und10⟩

theorem w_settle (h : PartR H col c p m) (hcn : c ≠ []) {Q : Value → AH → Prop}
    (hQ : ∀ H' col' mm a cap, RdE eEv 3 H' col' [mm] a m.settleE.length cap m.settleE → (∀ b, b < H.next → ¬ Under [mm] (col b)) → PartR H' col' c p m.settle → Stp (Under c) col H col' H' → Q (.slice a m.settleE.length cap) H') :
    W prog XP F_part_Part_settle [.pointer (some ⟨p, 0, none⟩)] H Q := by
  refine enterT _ (nf_F_part_Part_settle _ _ _ _) rfl ?_
  unfold vc_F_part_Part_settle
  obtain ⟨mm, hm⟩ := new_root col H
  have h' := h
  obtain ⟨pt, pp, a, n, cap, ptrs, k⟩ := h
  refine dr.mk (ld_p.mk k.bk.get rfl (w_fall k.tab (fun hno => ?_) fun hy1 hy2 G1 t1 s1 => ?_))
  · simp only [r_b_eq]
    have hf : ¬ m.falls = true := by
      unfold PartM.falls
      rw [Bool.and_eq_true, emptyB_iff]; exact hno
    have e1 : m.settleE = [] := by unfold PartM.settleE; rw [if_neg hf]
    have e2 : m.settle = m := by unfold PartM.settle; rw [if_neg hf]
    rw [e1, e2] at hQ
    exact bcase_t rfl (hQ H col mm none 0 RdE.nil hm h' (Stp.refl _ _ _))
  · simp only [r_b_eq]
    have hf : m.falls = true := by
      unfold PartM.falls
      rw [Bool.and_eq_true, emptyB_iff]; exact ⟨hy1, hy2⟩
    have e1 : m.settleE = [(5, 0, 0)] := by unfold PartM.settleE; rw [if_pos hf]
    have e2 : m.settle = { m with high := false, ph := false, rows := m.rows.map (RowM.mapB BudM.resume) } := by unfold PartM.settle; rw [if_pos hf]
    rw [e1, e2] at hQ
    have k1 := k.tab' s1 t1 k.live
    refine bcase_f rfl (dr.mk (ld_p.mk k1.bk.get rfl (w_drop k1.pol fun G2 t2 s2 => ?_)))
    have k2 := k1.pol' s2 t2
    simp only [r_T_eq]
    refine dr.mk (ld_l.mk k2.bk.get rfl ?_)
    intro X hX
    have s12 := s1.under1.trans s2.under1
    refine rows_loop (g := RowM.mapB BudM.resume) k2.sls k2.rows k2.few no23 (fun i G col1 b o ds g' r q hi ea e1 e2 e3 e4 s3 go => ?_) fun G col1 q1 q2 => ?_
    · subst ea
      obtain ⟨vb, pr, r1, r2, r3⟩ := e3
      refine hX _ _ fun _ => bcase_dec (fun _ => ix.mk (by omega) (by omega) (ld_p.mk e1 (by rw [Int.toNat_natCast]; exact e2) (dr.mk (ld_v.mk r1.get rfl (b_resume r2 fun G' col' g2 s4 => ?_))))) fun h => absurd (by omega) h
      simp only [r_T_eq]
      exact kp.mk (go G' col' (RowR.setBud r1 r3 s4 g2) e4 s4.under1)
    · refine hX _ _ fun _ => bcase_dec (fun h => absurd h (by omega)) fun _ => nw.new fun b G5 a5 => ?_
      have k3 := k2.rows' q2 q1
      obtain ⟨b5, s5⟩ := a5.bk (fun _ => False) col1 [mm]
      have k5 := k3.fr s5 fun _ _ h => h
      refine hQ G5 _ mm _ 1 ⟨rfl, .inr ⟨b, 0, _, false, 0, rfl, b5.lt, b5.cl, b5.get, by simp, fun i x hx => ?_⟩⟩ hm ⟨pt, pp, a, n, cap, ptrs, k5⟩ ((s12.trans q2.under1).trans s5.none')
      rcases i with _ | i
      · cases hx; rfl
      · cases hx
theorem w_prise (h : PartR H col c p m) (hcn : c ≠ []) (hfr : Fresh col H) {Q : Value → AH → Prop}
    (hQ : ∀ H' col' mm a cap, RdE eEv 3 H' col' [mm] a m.riseE.length cap m.riseE → (∀ b, b < H.next → ¬ Under [mm] (col b)) → PartR H' col' c p m.rise → Stp (Under c) col H col' H' → Q (.slice a m.riseE.length cap) H') :
    W prog XP F_part_Part_rise [.pointer (some ⟨p, 0, none⟩)] H Q := by
  refine enterT _ (nf_F_part_Part_rise _ _ _ _) rfl ?_
  unfold vc_F_part_Part_rise
  have hpl := h.lt
  have hpc := h.cl
  obtain ⟨pt, pp, a, n, cap, ptrs, k⟩ := h
  refine dr.mk (ld_p.mk k.bk.get rfl (w_rise k.tab (by simp) hfr fun G1 col1 m1 a1 n1 c1 r1 hm1 t1 s1 => ?_))
  simp only [r_l_eq]
  have k1 := k.tab' s1 t1 (k.live.stay _)
  have hgl : n1 ≤ 6 := by
    have := goneK_len (fun t _ => !t.hi) 0 m.sl
    have h6 : m.sl.length ≤ 6 := let ⟨_, _, _, _, _, _, h1, _⟩ := k.tab; h1.ok.len
    have := r1.1; omega
  refine w_of r1 (by omega) fun G2 col2 mm a2 c2 r2 hm2 s2 => ?_
  simp only [r_l_eq]
  have k2 := k1.fr s2 fun _ _ h => h
  have s02 : Stp (Under c) col H col2 G2 := s1.under1.trans s2.none'
  have hmm : ∀ b, b < H.next → ¬ Under [mm] (col b) := fun b hb => by rw [← s1.cl b hb]; exact hm2 b (Nat.lt_of_lt_of_le hb s1.next)
  have hcm : ¬ Under c [mm] := under_root hcn hpl hpc hmm
  refine dr.mk (ld_p.mk k2.bk.get rfl (w_drop k2.pol fun G3 t3 s3 => ?_))
  have k3 := k2.pol' s3 t3
  have r3 := r2.fr s3 fun e => hcm e.cons
  simp only [r_T_eq]
  refine dr.mk (ld_l.mk k3.bk.get rfl ?_)
  intro X hX
  have s03 := s02.trans s3.under1
  refine rows_loop (g := RowM.mapB BudM.stop) k3.sls k3.rows k3.few no23 (fun i G col4 b o ds g' r q hi ea e1 e2 e3 e4 s4 go => ?_) fun G col4 q1 q2 => ?_
  · subst ea
    obtain ⟨vb, pr, u1, u2, u3⟩ := e3
    refine hX _ _ fun _ => bcase_dec (fun _ => ix.mk (by omega) (by omega) (ld_p.mk e1 (by rw [Int.toNat_natCast]; exact e2) (dr.mk (ld_v.mk u1.get rfl (b_stop u2 (by simp) (s4.fresh (s03.fresh hfr)) fun G' col' g2 s5 => ?_))))) fun h => absurd (by omega) h
    simp only [r_T_eq]
    exact kp.mk (go G' col' (RowR.setBud u1 u3 s5 g2) e4 s5.under1)
  · refine hX _ _ fun _ => bcase_dec (fun h => absurd h (by omega)) fun _ => nw.new fun b G5 a5 => ?_
    have k4 := k3.rows' q2 q1
    have s5 : Stp (fun _ => False) col4 G col4 G5 := a5.keep.stp _ _
    have k5 := k4.fr s5 fun _ _ h => h
    have r5 := (r3.fr q2 fun e => hcm e.cons).fr s5 id
    refine r5.push (y := ((3, 0, 0) : EvC)) eEv_len eEv_cell a5.at_ (by decide) (by decide) (by omega) (by omega) fun a' cap' G6 col6 r6 s6 _ => ?_
    have e : n1 + 1 = m.riseE.length := by have := r1.1; unfold PartM.riseE evs; simp; omega
    rw [e] at r6 ⊢
    have s04 : Stp (Under c) col H col4 G5 := (s03.trans q2.under1).trans s5.none'
    exact hQ G6 col6 mm a' cap' (r6.rd eEv_len) hmm ⟨pt, pp, a, n, cap, ptrs, k5.fr s6 fun x hx e => hcm (by rw [← e]; exact hx)⟩ (s04.newer s6 fun b hb e => (hmm b hb (by rw [e]; exact Under.refl _)).elim)
end
end Go.Ez

/- A partition: a tick's begin. -/
set_option linter.all false
namespace Go.Ez
open Go.Proofs Go.IntWalk
def RowM.go (now : Int) (r : RowM) : RowM := r.mapB (BudM.go now (decide (0 < (r.q.length : Int))))
def PartM.miss (now : Int) (m : PartM) : PartM := { m with sl := m.sl.map (stay fun t j => decide (dueJ true t j ≤ now)) }
def PartM.missE (now : Int) (m : PartM) : List EvC := evs 2 (goneK (fun t j => decide (dueJ true t j ≤ now)) 0 m.sl)
def PartM.go (now : Int) (m : PartM) : PartM := { m with rows := m.rows.map (RowM.go now) }
def PartM.begins (now : Int) (m : PartM) : PartM := if m.up = true then ((m.miss now).settle).go now else m
def PartM.beginE (now : Int) (m : PartM) : List EvC := if m.up = true then m.missE now ++ (m.miss now).settleE else []
section
variable {H H' : AH} {col col' : Col} {c : List Nat} {p : Nat} {m : PartM} {pt pp : Nat} {a : Option Addr} {n cap : Nat} {ptrs : List Nat}
theorem settleE_len : m.settleE.length ≤ 1 := by unfold PartM.settleE; split <;> simp
theorem w_begin (h : PartR H col c p m) (hcn : c ≠ []) (hfr : Fresh col H) {now : Int} (h0 : 0 ≤ now) (h1 : now ≤ tickMax) {Q : Value → AH → Prop}
    (hQ : ∀ H' col' mm a cap, RdE eEv 3 H' col' [mm] a (m.beginE now).length cap (m.beginE now) → (∀ b, b < H.next → ¬ Under [mm] (col b)) → PartR H' col' c p (m.begins now) → Stp (Under c) col H col' H' → Q (.slice a (m.beginE now).length cap) H') :
    W prog XP F_part_Part_Begin [.pointer (some ⟨p, 0, none⟩), vI now] H Q := by
  refine enterT _ (nf_F_part_Part_Begin _ _ _ _ _) rfl ?_
  unfold vc_F_part_Part_Begin
  have hpl := h.lt
  have hpc := h.cl
  refine c_up h (by decide) ?_
  simp only [r_b_eq]
  refine bcase_both (fun hu => ?_) fun hu => ?_
  · have hu' : ¬ m.up = true := by simpa using hu
    obtain ⟨mm, hm⟩ := new_root col H
    have e1 : m.beginE now = [] := by unfold PartM.beginE; rw [if_neg hu']
    have e2 : m.begins now = m := by unfold PartM.begins; rw [if_neg hu']
    rw [e1, e2] at hQ
    exact hQ H col mm none 0 RdE.nil hm h (Stp.refl _ _ _)
  have hu' : m.up = true := by simpa using hu
  have e1 : m.beginE now = m.missE now ++ (m.miss now).settleE := by unfold PartM.beginE; rw [if_pos hu']
  have e2 : m.begins now = ((m.miss now).settle).go now := by unfold PartM.begins; rw [if_pos hu']
  rw [e1, e2] at hQ
  obtain ⟨pt, pp, a, n, cap, ptrs, k⟩ := h
  refine dr.mk (ld_p.mk k.bk.get rfl (w_missed k.tab (by simp) hfr fun G1 col1 m1 a1 n1 c1 r1 hm1 t1 s1 => ?_))
  simp only [r_l_eq]
  have k1 : PartO G1 col1 c p (m.miss now) pt pp a n cap ptrs := k.tab' s1 t1 (k.live.stay _)
  have hgl : n1 ≤ 6 := by
    have := goneK_len (fun t j => decide (dueJ true t j ≤ now)) 0 m.sl
    have h6 : m.sl.length ≤ 6 := let ⟨_, _, _, _, _, _, h1, _⟩ := k.tab; h1.ok.len
    have := r1.1; omega
  refine w_of r1 (by omega) fun G2 col2 mm a2 c2 r2 hm2 s2 => ?_
  simp only [r_l_eq]
  have k2 := k1.fr s2 fun _ _ h => h
  have s02 : Stp (Under c) col H col2 G2 := s1.under1.trans s2.none'
  have root : ∀ {mm : Nat} {col1 : Col} {G1 : AH}, Stp (Under c) col H col1 G1 → (∀ b, b < G1.next → ¬ Under [mm] (col1 b)) → ∀ b, b < H.next → ¬ Under [mm] (col b) := fun s hm b hb => by
    rw [← s.cl b hb]; exact hm b (Nat.lt_of_lt_of_le hb s.next)
  have hmm := root s1.under1 hm2
  have hcm : ¬ Under c [mm] := under_root hcn hpl hpc hmm
  refine w_settle ⟨pt, pp, a, n, cap, ptrs, k2⟩ hcn fun G3 col3 m3 a3 c3 r3 hm3 k3 s3 => ?_
  have s03 := s02.trans s3
  have r2' := (r2.fr s3 hcm).rd eEv_len
  simp only [r_l_eq]
  refine nw.new fun b G4 a4 => ?_
  have t4 : Stp (fun _ => False) col3 G3 col3 G4 := a4.keep.stp _ _
  have hle := settleE_len (m := m.miss now)
  refine w_concat (r2'.fr t4 id) (r3.fr t4 id) a4.at_ (by rw [a4.next, a4.num]; omega) (by omega) fun G5 col5 m5 a5 c5 r5 hm5 s5 => ?_
  simp only [r_l_eq]
  have t35 : Stp (fun _ => False) col3 G3 col5 G5 := t4.trans s5
  have s05 := s03.trans t35.none'
  have hm5' := root (s03.trans t4.none') hm5
  have hcm5 : ¬ Under c [m5] := under_root hcn hpl hpc hm5'
  obtain ⟨pt, pp, a, n, cap, ptrs, k3⟩ := k3
  have k5 := k3.fr t35 fun _ _ h => h
  refine dr.mk (ld_l.mk k5.bk.get rfl ?_)
  intro X hX
  refine rows_loop (g := RowM.go now) k5.sls k5.rows k5.few no23 (fun i G col4 b o ds g' r q hi ea e1 e2 e3 e4 s4 go => ?_) fun G col4 q1 q2 => ?_
  · subst ea
    obtain ⟨vb, pr, u1, u2, u3⟩ := e3
    refine hX _ _ fun _ => bcase_dec (fun _ => ix.mk (by omega) (by omega) (ld_p.mk e1 (by rw [Int.toNat_natCast]; exact e2) (dr.mk (ld_v.mk u1.get rfl (dr.mk (ld_p.mk u1.get rfl (c_rlen u3 (by decide) ?_))))))) fun h => absurd (by omega) h
    simp only [r_i_eq]
    have hnil : ∀ {K : Value → Prop}, K vb → nilK vb K := fun hK => by
      cases hb : r.bud with
      | ref b => rw [hb] at u2; obtain ⟨p, rfl, _⟩ := u2; exact nilK_iface.mpr hK
      | chk b => rw [hb] at u2; obtain ⟨p, rfl, _⟩ := u2; exact nilK_iface.mpr hK
    refine ⟨⟨ld1_at u1.get rfl, by
      cases hb : r.bud with
      | ref b => rw [hb] at u2; obtain ⟨p, rfl, _⟩ := u2; simp [veq]
      | chk b => rw [hb] at u2; obtain ⟨p, rfl, _⟩ := u2; simp [veq]⟩, hnil (b_go u2 (by simp) (s4.fresh (s05.fresh hfr)) h0 h1 fun G' col' g2 s5 => ?_)⟩
    simp only [r_T_eq]
    exact kp.mk (go G' col' (RowR.setBud u1 u3 s5 g2) e4 s5.under1)
  · refine hX _ _ fun _ => bcase_dec (fun h => absurd h (by omega)) fun _ => ?_
    have k6 := k5.rows' q2 q1
    have r6 := (r5.rd eEv_len).fr q2 fun e => hcm5 e.cons
    have e : n1 + (m.miss now).settleE.length = (m.missE now ++ (m.miss now).settleE).length := by have := r1.1; unfold PartM.missE evs; simp; omega
    rw [e] at r6 ⊢
    exact hQ G col4 m5 a5 c5 r6 hm5' ⟨pt, pp, a, n, cap, ptrs, k6⟩ (s05.trans q2.under1)
end
end Go.Ez

/- A partition: who runs. -/
set_option linter.all false
namespace Go.Ez
open Go.Proofs Go.IntWalk
structure PickS where
  srv : Bool
  n : Int
  due : Int
  ok : Bool
def pickStep (i : Nat) (r : RowM) (s : PickS) : PickS :=
  match r.bud.due with
  | some d => if 0 < (r.q.length : Int) ∧ (s.ok = false ∨ d < s.due) then ⟨true, i, d, true⟩ else s
  | none => s
def pickRows : Nat → List RowM → PickS → PickS
  | _, [], s => s
  | i, r :: l, s => pickRows (i + 1) l (pickStep i r s)
theorem pickRows_app : ∀ (i : Nat) (l : List RowM) (r : RowM) (s : PickS), pickRows i (l ++ [r]) s = pickStep (i + l.length) r (pickRows i l s)
  | i, [], r, s => rfl
  | i, x :: l, r, s => by
    simp only [List.cons_append, pickRows, List.length_cons]
    rw [pickRows_app (i + 1) l r]
    congr 1; omega
/-- The table's first job. -/
def FirstOf (sl : List SlotC) (high : Bool) (s : PickS) : Prop :=
  (noJobs sl ∧ s = ⟨false, 0, 0, false⟩) ∨ ∃ (x : Nat) (n : Int), dueOf high sl x = some n ∧ (∀ y m, dueOf high sl y = some m → n < m ∨ (n = m ∧ x ≤ y)) ∧ s = ⟨false, x, n, true⟩
theorem FirstOf.uniq {sl : List SlotC} {high : Bool} {s t : PickS} (h : FirstOf sl high s) (k : FirstOf sl high t) : s = t := by
  rcases h with ⟨h1, rfl⟩ | ⟨x, n, h1, h2, rfl⟩ <;> rcases k with ⟨k1, rfl⟩ | ⟨y, j, k1, k2, rfl⟩
  · rfl
  · exact absurd ((noJobs_due (md := fun _ => high)).mp h1 y) (by rw [show dueM (fun _ => high) sl y = some j from k1]; simp)
  · exact absurd ((noJobs_due (md := fun _ => high)).mp k1 x) (by rw [show dueM (fun _ => high) sl x = some n from h1]; simp)
  · have a := h2 y j k1
    have b := k2 x n h1
    have : x = y := by omega
    have : n = j := by omega
    subst_vars; rfl
def PartM.pick (m : PartM) (s0 : PickS) : PickS := if m.up = true then pickRows 0 m.rows s0 else ⟨false, 0, 0, false⟩
def pickV (s : PickS) : Value := .tuple #[.agg #[.bool s.srv, vI s.n], .bool s.ok]
section
variable {H H' : AH} {col col' : Col} {c : List Nat} {p : Nat} {m : PartM} {pt pp : Nat} {a : Option Addr} {n cap : Nat} {ptrs : List Nat}
theorem first_ex {sl : List SlotC} {high : Bool} (h : TabR H col c p sl high) : ∃ s, FirstOf sl high s := by
  rcases c_tfirst h with ⟨h1, _⟩ | ⟨x, n, h1, h2, _⟩
  · exact ⟨_, .inl ⟨h1, rfl⟩⟩
  · exact ⟨_, .inr ⟨x, n, h1, h2, rfl⟩⟩
theorem p_tfirst {sl : List SlotC} {high : Bool} (h : TabR H col c p sl high) {s : PickS} (hs : FirstOf sl high s) : PureC prog (XK 32) F_tasks_Table_First [.pointer (some ⟨p, 0, none⟩)] H (.tuple #[vI s.n, vI s.due, .bool s.ok]) := by
  rcases c_tfirst h with ⟨h1, h2⟩ | ⟨x, n, h1, h2, h3⟩
  · rw [hs.uniq (.inl ⟨h1, rfl⟩)]; exact h2
  · rw [hs.uniq (.inr ⟨x, n, h1, h2, rfl⟩)]; exact h3
theorem p_pick (h : PartR H col c p m) {s0 : PickS} (h0 : FirstOf m.sl m.high s0) : PureC prog (XK 61) F_part_Part_Pick [.pointer (some ⟨p, 0, none⟩)] H (pickV (m.pick s0)) := by
  refine pure_of _ rfl (fun N => nf_F_part_Part_Pick _ _ _ _) rfl fun N hN => ?_
  unfold vc_F_part_Part_Pick
  have hU := h.upN hN
  refine nw.new fun b1 G1 a1 => ?_
  have s1 : Stp (fun _ => False) col (H.up N) col G1 := a1.keep.stp _ _
  have k1 := hU.fr s1 fun _ _ h => h
  refine c_up k1 (by decide) ?_
  simp only [r_b_eq]
  refine bcase_both (fun hu => ?_) fun hu => ?_
  · have hu' : ¬ m.up = true := by simpa using hu
    refine st.do a1.at_ rfl rfl (by simp) fun G2 w2 => ld_Abi.mk w2.at_ rfl (by simp [setMany, cellsOf]) ⟨?_, ?_⟩
    · unfold PartM.pick pickV; rw [if_neg hu']
    · exact (Wrote1.newer s1 w2 (by rw [a1.num]; exact Nat.le_refl _)).keep fun _ h => h
  have hu' : m.up = true := by simpa using hu
  have hpk : m.pick s0 = pickRows 0 m.rows s0 := by unfold PartM.pick; rw [if_pos hu']
  rw [hpk]
  obtain ⟨pt, pp, a, n, cap, ptrs, k⟩ := k1
  refine dr.mk (ld_p.mk k.bk.get rfl (callT (p_tfirst k.tab h0) TL_nd rfl (by decide) ?_))
  simp only [r_T_i_i_b_eq]
  refine nw.new fun b2 G2 a2 => st.do a2.at_ rfl rfl (by simp) fun G3 w3 => ?_
  have s2 : Stp (fun _ => False) col (H.up N) col G2 := a2.newer s1
  have s3 : Stp (fun _ => False) col (H.up N) col G3 := Wrote1.newer s2 w3 (by rw [a2.num]; exact s1.next)
  have t3 : Stp (fun _ => False) col G1 col G3 := Wrote1.newer (a2.keep.stp _ _) w3 (by rw [a2.num]; exact Nat.le_refl _)
  have hb1 : b1 < G1.next := by rw [a1.next, a1.num]; omega
  have hb12 : b1 ≠ b2 := by rw [a2.num]; omega
  have hb2N : (H.up N).next ≤ b2 := by rw [a2.num]; exact s1.next
  have hb1N : (H.up N).next ≤ b1 := by rw [a1.num]; exact Nat.le_refl _
  have k3 := k.fr t3 fun _ _ h => h
  have g1 : G3.get b1 = _ := (t3.get b1 hb1 id).trans a1.at_
  have g2 : G3.get b2 = some (.cells [.bool s0.srv, vI s0.n] false 0) := by
    have := w3.at_; simp [setMany, cellsOf] at this; rw [this]
    rcases h0 with ⟨_, rfl⟩ | ⟨_, _, _, _, rfl⟩ <;> rfl
  refine dr.mk (ld_l.mk k3.bk.get rfl ?_)
  intro X hX
  have hl := k3.rows.1
  have hn := k3.sls.1
  have hf := k3.few
  have loop := loop_up (X := X) (fun k (s : PickS) => [vI s.due, .bool s.ok, vI k]) (fun k s G => s = pickRows 0 (m.rows.take k) s0 ∧ G.get b1 = some (.cells [.bool false, vI 0] false 0) ∧ G.get b2 = some (.cells [.bool s.srv, vI s.n] false 0) ∧ Stp (fun _ => False) col G1 col G ∧ Stp (fun _ => False) col (H.up N) col G) n ?_ ?_
  · exact loop 0 s0 G3 (by omega) ⟨by simp [pickRows], g1, g2, t3, s3⟩
  · rintro s G ⟨e1, e2, e3, e4, e5⟩
    rw [List.take_of_length_le (by omega)] at e1
    subst e1
    refine hX _ _ _ _ fun _ => bcase_dec (fun h => absurd h (by omega)) fun _ => ld_Abi.mk e3 rfl (by simp) (st.do e2 rfl rfl (by simp) fun G4 w4 => ld_Abi.mk w4.at_ rfl (by simp [setMany, cellsOf]) ⟨by rfl, ?_⟩)
    exact (Wrote1.newer e5 w4 hb1N).keep fun _ h => h
  · rintro i s G hi ⟨e1, e2, e3, e4, e5⟩ go
    have ew : IntKind.i64.wrap ((i : Int) + 1) = ((i + 1 : Nat) : Int) := by rw [i64_in _ (by omega)]; omega
    have k4 := k.fr e4 fun _ _ h => h
    obtain ⟨b, o, ds, g', q, r, ea, r2, r3, r4, r5, r6, r7⟩ := RowsR.at_ k4.sls k4.rows hi
    subst ea
    have etk : pickRows 0 (m.rows.take (i + 1)) s0 = pickStep i r s := by
      rw [List.take_succ, r4, e1]
      show pickRows 0 (m.rows.take i ++ [r]) s0 = _
      rw [pickRows_app]
      congr 1; simp; omega
    obtain ⟨vb, pr, u1, u2, u3⟩ := r5
    refine hX _ _ _ _ fun _ => bcase_dec (fun _ => ix.mk (by omega) (by omega) (ld_p.mk r2 (by rw [Int.toNat_natCast]; exact r3) (dr.mk (ld_v.mk u1.get rfl (b_due u2 (by decide) ?_))))) fun h => absurd (by omega) h
    rw [ew]
    cases hd : r.bud.due with
    | none =>
      simp only [r_T_i_b_eq]
      intro Y hY
      have es : pickStep i r s = s := by unfold pickStep; rw [hd]
      refine bcase_f rfl (kp.mk (hY _ _ fun _ => bcase_f rfl (kp.mk (go s G ⟨by rw [etk, es], e2, e3, e4, e5⟩))))
    | some d =>
      simp only [r_T_i_b_eq]
      intro Y hY
      have yes : (0 < (r.q.length : Int) ∧ (s.ok = false ∨ d < s.due)) → Y [.bool true] G := fun hc => by
        have es : pickStep i r s = ⟨true, i, d, true⟩ := by unfold pickStep; rw [hd]; exact if_pos hc
        refine hY _ _ fun _ => bcase_t rfl (st.do e3 rfl rfl (by simp) fun G4 w4 => kp.mk ?_)
        refine go ⟨true, i, d, true⟩ G4 ⟨by rw [etk, es], (w4.other b1 hb12).trans e2, by have := w4.at_; simp [setMany, cellsOf] at this; exact this, Wrote1.newer e4 w4 (by rw [a2.num]; exact Nat.le_refl _), Wrote1.newer e5 w4 hb2N⟩
      have no : ¬ (0 < (r.q.length : Int) ∧ (s.ok = false ∨ d < s.due)) → Y [.bool false] G := fun hc => by
        have es : pickStep i r s = s := by unfold pickStep; rw [hd]; exact if_neg hc
        exact hY _ _ fun _ => bcase_f rfl (kp.mk (go s G ⟨by rw [etk, es], e2, e3, e4, e5⟩))
      refine bcase_t rfl (dr.mk (ld_p.mk u1.get rfl (c_rlen u3 (by decide) ?_)))
      simp only [r_i_eq]
      refine bcase_dec (fun hq => bcase_both (fun hok => kp.mk (yes ⟨hq, .inl (by simpa using hok)⟩)) fun hok => kp.mk ?_) fun hq => kp.mk (no fun h => hq h.1)
      have hok' : s.ok = true := by simpa using hok
      by_cases hlt : d < s.due
      · rw [decide_eq_true hlt]; exact yes ⟨hq, .inr hlt⟩
      · rw [decide_eq_false hlt]
        refine no fun h => ?_
        rcases h.2 with h | h
        · rw [hok'] at h; cases h
        · exact hlt h
theorem c_pick (h : PartR H col c p m) {s0 : PickS} (h0 : FirstOf m.sl m.high s0) {j : Nat} {Q : Value → AH → Prop} (hj : 61 < j) (hQ : Q (pickV (m.pick s0)) H) : W prog (XK j) F_part_Part_Pick [.pointer (some ⟨p, 0, none⟩)] H Q := callT (p_pick h h0) TL_nd rfl hj hQ
/-- A server is picked only with a request. -/
theorem pickRows_srv : ∀ (i : Nat) (l : List RowM) (s : PickS), ((pickRows i l s) = s ∨ ∃ k r, l[k]? = some r ∧ r.q ≠ [] ∧ (pickRows i l s).n = ((i + k : Nat) : Int) ∧ (pickRows i l s).srv = true ∧ (pickRows i l s).ok = true)
  | i, [], s => .inl rfl
  | i, r :: l, s => by
    simp only [pickRows]
    rcases pickRows_srv (i + 1) l (pickStep i r s) with h | ⟨k, x, h1, h2, h3⟩
    · rw [h]
      unfold pickStep
      split
      · split
        · rename_i hc
          exact .inr ⟨0, r, rfl, fun e => by rw [e] at hc; simp at hc, by simp, rfl, rfl⟩
        · exact .inl rfl
      · exact .inl rfl
    · exact .inr ⟨k + 1, x, by simpa using h1, h2, by rw [h3.1]; omega, h3.2⟩
end
end Go.Ez
