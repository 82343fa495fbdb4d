import Derived.Test.YtgckodpnpidodaaGreatPtQ7
set_option linter.all false
/- A partition: its jobs. -/
set_option linter.all false
namespace Go.Ez
open Go.Proofs Go.IntWalk
structure JobX where
  j : JobC
  a : Option Addr
  n : Nat
  cap : Nat
def eJb (x : JobX) : List Value := [vI x.j.task, vI x.j.arrived, vI x.j.work, vI x.j.done, .slice x.a x.n x.cap]
theorem eJb_len (x : JobX) : (eJb x).length = 5 := rfl
theorem eJb_cell (x : JobX) : (eJb x).all isCell = true := rfl
def jobsOf (sl : List SlotC) : List JobC := sl.filterMap (·.2)
section
variable {H H' : AH} {col col' : Col} {c : List Nat} {p : Nat} {m : PartM} {pt pp : Nat} {a : Option Addr} {n cap : Nat} {ptrs : List Nat}
theorem under_root2 {mm : Nat} (hp : p < H.next) (hc : c ≠ []) (hcp : col p = c) (hm : ∀ b, b < H.next → ¬ Under [mm] (col b)) : ¬ Under c [0, mm] := by
  rintro ⟨t, e⟩
  have h1 := under_root hc hp hcp hm
  cases t with
  | nil =>
    simp at e
    exact hm p hp (by rw [hcp, ← e]; exact ⟨[0], rfl⟩)
  | cons x t =>
    simp only [List.cons_append, List.cons.injEq] at e
    exact h1 ⟨t, e.2⟩
theorem jobsOf_take {sl : List SlotC} {k : Nat} {s : SlotC} (hs : sl[k]? = some s) : jobsOf (sl.take (k + 1)) = jobsOf (sl.take k) ++ (match s.2 with | some j => [j] | none => []) := by
  unfold jobsOf
  rw [List.take_succ, hs, List.filterMap_append]
  obtain ⟨t, j⟩ := s
  cases j <;> rfl
theorem w_jobs (h : PartR H col c p m) (hcn : c ≠ []) (hfr : Fresh col H) {Q : Value → AH → Prop}
    (hQ : ∀ H' col' mm a cap (L : List JobX), RdE eJb 5 H' col' [0, mm] a L.length cap L → (∀ b, b < H.next → ¬ Under [mm] (col b)) → L.map (·.j) = jobsOf m.sl → (∀ x ∈ L, ∃ mi, RdE eOp 3 H' col' [mi] x.a x.n x.cap x.j.ops ∧ ∀ b, b < H.next → ¬ Under [mi] (col b)) →
      PartR H' col' c p m → Stp (fun _ => False) col H col' H' → Q (.slice a L.length cap) H') :
    W prog XP F_part_Part_Jobs [.pointer (some ⟨p, 0, none⟩)] H Q := by
  refine enterT _ (nf_F_part_Part_Jobs _ _ _ _) rfl ?_
  unfold vc_F_part_Part_Jobs
  refine c_pnone h (by decide) ?_
  simp only [r_b_eq]
  refine bcase_f rfl ?_
  obtain ⟨mm, hm⟩ := new_root col H
  have hpl := h.lt
  have hpc := h.cl
  have h6 : m.sl.length ≤ 6 := let ⟨_, _, _, _, _, _, k⟩ := h; let ⟨_, _, _, _, _, _, h1, _⟩ := k.tab; h1.ok.len
  intro X hX
  have loop := loop_up (X := X) (fun k (s : Option Addr × Nat × List JobX) => [.slice s.1 s.2.2.length s.2.1, vI k]) (fun k s G => ∃ col1, SlE eJb 5 G col1 [0, mm] s.1 s.2.2.length s.2.1 s.2.2 ∧ s.2.2.map (·.j) = jobsOf (m.sl.take k) ∧ s.2.2.length ≤ k ∧
      (∀ x ∈ s.2.2, ∃ mi, RdE eOp 3 G col1 [mi] x.a x.n x.cap x.j.ops ∧ ∀ b, b < H.next → ¬ Under [mi] (col b)) ∧ PartR G col1 c p m ∧ Stp (fun _ => False) col H col1 G) 6 ?_ ?_
  · exact loop 0 (none, 0, []) H (by omega) ⟨col, SlE.nil, rfl, Nat.le_refl _, by simp, h, Stp.refl _ _ _⟩
  · rintro ⟨sa, sc, L⟩ G ⟨col1, k1, k2, _, k3, k4, k5⟩
    rw [List.take_of_length_le h6] at k2
    exact hX _ _ _ _ _ fun _ => bcase_dec (fun h => absurd h (by decide)) fun _ => hQ G col1 mm sa sc L (k1.rd eJb_len) hm k2 k3 k4 k5
  · rintro i ⟨sa, sc, L⟩ G hi ⟨col1, k1, k2, k6, k3, k4, k5⟩ go
    have ew : IntKind.i64.wrap ((i : Int) + 1) = ((i + 1 : Nat) : Int) := by rw [i64_in _ (by omega)]; omega
    simp only at k1 k2 k3 k6
    refine hX _ _ _ _ _ fun _ => bcase_dec (fun _ => ?_) fun h => absurd (by omega) h
    rw [ew]
    obtain ⟨pt, pp, a, n, cap, ptrs, k⟩ := k4
    refine dr.mk (ld_p.mk k.bk.get rfl ?_)
    have hfG := k5.fresh hfr
    by_cases hj : ∃ t j, m.sl[i]? = some (t, some j)
    · obtain ⟨t, j, hj⟩ := hj
      refine w_get k.tab (by simp) hfG hj fun G2 col2 mi ja jn jc r2 hmi h2 s2 => ?_
      simp only [r_T_Aiiiil_b_eq]
      have kk2 := k.fr s2 fun _ _ h => h
      have hmi' : ∀ b, b < H.next → ¬ Under [mi] (col b) := fun b hb => by rw [← k5.cl b hb]; exact hmi b (Nat.lt_of_lt_of_le hb k5.next)
      have s02 := k5.trans s2
      refine nw.new fun q1 G3 a3 => st.do a3.at_ rfl rfl (by simp) fun G4 w4 => bcase_t rfl ?_
      have t3 : Stp (fun _ => False) col2 G2 col2 G3 := a3.keep.stp _ _
      have s03 := s02.trans t3
      obtain ⟨o4, t4, s4⟩ := (a3.own (s2.fresh hfG)).own_wr s03 (by rw [a3.num]; exact s02.next) w4
      have o4 : Bk G4 col2 [] q1 [vI j.task, vI j.arrived, vI j.work, vI j.done, .slice ja jn jc] 0 := by simpa [setMany, cellsOf] using o4
      refine ld_Aiiiil.mk o4.get rfl (by simp) (nw.new fun q2 G5 a5 => ?_)
      have t5 : Stp (fun _ => False) col2 G4 col2 G5 := a5.keep.stp _ _
      have s05 := s4.trans t5
      have kG5 : SlE eJb 5 G5 col2 [0, mm] sa L.length sc L := ((k1.fr s2 id).fr t3 id |>.fr t4 (by simp)).fr t5 id
      refine kG5.push (y := (⟨j, ja, jn, jc⟩ : JobX)) eJb_len eJb_cell a5.at_ (by decide) (by decide) (by omega) (by omega) fun a' cap' G6 col6 k7 s6 _ => kp.mk ?_
      have eL : L.length + 1 = (L ++ [(⟨j, ja, jn, jc⟩ : JobX)]).length := by simp
      rw [eL] at k7 ⊢
      have hD : ∀ b, b < H.next → col b = [0, mm] → False := fun b hb e => hm b hb (by rw [e]; exact ⟨[0], rfl⟩)
      refine go (a', cap', L ++ [⟨j, ja, jn, jc⟩]) G6 ⟨col6, k7, ?_, by simp; omega, ?_, ?_, s05.newer s6 hD⟩
      · simp only [List.map_append, k2, jobsOf_take hj]; rfl
      · intro x hx
        rcases List.mem_append.mp hx with hx | hx
        · obtain ⟨mi, r, hr⟩ := k3 x hx
          exact ⟨mi, ((((r.fr s2 id).fr t3 id).fr t4 (by simp)).fr t5 id).fr s6 (by simp), hr⟩
        · simp at hx; subst hx
          exact ⟨mi, (((r2.fr t3 id).fr t4 (by simp)).fr t5 id).fr s6 (by simp), hmi'⟩
      · exact ⟨pt, pp, a, n, cap, ptrs, (((kk2.fr t3 fun _ _ h => h).fr t4 (nil_d hcn)).fr t5 fun _ _ h => h).fr s6 fun x hx e => under_root2 hpl hcn hpc hm (by rw [← e]; exact hx)⟩
    · refine w_get_no k.tab (by simp) hfG (fun k' hk' t j e => hj ⟨t, j, by have : k' = i := by omega
                                                                            rw [← this]; exact e⟩) fun G2 h2 s2 => ?_
      simp only [r_T_Aiiiil_b_eq]
      have kk2 := k.fr s2 fun _ _ h => h
      have s02 := k5.trans s2
      refine nw.new fun q1 G3 a3 => st.do a3.at_ rfl rfl (by simp) fun G4 w4 => bcase_f rfl (kp.mk ?_)
      have t3 : Stp (fun _ => False) col1 G2 col1 G3 := a3.keep.stp _ _
      have s03 := s02.trans t3
      obtain ⟨o4, t4, s4⟩ := (a3.own (s2.fresh hfG)).own_wr s03 (by rw [a3.num]; exact s02.next) w4
      have e2 : jobsOf (m.sl.take (i + 1)) = jobsOf (m.sl.take i) := by
        cases hs : m.sl[i]? with
        | none => rw [List.take_succ, hs]; simp
        | some s =>
          rw [jobsOf_take hs]
          obtain ⟨t, j⟩ := s
          cases j with
          | none => simp
          | some j => exact absurd ⟨t, j, hs⟩ hj
      refine go (sa, sc, L) G4 ⟨col1, (((k1.fr s2 id).fr t3 id).fr t4 (by simp)), by rw [e2]; exact k2, by simp only; omega, fun x hx => ?_, ⟨pt, pp, a, n, cap, ptrs, (kk2.fr t3 fun _ _ h => h).fr t4 (nil_d hcn)⟩, s4⟩
      obtain ⟨mi, r, hr⟩ := k3 x hx
      exact ⟨mi, ((r.fr s2 id).fr t3 id).fr t4 (by simp), hr⟩
end
end Go.Ez

/- Colours of others may change. -/
set_option linter.all false
namespace Go.Ez
open Go.Proofs Go.IntWalk
section
variable {H H' : AH} {col col' : Col} {c : List Nat} {p : Nat}
/-- What lies under a colour keeps its colours. -/
def Rc (c : List Nat) (col col' : Col) : Prop := ∀ b, Under c (col b) → col' b = col b
theorem Rc.sub {k : Nat} (e : Rc c col col') : Rc (k :: c) col col' := fun b hb => e b hb.cons
theorem Bk.rc {b g : Nat} {cs : List Value} (h : Bk H col c b cs g) (e : Rc c col col') : Bk H col' c b cs g := ⟨h.lt, (e b (by rw [h.cl]; exact Under.refl _)).trans h.cl, h.get⟩
theorem SlE.rc {α : Type} {enc : α → List Value} {size : Nat} {a : Option Addr} {n cap : Nat} {l : List α} (h : SlE enc size H col c a n cap l) (e : Rc c col col') : SlE enc size H col' c a n cap l :=
  ⟨h.1, ⟨h.2.len, h.2.of.imp id fun ⟨b, o, ds, g, h1, h2, h3⟩ => ⟨b, o, ds, g, h1, h2.rc e, h3⟩⟩⟩
theorem HpA.rc {b : Nat} {l : List Nat} {pl d : List Int} (h : HpA H col c b l pl d) (e : Rc c col col') : HpA H col' c b l pl d := by
  obtain ⟨a1, n1, c1, a2, n2, c2, a3, n3, c3, h0, h1, h2, h3⟩ := h
  exact ⟨a1, n1, c1, a2, n2, c2, a3, n3, c3, h0.rc e, h1.rc e.sub, h2.rc e.sub, h3.rc e.sub⟩
theorem HpR.rc {b room : Nat} {f : Nat → Option Int} (h : HpR H col c b room f) (e : Rc c col col') : HpR H col' c b room f := let ⟨l, pl, d, h1, h2⟩ := h; ⟨l, pl, d, h1.rc e, h2⟩
theorem RgR.rc {b room : Nat} {q : List Int} (h : RgR H col c b room q) (e : Rc c col col') : RgR H col' c b room q := by
  obtain ⟨a, cap, l, first, h1, h2, h3⟩ := h
  exact ⟨a, cap, l, first, h1.rc e, h2.rc e.sub, h3⟩
theorem PolR.rc {ks : List KnownC} {high : Bool} (h : PolR H col c p ks high) (e : Rc c col col') : PolR H col' c p ks high := by
  obtain ⟨a, n, cap, h1, h2, h3⟩ := h
  exact ⟨a, n, cap, h1.rc e, h2.rc e.sub, h3⟩
theorem JobR.rc {q : Nat} {j : JobC} (h : JobR H col c q j) (e : Rc c col col') : JobR H col' c q j := by
  obtain ⟨a, n, cap, h1, h2⟩ := h
  exact ⟨a, n, cap, h1.rc e, h2.rc e.sub⟩
theorem TabM.rc {sl : List SlotC} {high : Bool} {md : Nat → Bool} (h : TabM H col c p sl high md) (e : Rc c col col') : TabM H col' c p sl high md := by
  obtain ⟨raw, f, sa, sn, sc, bh, h1, h2⟩ := h
  refine ⟨raw, f, sa, sn, sc, bh, ⟨h1.bk.rc e, h1.sls.rc e.sub, h1.hp.rc e.sub, ⟨h1.jobs.1, fun k s hs => ?_⟩, h1.ok⟩, h2⟩
  obtain ⟨q, e1, e2⟩ := h1.jobs.2 k s hs
  refine ⟨q, e1, ?_⟩
  obtain ⟨t, j⟩ := s
  cases q <;> cases j <;> simp only [SlotJ] at e2 ⊢
  exact JobR.rc e2 e.sub.sub
theorem RefR.rc {b : RefB} (h : RefR H col c p b) (e : Rc c col col') : RefR H col' c p b := by
  obtain ⟨a, n, cap, h1, h2, h3⟩ := h
  exact ⟨a, n, cap, h1.rc e, h2.rc e.sub, h3⟩
theorem ChkR.rc {b : ChkB} (h : ChkR H col c p b) (e : Rc c col col') : ChkR H col' c p b := by
  obtain ⟨a, n, cap, a2, n2, c2, h1, h2, h3, h4⟩ := h
  exact ⟨a, n, cap, a2, n2, c2, h1.rc e, h2.rc e.sub, h3.rc e.sub, h4⟩
theorem BudR.rc {v : Value} {b : BudM} (h : BudR H col c v b) (e : Rc c col col') : BudR H col' c v b := by
  cases b with
  | ref b => obtain ⟨p, h1, h2⟩ := h; exact ⟨p, h1, h2.rc e⟩
  | chk b => obtain ⟨p, h1, h2⟩ := h; exact ⟨p, h1, h2.rc e⟩
/-- After a call that makes things of a colour: new blocks of other colours lose them. -/
theorem recol {D : List Nat → Prop} (s : Stp D col H col' H') (hf : Fresh col H) : ∃ col2, Rc c col' col2 ∧ Stp D col H col2 H' ∧ (∀ b, H.next ≤ b → Under c (col2 b) ∨ col2 b = []) := by
  classical
  refine ⟨fun b => if b < H.next then col b else if Under c (col' b) then col' b else [], fun b hb => ?_, ⟨s.next, fun b hb => by simp [hb], fun b hb hd => s.get b hb hd, fun _ b hb => ?_⟩, fun b hb => ?_⟩
  · by_cases h : b < H.next
    · simp only [h, if_true]; exact (s.cl b h).symm
    · simp only [h, if_false, if_pos hb]
  · have h1 : ¬ b < H.next := by have := s.next; omega
    have h2 := s.fresh hf b hb
    simp only [h1, if_false, h2]
    split <;> rfl
  · have h1 : ¬ b < H.next := by omega
    simp only [h1, if_false]
    by_cases h : Under c (col' b)
    · rw [if_pos h]; exact .inl h
    · rw [if_neg h]; exact .inr rfl
/-- Another colour is unused still. -/
theorem unused {d : List Nat} (hd : ∀ b, b < H.next → ¬ Under d (col b)) (s : Stp (fun _ => False) col H col' H') (hn : ∀ b, H.next ≤ b → Under c (col' b) ∨ col' b = []) (hcd : ∀ x, Under c x → ¬ Under d x) (hdn : d ≠ []) : ∀ b, b < H'.next → ¬ Under d (col' b) := fun b hb e => by
  rcases Nat.lt_or_ge b H.next with h | h
  · rw [s.cl b h] at e; exact hd b h e
  · rcases hn b h with h | h
    · exact hcd _ h e
    · rw [h] at e; exact under_nil hdn e
end
end Go.Ez

/- A partition is made. -/
set_option linter.all false
namespace Go.Ez
open Go.Proofs Go.IntWalk
def newRow (start : Int) (s : SrvC) : RowM := ⟨if s.refill = true then .ref ⟨[], s, start, start, s.C, false⟩ else .chk ⟨[], s, s.C, [], false⟩, [], 1⟩
/-- Colours of the rows so far. -/
def NewC (e f : List Nat) (k : Nat) (x : List Nat) : Prop := x = [] ∨ Under e x ∨ ∃ j, j < k ∧ Under (j :: f) x
section
variable {H H' : AH} {col col' : Col} {c : List Nat} {p : Nat}
theorem NewC.no {e f x : List Nat} {k j : Nat} (h : NewC e f k x) (hef : ∀ x, Under e x → ¬ Under f x) (hj : k ≤ j) : ¬ Under (j :: f) x := fun hu => by
  rcases h with rfl | h | ⟨i, hi, h⟩
  · exact under_nil (by simp) hu
  · exact hef _ h hu.cons
  · have := Under.apart h hu; omega
theorem newer_cl {D : List Nat → Prop} (s : Stp D col H col' H') {P : List Nat → Prop} {N : Nat} (h : ∀ b, N ≤ b → b < H.next → P (col b)) (hn : ∀ b, H.next ≤ b → P (col' b)) : ∀ b, N ≤ b → P (col' b) := fun b hb => by
  rcases Nat.lt_or_ge b H.next with h1 | h1
  · rw [s.cl b h1]; exact h b hb h1
  · exact hn b h1
theorem w_rows {e f d : List Nat} {a : Option Addr} {n cap : Nat} {ss : List SrvC} {start : Int} (h : RdE eSrv 3 H col d a n cap ss) (hn : n ≤ 4096) (hs : ∀ s ∈ ss, s.right = true) (h0 : 0 ≤ start) (h1 : start ≤ tickMax) (hfr : Fresh col H)
    (he : ∀ b, b < H.next → ¬ Under e (col b)) (hf : ∀ b, b < H.next → ¬ Under f (col b)) (hef : ∀ x, Under e x → ¬ Under f x) (hen : e ≠ []) (hfn : f ≠ []) {Q : Value → AH → Prop}
    (hQ : ∀ H' col' a' cap' ptrs, SlE ePt 1 H' col' e a' n cap' ptrs → RowsR H' col' f ptrs (ss.map (newRow start)) → Stp (fun _ => False) col H col' H' → Q (.slice a' n cap') H') :
    W prog XP F_part_rows [vI start, .slice a n cap] H Q := by
  refine enterT _ (nf_F_part_rows _ _ _ _ _ _ _) rfl ?_
  unfold vc_F_part_rows
  have hln := h.1
  intro X hX
  have loop := loop_up (X := X) (fun k (s : Option Addr × Nat) => [.slice s.1 k s.2, vI k]) (fun k s G => ∃ col1 ptrs, SlE ePt 1 G col1 e s.1 k s.2 ptrs ∧ RowsR G col1 f ptrs ((ss.take k).map (newRow start)) ∧ (∀ b, H.next ≤ b → NewC e f k (col1 b)) ∧ Stp (fun _ => False) col H col1 G) n ?_ ?_
  · exact loop 0 (none, 0) H (by omega) ⟨col, [], SlE.nil, ⟨rfl, by simp⟩, fun b hb => .inl (hfr b hb), Stp.refl _ _ _⟩
  · rintro ⟨sa, sc⟩ G ⟨col1, ptrs, k1, k2, k3, k4⟩
    rw [List.take_of_length_le (by omega)] at k2
    exact hX _ _ _ _ _ fun _ => bcase_dec (fun h => absurd h (by omega)) fun _ => hQ G col1 sa sc ptrs k1 k2 k4
  · rintro k ⟨sa, sc⟩ G hk ⟨col1, ptrs, k1, k2, k3, k4⟩ go
    simp only at k1 k2 k3
    have ew : IntKind.i64.wrap ((k : Int) + 1) = ((k + 1 : Nat) : Int) := by rw [i64_in _ (by omega)]; omega
    obtain ⟨b, o, ds, ro, g', rfl, r2, r3, r4, r5, r6⟩ := (h.fr k4 id).at_ (i := k) (x := ss[k]) (by simp)
    have hsk : ss[k]? = some ss[k] := by simp
    have hsr : ss[k].right = true := hs _ (by simp)
    obtain ⟨s, hse⟩ : ∃ s, s = ss[k] := ⟨_, rfl⟩
    rw [← hse] at r6 hsk hsr
    have hfG := k4.fresh hfr
    refine hX _ _ _ _ _ fun _ => bcase_dec (fun _ => ix.mk (by omega) (by omega) (ld_Abii.mk r3 (by rw [Int.toNat_natCast]; exact r6) (by rw [Int.toNat_natCast]; omega) (nw.new fun q1 G1 a1 => st.do a1.at_ rfl rfl (by simp) fun G2 w2 => ?_))) fun h => absurd (by omega) h
    rw [ew]
    -- no colours of this row yet
    have no1 : ∀ b, b < G.next → ¬ Under (k :: f) (col1 b) := fun b hb => by
      rcases Nat.lt_or_ge b H.next with h2 | h2
      · rw [k4.cl b h2]; exact fun hu => hf b h2 hu.cons
      · exact (k3 b h2).no hef (Nat.le_refl _)
    have t1 : Stp (fun _ => False) col1 G col1 G1 := a1.keep.stp _ _
    obtain ⟨o2, t2, s2⟩ := (a1.own hfG).own_wr (k4.trans t1) (by rw [a1.num]; exact k4.next) w2
    have o2 : Bk G2 col1 [] q1 [.bool s.refill, vI s.C, vI s.T] 0 := by simpa [setMany, cellsOf] using o2
    have k1 := (k1.fr t1 id).fr t2 hen
    have k2 := (k2.fr t1 fun _ _ h => h).fr t2 (nil_d hfn)
    have no2 : ∀ b, ¬ Under (k :: f) (col1 b) := fun b => by
      rcases Nat.lt_or_ge b G.next with h2 | h2
      · exact no1 b h2
      · rw [hfG b h2]; exact under_nil (by simp)
    have hf2 := s2.fresh hfr
    refine w_rnew (room := 8) (c := 1 :: k :: f) (by decide) (by decide) (fun b _ hu => no2 b hu.cons) fun pr G3 col3 g3 s3 => ?_
    obtain ⟨col3', rc3, s3, n3⟩ := recol (c := 1 :: k :: f) s3 hf2
    have g3 := g3.rc rc3
    simp only [r_p_eq]
    refine nw.new fun q G4 a4 => ?_
    obtain ⟨b4, s4⟩ := a4.bk (fun _ => False) col3' (k :: f)
    obtain ⟨col4, hc4⟩ : ∃ col4, col4 = setC col3' q (k :: f) := ⟨_, rfl⟩
    rw [← hc4] at b4 s4
    have g4 := g3.fr s4 fun _ _ h => h
    have o4 := (o2.fr s3 id).fr s4 id
    have k1 := (k1.fr s3 id).fr s4 id
    have k2 := (k2.fr s3 fun _ _ h => h).fr s4 fun _ _ h => h
    have hf4 : Fresh col4 G4 := s4.fresh (s3.fresh hf2)
    -- colours so far: below k, or this row's, not its budget's
    have c4 : ∀ b, Under (k :: f) (col4 b) → Under (1 :: k :: f) (col4 b) ∨ col4 b = k :: f := fun b hu => by
      by_cases hbq : b = q
      · right; rw [hbq]; exact b4.cl
      · have e4 : col4 b = col3' b := by rw [hc4]; simp [setC, hbq]
        rw [e4] at hu ⊢
        rcases Nat.lt_or_ge b G2.next with h2 | h2
        · rw [s3.cl b h2] at hu; exact absurd hu (no2 b)
        · rcases n3 b h2 with h3 | h3
          · exact .inl h3
          · rw [h3] at hu; exact absurd hu (under_nil (by simp))
    have no4 : ∀ b, b < G4.next → ¬ Under (0 :: k :: f) (col4 b) := fun b _ hu => by
      rcases c4 b hu.cons with h3 | h3
      · exact und01 hu h3
      · rw [h3] at hu; exact hu.self
    have n4 : ∀ b, H.next ≤ b → NewC e f (k + 1) (col4 b) := fun b hb => by
      by_cases hu : Under (k :: f) (col4 b)
      · exact .inr (.inr ⟨k, by omega, hu⟩)
      · have hbq : b ≠ q := fun e => hu (by rw [e, b4.cl]; exact Under.refl _)
        have e4 : col4 b = col3' b := by rw [hc4]; simp [setC, hbq]
        rw [e4] at hu ⊢
        rcases Nat.lt_or_ge b G2.next with h2 | h2
        · rw [s3.cl b h2]
          rcases k3 b hb with h3 | h3 | ⟨j, hj, h3⟩
          · exact .inl h3
          · exact .inr (.inl h3)
          · exact .inr (.inr ⟨j, by omega, h3⟩)
        · rcases n3 b h2 with h3 | h3
          · exact absurd h3.cons hu
          · exact .inl h3
    have s04 : Stp (fun _ => False) col H col4 G4 := (s2.trans s3).trans s4
    -- what comes behind the budget
    have join : ∀ (G5 : AH) (col5 : Col) (v : Value) (bm : BudM), isCell v = true → BudR G5 col5 (0 :: k :: f) v bm → Stp (fun _ => False) col4 G4 col5 G5 → (newRow start s).bud = bm →
        ∀ Y : List Value → AH → Prop, (∀ H40 : AH, (∀ F41 : TF, nw H40 (.cells [(.pointer (some ⟨q, 0, none⟩))] false 0) fun b42 H43 =>
          apK H43 1 8 (.slice sa k sc) (.slice (some ⟨b42, 0, none⟩) 1 1) fun sl44 sl44n sl44c H45 =>
          kp [(vI start), (.slice (some ⟨b, o, none⟩) n cap), (vI (↑(n : Nat) : Int))] (X [(.slice sl44 sl44n sl44c), (vI ((k + 1 : Nat) : Int))] H45)) → Y [] H40) →
        ∀ l : List Value, st G5 1 (some ⟨q, 0 + 0, none⟩) v fun H30 => kp l (Y [] H30) := fun G5 col5 v bm hv hb s5 hbm Y hY l => by
      obtain ⟨col5', rc5, s5, n5⟩ := recol (c := 0 :: k :: f) s5 hf4
      have hb := hb.rc rc5
      have b5 := b4.fr s5 id
      refine st.do b5.get (by cases v <;> simp [isCell] at hv <;> rfl) (by cases v <;> simp [isCell] at hv <;> simp [cellsOf, isCell]) (by simp) fun G6 w6 => kp.mk (hY _ fun _ => nw.new fun q7 G7 a7 => ?_)
      obtain ⟨b6, s6⟩ := b5.wrote w6
      have b6 : Bk G6 col5' (k :: f) q [v, .pointer (some ⟨pr, 0, none⟩), vI 1] 0 := by
        have hcv : cellsOf v = [v] := by cases v <;> simp [isCell] at hv <;> rfl
        rw [hcv] at b6
        simpa [setMany] using b6
      have g6 := (g4.fr s5 fun _ _ h => h).fr s6 fun x hx => und0c hx
      have hb6 := hb.fr s6 fun x hx => und0c hx
      have s06 : Stp (fun _ => False) col H col5' G6 := (s04.trans s5).newer s6 fun b hb e => hf b hb (by rw [e]; exact ⟨[k], rfl⟩)
      have rowR : RowR G6 col5' (k :: f) q (newRow start s) := ⟨v, pr, b6, by rw [hbm]; exact hb6, g6⟩
      have hfk : e ≠ k :: f := fun h => hef e (Under.refl _) (by rw [h]; exact ⟨[k], rfl⟩)
      have k1' := (k1.fr s5 id).fr s6 hfk
      have k2' : RowsR G6 col5' f ptrs ((ss.take k).map (newRow start)) := by
        have k2 := k2.fr s5 fun _ _ h => h
        refine ⟨k2.1, fun i r hr => ?_⟩
        obtain ⟨q', u1, u2, u3⟩ := k2.2 i r hr
        have hik : i < k := by
          rcases Nat.lt_or_ge i k with h | h
          · exact h
          · rw [List.getElem?_eq_none (by simp; omega)] at hr; cases hr
        exact ⟨q', u1, u2.fr s6 fun x hx e => by rw [e] at hx; have := Under.apart hx (Under.refl (k :: f)); omega, u3⟩
      have t7 : Stp (fun _ => False) col5' G6 col5' G7 := a7.keep.stp _ _
      have s07 := s06.trans t7
      have hf7 := s07.fresh hfr
      refine (k1'.fr t7 id).push (y := q) ePt_len ePt_cell a7.at_ (by decide) (by decide) (by omega) (by omega) fun a' cap' G8 col8 k8 s8 _ => kp.mk ?_
      obtain ⟨col8', rc8, s8, n8⟩ := recol (c := e) s8 hf7
      have k8 := k8.rc rc8
      have hxe : ∀ x, Under f x → ¬ x = e := fun x hx h => hef e (Under.refl _) (by rw [← h]; exact hx)
      have e3 : (ss.take (k + 1)).map (newRow start) = (ss.take k).map (newRow start) ++ [newRow start s] := by
        rw [List.take_succ, hsk, List.map_append]; rfl
      have hlp : ptrs.length = k := k1.1.symm
      have k2'' := (k2'.fr t7 fun _ _ h => h).fr s8 hxe
      have row8 := (rowR.fr t7 fun _ _ h => h).fr s8 fun x hx => hxe x hx.cons
      refine go (a', cap') G8 ⟨col8', ptrs ++ [q], k8, ⟨by rw [e3]; simp [k2''.1], fun i r hr => ?_⟩, ?_, s07.newer s8 fun b hb e => he b hb (by rw [e]; exact Under.refl _)⟩
      · rw [e3] at hr
        have hl2 : ((ss.take k).map (newRow start)).length = k := by simp; omega
        rcases Nat.lt_or_ge i k with hi | hi
        · rw [List.getElem?_append_left (by omega)] at hr ⊢
          exact k2''.2 i r hr
        · rw [List.getElem?_append_right (by omega), hl2] at hr
          rcases Nat.eq_or_lt_of_le hi with e | e
          · subst e
            rw [Nat.sub_self] at hr
            cases hr
            exact ⟨q, by rw [List.getElem?_append_right (by omega), hlp]; simp, row8, fun x hx => by simp [newRow] at hx⟩
          · rw [List.getElem?_eq_none (by simp; omega)] at hr; cases hr
      · have n5' : ∀ b, H.next ≤ b → NewC e f (k + 1) (col5' b) := newer_cl s5 (fun b hb _ => n4 b hb) fun b hb => by
          rcases n5 b hb with h | h
          · exact .inr (.inr ⟨k, by omega, h.cons⟩)
          · exact .inl h
        exact newer_cl s8 (fun b hb _ => n5' b hb) fun b hb => by
          rcases n8 b hb with h | h
          · exact .inr (.inl h)
          · exact .inl h
    intro Y hY
    refine ld_b.mk o4.get rfl (bcase_both (fun hr => ?_) fun hr => ?_)
    · refine ld_Abii.mk o4.get rfl (by simp) (w_fnew (c := 0 :: k :: f) hsr h0 h1 no4 fun G5 col5 pb r5 s5 => ?_)
      simp only [r_p_eq]
      refine dr.mk ?_
      exact join G5 col5 (.iface T_Prefill_Budget (.pointer (some ⟨pb, 0, none⟩))) (.ref ⟨[], s, start, start, s.C, false⟩) rfl ⟨pb, rfl, r5⟩ s5 (by unfold newRow; simp [hr]) Y hY _
    · refine ld_Abii.mk o4.get rfl (by simp) (w_cnew (col := col4) (c := 0 :: k :: f) hsr fun G5 col5 pb r5 s5 => ?_)
      simp only [r_p_eq]
      refine dr.mk ?_
      exact join G5 col5 (.iface T_Pchunk_Budget (.pointer (some ⟨pb, 0, none⟩))) (.chk ⟨[], s, s.C, [], false⟩) rfl ⟨pb, rfl, r5⟩ s5 (by unfold newRow; simp [hr]) Y hY _
end
end Go.Ez

/- A partition is made: all of it. -/
set_option linter.all false
namespace Go.Ez
open Go.Proofs Go.IntWalk
def newPart (start : Int) (ts : List TaskC) (ss : List SrvC) : PartM := ⟨ts.map fun t => (t, none), false, ts.map fun t => ⟨t, 0, false⟩, false, ss.map (newRow start), true⟩
section
variable {H H' : AH} {col col' : Col} {c : List Nat} {p : Nat}
theorem again_sl {H : AH} {b o n cp g : Nat} {ro : Bool} {cs : List Value} {a : Option Addr} (h : H.get b = some (.cells cs ro g)) (h2 : cs[o]? = some (.slice a n cp)) : Again H (.ld1 (.pointer (some ⟨b, o, none⟩))) (.slice a n cp) := ⟨ld1_at h h2, by simp [veq]⟩
theorem rights_ok {ts : List TaskC} {ss : List SrvC} {x y z : Int} (h : rightsM ts ss x y z = 0) : ts.length ≤ 6 ∧ ts.all (·.right) = true ∧ ss.length ≤ 3 ∧ ss.all (·.right) = true := by
  unfold rightsM at h
  split at h
  · cases h
  · rename_i h1
    split at h
    · cases h
    · rename_i h2
      simp only [Bool.not_eq_false, Bool.and_eq_true, decide_eq_true_eq] at h1 h2
      exact ⟨by omega, h1.2, by omega, h2.2⟩
theorem wants_new {ts : List TaskC} : Wants (ts.map fun t => (t, none)) := fun k t j hk => by
  rw [List.getElem?_map] at hk
  cases hs : ts[k]? <;> rw [hs] at hk <;> simp at hk
theorem w_newpart {a1 a2 a3 : Option Addr} {n1 c1 n2 c2 n3 c3 : Nat} {ts : List TaskC} {ss : List SrvC} {d1 d2 : List Nat} {x y z start : Int} (h1 : RdE eTask 6 H col d1 a1 n1 c1 ts) (h2 : RdE eSrv 3 H col d2 a2 n2 c2 ss) (hl1 : ts.length < 10000000000000) (hl2 : ss.length < 10000000000000)
    (hcn : c ≠ []) (hfr : Fresh col H) (hfc : ∀ b, b < H.next → ¬ Under c (col b)) {Q : Value → AH → Prop}
    (hno : ¬ (rightsM ts ss x y z = 0 ∧ 0 ≤ start ∧ start ≤ tickMax) → ∀ H', Stp (fun _ => False) col H col H' → Q (.pointer none) H')
    (hQ : rightsM ts ss x y z = 0 → 0 ≤ start → start ≤ tickMax → ∀ H' col' p, PartR H' col' c p (newPart start ts ss) → Stp (fun _ => False) col H col' H' → Q (.pointer (some ⟨p, 0, none⟩)) H') :
    W prog XP F_part_New [.agg #[.slice a1 n1 c1, .slice a2 n2 c2, .slice a3 n3 c3, .int .u8 x, .int .u8 y, .int .u8 z], vI start] H Q := by
  refine enterT _ (nf_F_part_New _ _ _ _ _ _ _ _ _ _ _ _ _ _ _ _) rfl ?_
  unfold vc_F_part_New
  refine nw.new fun b7 G1 a => ?_
  have t1 : Stp (fun _ => False) col H col G1 := a.keep.stp _ _
  have r1 := h1.fr t1 id
  have r2 := h2.fr t1 id
  have hb7 : b7 < G1.next := by rw [a.next, a.num]; omega
  intro X hX
  refine ld_Alllccc.mk a.at_ rfl (by simp) (c_rights (by decide) r1 r2 hl1 hl2 ?_)
  simp only [r_i_eq]
  refine bcase_both (fun hr => hno (fun h => by rw [h.1] at hr; cases hr) G1 t1) fun hr => bcase_dec (fun hs => hno (fun h => by omega) G1 t1) fun hs => bcase_dec (fun hs2 => hno (fun h => by have := h.2.2; unfold tickMax at this; omega) G1 t1) fun hs2 => kp.mk (hX _ fun _ => ?_)
  have hr' : rightsM ts ss x y z = 0 := by simpa using hr
  have hst : start ≤ tickMax := by unfold tickMax; omega
  obtain ⟨l6, al6, l3, al3⟩ := rights_ok hr'
  have fr1 := t1.fresh hfr
  have hfc1 : ∀ b, b < G1.next → ¬ Under c (col b) := fun b hb => by
    rcases Nat.lt_or_ge b H.next with h | h
    · exact hfc b h
    · rw [hfr b h]; exact under_nil hcn
  refine ld_l.mk a.at_ rfl (w_tnew (c := 0 :: c) r1 hl1 (by simp) fr1 (fun b hb hu => hfc1 b hb hu.cons) (fun hh => absurd ⟨l6, al6⟩ hh) fun _ _ G2 col2 pt g2 s2 => ?_)
  obtain ⟨col2', rc2, s2, m2⟩ := recol (c := 0 :: c) s2 fr1
  have g2 := g2.rc rc2
  have fr2 := s2.fresh fr1
  simp only [r_p_eq]
  have e2 := (s2.get b7 hb7 id).trans a.at_
  refine ld_l.mk e2 rfl ⟨again_sl a.at_ rfl, ?_⟩
  have u1 : ∀ j, j ≠ 0 → ∀ b, b < G2.next → ¬ Under (j :: c) (col2' b) := fun j hj => unused (fun b hb hu => hfc1 b hb hu.cons) s2 m2 (fun x hx => under_ne (Ne.symm hj) hx) (by simp)
  refine w_pnew (c := 1 :: c) (r1.fr s2 id) l6 al6 (by simp) fr2 (u1 1 (by decide)) fun G3 col3 pp g3 s3 => ?_
  obtain ⟨col3', rc3, s3, m3⟩ := recol (c := 1 :: c) s3 fr2
  have g3 := g3.rc rc3
  have fr3 := s3.fresh fr2
  simp only [r_p_eq]
  have hb72 : b7 < G2.next := Nat.lt_of_lt_of_le hb7 s2.next
  have e3 := (s3.get b7 hb72 id).trans e2
  refine ld_l.mk e3 rfl ⟨again_sl e2 rfl, again_sl a.at_ rfl, ?_⟩
  have u2 : ∀ j, j ≠ 0 → j ≠ 1 → ∀ b, b < G3.next → ¬ Under (j :: c) (col3' b) := fun j h0 h1 => unused (u1 j h0) s3 m3 (fun x hx => under_ne (Ne.symm h1) hx) (by simp)
  refine w_rows (e := 2 :: c) (f := 3 :: c) ((r2.fr s2 id).fr s3 id) (by have := h2.1; omega) (fun s hs => List.all_eq_true.mp al3 s hs) (by omega) hst fr3 (u2 2 (by decide) (by decide)) (u2 3 (by decide) (by decide)) (fun x => under_ne (by decide)) (by simp) (by simp) fun G4 col4 a' cap' ptrs k4 rows4 s4 => ?_
  simp only [r_l_eq]
  refine nw.new fun q G5 a5 => ?_
  obtain ⟨b5, s5⟩ := a5.bk (fun _ => False) col4 c
  have s35 := s3.trans (s4.trans s5)
  refine hQ hr' (by omega) hst G5 _ q ⟨pt, pp, a', n2, cap', ptrs, ⟨b5, ((g2.fr s3 fun _ _ h => h).fr s4 fun _ _ h => h).fr s5 fun _ _ h => h, (g3.fr s4 fun _ _ h => h).fr s5 fun _ _ h => h, k4.fr s5 id, rows4.fr s5 fun _ _ h => h, by have := h2.1; omega, wants_new⟩⟩ (t1.trans (s2.trans s35))
end
end Go.Ez
