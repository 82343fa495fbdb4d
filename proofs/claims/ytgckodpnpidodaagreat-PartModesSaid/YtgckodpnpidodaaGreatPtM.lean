import Derived.Test.YtgckodpnpidodaaGreatPtJ
import Derived.Test.YtgckodpnpidodaaGreatEzLay
set_option linter.all false
/- The law's own: a partition's row is turned. -/
set_option linter.all false
namespace Go.Ez
open Go.Proofs Go.IntWalk
section
variable {H H' : AH} {col col' : Col} {c : List Nat} {p : Nat}
theorem w_law3 {a1 a2 a3 : Option Addr} {n1 c1 n2 c2 n3 c3 : Nat} {ts : List TaskC} {ss : List SrvC} {ds : List Int} {d1 d2 d3 : List Nat} {x y z : Int} (h1 : RdX eTask 6 H col d1 a1 n1 c1 ts) (h2 : RdX eSrv 3 H col d2 a2 n2 c2 ss) (h3 : RdX eI 1 H col d3 a3 n3 c3 ds)
    (hl1 : n1 * 48 ≤ 140737488351232) (hl2 : n2 * 24 ≤ 140737488351232) (hl3 : n3 * 8 ≤ 140737488351232) (hfr : Fresh col H) {Q : Value → AH → Prop}
    (hQ : ∀ H' col' mm b1 e1 b2 e2 b3 e3, RdE eTask 6 H' col' [0, mm] b1 n1 e1 ts → RdE eSrv 3 H' col' [1, mm] b2 n2 e2 ss → (∀ b, b < H.next → ¬ Under [mm] (col b)) → Stp (fun _ => False) col H col' H' →
      Q (.agg #[.slice b1 n1 e1, .slice b2 n2 e2, .slice b3 n3 e3, .int .u8 x, .int .u8 y, .int .u8 z]) H') :
    W prog XP F_parcloselaw03_Part [.agg #[.slice a1 n1 c1, .slice a2 n2 c2, .slice a3 n3 c3, .int .u8 x, .int .u8 y, .int .u8 z]] H Q := by
  refine enterT _ (nf_F_parcloselaw03_Part _ _ _ _ _ _ _ _ _ _ _ _ _ _ _) rfl ?_
  unfold vc_F_parcloselaw03_Part
  obtain ⟨mm, hm⟩ := new_root col H
  have hmk : ∀ k b, b < H.next → col b = [k, mm] → False := fun k b hb e => hm b hb (by rw [e]; exact ⟨[k], rfl⟩)
  refine nw.new fun q1 G1 e1 => nw.new fun q2 G2 e2 => nw.new fun q3 G3 e3 => ?_
  have t1 : Stp (fun _ => False) col H col G1 := e1.keep.stp _ _
  have t2 : Stp (fun _ => False) col G1 col G2 := e2.keep.stp _ _
  have s2 := t1.trans t2
  have o1 := (e1.own hfr).fr t2 id
  have o2 := e2.own (t1.fresh hfr)
  obtain ⟨k3, t3⟩ := e3.bk (fun _ => False) col [2, mm]
  have hq1 : H.next ≤ q1 := by rw [e1.num]; exact Nat.le_refl _
  have hq2 : H.next ≤ q2 := by rw [e2.num]; exact t1.next
  have ne12 : q1 ≠ q2 := by have := (e1.own hfr).lt; rw [e2.num]; omega
  obtain ⟨colA, hcA⟩ : ∃ colA, colA = setC col q3 [2, mm] := ⟨_, rfl⟩
  rw [← hcA] at k3 t3
  have s3 := s2.trans t3
  have o1 := o1.fr t3 id
  have o2 := o2.fr t3 id
  have g2 : G2.get q1 = _ := (t2.get q1 (e1.own hfr).lt id).trans e1.at_
  refine ld_l.mk o1.get rfl ⟨again_sl g2 rfl, ?_⟩
  have z0 : SlE eI 1 G3 colA [2, mm] (some ⟨q3, 0, none⟩) 0 0 [] := ⟨rfl, rfl, .inr ⟨q3, 0, [], 0, rfl, k3, .inl rfl, Nat.le_refl _, by simp, by simp⟩⟩
  have hl := h3.1
  refine z0.app (ys := ds) eI_len eI_cell (by decide) (by decide) (by omega) (by omega) ((h3.fr s3 id).src eI_len) hl.symm fun b3 f3 G4 col4 k4 t4 _ => ?_
  rw [Nat.zero_add] at k4 ⊢
  have s4 : Stp (fun _ => False) col H col4 G4 := s3.newer t4 (hmk 2)
  have o1 := o1.fr t4 (by simp)
  have o2 := o2.fr t4 (by simp)
  refine ld_Accc.mk o1.get rfl (by simp) ⟨⟨ldN_at g2 (by simp) rfl, by simp [veq]⟩, nw.new fun q5 G5 e5 => st.do e5.at_ rfl rfl (by simp) fun G6 w6 => ?_⟩
  have t5 : Stp (fun _ => False) col4 G4 col4 G5 := e5.keep.stp _ _
  have s5 := s4.trans t5
  have hq5 : H.next ≤ q5 := by rw [e5.num]; exact s4.next
  obtain ⟨o5, t6, s6⟩ := (e5.own (s4.fresh hfr)).own_wr s5 hq5 w6
  have ne15 : q1 ≠ q5 := by have := o1.lt; rw [e5.num]; omega
  have ne25 : q2 ≠ q5 := by have := o2.lt; rw [e5.num]; omega
  have o1 := (o1.fr t5 id).other w6 ne15
  have o2 := (o2.fr t5 id).other w6 ne25
  have o5 : Bk G6 col4 [] q5 [.slice none 0 0, .slice none 0 0, .slice b3 n3 f3, .int .u8 x, .int .u8 y, .int .u8 z] 0 := by simpa [setMany, cellsOf] using o5
  intro X hX
  have hn1 := h1.1
  have hn2 := h2.1
  have loop1 := loop_up (X := X) (fun k (_ : Unit) => [vI k]) (fun k _ G => ∃ col1 a cap, SlE eTask 6 G col1 [0, mm] a k cap (ts.take k) ∧ Bk G col1 [] q1 [.slice a1 n1 c1, .slice a2 n2 c2, .slice a3 n3 c3, .int .u8 x, .int .u8 y, .int .u8 z] 0 ∧
    Bk G col1 [] q2 [.slice none 0 0, .slice none 0 0, .slice none 0 0, .int .u8 0, .int .u8 0, .int .u8 0] 0 ∧ Bk G col1 [] q5 [.slice a k cap, .slice none 0 0, .slice b3 n3 f3, .int .u8 x, .int .u8 y, .int .u8 z] 0 ∧ Stp (fun _ => False) col H col1 G) n1 ?_ ?_
  · exact loop1 0 () G6 (by omega) ⟨col4, none, 0, SlE.nil, o1, o2, o5, s6⟩
  · rintro _ G ⟨col1, ta, tc, u1, p1, p2, p5, sG⟩
    rw [List.take_of_length_le (by omega)] at u1
    refine hX _ _ fun _ => ld_l.mk p1.get rfl (bcase_dec (fun h => absurd h (by omega)) fun _ => ?_)
    intro Y hY
    have loop2 := loop_up (X := Y) (fun k (_ : Unit) => [vI k]) (fun k _ G => ∃ col1 a cap, SlE eSrv 3 G col1 [1, mm] a k cap (ss.take k) ∧ SlE eTask 6 G col1 [0, mm] ta n1 tc ts ∧ Bk G col1 [] q1 [.slice a1 n1 c1, .slice a2 n2 c2, .slice a3 n3 c3, .int .u8 x, .int .u8 y, .int .u8 z] 0 ∧
      Bk G col1 [] q2 [.slice none 0 0, .slice none 0 0, .slice none 0 0, .int .u8 0, .int .u8 0, .int .u8 0] 0 ∧ Bk G col1 [] q5 [.slice ta n1 tc, .slice a k cap, .slice b3 n3 f3, .int .u8 x, .int .u8 y, .int .u8 z] 0 ∧ Stp (fun _ => False) col H col1 G) n2 ?_ ?_
    · exact loop2 0 () G (by omega) ⟨col1, none, 0, SlE.nil, u1, p1, p2, p5, sG⟩
    · rintro _ G ⟨col1, sa, sc, v1, u1, p1, p2, p5, sG⟩
      rw [List.take_of_length_le (by omega)] at v1
      refine hY _ _ fun _ => ld_l.mk p1.get rfl (bcase_dec (fun h => absurd h (by omega)) fun _ => ld_Alllccc.mk p5.get rfl (by simp) (st.do p2.get rfl rfl (by simp) fun G7 w7 => ld_Alllccc.mk w7.at_ rfl (by simp [setMany, cellsOf]) ?_))
      obtain ⟨_, t7, s7⟩ := p2.own_wr sG hq2 w7
      exact hQ G7 col1 mm ta tc sa sc b3 f3 ((u1.rd eTask_len).fr t7 (by simp)) ((v1.rd eSrv_len).fr t7 (by simp)) hm s7
    · rintro k _ G hk ⟨col1, sa, sc, v1, u1, p1, p2, p5, sG⟩ go
      have ew : IntKind.i64.wrap ((k : Int) + 1) = ((k + 1 : Nat) : Int) := by rw [i64_in _ (by omega)]; omega
      have hkt : k < ss.length := by omega
      obtain ⟨b, o, cs, ro, g', rfl, r2, r3, r4, r5, r6⟩ := (h2.fr sG id).at_ (i := k) (x := ss[k]) (by simp)
      refine hY _ _ fun _ => ld_l.mk p1.get rfl (bcase_dec (fun _ => ld_l.mk p5.get rfl (ld_l.mk p1.get rfl (ix.mk (by omega) (by omega) (ld_Abii.mk r3 (by rw [Int.toNat_natCast]; exact r6) (by rw [Int.toNat_natCast]; omega) (nw.new fun t G7 e7 => ?_))))) fun h => absurd (by omega) h)
      have t7 : Stp (fun _ => False) col1 G col1 G7 := e7.keep.stp _ _
      refine (v1.fr t7 id).push (y := ss[k]) eSrv_len eSrv_cell e7.at_ (by decide) (by decide) (by omega) (by omega) fun a' cap' G8 col8 k8 t8 _ => ?_
      have s8 := (sG.trans t7).newer t8 (hmk 1)
      have p5 := (p5.fr t7 id).fr t8 (by simp)
      have p1 := (p1.fr t7 id).fr t8 (by simp)
      have p2 := (p2.fr t7 id).fr t8 (by simp)
      have u1 := (u1.fr t7 id).fr t8 (by simp)
      refine st.do p5.get rfl rfl (by simp) fun G9 w9 => kp.mk ?_
      obtain ⟨q5', t9, s9⟩ := p5.own_wr s8 hq5 w9
      rw [ew]
      refine go () G9 ⟨col8, a', cap', ?_, u1.fr t9 (by simp), p1.other w9 ne15, p2.other w9 ne25, by simpa [setMany, cellsOf] using q5', s9⟩
      rw [List.take_succ, List.getElem?_eq_getElem hkt]
      exact k8.fr t9 (by simp)
  · rintro k _ G hk ⟨col1, sa, sc, u1, p1, p2, p5, sG⟩ go
    have ew : IntKind.i64.wrap ((k : Int) + 1) = ((k + 1 : Nat) : Int) := by rw [i64_in _ (by omega)]; omega
    have hkt : k < ts.length := by omega
    obtain ⟨b, o, cs, ro, g', rfl, r2, r3, r4, r5, r6⟩ := (h1.fr sG id).at_ (i := k) (x := ts[k]) (by simp)
    refine hX _ _ fun _ => ld_l.mk p1.get rfl (bcase_dec (fun _ => ld_l.mk p5.get rfl (ld_l.mk p1.get rfl (ix.mk (by omega) (by omega) (ld_Abiiiii.mk r3 (by rw [Int.toNat_natCast]; exact r6) (by rw [Int.toNat_natCast]; omega) (nw.new fun t G7 e7 => ?_))))) fun h => absurd (by omega) h)
    have t7 : Stp (fun _ => False) col1 G col1 G7 := e7.keep.stp _ _
    refine (u1.fr t7 id).push (y := ts[k]) eTask_len eTask_cell e7.at_ (by decide) (by decide) (by omega) (by omega) fun a' cap' G8 col8 k8 t8 _ => ?_
    have s8 := (sG.trans t7).newer t8 (hmk 0)
    have p5 := (p5.fr t7 id).fr t8 (by simp)
    have p1 := (p1.fr t7 id).fr t8 (by simp)
    have p2 := (p2.fr t7 id).fr t8 (by simp)
    refine st.do p5.get rfl rfl (by simp) fun G9 w9 => kp.mk ?_
    obtain ⟨q5', t9, s9⟩ := p5.own_wr s8 hq5 w9
    rw [ew]
    refine go () G9 ⟨col8, a', cap', ?_, p1.other w9 ne15, p2.other w9 ne25, by simpa [setMany, cellsOf] using q5', s9⟩
    rw [List.take_succ, List.getElem?_eq_getElem hkt]
    exact k8.fr t9 (by simp)
end
end Go.Ez

/- The law's own: a job's row is turned; few; light. -/
set_option linter.all false
set_option maxRecDepth 20000
namespace Go.Ez
open Go.Proofs Go.IntWalk
section
variable {H H' : AH} {col col' : Col} {c : List Nat} {p : Nat}
theorem w_job19 {a : Option Addr} {n cap : Nat} {l : List OpC} {d : List Nat} {x y z w : Int} (h : RdX eOp 3 H col d a n cap l) (hl : n ≤ 1000000) (hfr : Fresh col H) {Q : Value → AH → Prop}
    (hQ : ∀ H' col' mm b e, RdE eOp 3 H' col' [mm] b n e l → (∀ b, b < H.next → ¬ Under [mm] (col b)) → Stp (fun _ => False) col H col' H' → Q (.agg #[vI x, vI y, vI z, vI w, .slice b n e]) H') :
    W prog XP F_parcloselaw19_Job [.agg #[vI x, vI y, vI z, vI w, .slice a n cap]] H Q := by
  refine enterT _ (nf_F_parcloselaw19_Job _ _ _ _ _ _ _ _ _ _) rfl ?_
  unfold vc_F_parcloselaw19_Job
  obtain ⟨mm, hm⟩ := new_root col H
  have hmk : ∀ b, b < H.next → col b = [mm] → False := fun b hb e => hm b hb (by rw [e]; exact Under.refl _)
  refine nw.new fun q1 G1 e1 => nw.new fun q2 G2 e2 => ?_
  have t1 : Stp (fun _ => False) col H col G1 := e1.keep.stp _ _
  have t2 : Stp (fun _ => False) col G1 col G2 := e2.keep.stp _ _
  have s2 := t1.trans t2
  have o1 := (e1.own hfr).fr t2 id
  have o2 := e2.own (t1.fresh hfr)
  have hq2 : H.next ≤ q2 := by rw [e2.num]; exact t1.next
  have ne12 : q1 ≠ q2 := by have := (e1.own hfr).lt; rw [e2.num]; omega
  refine ld_i.mk o1.get rfl (ld_i.mk o1.get rfl (ld_i.mk o1.get rfl (ld_i.mk o1.get rfl (nw.new fun q5 G5 e5 => st.do e5.at_ rfl rfl (by simp) fun G6 w6 => ?_))))
  have t5 : Stp (fun _ => False) col G2 col G5 := e5.keep.stp _ _
  have s5 := s2.trans t5
  have hq5 : H.next ≤ q5 := by rw [e5.num]; exact s2.next
  obtain ⟨o5, t6, s6⟩ := (e5.own (s2.fresh hfr)).own_wr s5 hq5 w6
  have ne15 : q1 ≠ q5 := by have := o1.lt; rw [e5.num]; omega
  have ne25 : q2 ≠ q5 := by have := o2.lt; rw [e5.num]; omega
  have o1 := (o1.fr t5 id).other w6 ne15
  have o2 := (o2.fr t5 id).other w6 ne25
  have o5 : Bk G6 col [] q5 [vI x, vI y, vI z, vI w, .slice none 0 0] 0 := by simpa [setMany, cellsOf] using o5
  have hn := h.1
  intro X hX
  have loop := loop_up (X := X) (fun k (_ : Unit) => [vI k]) (fun k _ G => ∃ col1 b e, SlE eOp 3 G col1 [mm] b k e (l.take k) ∧ Bk G col1 [] q1 [vI x, vI y, vI z, vI w, .slice a n cap] 0 ∧ Bk G col1 [] q2 [vI 0, vI 0, vI 0, vI 0, .slice none 0 0] 0 ∧
    Bk G col1 [] q5 [vI x, vI y, vI z, vI w, .slice b k e] 0 ∧ Stp (fun _ => False) col H col1 G) n ?_ ?_
  · exact loop 0 () G6 (by omega) ⟨col, none, 0, SlE.nil, o1, o2, o5, s6⟩
  · rintro _ G ⟨col1, b, e, u1, p1, p2, p5, sG⟩
    rw [List.take_of_length_le (by omega)] at u1
    refine hX _ _ fun _ => ld_l.mk p1.get rfl (bcase_dec (fun h => absurd h (by omega)) fun _ => ld_Aiiiil.mk p5.get rfl (by simp) (st.do p2.get rfl rfl (by simp) fun G7 w7 => ld_Aiiiil.mk w7.at_ rfl (by simp [setMany, cellsOf]) ?_))
    obtain ⟨_, t7, s7⟩ := p2.own_wr sG hq2 w7
    exact hQ G7 col1 mm b e ((u1.rd eOp_len).fr t7 (by simp)) hm s7
  · rintro k _ G hk ⟨col1, sa, sc, u1, p1, p2, p5, sG⟩ go
    have ew : IntKind.i64.wrap ((k : Int) + 1) = ((k + 1 : Nat) : Int) := by rw [i64_in _ (by omega)]; omega
    have hkt : k < l.length := by omega
    obtain ⟨b, o, cs, ro, g', rfl, r2, r3, r4, r5, r6⟩ := (h.fr sG id).at_ (i := k) (x := l[k]) (by simp)
    refine hX _ _ fun _ => ld_l.mk p1.get rfl (bcase_dec (fun _ => ld_l.mk p5.get rfl (ld_l.mk p1.get rfl (ix.mk (by omega) (by omega) (ld_Aiii.mk r3 (by rw [Int.toNat_natCast]; exact r6) (by rw [Int.toNat_natCast]; omega) (nw.new fun t G7 e7 => ?_))))) fun h => absurd (by omega) h)
    have t7 : Stp (fun _ => False) col1 G col1 G7 := e7.keep.stp _ _
    refine (u1.fr t7 id).push (y := l[k]) eOp_len eOp_cell e7.at_ (by decide) (by decide) (by omega) (by omega) fun a' cap' G8 col8 k8 t8 _ => ?_
    have s8 := (sG.trans t7).newer t8 hmk
    have p5 := (p5.fr t7 id).fr t8 (by simp)
    have p1 := (p1.fr t7 id).fr t8 (by simp)
    have p2 := (p2.fr t7 id).fr t8 (by simp)
    refine st.do p5.get rfl rfl (by simp) fun G9 w9 => kp.mk ?_
    obtain ⟨q5', t9, s9⟩ := p5.own_wr s8 hq5 w9
    rw [ew]
    refine go () G9 ⟨col8, a', cap', ?_, p1.other w9 ne15, p2.other w9 ne25, by simpa [setMany, cellsOf] using q5', s9⟩
    rw [List.take_succ, List.getElem?_eq_getElem hkt]
    exact k8.fr t9 (by simp)
theorem p_few {a1 a2 a3 : Option Addr} {n1 c1 n2 c2 n3 c3 : Nat} {x y z : Int} : PureC prog (XK 64) F_parcloselaw20_few [.agg #[.slice a1 n1 c1, .slice a2 n2 c2, .slice a3 n3 c3, .int .u8 x, .int .u8 y, .int .u8 z]] H (.bool (decide (n1 ≤ 20 ∧ n2 ≤ 20 ∧ n3 ≤ 20))) := by
  refine pure_of _ rfl (fun N => nf_F_parcloselaw20_few _ _ _ _ _ _ _ _ _ _ _ _ _ _ _) rfl fun N hN => ?_
  unfold vc_F_parcloselaw20_few
  refine nw.new fun q1 G1 e1 => ld_l.mk e1.at_ rfl (bcase_dec (fun h1 => ld_l.mk e1.at_ rfl (bcase_dec (fun h2 => ld_l.mk e1.at_ rfl ⟨?_, e1.keep⟩) fun h2 => ⟨?_, e1.keep⟩)) fun h1 => ⟨?_, e1.keep⟩)
  · congr 1
    by_cases h3 : n3 ≤ 20
    · rw [decide_eq_true (by omega), decide_eq_true (by omega)]
    · rw [decide_eq_false (by omega), decide_eq_false (by omega)]
  · rw [decide_eq_false (by omega)]
  · rw [decide_eq_false (by omega)]
theorem c_few {a1 a2 a3 : Option Addr} {n1 c1 n2 c2 n3 c3 : Nat} {x y z : Int} {j : Nat} {Q : Value → AH → Prop} (hj : 64 < j) (hQ : Q (.bool (decide (n1 ≤ 20 ∧ n2 ≤ 20 ∧ n3 ≤ 20))) H) :
    W prog (XK j) F_parcloselaw20_few [.agg #[.slice a1 n1 c1, .slice a2 n2 c2, .slice a3 n3 c3, .int .u8 x, .int .u8 y, .int .u8 z]] H Q := callT p_few TL_nd rfl hj hQ

/-- An act. -/
structure ActC where
  kind : Int
  s : Int
  n : Int
  task : Int
  arr : Int
  work : Int
  done : Int
  a : Option Addr
  k : Nat
  cap : Nat
def eAct (x : ActC) : List Value := [vI x.kind, vI x.s, vI x.n, vI x.task, vI x.arr, vI x.work, vI x.done, .slice x.a x.k x.cap]
theorem eAct_len (x : ActC) : (eAct x).length = 8 := rfl
theorem eAct_cell (x : ActC) : (eAct x).all isCell = true := rfl
def lightM (l : List ActC) : Bool := decide (l.length ≤ 150) && (l.take 150).all fun x => decide (x.k ≤ 70)
theorem p_light {a : Option Addr} {n cap : Nat} {l : List ActC} {d : List Nat} (h : RdX eAct 8 H col d a n cap l) : PureC prog (XK 65) F_parcloselaw20_light [.slice a n cap] H (.bool ((l.take 150).all (fun x => decide (x.k ≤ 70)) && decide (n ≤ 150))) := by
  refine pure_of _ rfl (fun N => nf_F_parcloselaw20_light _ _ _ _ _ _) rfl fun N hN => ?_
  unfold vc_F_parcloselaw20_light
  have hn := h.1
  intro Y hY X hX
  have fin : (l.take 150).all (fun x => decide (x.k ≤ 70)) = true → Y [] (H.up N) := fun e => hY _ fun _ => ⟨by
    rw [e, Bool.true_and]
    congr 1
    by_cases h3 : n ≤ 150
    · rw [decide_eq_true (by omega), decide_eq_true (by omega)]
    · rw [decide_eq_false (by omega), decide_eq_false (by omega)], Keep.refl _ _⟩
  obtain ⟨M, hM1, hM2, hM3⟩ : ∃ M, M ≤ n ∧ M ≤ 150 ∧ (M = n ∨ M = 150) := ⟨min n 150, by omega, by omega, by omega⟩
  have loop := loop_up (X := X) (fun k (_ : Unit) => [vI k]) (fun k _ G => G = H.up N ∧ ∀ i x, i < k → l[i]? = some x → x.k ≤ 70) M ?_ ?_
  · exact loop 0 () _ (by omega) ⟨rfl, fun i x hi => by omega⟩
  · rintro _ G ⟨rfl, hk⟩
    have e : (l.take 150).all (fun x => decide (x.k ≤ 70)) = true := by
      rw [List.all_eq_true]
      intro x hx
      obtain ⟨i, hi⟩ := List.getElem?_of_mem hx
      rw [List.getElem?_take] at hi
      split at hi
      · have hil : i < l.length := by
          rcases Nat.lt_or_ge i l.length with h | h
          · exact h
          · rw [List.getElem?_eq_none h] at hi; cases hi
        exact decide_eq_true (hk i x (by omega) hi)
      · cases hi
    refine hX _ _ fun _ => ?_
    intro Z hZ
    exact bcase_dec (fun h1 => bcase_dec (fun h2 => by omega) fun h2 => kp.mk (fin e)) fun h1 => kp.mk (fin e)
  · rintro k _ G hk ⟨rfl, hkk⟩ go
    have ew : IntKind.i64.wrap ((k : Int) + 1) = ((k + 1 : Nat) : Int) := by rw [i64_in _ (by omega)]; omega
    refine hX _ _ fun _ => ?_
    intro Z hZ
    refine bcase_dec (fun h1 => bcase_dec (fun h2 => kp.mk (hZ _ fun _ => ?_)) fun h2 => absurd (by omega) h2) fun h1 => absurd (by omega) h1
    obtain ⟨b, o, cs, ro, g', rfl, r2, r3, r4, r5, r6⟩ := (h.up hN).at_ (i := k) (x := l[k]) (by simp)
    have e7 : cs[o + k * 8 + 7]? = some (.slice l[k].a l[k].k l[k].cap) := chunk_get r6 (j := 7) (by decide)
    refine ix.mk (by omega) (by omega) (ld_l.mk r3 (by rw [Int.toNat_natCast]; exact e7) (bcase_dec (fun h70 => ⟨?_, Keep.refl _ _⟩) fun h70 => kp.mk ?_))
    · have : (l.take 150).all (fun x => decide (x.k ≤ 70)) = false := by
        rw [List.all_eq_false]
        refine ⟨l[k], List.mem_of_getElem? (i := k) (by rw [List.getElem?_take, if_pos (by omega)]; simp), by simp; omega⟩
      rw [this]; rfl
    · rw [ew]
      refine go () _ ⟨rfl, fun i x hi hx => ?_⟩
      rcases Nat.lt_or_ge i k with h | h
      · exact hkk i x h hx
      · have : i = k := by omega
        subst this
        rw [List.getElem?_eq_getElem (by omega)] at hx
        cases hx; omega
theorem c_light {a : Option Addr} {n cap : Nat} {l : List ActC} {d : List Nat} (h : RdX eAct 8 H col d a n cap l) {j : Nat} {Q : Value → AH → Prop} (hj : 65 < j) (hQ : Q (.bool ((l.take 150).all (fun x => decide (x.k ≤ 70)) && decide (n ≤ 150))) H) :
    W prog (XK j) F_parcloselaw20_light [.slice a n cap] H Q := callT (p_light h) TL_nd rfl hj hQ
theorem c_knows {Q : Value → AH → Prop} (hQ : Q (.bool true) H) : W prog XP F_parcloselaw20_knows [] H Q := by
  exact W.ext (by rw [show (XP).dom _ = (inL (TL.take 999).reverse _ || X0.dom _) from pureX_dom]; rfl) (by rw [show (XP).run _ _ _ = X0.run _ _ _ from pureX_run rfl]; rfl) hQ
end
end Go.Ez

/- The plain law of PartModes: in high mode only high tasks have jobs, and one has; what is down is empty. -/
set_option linter.all false
namespace Go.Ez
structure WInv (ts : List TaskC) (m : PartM) : Prop where
  tasks : m.sl.map (·.1) = ts
  hi : m.high = true → ∀ (k : Nat) t j, m.sl[k]? = some (t, some j) → t.hi = true
structure Inv (ts : List TaskC) (m : PartM) : Prop where
  w : WInv ts m
  some_ : m.high = true → ¬ noJobs m.sl
  down : m.up = false → noJobs m.sl ∧ m.high = false ∧ ∀ r ∈ m.rows, r.q = []
theorem stay_fst (pr : TaskC → JobC → Bool) (s : SlotC) : (stay pr s).1 = s.1 := by unfold stay; split <;> rfl
theorem map_stay_fst (pr : TaskC → JobC → Bool) (sl : List SlotC) : (sl.map (stay pr)).map (·.1) = sl.map (·.1) := by
  rw [List.map_map]; apply List.map_congr_left; intro s _; exact stay_fst pr s
theorem stay_some {pr : TaskC → JobC → Bool} {sl : List SlotC} {k : Nat} {t : TaskC} {j : JobC} (h : (sl.map (stay pr))[k]? = some (t, some j)) : sl[k]? = some (t, some j) ∧ pr t j = false := by
  rw [List.getElem?_map] at h
  cases hs : sl[k]? with
  | none => rw [hs] at h; cases h
  | some s =>
    rw [hs] at h
    simp only [Option.map_some, Option.some.injEq] at h
    unfold stay at h
    by_cases hg : goesK pr s = true
    · rw [if_pos hg] at h; cases h
    · rw [if_neg hg] at h
      subst h
      exact ⟨rfl, by simpa [goesK] using hg⟩
theorem stay_keeps {pr : TaskC → JobC → Bool} {sl : List SlotC} {k : Nat} {t : TaskC} {j : JobC} (h : sl[k]? = some (t, some j)) (hp : pr t j = false) : (sl.map (stay pr))[k]? = some (t, some j) := by
  rw [List.getElem?_map, h]
  simp [stay, goesK, hp]
theorem set_fst {sl : List SlotC} {k : Nat} {t : TaskC} {x y : Option JobC} (h : sl[k]? = some (t, x)) : (sl.set k (t, y)).map (·.1) = sl.map (·.1) := by
  rw [List.map_set]
  apply List.ext_getElem?
  intro i
  rw [List.getElem?_set]
  split
  · rename_i e; subst e
    split
    · rw [List.getElem?_map, h]; rfl
    · rename_i hk
      rw [List.getElem?_eq_none (by omega)]
  · rfl
theorem not_none {sl : List SlotC} {k : Nat} {t : TaskC} {j : JobC} (h : sl[k]? = some (t, some j)) : ¬ noJobs sl := fun hn => by cases hn k _ h
variable {ts : List TaskC} {m : PartM}
theorem WInv.settle (h : WInv ts m) (hu : m.up = true) : Inv ts m.settle := by
  unfold PartM.settle
  by_cases hf : m.falls = true
  · rw [if_pos hf]
    exact ⟨⟨h.tasks, fun e => (by cases e)⟩, fun e => (by cases e), fun e => by simp only at e; rw [hu] at e; cases e⟩
  · rw [if_neg hf]
    refine ⟨h, fun e hn => hf ?_, fun e => by rw [hu] at e; cases e⟩
    unfold PartM.falls
    rw [Bool.and_eq_true, emptyB_iff]; exact ⟨e, hn⟩
theorem WInv.miss (h : WInv ts m) (now : Int) : WInv ts (m.miss now) :=
  ⟨(map_stay_fst _ _).trans h.tasks, fun e k t j hk => h.hi e k t j (stay_some hk).1⟩
theorem Inv.go (h : Inv ts m) (hu : m.up = true) (now : Int) : Inv ts (m.go now) := ⟨⟨h.w.tasks, h.w.hi⟩, h.some_, fun e => by
  have : m.up = false := e
  rw [hu] at this; cases this⟩
theorem settle_up : m.settle.up = m.up := by unfold PartM.settle; split <;> rfl
theorem Inv.begins (h : Inv ts m) (now : Int) : Inv ts (m.begins now) := by
  unfold PartM.begins
  by_cases hu : m.up = true
  · rw [if_pos hu]
    exact ((h.w.miss now).settle hu).go (by rw [settle_up]; exact hu) now
  · rw [if_neg hu]; exact h
theorem WInv.ran (h : WInv ts m) {k : Nat} {t : TaskC} {j : JobC} (hs : m.sl[k]? = some (t, some j)) : WInv ts (m.ran k t j) := by
  refine ⟨(set_fst hs).trans h.tasks, fun e i t' j' hi => ?_⟩
  have hi' : (m.sl.set k (t, (runJ m.high t j).2))[i]? = some (t', some j') := hi
  rw [List.getElem?_set] at hi'
  split at hi'
  · split at hi'
    · simp only [Option.some.injEq, Prod.mk.injEq] at hi'
      rw [← hi'.1]; exact h.hi e k t j hs
    · cases hi'
  · exact h.hi e i t' j' hi'
theorem runJ_rise {high : Bool} {t : TaskC} {j : JobC} (h : (runJ high t j).1 = 3) : t.hi = true ∧ ∃ j', (runJ high t j).2 = some j' := by
  unfold runJ at h ⊢
  simp only at h ⊢
  by_cases h1 : j.done + 1 = j.work
  · rw [if_pos h1] at h; cases h
  · rw [if_neg h1] at h ⊢
    by_cases h2 : (if high = true then t.Top else t.Lo) ≤ j.done + 1
    · rw [if_pos h2] at h ⊢
      by_cases h4 : high = true ∨ t.hi = false ∨ t.Top = t.Lo
      · rw [if_pos h4] at h; cases h
      · rw [if_neg h4]
        exact ⟨by cases hh : t.hi <;> simp_all, _, rfl⟩
    · rw [if_neg h2] at h; cases h
theorem runJ_on {high : Bool} {t : TaskC} {j : JobC} (h3 : (runJ high t j).1 ≠ 3) (h1 : (runJ high t j).1 ≠ 1) (h2 : (runJ high t j).1 ≠ 2) : ∃ j', (runJ high t j).2 = some j' := by
  unfold runJ at h1 h2 h3 ⊢
  simp only at h1 h2 h3 ⊢
  by_cases e1 : j.done + 1 = j.work
  · rw [if_pos e1] at h1; exact absurd rfl h1
  · rw [if_neg e1] at h1 h2 h3 ⊢
    by_cases e2 : (if high = true then t.Top else t.Lo) ≤ j.done + 1
    · rw [if_pos e2] at h1 h2 h3 ⊢
      by_cases h4 : high = true ∨ t.hi = false ∨ t.Top = t.Lo
      · rw [if_pos h4] at h2; exact absurd rfl h2
      · rw [if_neg h4] at h3; exact absurd rfl h3
    · rw [if_neg e2]; exact ⟨_, rfl⟩
theorem lt_of_get {α : Type} {l : List α} {k : Nat} {x : α} (h : l[k]? = some x) : k < l.length := by
  rcases Nat.lt_or_ge k l.length with h1 | h1
  · exact h1
  · rw [List.getElem?_eq_none h1] at h; cases h
theorem Inv.work (h : Inv ts m) (hu : m.up = true) {k : Nat} {t : TaskC} {j : JobC} (hs : m.sl[k]? = some (t, some j)) : Inv ts (m.work k t j) := by
  have hk := lt_of_get hs
  unfold PartM.work
  by_cases h3 : (runJ m.high t j).1 = 3
  · rw [if_pos h3]
    obtain ⟨hh, j', hj⟩ := runJ_rise h3
    have hsl : (m.ran k t j).sl[k]? = some (t, some j') := by
      show (m.sl.set k (t, (runJ m.high t j).2))[k]? = _
      rw [List.getElem?_set_self hk, hj]
    refine ⟨⟨(map_stay_fst _ _).trans (set_fst hs |>.trans h.w.tasks), fun _ i t' j'' hi => ?_⟩, fun _ => not_none (stay_keeps hsl (by simp [hh])), fun e => ?_⟩
    · simpa using (stay_some hi).2
    · have : m.up = false := e
      rw [hu] at this; cases this
  · rw [if_neg h3]
    by_cases h12 : (runJ m.high t j).1 = 1 ∨ (runJ m.high t j).1 = 2
    · rw [if_pos h12]
      exact (h.w.ran hs).settle hu
    · rw [if_neg h12]
      obtain ⟨j', hj⟩ := runJ_on h3 (fun e => h12 (.inl e)) (fun e => h12 (.inr e))
      have hsl : (m.ran k t j).sl[k]? = some (t, some j') := by
        show (m.sl.set k (t, (runJ m.high t j).2))[k]? = _
        rw [List.getElem?_set_self hk, hj]
      exact ⟨h.w.ran hs, fun _ => not_none hsl, fun e => by
        have : m.up = false := e
        rw [hu] at this; cases this⟩
theorem pick_up {s0 : PickS} (hok : (m.pick s0).ok = true) : m.up = true := by
  unfold PartM.pick at hok
  split at hok
  · assumption
  · cases hok
theorem Inv.run (h : Inv ts m) {s0 : PickS} (h0 : FirstOf m.sl m.high s0) : Inv ts (m.run s0).next := by
  unfold PartM.run
  simp only
  by_cases hok : (m.pick s0).ok = true
  · have hu := pick_up hok
    rw [if_neg (by simp [hok])]
    by_cases hsv : (m.pick s0).srv = true
    · rw [if_neg (by simp [hsv])]
      obtain ⟨k, r, hk, hr, hq⟩ := pick_srv h0 hok hsv
      rw [hk, Int.toNat_natCast, hr]
      exact ⟨⟨h.w.tasks, h.w.hi⟩, h.some_, fun e => by
        have : m.up = false := e
        rw [hu] at this; cases this⟩
    · have hsv : (m.pick s0).srv = false := by simpa using hsv
      rw [if_pos hsv]
      obtain ⟨k, t, j, hk, hj⟩ := pick_job h0 hok hsv
      rw [hk, Int.toNat_natCast, hj]
      exact h.work hu hj
  · rw [if_pos (by simpa using hok)]; exact h
theorem Inv.arrive (h : Inv ts m) (now : Int) (j : JobC) : Inv ts (m.arrive now j).2 := by
  unfold PartM.arrive
  by_cases hu : m.up = false
  · rw [if_pos hu]; exact h
  rw [if_neg hu]
  have hu' : m.up = true := by simpa using hu
  split
  · exact h
  · have key : ∀ ks, Inv ts { m with sl := (putM m.sl m.high { j with arrived := now }).2, ks := ks } := fun ks => by
      unfold putM
      simp only
      split
      · split
        · rename_i t hs
          split
          · exact ⟨⟨h.w.tasks, h.w.hi⟩, h.some_, h.down⟩
          · rename_i hn
            have hk := lt_of_get hs
            refine ⟨⟨(set_fst hs).trans h.w.tasks, fun e i t' j' hi => ?_⟩, fun _ => not_none (k := j.task.toNat) (by rw [List.getElem?_set_self hk]), fun e => by simp only at e; rw [hu'] at e; cases e⟩
            simp only at e hi
            by_cases hik : j.task.toNat = i
            · subst hik
              rw [List.getElem?_set_self hk] at hi
              cases hi
              cases hh : t.hi with
              | true => rfl
              | false => exact absurd ⟨e, hh⟩ hn
            · rw [List.getElem?_set_ne hik] at hi
              exact h.w.hi e i t' j' hi
        · exact ⟨⟨h.w.tasks, h.w.hi⟩, h.some_, h.down⟩
      · exact ⟨⟨h.w.tasks, h.w.hi⟩, h.some_, h.down⟩
    simp only
    split
    · exact key m.ks
    · exact key _
theorem Inv.request (h : Inv ts m) (i x : Int) : Inv ts (m.request i x).2 := by
  unfold PartM.request
  by_cases hu : m.up = false
  · rw [if_pos hu]; exact h
  rw [if_neg hu]
  split
  · split
    · split
      · exact h
      · exact ⟨⟨h.w.tasks, h.w.hi⟩, h.some_, fun e => absurd e hu⟩
    · exact h
  · exact h
theorem noJobs_clear {sl : List SlotC} : noJobs (sl.map fun s => (s.1, none)) := fun k s hs => by
  rw [List.getElem?_map] at hs
  cases h : sl[k]? <;> rw [h] at hs <;> simp at hs
  rw [← hs]
theorem Inv.stop (h : Inv ts m) : Inv ts m.stop :=
  ⟨⟨by show (m.sl.map fun s => (s.1, none)).map (·.1) = ts; rw [List.map_map]; exact h.w.tasks, fun e => (by cases e)⟩, fun e => (by cases e), fun _ => ⟨noJobs_clear, rfl, fun r hr => by
    simp only [PartM.stop, List.mem_map] at hr
    obtain ⟨x, _, rfl⟩ := hr; rfl⟩⟩
theorem Inv.restart (h : Inv ts m) : Inv ts m.restart := ⟨⟨h.stop.w.tasks, fun e => (by cases e)⟩, fun e => (by cases e), fun e => (by cases e)⟩
theorem Inv.new (start : Int) (ts : List TaskC) (ss : List SrvC) : Inv ts (newPart start ts ss) := ⟨⟨by show (ts.map fun t => (t, none)).map (·.1) = ts; rw [List.map_map]; exact List.map_id _, fun e => (by cases e)⟩, fun e => (by cases e), fun e => (by cases e)⟩
/-- What the law looks at. -/
theorem jobsOf_mem {sl : List SlotC} {j : JobC} (h : j ∈ jobsOf sl) : ∃ (k : Nat) (t : TaskC), sl[k]? = some (t, some j) := by
  unfold jobsOf at h
  rw [List.mem_filterMap] at h
  obtain ⟨⟨t, x⟩, h1, h2⟩ := h
  simp only at h2
  subst h2
  obtain ⟨k, hk⟩ := List.getElem?_of_mem h1
  exact ⟨k, t, hk⟩
theorem jobsOf_nil {sl : List SlotC} : jobsOf sl = [] ↔ noJobs sl := by
  unfold jobsOf noJobs
  rw [List.filterMap_eq_nil_iff]
  constructor
  · intro h k s hs; exact h s (List.mem_of_getElem? hs)
  · intro h s hs
    obtain ⟨k, hk⟩ := List.getElem?_of_mem hs
    exact h k s hk
theorem Inv.queue (h : Inv ts m) (hu : m.up = false) (i : Int) : m.queue i = 0 := by
  unfold PartM.queue
  split
  · cases hr : m.rows[i.toNat]? with
    | none => rfl
    | some r => simp [(h.down hu).2.2 r (List.mem_of_getElem? hr)]
  · rfl
end Go.Ez

/- PartModes: the walk. -/
set_option linter.all false
set_option maxRecDepth 20000
namespace Go.Ez
open Go.Proofs Go.IntWalk
section
variable {H H' : AH} {col col' : Col} {c : List Nat} {p : Nat} {m : PartM}
theorem PartR.job (h : PartR H col c p m) {k : Nat} {t : TaskC} {j : JobC} (hs : m.sl[k]? = some (t, some j)) : j.task = k := by
  obtain ⟨_, _, _, _, _, _, k0⟩ := h
  obtain ⟨_, _, _, _, _, _, h1, _⟩ := k0.tab
  exact (h1.ok.job k t j hs).task
theorem PartR.first (h : PartR H col c p m) : ∃ s0, FirstOf m.sl m.high s0 := by
  obtain ⟨_, _, _, _, _, _, k0⟩ := h
  exact first_ex k0.tab
theorem w_modes {a1 a2 a3 a6 : Option Addr} {n1 c1 n2 c2 n3 c3 n6 c6 : Nat} {ts : List TaskC} {ss : List SrvC} {ds : List Int} {l : List ActC} {d1 d2 d3 d6 : List Nat} {x y z : Int}
    (h1 : RdX eTask 6 H col d1 a1 n1 c1 ts) (h2 : RdX eSrv 3 H col d2 a2 n2 c2 ss) (h3 : RdX eI 1 H col d3 a3 n3 c3 ds) (h6 : RdX eAct 8 H col d6 a6 n6 c6 l) (hops : ∀ x ∈ l, ∃ d ops, RdX eOp 3 H col d x.a x.k x.cap ops)
    (hl1 : n1 * 48 ≤ 140737488351232) (hl2 : n2 * 24 ≤ 140737488351232) (hl3 : n3 * 8 ≤ 140737488351232) (hfr : Fresh col H) :
    W prog XP F_parcloselaw20_PartModes [.agg #[.slice a1 n1 c1, .slice a2 n2 c2, .slice a3 n3 c3, .int .u8 x, .int .u8 y, .int .u8 z], .slice a6 n6 c6] H fun v _ => v = .bool true := by
  refine enterT _ (nf_F_parcloselaw20_PartModes _ _ _ _ _ _ _ _ _ _ _ _ _ _ _ _ _ _) rfl ?_
  unfold vc_F_parcloselaw20_PartModes
  refine nw.new fun b7 G1 e1 => ld_Alllccc.mk e1.at_ rfl (by simp) ?_
  have t1 : Stp (fun _ => False) col H col G1 := e1.keep.stp _ _
  have o1 := e1.own hfr
  refine w_law3 (h1.fr t1 id) (h2.fr t1 id) (h3.fr t1 id) hl1 hl2 hl3 (t1.fresh hfr) fun G2 col2 mm ta tc sa sc da dc r1 r2 hmm t2 => ?_
  simp only [r_Alllccc_eq]
  have s2 := t1.trans t2
  have o2 := o1.fr t2 id
  obtain ⟨m0, hm0⟩ := new_root col2 G2
  have hl1' := r1.1
  have hl2' := r2.1
  -- what comes when the guards end it
  refine w_newpart (c := [m0]) r1 r2 (by omega) (by omega) (by simp) (s2.fresh hfr) hm0 (fun _ G3 s3 => ?_) fun hr _ _ G3 col3 p h3p s3 => ?_
  · simp only [r_p_eq]
    intro X hX
    have o3 := o2.fr s3 id
    refine ld_Alllccc.mk o3.get rfl (by simp) (c_few (by decide) ?_)
    simp only [r_b_eq]
    refine bcase_both (fun _ => c_knows (by simp only [r_b_eq])) fun _ => c_light ((h6.fr s2 id).fr s3 id) (by decide) ?_
    simp only [r_b_eq]
    refine bcase_both (fun _ => c_knows (by simp only [r_b_eq])) fun _ => bcase_t rfl (c_knows (by simp only [r_b_eq]))
  simp only [r_p_eq]
  intro X hX
  have o3 := o2.fr s3 id
  have s03 := s2.trans s3
  refine ld_Alllccc.mk o3.get rfl (by simp) (c_few (by decide) ?_)
  simp only [r_b_eq]
  refine bcase_both (fun _ => c_knows (by simp only [r_b_eq])) fun hfew => c_light ((h6.fr s2 id).fr s3 id) (by decide) ?_
  simp only [r_b_eq]
  refine bcase_both (fun _ => c_knows (by simp only [r_b_eq])) fun hlight => bcase_f rfl (c_knows ?_)
  simp only [r_b_eq]
  refine bcase_f rfl (kp.mk (hX _ fun _ => ?_))
  have hlight : (l.take 150).all (fun x => decide (x.k ≤ 70)) = true ∧ n6 ≤ 150 := by
    simp only [Bool.not_eq_false', Bool.and_eq_true, decide_eq_true_eq] at hlight; exact hlight
  have hn6 := h6.1
  have h70 : ∀ x ∈ l, x.k ≤ 70 := fun x hx => by
    have h := hlight.1
    rw [List.take_of_length_le (by omega)] at h
    exact of_decide_eq_true (List.all_eq_true.mp h x hx)
  obtain ⟨N, hN, hN2⟩ : ∃ N, n6 ≤ N ∧ N = 150 := ⟨150, hlight.2, rfl⟩
  have hb7 : H.next ≤ b7 := by rw [e1.num]; exact Nat.le_refl _
  -- the colours of what is given are others
  have hcD : ∀ {col1 : Col} {G : AH}, Stp (fun _ => False) col H col1 G → ∀ b, b < H.next → ¬ Under [m0] (col1 b) := fun s b hb hu => by
    rw [s.cl b hb] at hu
    exact hm0 b (Nat.lt_of_lt_of_le hb s2.next) (by rw [s2.cl b hb]; exact hu)
  have join : ∀ {col1 col2 : Col} {G G' : AH}, Stp (fun _ => False) col H col1 G → Stp (Under [m0]) col1 G col2 G' → Stp (fun _ => False) col H col2 G' := fun s t => s.newer t fun b hb hu => hcD (Stp.refl _ _ _) b hb hu
  have hn0 : ¬ Under [m0] [] := under_nil (by simp)
  have hne0 : [m0] ≠ [] := by simp
  intro X56 hX56
  have loop := loop_up (X := X56) (fun k (s : Int) => [vI s, vI k]) (fun k now G => 0 ≤ now ∧ now ≤ k ∧ ∃ col1 m, PartR G col1 [m0] p m ∧ Inv ts m ∧ Stp (fun _ => False) col H col1 G ∧
    Bk G col1 [] b7 [.slice a1 n1 c1, .slice a2 n2 c2, .slice a3 n3 c3, .int .u8 x, .int .u8 y, .int .u8 z] 0) n6 ?_ ?_
  · exact loop 0 0 G3 (by omega) ⟨by omega, by omega, col3, _, h3p, Inv.new 0 ts ss, s03, o3⟩
  · rintro now G ⟨_, _, col1, m, k1, k2, k3, k4⟩
    exact hX56 _ _ _ fun _ => bcase_dec (fun h => absurd h (by omega)) fun _ => by trivial
  rintro i now G hi ⟨hw0, hw1, col1, m, kP, kI, kS, kO⟩ go
  have ew : IntKind.i64.wrap ((i : Int) + 1) = ((i + 1 : Nat) : Int) := by rw [i64_in _ (by omega)]; omega
  have en : IntKind.i64.wrap (now + 1) = now + 1 := by rw [i64_in _ (by omega)]
  obtain ⟨ba, oa, cs, ro, g', rfl, r2', r3, r4, r5, r6⟩ := (h6.fr kS id).at_ (i := i) (x := l[i]) (by simp)
  obtain ⟨act, hact⟩ : ∃ act, act = l[i] := ⟨_, rfl⟩
  rw [← hact] at r6
  have hactm : act ∈ l := by rw [hact]; exact List.getElem_mem _
  refine hX56 _ _ _ fun _ => bcase_dec (fun _ => ix.mk (by omega) (by omega) (ld_Aiiiiiiil.mk r3 (by rw [Int.toNat_natCast]; exact r6) (by rw [Int.toNat_natCast]; omega) (nw.new fun b71 G4 e4 => st.do e4.at_ rfl rfl (by simp) fun G5 w5 => ?_))) fun h => absurd (by omega) h
  have t4 : Stp (fun _ => False) col1 G col1 G4 := e4.keep.stp _ _
  have s4 := kS.trans t4
  obtain ⟨oB, t5, s5⟩ := (e4.own (kS.fresh hfr)).own_wr s4 (by rw [e4.num]; exact kS.next) w5
  have oB : Bk G5 col1 [] b71 (eAct act) 0 := by simpa [setMany, cellsOf, eAct] using oB
  have ne7 : b7 ≠ b71 := by have := kO.lt; rw [e4.num]; omega
  have oA := (kO.fr t4 id).other w5 ne7
  have hP5 := (kP.fr t4 fun _ _ h => h).fr t5 (nil_d hne0)
  intro X74 hX74
  -- behind the act
  have after : ∀ (now' : Int) (m' : PartM) (G' : AH) (col' : Col), 0 ≤ now' → now' ≤ ((i + 1 : Nat) : Int) → PartR G' col' [m0] p m' → Inv ts m' → Stp (fun _ => False) col H col' G' →
      Bk G' col' [] b7 [.slice a1 n1 c1, .slice a2 n2 c2, .slice a3 n3 c3, .int .u8 x, .int .u8 y, .int .u8 z] 0 → Bk G' col' [] b71 (eAct act) 0 → X74 [vI now'] G' := by
    intro now' m' G' col' hw0 hw1 kP kI kS kA kB
    refine hX74 _ _ fun _ => w_jobs kP hne0 (kS.fresh hfr) fun G6 col6 mj ja jc L rj hmj eL _ kP6 t6 => ?_
    simp only [r_l_eq]
    have s6 := kS.trans t6
    have kA6 := kA.fr t6 id
    have kB6 := kB.fr t6 id
    have r16 := h1.fr s6 id
    intro X129 hX129
    have hLm : ∀ y ∈ L, ∃ (k : Nat) (t : TaskC), m'.sl[k]? = some (t, some y.j) := fun y hy => jobsOf_mem (by rw [← eL]; exact List.mem_map_of_mem hy)
    have hL6 : L.length ≤ 6 := by
      have e : L.length = (jobsOf m'.sl).length := by rw [← eL, List.length_map]
      rw [e]
      obtain ⟨_, _, _, _, _, _, k0⟩ := kP6
      obtain ⟨_, _, _, _, _, _, h1, _⟩ := k0.tab
      exact Nat.le_trans (List.length_filterMap_le _ _) h1.ok.len
    have loop2 := loop_up (X := X129) (fun k (_ : Unit) => [vI k]) (fun k _ G => G = G6) L.length ?_ ?_
    · exact loop2 0 () G6 (by omega) rfl
    · rintro _ G rfl
      obtain ⟨s0, hs0⟩ := kP6.first
      refine hX129 _ _ fun _ => bcase_dec (fun h => absurd h (by omega)) fun _ => ?_
      intro X143 hX143
      have last : ∀ G8 col8, PartR G8 col8 [m0] p m' → Stp (fun _ => False) col H col8 G8 → Bk G8 col8 [] b7 [.slice a1 n1 c1, .slice a2 n2 c2, .slice a3 n3 c3, .int .u8 x, .int .u8 y, .int .u8 z] 0 → X143 [] G8 := fun G8 col8 k8 s8 a8 => by
        have fin : X56 [vI now', vI (IntKind.i64.wrap ((i : Int) + 1))] G8 := by
          rw [ew]; exact go now' G8 ⟨hw0, hw1, col8, m', k8, kI, s8, a8⟩
        refine hX143 _ fun _ => c_high k8 (by decide) ?_
        simp only [r_b_eq]
        refine bcase_both (fun hh => bcase_both (fun h0 => ?_) fun h0 => kp.mk fin) fun _ => kp.mk fin
        have : L = [] := List.eq_nil_of_length_eq_zero (by simpa using h0)
        rw [this] at eL
        exact absurd (jobsOf_nil.mp eL.symm) (kI.some_ hh)
      refine c_pick kP6 hs0 (by decide) ?_
      unfold pickV
      simp only [r_T_Abi_b_eq]
      refine nw.new fun b9 G7 e7 => st.do e7.at_ rfl rfl (by simp) fun G8 w8 => ?_
      have t7 : Stp (fun _ => False) col6 G col6 G7 := e7.keep.stp _ _
      obtain ⟨_, t8, s8⟩ := (e7.own (s6.fresh hfr)).own_wr (s6.trans t7) (by rw [e7.num]; exact s6.next) w8
      have ne79 : b7 ≠ b9 := by have := kA6.lt; rw [e7.num]; omega
      have ne719 : b71 ≠ b9 := by have := kB6.lt; rw [e7.num]; omega
      have kA8 := (kA6.fr t7 id).other w8 ne79
      have kB8 := (kB6.fr t7 id).other w8 ne719
      have kP8 := (kP6.fr t7 fun _ _ h => h).fr t8 (nil_d hne0)
      refine c_up kP8 (by decide) ?_
      simp only [r_b_eq]
      refine bcase_both (fun hu => ?_) fun _ => kp.mk (last G8 col6 kP8 s8 kA8)
      have hu' : m'.up = false := by simpa using hu
      obtain ⟨dn1, dn2, dn3⟩ := kI.down hu'
      have hpk : (m'.pick s0).ok = false := by
        unfold PartM.pick; rw [if_neg (by rw [hu']; decide)]
      have hL0 : L = [] := by
        rw [jobsOf_nil.mpr dn1] at eL
        simpa using eL
      refine bcase_f hpk (bcase_dec (fun h => by rw [hL0] at h; exact absurd h (by decide)) fun _ => c_high kP8 (by decide) ?_)
      simp only [r_b_eq]
      refine bcase_f dn2 (ld_i.mk kB8.get rfl (c_queue kP8 (by decide) ?_))
      simp only [r_i_eq]
      rw [kI.queue hu']
      exact bcase_dec (fun h => absurd h (by decide)) fun _ => kp.mk (last G8 col6 kP8 s8 kA8)
    · rintro k _ G hk rfl go2
      have ek : IntKind.i64.wrap ((k : Int) + 1) = ((k + 1 : Nat) : Int) := by rw [i64_in _ (by omega)]; omega
      refine hX129 _ _ fun _ => bcase_dec (fun _ => c_high kP6 (by decide) ?_) fun h => absurd (by omega) h
      simp only [r_b_eq]
      rw [ek]
      refine bcase_both (fun hh => ld_l.mk kA6.get rfl ?_) fun _ => kp.mk (go2 () _ rfl)
      obtain ⟨bj, oj, cj, roj, gj, rfl, u2, u3, u4, u5, u6⟩ := rj.at_ (i := k) (x := L[k]) (by simp)
      obtain ⟨i', t, hi'⟩ := hLm L[k] (List.getElem_mem _)
      have htask := kP6.job hi'
      have hthi := kI.w.hi hh i' t L[k].j hi'
      have ht : ts[i']? = some t := by
        rw [← kI.w.tasks, List.getElem?_map, hi']; rfl
      have hlt := lt_of_get ht
      have hn1 := h1.1
      have e0 : cj[oj + k * 5 + 0]? = some (vI L[k].j.task) := chunk_get u6 (j := 0) (by decide)
      refine ix.mk (by omega) (by omega) (ld_i.mk u3 (by rw [Int.toNat_natCast]; exact e0) ?_)
      rw [htask]
      obtain ⟨bt, ot, ct, rot, gt, rfl, v2, v3, v4, v5, v6⟩ := r16.at_ ht
      have f0 : ct[ot + i' * 6 + 0]? = some (.bool t.hi) := chunk_get v6 (j := 0) (by decide)
      refine ix.mk (by omega) (by omega) (ld_b.mk v3 (by rw [Int.toNat_natCast]; exact f0) ?_)
      exact bcase_f (by rw [hthi]; rfl) (kp.mk (go2 () _ rfl))
  refine ld_i.mk oB.get rfl ?_
  intro X76 hX76
  have hf5 := s5.fresh hfr
  have tick : X76 [.bool true] G5 := by
    refine hX76 _ _ fun _ => bcase_t rfl ?_
    rw [en]
    refine w_begin hP5 hne0 hf5 (by omega) (by unfold tickMax; omega) fun G6 col6 mm' ea ec _ _ k6 t6 => ?_
    simp only [r_l_eq]
    exact kp.mk (after (now + 1) _ G6 col6 (by omega) (by omega) k6 (kI.begins _) (join s5 t6) (oA.fr t6 hn0) (oB.fr t6 hn0))
  have rest : X76 [.bool false] G5 := by
    refine hX76 _ _ fun _ => bcase_f rfl ?_
    intro X83 hX83
    have run : X83 [.bool true] G5 := by
      obtain ⟨s0, hs0⟩ := hP5.first
      refine hX83 _ _ fun _ => bcase_t rfl (w_prun hP5 hne0 hf5 hs0 fun G6 col6 mm' ea ec _ _ k6 t6 => ?_)
      simp only [r_T_Abi_Aiii_l_eq]
      exact kp.mk (after now _ G6 col6 (by omega) (by omega) k6 (kI.run hs0) (join s5 t6) (oA.fr t6 hn0) (oB.fr t6 hn0))
    have rest2 : X83 [.bool false] G5 := by
      refine hX83 _ _ fun _ => bcase_f rfl ?_
      intro X95 hX95
      have arr : X95 [.bool true] G5 := by
        refine hX95 _ _ fun _ => bcase_t rfl (ld_Aiiiil.mk oB.get rfl (by simp [eAct]) ?_)
        obtain ⟨dd, ops, hop⟩ := hops act hactm
        have hk70 := h70 act hactm
        refine w_job19 (hop.fr s5 id) (by omega) hf5 fun G6 col6 mm' oa oc ro6 hm6 t6 => ?_
        simp only [r_Aiiiil_eq]
        have s6 := s5.trans t6
        have kP6 := hP5.fr t6 fun _ _ h => h
        have hpl := hP5.lt
        have hcm : ¬ Under [m0] [mm'] := under_root hne0 hpl hP5.cl hm6
        refine w_arrive (j := ⟨act.task, act.arr, act.work, act.done, ops⟩) kP6 hne0 (s6.fresh hfr) ro6 (by omega) hcm fun G7 col7 k7 t7 => ?_
        simp only [r_i_eq]
        exact kp.mk (after now _ G7 col7 (by omega) (by omega) k7 (kI.arrive _ _) (join s6 t7) ((oA.fr t6 id).fr t7 hn0) ((oB.fr t6 id).fr t7 hn0))
      have rest3 : X95 [.bool false] G5 := by
        refine hX95 _ _ fun _ => bcase_f rfl (bcase_both (fun _ => ld_i.mk oB.get rfl (ld_i.mk oB.get rfl (w_prequest hP5 fun G6 col6 k6 t6 => ?_))) fun _ => bcase_both (fun _ => w_pstop hP5 hne0 hf5 fun G6 col6 k6 t6 => ?_) fun _ => bcase_both (fun _ => w_prestart hP5 hne0 hf5 fun G6 col6 k6 t6 => ?_) fun _ => kp.mk (after now m G5 col1 (by omega) (by omega) hP5 kI s5 oA oB))
        · simp only [r_i_eq]
          exact kp.mk (after now _ G6 col6 (by omega) (by omega) k6 (kI.request _ _) (join s5 t6) (oA.fr t6 hn0) (oB.fr t6 hn0))
        · simp only [r_T_eq]
          exact kp.mk (after now _ G6 col6 (by omega) (by omega) k6 kI.stop (join s5 t6) (oA.fr t6 hn0) (oB.fr t6 hn0))
        · simp only [r_T_eq]
          exact kp.mk (after now _ G6 col6 (by omega) (by omega) k6 kI.restart (join s5 t6) (oA.fr t6 hn0) (oB.fr t6 hn0))
      refine bcase_both (fun _ => kp.mk arr) fun _ => kp.mk ?_
      cases (act.kind == 7)
      · exact rest3
      · exact arr
    refine bcase_both (fun _ => kp.mk run) fun _ => bcase_both (fun _ => kp.mk run) fun _ => kp.mk ?_
    cases (act.kind == 5)
    · exact rest2
    · exact run
  refine bcase_both (fun _ => kp.mk tick) fun _ => bcase_both (fun _ => kp.mk tick) fun _ => kp.mk ?_
  cases (act.kind == 2)
  · exact rest
  · exact tick
end
end Go.Ez
