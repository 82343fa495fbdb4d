import Derived.Test.YtgckodpnpidodaaGreatPtB
set_option linter.all false
/- A budget whose ticks come back a period behind their use: its calls. -/
set_option linter.all false
namespace Go.Ez
open Go.Proofs Go.IntWalk
section
variable {H H' : AH} {col col' : Col} {c : List Nat} {p : Nat} {b : ChkB}

theorem p_cnone (h : ChkR H col c p b) : PureC prog (XK 55) F_chunk_Budget_none [.pointer (some ⟨p, 0, none⟩)] H (.bool false) := by
  refine pure_of _ rfl (fun N => nf_F_chunk_Budget_none _ _ _ _) rfl fun N hN => ?_
  unfold vc_F_chunk_Budget_none
  obtain ⟨a, n, cap, a2, n2, cap2, h1, h2, h3, h4⟩ := h.up hN
  refine bcase_f rfl (dr.mk (ld_i.mk h1.get rfl ⟨?_, Keep.refl _ _⟩))
  have := h4.lens
  congr 1; simp; omega
theorem c_cnone (h : ChkR H col c p b) {j : Nat} {Q : Value → AH → Prop} (hj : 55 < j) (hQ : Q (.bool false) H) : W prog (XK j) F_chunk_Budget_none [.pointer (some ⟨p, 0, none⟩)] H Q := callT (p_cnone h) TL_nd rfl hj hQ
/-- The first chunk's place. -/
theorem p_first {a : Option Addr} {n cap : Nat} {l : List (Int × Int × Int)} {r : List Value} (h1 : Bk H col c p (.slice a n cap :: r) 0) (h2 : SlE eC3 3 H col (0 :: c) a n cap l) :
    PureC prog (XK 56) F_chunk_live_first [.pointer (some ⟨p, 0, none⟩)] H (.pointer (if l = [] then none else a)) := by
  have hn := h2.1
  refine pure_of _ ?_ (fun N => nf_F_chunk_live_first _ _ _ _) rfl fun N hN => ?_
  · split
    · rfl
    · rename_i hl
      obtain ⟨bb, o, ds, g, rfl, e2, _⟩ := h2.at_ eC3_len (i := 0) (x := l[0]'(List.length_pos_iff.mpr hl)) (by simp)
      exact Nat.ble_eq_true_of_le e2.lt
  · unfold vc_F_chunk_live_first
    have k1 := h1.up hN
    refine dr.mk (ld_l.mk k1.get rfl ?_)
    cases l with
    | nil => exact bcase_t (by simp [hn]) ⟨rfl, Keep.refl _ _⟩
    | cons x l =>
      simp only [List.length_cons] at hn
      obtain ⟨bb, o, ds, g, rfl, e2, _⟩ := h2.at_ eC3_len (i := 0) (x := x) rfl
      refine bcase_f (by simp; omega) (dr.mk (ld_l.mk k1.get rfl (ix.mk (by omega) (by omega) ⟨?_, Keep.refl _ _⟩)))
      simp
theorem p_cdue (h : ChkR H col c p b) : PureC prog (XK 57) F_chunk_Budget_Due [.pointer (some ⟨p, 0, none⟩)] H (match b.due with | some d => .tuple #[vI d, .bool true] | none => .tuple #[vI 0, .bool false]) := by
  refine pure_of _ (by split <;> rfl) (fun N => nf_F_chunk_Budget_Due _ _ _ _) rfl fun N hN => ?_
  unfold vc_F_chunk_Budget_Due
  intro X hX
  have hu := h.up hN
  refine c_cnone hu (by decide) ?_
  obtain ⟨a, n, cap, a2, n2, cap2, h1, h2, h3, h4⟩ := hu
  simp only [r_b_eq, bcase_false]
  have hf := p_first h1 h2
  refine dr.mk (callT hf TL_nd rfl (by decide) ?_)
  simp only [r_p_eq]
  cases hl : b.l with
  | nil =>
    rw [if_pos rfl]
    exact bcase_t rfl ⟨by unfold ChkB.due; rw [hl]; rfl, Keep.refl _ _⟩
  | cons x l =>
    rw [hl] at hf
    rw [if_neg (by simp)] at hf ⊢
    obtain ⟨bb, o, ds, g, rfl, e2, e3, e4, e5, _⟩ := h2.at_ eC3_len (i := 0) (x := x) (by rw [hl]; rfl)
    have hx := h4.ls x (by rw [hl]; simp)
    have hlen := h4.lens
    refine bcase_f rfl (kp.mk (hX _ fun _ => dr.mk (callT hf TL_nd rfl (by decide) ?_)))
    simp only [r_p_eq]
    have e0 : ds[o + 0]? = some (vI x.1) := by have := e5 0 (by decide); simpa [eC3] using this
    refine dr.mk (ld_i.mk e2.get e0 (dr.mk (ld_i.mk h1.get rfl ⟨⟨ld1_at h1.get rfl, by simp [veq]⟩, ?_, Keep.refl _ _⟩)))
    unfold ChkB.due
    rw [hl]
    simp only [tickMax] at hx
    rw [i64_in _ (by omega)]; rfl

/-- What is used of a chunk is owed; the chunks' list is not asked. -/
theorem w_owe {a : Option Addr} {n cap : Nat} {f0 : Int} {still : Bool} {s : SrvC} {back : List (Int × Int)} {a2 : Option Addr} {n2 cap2 : Nat} {x : Int × Int × Int} (h1 : Bk H col c p [.slice a n cap, .bool s.refill, vI s.C, vI s.T, vI f0, .slice a2 n2 cap2, .bool still] 0)
    (h3 : SlE eC2 2 H col (1 :: c) a2 n2 cap2 back) (hT : 0 ≤ s.T ∧ s.T ≤ 1000) (hx : 0 ≤ x.1 ∧ x.1 ≤ tickMax) (hb : back.length ≤ 100000) {Q : Value → AH → Prop}
    (hQ : ∀ H' col' a' n' cap', Bk H' col' c p [.slice a n cap, .bool s.refill, vI s.C, vI s.T, vI f0, .slice a' n' cap', .bool still] 0 → SlE eC2 2 H' col' (1 :: c) a' n' cap' (if 0 < x.2.2 then back ++ [(x.1 + s.T, x.2.2)] else back) →
      Stp (fun y => y = c ∨ y = 1 :: c) col H col' H' → Q (.tuple #[]) H') : W prog XP F_chunk_Budget_owe [.pointer (some ⟨p, 0, none⟩), .agg #[vI x.1, vI x.2.1, vI x.2.2]] H Q := by
  refine enterT _ (nf_F_chunk_Budget_owe _ _ _ _ _ _ _) rfl ?_
  unfold vc_F_chunk_Budget_owe
  refine nw.new fun q G1 e1 => ?_
  have t1 : Stp (fun _ => False) col H col G1 := e1.keep.stp _ _
  have p1 := h1.fr t1 id
  have p3 := h3.fr t1 id
  have hn := h3.1
  refine ld_i.mk e1.at_ rfl (bcase_dec (fun h0 => ?_) fun h0 => hQ G1 col a2 n2 cap2 p1 (by rw [if_neg h0]; exact p3) (t1.mono fun _ h => h.elim))
  refine dr.mk (ld_l.mk p1.get rfl (ld_i.mk e1.at_ rfl (dr.mk (ld_i.mk p1.get rfl (ld_i.mk e1.at_ rfl (nw.new fun q2 G2 e2 => ?_))))))
  simp only [tickMax] at hx
  have ew : IntKind.i64.wrap (x.1 + s.T) = x.1 + s.T := i64_in _ (by omega)
  rw [ew] at e2
  have t2 : Stp (fun _ => False) col G1 col G2 := e2.keep.stp _ _
  refine (p3.fr t2 id).push (y := ((x.1 + s.T, x.2.2) : Int × Int)) (bs := q2) (g := 0) (ro := false) eC2_len eC2_cell (by exact e2.at_) (by decide) (by decide) (by omega) (by omega) fun a' cap' G3 col3 k3 s3 _ => dr.mk ?_
  have k1 := (p1.fr t2 id).fr s3 (by simp)
  refine st.do k1.get rfl rfl (by simp) fun G4 w4 => ?_
  obtain ⟨k4, s4⟩ := k1.wrote w4
  exact hQ G4 col3 a' (n2 + 1) cap' (by simpa [setMany, cellsOf] using k4) (by rw [if_pos h0]; exact k3.fr s4 (by simp)) (((t1.trans t2).mono fun _ h => h.elim).trans ((s3.mono fun y hy => .inr hy).trans (s4.mono fun y hy => .inl hy)))
theorem two_under {x : List Nat} (h : x = c ∨ x = 1 :: c) : Under c x := by
  rcases h with rfl | rfl
  · exact Under.refl _
  · exact ⟨[1], rfl⟩

theorem w_cuse (h : ChkR H col c p b) {Q : Value → AH → Prop} (hQ : ∀ r H' col', ChkR H' col' c p b.use → Stp (Under c) col H col' H' → Q (.bool r) H') : W prog XP F_chunk_Budget_Use [.pointer (some ⟨p, 0, none⟩)] H Q := by
  refine enterT _ (nf_F_chunk_Budget_Use _ _ _ _) rfl ?_
  unfold vc_F_chunk_Budget_Use
  refine c_cnone h (by decide) ?_
  have h' := h
  obtain ⟨a, n, cap, a2, n2, cap2, h1, h2, h3, h4⟩ := h'
  have hn := h2.1
  simp only [r_b_eq, bcase_false]
  have hf := p_first h1 h2
  refine dr.mk (callT hf TL_nd rfl (by decide) ?_)
  simp only [r_p_eq]
  cases hl : b.l with
  | nil =>
    rw [if_pos rfl]
    have : b.use = b := by unfold ChkB.use; rw [hl]
    exact bcase_t rfl (hQ _ H col (by rw [this]; exact h) (Stp.refl _ _ _))
  | cons x l =>
    rw [if_neg (by simp)]
    obtain ⟨bb, o, ds, g, rfl, e2, e3, e4, e5, e6⟩ := h2.at_ eC3_len (i := 0) (x := x) (by rw [hl]; rfl)
    have hn' : n = l.length + 1 := by rw [hn, hl]; rfl
    have hx := h4.ls x (by rw [hl]; simp)
    have hlen := h4.lens
    have hheld : b.held = (x.2.1 + x.2.2) + sumBy (fun y : Int × Int × Int => y.2.1 + y.2.2) l := by unfold ChkB.held; rw [hl]; rfl
    have hpos := sumBy_pos (fun y : Int × Int × Int => y.2.1 + y.2.2) l fun y hy => by have := h4.ls y (by rw [hl]; simp [hy]); omega
    simp only [Nat.zero_mul, Nat.add_zero] at e3 e4 e5 e6
    refine bcase_f rfl (dr.mk (ld_i.mk e2.get (e5 1 (by decide)) (dr.mk (st.do e2.get rfl rfl (by omega) fun G1 w1 => ?_))))
    have ew : IntKind.i64.wrap (x.2.1 - 1) = x.2.1 - 1 := i64_in _ (by omega)
    rw [ew] at w1
    obtain ⟨k1, s1⟩ := e2.wrote w1
    have hs1 : setMany ds (o + 1) (cellsOf (vI (x.2.1 - 1))) = setMany ds o (eC3 (x.1, x.2.1 - 1, x.2.2)) := by
      rw [setMany_within e4 e3 (by simp [cellsOf])]; rfl
    rw [hs1] at k1
    have gg : ∀ (y : Int × Int × Int) (i : Nat), i < 3 → (setMany ds o (eC3 y))[o + i]? = (eC3 y)[i]? := fun y i hi => by
      rw [setMany_getX _ _ _ _ (by rw [eC3_len]; omega), if_pos (by rw [eC3_len]; omega)]; congr 1; omega
    have hl3 : (setMany ds o (eC3 (x.1, x.2.1 - 1, x.2.2))).length = ds.length := setMany_lenX _ _ _
    refine dr.mk (ld_i.mk k1.get (gg _ 2 (by decide)) (dr.mk (st.do k1.get rfl rfl (by rw [hl3]; omega) fun G2 w2 => ?_)))
    have ew2 : IntKind.i64.wrap (x.2.2 + 1) = x.2.2 + 1 := i64_in _ (by omega)
    rw [ew2] at w2
    obtain ⟨k2, s2⟩ := k1.wrote w2
    have hs2 : setMany (setMany ds o (eC3 (x.1, x.2.1 - 1, x.2.2))) (o + 2) (cellsOf (vI (x.2.2 + 1))) = setMany ds o (eC3 (x.1, x.2.1 - 1, x.2.2 + 1)) := by
      have hch : ((setMany ds o (eC3 (x.1, x.2.1 - 1, x.2.2))).drop o).take 3 = eC3 (x.1, x.2.1 - 1, x.2.2) := by
        apply List.ext_getElem?
        intro i
        rw [List.getElem?_take]
        by_cases hi : i < 3
        · rw [if_pos hi, List.getElem?_drop]; exact gg _ i hi
        · rw [if_neg hi, List.getElem?_eq_none (by rw [eC3_len]; omega)]
      rw [setMany_within hch (by rw [hl3]; omega) (by simp [cellsOf]), setMany_over (by rw [setMany_lenX]) (by rw [setMany_lenX, eC3_len]; exact e3)]; rfl
    rw [hs2] at k2
    have b2 := (h1.fr s1 (by simp)).fr s2 (by simp)
    have q3 := (h3.fr s1 (by simp)).fr s2 (by simp)
    have sl2 := e6 (x.1, x.2.1 - 1, x.2.2 + 1) G2 col k2
    rw [hl] at sl2
    simp only [List.set_cons_zero] at sl2
    refine dr.mk (ld_i.mk k2.get (gg _ 1 (by decide)) ?_)
    have huse := h4.use
    have s12 : Stp (Under c) col H col G2 := s1.under.trans s2.under
    by_cases hz : x.2.1 - 1 = 0
    · have hu : b.use = { b.owe (x.1, 0, x.2.2 + 1) with l := l } := by unfold ChkB.use; rw [hl]; simp only [hz, if_true]
      have hchunk : ((setMany ds o (eC3 (x.1, x.2.1 - 1, x.2.2 + 1))).drop o).take 3 = [vI x.1, vI (x.2.1 - 1), vI (x.2.2 + 1)] := by
        apply List.ext_getElem?
        intro i
        rw [List.getElem?_take]
        by_cases hi : i < 3
        · rw [if_pos hi, List.getElem?_drop]; exact gg _ i hi
        · rw [if_neg hi, List.getElem?_eq_none (by simp; omega)]
      refine bcase_t (by simp [hz]) (dr.mk (ld_Aiii.mk k2.get hchunk (by rw [setMany_lenX]; omega) ?_))
      · refine w_owe (x := (x.1, x.2.1 - 1, x.2.2 + 1)) b2 q3 (by omega) ⟨hx.2.2.1, hx.2.2.2⟩ (by omega) fun G3 col3 a' n' cap' k3 q4 s3 => ?_
        simp only [r_T_eq]
        have hd3 : ¬ (0 :: c = c ∨ 0 :: c = 1 :: c) := by simp
        have sl3 := sl2.fr s3 hd3
        refine dr.mk (ld_l.mk k3.get rfl (sl3.sub eC3_len (lo := 1) (hi := n) (by omega) (by omega) rfl ?_ fun a5 cap5 k5 => dr.mk ?_))
        · simp only [bnd]
          rw [if_pos (by omega)]; rfl
        · refine st.do k3.get rfl rfl (by simp) fun G4 w4 => ?_
          obtain ⟨k6, s4⟩ := k3.wrote w4
          have hdrop : (((x.1, x.2.1 - 1, x.2.2 + 1) :: l).take n).drop 1 = l := by rw [hn']; simp
          rw [hdrop] at k5
          refine hQ true G4 col3 ?_ ((s12.trans (s3.mono fun y hy => two_under hy)).trans s4.under0)
          rw [hu] at huse ⊢
          refine ⟨a5, n - 1, cap5, a', n', cap', ?_, k5.fr s4 (by simp), ?_, huse⟩
          · have e := owe_l (b := b) (x := (x.1, 0, x.2.2 + 1))
            have := k6; simp [setMany, cellsOf] at this
            show Bk G4 col3 c p [_, .bool (b.owe (x.1, 0, x.2.2 + 1)).s.refill, vI (b.owe (x.1, 0, x.2.2 + 1)).s.C, vI (b.owe (x.1, 0, x.2.2 + 1)).s.T, vI (b.owe (x.1, 0, x.2.2 + 1)).free, _, .bool (b.owe (x.1, 0, x.2.2 + 1)).still] 0
            rw [e.2.1, e.2.2.1, e.2.2.2]; exact this
          · have e : (b.owe (x.1, 0, x.2.2 + 1)).back = if 0 < x.2.2 + 1 then b.back ++ [(x.1 + b.s.T, x.2.2 + 1)] else b.back := by unfold ChkB.owe; dsimp only; split <;> rfl
            show SlE eC2 2 G4 col3 (1 :: c) a' n' cap' (b.owe (x.1, 0, x.2.2 + 1)).back
            rw [e]; exact q4.fr s4 (by simp)
    · have hu : b.use = { b with l := (x.1, x.2.1 - 1, x.2.2 + 1) :: l } := by unfold ChkB.use; rw [hl]; simp only [hz, if_false]
      rw [hu] at huse hQ
      exact bcase_f (by simpa using hz) (hQ true G2 col ⟨_, n, cap, a2, n2, cap2, b2, sl2, q3, huse⟩ s12)

theorem w_shut {a : Option Addr} {n cap : Nat} {r : List Value} (h1 : Bk H col c p (.slice a n cap :: r) 0) {Q : Value → AH → Prop} (hQ : ∀ H', Bk H' col c p (.slice none 0 0 :: r) 0 → Stp (fun x => x = c) col H col H' → Q (.slice a n cap) H') :
    W prog XP F_chunk_live_shut [.pointer (some ⟨p, 0, none⟩)] H Q := by
  refine enterT _ (nf_F_chunk_live_shut _ _ _ _) rfl ?_
  unfold vc_F_chunk_live_shut
  refine dr.mk (ld_l.mk h1.get rfl (dr.mk (st.do h1.get rfl rfl (by simp) fun G w => ?_)))
  obtain ⟨k, s⟩ := h1.wrote w
  exact hQ G (by simpa [setMany, cellsOf] using k) s

theorem foldl_take {l : List (Int × Int × Int)} {k : Nat} (hk : k < l.length) (b : ChkB) : (l.take (k + 1)).foldl ChkB.pay b = ((l.take k).foldl ChkB.pay b).pay l[k] := by
  rw [take_snoc hk, List.foldl_append]; rfl
theorem pay_back {b : ChkB} {x : Int × Int × Int} : (b.pay x).back = if 0 < x.2.2 then b.back ++ [(x.1 + b.s.T, x.2.2)] else b.back := by
  unfold ChkB.pay ChkB.owe; dsimp only; split <;> rfl
theorem pays_s (l : List (Int × Int × Int)) : ∀ b : ChkB, (l.foldl ChkB.pay b).s = b.s ∧ (l.foldl ChkB.pay b).still = b.still ∧ (l.foldl ChkB.pay b).l = b.l := by
  induction l with
  | nil => intro b; exact ⟨rfl, rfl, rfl⟩
  | cons x l ih =>
    intro b
    have h := ih (b.pay x)
    have e := owe_l (b := ({ b with free := b.free + x.2.1 } : ChkB)) (x := x)
    exact ⟨h.1.trans e.2.1, h.2.1.trans e.2.2.2, h.2.2.trans e.1⟩

theorem w_cdone (h : ChkR H col c p b) (hcn : c ≠ []) (hfr : Fresh col H) {Q : Value → AH → Prop} (hQ : ∀ H' col', ChkR H' col' c p b.done → Stp (Under c) col H col' H' → Q (.tuple #[]) H') : W prog XP F_chunk_Budget_Done [.pointer (some ⟨p, 0, none⟩)] H Q := by
  refine enterT _ (nf_F_chunk_Budget_Done _ _ _ _) rfl ?_
  unfold vc_F_chunk_Budget_Done
  refine c_cnone h (by decide) ?_
  obtain ⟨a, n, cap, a2, n2, cap2, h1, h2, h3, h4⟩ := h
  have hn := h2.1
  have hlen := h4.lens
  have hsum := h4.sum
  have hf0 := h4.free0
  simp only [r_b_eq, bcase_false]
  refine dr.mk (w_shut h1 fun G1 g1 s1 => ?_)
  simp only [r_l_eq]
  intro X hX
  let b0 : ChkB := { b with l := [] }
  have hok0 : ChkOk b0 := ⟨h4.right, fun x hx => by simp [b0] at hx, h4.bs, hf0, by show 0 + b.owed + b.free ≤ b.s.C; omega⟩
  have hr := (h2.fr s1 (by simp)).rd eC3_len
  have pk : ∀ k, ChkOk ((b.l.take k).foldl ChkB.pay b0) := fun k => by
    refine ChkOk.pays (b.l.take k) hok0 (fun x hx => h4.ls x (List.mem_of_mem_take hx)) ?_
    have := sumBy_take (fun x : Int × Int × Int => x.2.1 + x.2.2) b.l (fun x hx => by have := h4.ls x hx; omega) k
    show 0 + b.owed + b.free + _ ≤ b.s.C
    unfold ChkB.held at hsum; omega
  have loop := loop_up (X := X) (fun k (_ : Unit) => [vI k]) (fun k _ G => ∃ col1 a3 n3 cap3, Bk G col1 c p [.slice none 0 0, .bool b.s.refill, vI b.s.C, vI b.s.T, vI ((b.l.take k).foldl ChkB.pay b0).free, .slice a3 n3 cap3, .bool b.still] 0 ∧
      SlE eC2 2 G col1 (1 :: c) a3 n3 cap3 ((b.l.take k).foldl ChkB.pay b0).back ∧ Stp (fun x => x = c ∨ x = 1 :: c) col G1 col1 G) n ?_ ?_
  · exact loop 0 () G1 (by omega) ⟨col, a2, n2, cap2, g1, h3.fr s1 (by simp), Stp.refl _ _ _⟩
  · rintro _ G ⟨col1, a3, n3, cap3, k1, k3, sG⟩
    refine hX _ _ fun _ => bcase_dec (fun h => absurd h (by omega)) fun _ => ?_
    rw [hn, List.take_length] at k1 k3
    have e := pays_s b.l b0
    refine hQ G col1 ⟨none, 0, 0, a3, n3, cap3, ?_, ?_, k3, h4.done⟩ (s1.under0.trans (sG.mono fun x hx => two_under hx))
    · show Bk G col1 c p [_, .bool (b.l.foldl ChkB.pay b0).s.refill, vI (b.l.foldl ChkB.pay b0).s.C, vI (b.l.foldl ChkB.pay b0).s.T, _, _, .bool (b.l.foldl ChkB.pay b0).still] 0
      rw [e.1, e.2.1]; exact k1
    · show SlE eC3 3 G col1 (0 :: c) none 0 0 (b.l.foldl ChkB.pay b0).l
      rw [e.2.2]; exact SlE.nil
  · rintro k _ G hk ⟨col1, a3, n3, cap3, k1, k3, sG⟩ go
    have hkl : k < b.l.length := by omega
    have e1 : IntKind.i64.wrap ((k : Int) + 1) = ((k + 1 : Nat) : Int) := by rw [i64_in _ (by omega)]; omega
    obtain ⟨bb, o, ds, ro, g', rfl, r2, r3, r4, r5, r6⟩ := (hr.fr sG (by simp)).at_ (i := k) (x := b.l[k]) (by simp)
    have hx := h4.ls b.l[k] (List.getElem_mem hkl)
    refine hX _ _ fun _ => bcase_dec (fun _ => ix.mk (by omega) (by omega) (ld_Aiii.mk r3 (by rw [Int.toNat_natCast]; exact r6) (by rw [Int.toNat_natCast]; omega) (nw.new fun q G2 e2 => st.do e2.at_ rfl rfl (by simp) fun G3 w3 => ?_))) fun h => absurd (by omega) h
    have hfG : Fresh col1 G := sG.fresh (s1.fresh hfr)
    have t2 : Stp (fun _ => False) col1 G col1 G2 := e2.keep.stp _ _
    obtain ⟨o3, t3, s3⟩ := (e2.own hfG).own_wr t2 (by rw [e2.num]; exact Nat.le_refl _) w3
    have o3' : Bk G3 col1 [] q [vI b.l[k].1, vI b.l[k].2.1, vI b.l[k].2.2] 0 := by simpa [setMany, cellsOf] using o3
    have p1 := (k1.fr t2 id).fr t3 hcn
    have p3 := (k3.fr t2 id).fr t3 (by simp)
    have hpk := pk k
    have hpk1 := pk (k + 1)
    have hf1 := hpk.free0
    have hes := pays_s (b.l.take k) b0
    have hfree : ((b.l.take (k + 1)).foldl ChkB.pay b0).free = ((b.l.take k).foldl ChkB.pay b0).free + b.l[k].2.1 := by rw [foldl_take hkl]; unfold ChkB.pay; rw [owe_l.2.2.1]
    have hC : ∀ j, ((b.l.take j).foldl ChkB.pay b0).free ≤ 1000 := fun j => by
      have h5 := (pk j).sum
      have h6 := (pk j).lens
      have h7 := (pays_s (b.l.take j) b0).1
      rw [h7] at h5 h6
      have : b0.s = b.s := rfl
      rw [this] at h5 h6
      omega
    have hC1 := hC (k + 1)
    refine dr.mk (ld_i.mk p1.get rfl (ld_i.mk o3'.get rfl (dr.mk (st.do p1.get rfl rfl (by simp) fun G4 w4 => ?_))))
    have ew : IntKind.i64.wrap (((b.l.take k).foldl ChkB.pay b0).free + b.l[k].2.1) = ((b.l.take (k + 1)).foldl ChkB.pay b0).free := by rw [hfree]; exact i64_in _ (by omega)
    rw [ew] at w4
    obtain ⟨k4, s4⟩ := p1.wrote w4
    have o4 := o3'.fr s4 (fun e => hcn e.symm)
    refine ld_Aiii.mk o4.get rfl (by simp) ?_
    have hblen : ((b.l.take k).foldl ChkB.pay b0).back.length ≤ 100000 := by
      have h5 := hpk.lens
      have : ((b.l.take k).foldl ChkB.pay b0).held ≥ 0 := by
        have := h5.1; omega
      have h7 := hes.1
      rw [h7] at h5
      have : b0.s = b.s := rfl
      rw [this] at h5
      omega
    refine w_owe (x := b.l[k]) (s := b.s) (f0 := ((b.l.take (k + 1)).foldl ChkB.pay b0).free) (still := b.still) (back := ((b.l.take k).foldl ChkB.pay b0).back) (by simpa [setMany, cellsOf] using k4) (p3.fr s4 (by simp)) (by omega) ⟨hx.2.2.1, hx.2.2.2⟩ hblen fun G5 col5 a5 n5 cap5 k5 q5 s5 => ?_
    simp only [r_T_eq]
    refine kp.mk ?_
    rw [e1]
    refine go () G5 ⟨col5, a5, n5, cap5, k5, ?_, sG.trans ((s3.mono fun _ h => h.elim).trans ((s4.mono fun y hy => .inl hy).trans s5))⟩
    · have hb' : ((b.l.take (k + 1)).foldl ChkB.pay b0).back = if 0 < b.l[k].2.2 then ((b.l.take k).foldl ChkB.pay b0).back ++ [(b.l[k].1 + b.s.T, b.l[k].2.2)] else ((b.l.take k).foldl ChkB.pay b0).back := by
        rw [foldl_take hkl, pay_back, hes.1]
      rw [hb']; exact q5
end
end Go.Ez

/- A budget whose ticks come back a period behind their use: a tick, stops, a new one. -/
set_option linter.all false
namespace Go.Ez
open Go.Proofs Go.IntWalk
section
variable {H H' : AH} {col col' : Col} {c : List Nat} {p : Nat} {b : ChkB}

theorem w_cstop (h : ChkR H col c p b) (hcn : c ≠ []) (hfr : Fresh col H) {Q : Value → AH → Prop} (hQ : ∀ H' col', ChkR H' col' c p b.stop → Stp (Under c) col H col' H' → Q (.tuple #[]) H') : W prog XP F_chunk_Budget_Stop [.pointer (some ⟨p, 0, none⟩)] H Q := by
  refine enterT _ (nf_F_chunk_Budget_Stop _ _ _ _) rfl ?_
  unfold vc_F_chunk_Budget_Stop
  refine c_cnone h (by decide) ?_
  simp only [r_b_eq, Bool.not_false, bcase_true]
  have hok := h.ok
  refine w_cdone h hcn hfr fun G1 col1 g1 s1 => ?_
  obtain ⟨a, n, cap, a2, n2, cap2, h1, h2, h3, h4⟩ := g1
  simp only [r_T_eq]
  refine dr.mk (st.do h1.get rfl rfl (by simp) fun G2 w2 => ?_)
  obtain ⟨k2, s2⟩ := h1.wrote w2
  exact hQ G2 col1 ⟨a, n, cap, a2, n2, cap2, by have := k2; simp [setMany, cellsOf] at this; exact this, h2.fr s2 (by simp), h3.fr s2 (by simp), hok.stop⟩ (s1.trans s2.under0)
theorem w_cresume (h : ChkR H col c p b) {Q : Value → AH → Prop} (hQ : ∀ H', ChkR H' col c p b.resume → Stp (Under c) col H col H' → Q (.tuple #[]) H') : W prog XP F_chunk_Budget_Resume [.pointer (some ⟨p, 0, none⟩)] H Q := by
  refine enterT _ (nf_F_chunk_Budget_Resume _ _ _ _) rfl ?_
  unfold vc_F_chunk_Budget_Resume
  refine c_cnone h (by decide) ?_
  simp only [r_b_eq, Bool.not_false, bcase_true]
  obtain ⟨a, n, cap, a2, n2, cap2, h1, h2, h3, h4⟩ := h
  refine dr.mk (st.do h1.get rfl rfl (by simp) fun G2 w2 => ?_)
  obtain ⟨k2, s2⟩ := h1.wrote w2
  exact hQ G2 ⟨a, n, cap, a2, n2, cap2, by have := k2; simp [setMany, cellsOf] at this; exact this, h2.fr s2 (by simp), h3.fr s2 (by simp), h4.resume⟩ s2.under0
theorem w_creset (h : ChkR H col c p b) {Q : Value → AH → Prop} (hQ : ∀ H', ChkR H' col c p b.reset → Stp (Under c) col H col H' → Q (.tuple #[]) H') : W prog XP F_chunk_Budget_Reset [.pointer (some ⟨p, 0, none⟩)] H Q := by
  refine enterT _ (nf_F_chunk_Budget_Reset _ _ _ _) rfl ?_
  unfold vc_F_chunk_Budget_Reset
  refine c_cnone h (by decide) ?_
  simp only [r_b_eq, Bool.not_false, bcase_true]
  obtain ⟨a, n, cap, a2, n2, cap2, h1, h2, h3, h4⟩ := h
  refine dr.mk (w_shut h1 fun G0 k0 s0 => ?_)
  simp only [r_l_eq]
  refine dr.mk (ld_i.mk k0.get rfl (dr.mk (st.do k0.get rfl rfl (by simp) fun G1 w1 => ?_)))
  obtain ⟨k1, s1⟩ := k0.wrote w1
  refine dr.mk (st.do k1.get rfl rfl (by simp [setMany, cellsOf]) fun G2 w2 => ?_)
  obtain ⟨k2, s2⟩ := k1.wrote w2
  refine dr.mk (st.do k2.get rfl rfl (by simp [setMany, cellsOf]) fun G3 w3 => ?_)
  obtain ⟨k3, s3⟩ := k2.wrote w3
  exact hQ G3 ⟨none, 0, 0, none, 0, 0, by have := k3; simp [setMany, cellsOf] at this; exact this, SlE.nil, SlE.nil, h4.reset⟩ (((s0.under0.trans s1.under0).trans s2.under0).trans s3.under0)

theorem w_cgo (h : ChkR H col c p b) (hcn : c ≠ []) (hfr : Fresh col H) {now : Int} {busy : Bool} (h0 : 0 ≤ now) (h1' : now ≤ tickMax) {Q : Value → AH → Prop} (hQ : ∀ H' col', ChkR H' col' c p (b.go now busy) → Stp (Under c) col H col' H' → Q (.tuple #[]) H') :
    W prog XP F_chunk_Budget_Go [.pointer (some ⟨p, 0, none⟩), vI now, .bool busy] H Q := by
  refine enterT _ (nf_F_chunk_Budget_Go _ _ _ _ _ _) rfl ?_
  unfold vc_F_chunk_Budget_Go
  refine c_cnone h (by decide) ?_
  simp only [r_b_eq, bcase_false]
  obtain ⟨a, n, cap, a2, n2, cap2, h1, h2, h3, h4⟩ := h
  have hlen := h4.lens
  have hf0 := h4.free0
  have hgo : ChkOk (b.go now busy) := h4.go h0 h1'
  have hrip : 0 ≤ b.ripe now ∧ b.ripe now ≤ b.owed := by
    have hfs := filter_sum (fun x => decide (x.1 ≤ now)) b.back
    have k1 := sumBy_pos (fun x : Int × Int => x.2) (b.back.filter fun x => decide (x.1 ≤ now)) fun x hx => by have := h4.bs x (List.mem_filter.mp hx).1; omega
    have k2 := sumBy_pos (fun x : Int × Int => x.2) (b.back.filter fun x => !decide (x.1 ≤ now)) fun x hx => by have := h4.bs x (List.mem_filter.mp hx).1; omega
    unfold ChkB.ripe ChkB.owed; omega
  have hsum := h4.sum
  refine dr.mk (ld_i.mk h1.get rfl (w_ripe rfl h1 h3 h4 hcn hfr fun G1 a' n' cap' k1 k3 s1 => ?_))
  simp only [r_i_eq]
  have k2 := h2.fr s1 (by simp)
  refine ⟨⟨ld1_at k1.get rfl, by simp [veq]⟩, dr.mk (st.do k1.get rfl rfl (by simp) fun G2 w2 => ?_)⟩
  have ew : IntKind.i64.wrap (b.free + b.ripe now) = b.free + b.ripe now := i64_in _ (by omega)
  rw [ew] at w2
  obtain ⟨g1, s2⟩ := k1.wrote w2
  have g1' : Bk G2 col c p [.slice a n cap, .bool b.s.refill, vI b.s.C, vI b.s.T, vI (b.free + b.ripe now), .slice a' n' cap', .bool b.still] 0 := by simpa [setMany, cellsOf] using g1
  have g2 := k2.fr s2 (by simp)
  have g3 := k3.fr s2 (by simp)
  have sG : Stp (Under c) col H col G2 := (s1.mono fun x hx => two_under hx).trans s2.under0
  intro X hX
  have no : ¬ (busy = true ∧ b.still = false ∧ 0 < b.free + b.ripe now) → X [.bool false] G2 := fun hc => by
    have e : b.go now busy = { b with back := b.kept now, free := b.free + b.ripe now } := by unfold ChkB.go; rw [if_neg hc]
    refine hX _ _ fun _ => bcase_f rfl (hQ G2 col ?_ sG)
    rw [e] at hgo ⊢
    exact ⟨a, n, cap, a', n', cap', g1', g2, g3, hgo⟩
  refine bcase_both (fun hb => dr.mk (ld_b.mk g1'.get rfl (bcase_both (fun hs => dr.mk (ld_i.mk g1'.get rfl (kp.mk ?_))) fun hs => kp.mk (no fun hc => by simp at hs; rw [hs] at hc; simp at hc)))) fun hb => kp.mk (no fun hc => by rw [hb] at hc; simp at hc)
  have hs' : b.still = false := by simpa using hs
  by_cases hf : 0 < b.free + b.ripe now
  · rw [decide_eq_true hf]
    have e : b.go now busy = { b with back := b.kept now, l := b.l ++ [(now, b.free + b.ripe now, 0)], free := 0 } := by unfold ChkB.go; rw [if_pos ⟨hb, hs', hf⟩]
    rw [e] at hgo hQ
    refine hX _ _ fun _ => bcase_t rfl (dr.mk (ld_l.mk g1'.get rfl (dr.mk (ld_i.mk g1'.get rfl (nw.new fun q G3 e3 => ?_)))))
    have t3 : Stp (fun _ => False) col G2 col G3 := e3.keep.stp _ _
    refine (g2.fr t3 id).push (y := ((now, b.free + b.ripe now, 0) : Int × Int × Int)) (bs := q) (g := 0) (ro := false) eC3_len eC3_cell (by exact e3.at_) (by decide) (by decide) (by have := g2.1; omega) (by have := g2.1; omega) fun a5 cap5 G4 col4 k4 s4 _ => ?_
    have k14 := (g1'.fr t3 id).fr s4 (by simp)
    refine dr.mk (st.do k14.get rfl rfl (by simp) fun G5 w5 => ?_)
    obtain ⟨k5, s5⟩ := k14.wrote w5
    refine dr.mk (st.do k5.get rfl rfl (by simp [setMany, cellsOf]) fun G6 w6 => ?_)
    obtain ⟨k6, s6⟩ := k5.wrote w6
    exact hQ G6 col4 ⟨a5, n + 1, cap5, a', n', cap', by simpa [setMany, cellsOf] using k6, (k4.fr s5 (by simp)).fr s6 (by simp), (((g3.fr t3 id).fr s4 (by simp)).fr s5 (by simp)).fr s6 (by simp), hgo⟩
      ((((sG.trans (t3.mono fun _ h => h.elim)).trans s4.under).trans s5.under0).trans s6.under0)
  · rw [decide_eq_false hf]
    exact no fun hc => hf hc.2.2

theorem w_cnew {s : SrvC} (hs : s.right = true) {Q : Value → AH → Prop}
    (hQ : ∀ H' col' p, ChkR H' col' c p ⟨[], s, s.C, [], false⟩ → Stp (fun _ => False) col H col' H' → Q (.pointer (some ⟨p, 0, none⟩)) H') : W prog XP F_chunk_New [.agg #[.bool s.refill, vI s.C, vI s.T]] H Q := by
  refine enterT _ (nf_F_chunk_New _ _ _ _ _ _) rfl ?_
  unfold vc_F_chunk_New
  refine nw.new fun q G1 a1 => ld_Abii.mk a1.at_ rfl (by simp) (c_sright s (by decide) ?_)
  simp only [r_b_eq, hs, Bool.not_true, bcase_false]
  refine ld_Abii.mk a1.at_ rfl (by simp) (ld_i.mk a1.at_ rfl (nw.new fun p G2 a2 => ?_))
  have s1 : Stp (fun _ => False) col H col G1 := Stp.none a1.keep
  obtain ⟨k2, s2⟩ := a2.bk (fun _ => False) col c
  have hr := SrvC.right_iff.mp hs
  exact hQ G2 _ p ⟨none, 0, 0, none, 0, 0, k2, SlE.nil, SlE.nil, ⟨hs, fun x hx => by simp at hx, fun x hx => by simp at hx, by show 0 ≤ s.C; omega, by show 0 + 0 + s.C ≤ s.C; omega⟩⟩ (s1.trans s2)
end
end Go.Ez
