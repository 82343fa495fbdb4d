import Derived.Test.YtgckodpnpidodaaGreatPtR
import Derived.Test.YtgckodpnpidodaaGreatMod2
set_option linter.all false
/- A budget that is filled again in each period. -/
set_option linter.all false
namespace Go.Ez
open Go.Proofs Go.IntWalk
def eC2 (x : Int × Int) : List Value := [vI x.1, vI x.2]
theorem eC2_len (x : Int × Int) : (eC2 x).length = 2 := rfl
theorem eC2_cell (x : Int × Int) : (eC2 x).all isCell = true := rfl
section
variable {H H' : AH} {col col' : Col} {c : List Nat} {p : Nat} {b : RefB}
def RefR (H : AH) (col : Col) (c : List Nat) (p : Nat) (b : RefB) : Prop :=
  ∃ a n cap, Bk H col c p [.slice a n cap, .bool b.s.refill, vI b.s.C, vI b.s.T, vI b.start, vI b.now, vI b.free, .bool b.still] 0 ∧ SlE eC2 2 H col (0 :: c) a n cap b.l ∧ RefOk b
theorem RefR.fr (h : RefR H col c p b) {D : List Nat → Prop} (s : Stp D col H col' H') (hd : ∀ x, Under c x → ¬ D x) : RefR H' col' c p b := by
  obtain ⟨a, n, cap, h1, h2, h3⟩ := h
  exact ⟨a, n, cap, h1.fr s (hd _ (Under.refl _)), h2.fr s (hd _ ⟨[0], rfl⟩), h3⟩
theorem RefR.up (h : RefR H col c p b) {N : Nat} (hN : H.next ≤ N) : RefR (H.up N) col c p b := by
  obtain ⟨a, n, cap, h1, h2, h3⟩ := h
  exact ⟨a, n, cap, h1.up hN, h2.up hN, h3⟩
theorem RefR.lt (h : RefR H col c p b) : p < H.next := let ⟨_, _, _, h1, _⟩ := h; h1.lt
theorem RefR.cl (h : RefR H col c p b) : col p = c := let ⟨_, _, _, h1, _⟩ := h; h1.cl

theorem p_btoi {x : Bool} : PureC prog (XK 49) F_num_btoi [.bool x] H (vI (if x then 1 else 0)) := by
  refine pure_of _ rfl (fun N => nf_F_num_btoi _ _ _ _) rfl fun N hN => ?_
  unfold vc_F_num_btoi
  cases x
  · exact ⟨rfl, Keep.refl _ _⟩
  · exact ⟨rfl, Keep.refl _ _⟩
theorem tdiv_le {a b : Int} (hb : 1 ≤ b) (h1 : -tickMax ≤ a) (h2 : a ≤ tickMax) : -tickMax ≤ a.tdiv b ∧ a.tdiv b ≤ tickMax := by
  rcases Int.le_total 0 a with h | h
  · rw [Int.tdiv_eq_ediv_of_nonneg h]
    have := Int.ediv_le_self b h
    have := Int.ediv_nonneg h (by omega : 0 ≤ b)
    constructor <;> omega
  · have : a.tdiv b = -((-a).tdiv b) := by rw [Int.neg_tdiv]; simp
    rw [this, Int.tdiv_eq_ediv_of_nonneg (by omega)]
    have := Int.ediv_le_self b (show 0 ≤ -a by omega)
    have := Int.ediv_nonneg (show 0 ≤ -a by omega) (by omega : 0 ≤ b)
    constructor <;> omega
theorem p_floor {x y : Int} (h1 : -tickMax ≤ x) (h2 : x ≤ tickMax) : PureC prog (XK 50) F_num_Floor [vI x, vI y] H (vI (floorI x y)) := by
  refine pure_of _ rfl (fun N => nf_F_num_Floor _ _ _ _ _) rfl fun N hN => ?_
  unfold vc_F_num_Floor
  refine bcase_dec (fun h => ⟨by unfold floorI; rw [if_pos h], Keep.refl _ _⟩) fun h => binI_quo.mpr ⟨by omega, binI_rem.mpr ⟨by omega, callT p_btoi TL_nd rfl (by decide) ?_⟩⟩
  simp only [r_i_eq]
  refine ⟨?_, Keep.refl _ _⟩
  have ht := tdiv_le (show 1 ≤ y by omega) h1 h2
  have e1 : IntKind.i64.wrap (x.tdiv y) = x.tdiv y := i64_in _ (by simp only [tickMax] at ht; omega)
  rw [e1]
  unfold floorI
  rw [if_neg h]
  by_cases hm : x.tmod y < 0
  · simp only [hm, decide_true, if_true]
    rw [i64_in _ (by simp only [tickMax] at ht; omega)]
  · simp only [hm, decide_false, if_false]
    rw [i64_in _ (by simp only [tickMax] at ht; simp; omega)]; rfl
theorem p_fnone (h : RefR H col c p b) : PureC prog (XK 51) F_refill_Budget_none [.pointer (some ⟨p, 0, none⟩)] H (.bool false) := by
  refine pure_of _ rfl (fun N => nf_F_refill_Budget_none _ _ _ _) rfl fun N hN => ?_
  unfold vc_F_refill_Budget_none
  obtain ⟨a, n, cap, h1, h2, h3⟩ := h.up hN
  refine bcase_f rfl (dr.mk (ld_i.mk h1.get rfl ⟨?_, Keep.refl _ _⟩))
  have := h3.lens
  congr 1; simp; omega
theorem c_fnone (h : RefR H col c p b) {j : Nat} {Q : Value → AH → Prop} (hj : 51 < j) (hQ : Q (.bool false) H) : W prog (XK j) F_refill_Budget_none [.pointer (some ⟨p, 0, none⟩)] H Q := callT (p_fnone h) TL_nd rfl hj hQ
theorem p_period (h : RefR H col c p b) {t : Int} (h0 : 0 ≤ t) (h1' : t ≤ tickMax) : PureC prog (XK 52) F_refill_Budget_period [.pointer (some ⟨p, 0, none⟩), vI t] H (vI (b.period t)) := by
  refine pure_of _ rfl (fun N => nf_F_refill_Budget_period _ _ _ _ _) rfl fun N hN => ?_
  unfold vc_F_refill_Budget_period
  obtain ⟨a, n, cap, h1, h2, h3⟩ := h.up hN
  refine dr.mk (ld_i.mk h1.get rfl (dr.mk (ld_i.mk h1.get rfl ?_)))
  have := h3.start0; have := h3.start1
  simp only [tickMax] at *
  have e1 : IntKind.i64.wrap (t - b.start) = t - b.start := i64_in _ (by omega)
  rw [e1]
  refine callT (p_floor (by simp only [tickMax]; omega) (by simp only [tickMax]; omega)) TL_nd rfl (by decide) ?_
  simp only [r_i_eq]
  exact ⟨rfl, Keep.refl _ _⟩
theorem p_left (h : RefR H col c p b) : PureC prog (XK 53) F_refill_live_left [.pointer (some ⟨p, 0, none⟩)] H (vI b.left) := by
  refine pure_of _ rfl (fun N => nf_F_refill_live_left _ _ _ _) rfl fun N hN => ?_
  unfold vc_F_refill_live_left
  have hu := h.up hN
  obtain ⟨a, n, cap, h1, h2, h3⟩ := hu
  have hr := h2.rd eC2_len
  have hn := h2.1
  have hlen := h3.lens
  refine dr.mk (ld_l.mk h1.get rfl ?_)
  intro X hX
  have hls : ∀ x ∈ b.l, 0 ≤ x.2 := fun x hx => by have := h3.ls x hx; omega
  have loop := loop_up (X := X) (fun k (_ : Unit) => [vI (sumBy (·.2) (b.l.take k)), vI k]) (fun k _ G => Keep N (H.up N) G) n ?_ ?_
  · have := loop 0 () (H.up N) (by omega) (Keep.refl _ _)
    simpa [sumBy] using this
  · rintro _ G kG
    refine hX _ _ _ fun _ => bcase_dec (fun h => absurd h (by omega)) fun _ => ⟨?_, kG⟩
    rw [hn, List.take_length]; rfl
  · rintro k _ G hk kG go
    have hkl : k < b.l.length := by omega
    obtain ⟨bb, o, ds, ro, g', rfl, r2, r3, r4, r5, r6⟩ := (hr.kept kG).at_ (i := k) (x := b.l[k]) (by simp)
    refine hX _ _ _ fun _ => bcase_dec (fun _ => ix.mk (by omega) (by omega) (ld_Aii.mk r3 (by rw [Int.toNat_natCast]; exact r6) (by rw [Int.toNat_natCast]; omega) (nw.new fun q G2 a2 => st.do a2.at_ rfl rfl (by simp) fun G3 w3 => ld_i.mk w3.at_ rfl (kp.mk ?_)))) fun h => absurd (by omega) h
    have e1 : IntKind.i64.wrap ((k : Int) + 1) = ((k + 1 : Nat) : Int) := by rw [i64_in _ (by omega)]; omega
    have ht := sumBy_take (fun x : Int × Int => x.2) b.l hls (k + 1)
    have hts : sumBy (fun x : Int × Int => x.2) (b.l.take (k + 1)) = sumBy (fun x : Int × Int => x.2) (b.l.take k) + b.l[k].2 := by
      rw [List.take_succ, List.getElem?_eq_getElem hkl, sumBy_app]; simp [sumBy]
    have hle : b.left ≤ 1000 := by omega
    unfold RefB.left at hle
    have e2 : IntKind.i64.wrap (sumBy (fun x : Int × Int => x.2) (b.l.take k) + b.l[k].2) = sumBy (fun x : Int × Int => x.2) (b.l.take (k + 1)) := by rw [← hts]; exact i64_in _ (by omega)
    rw [e1]
    have := go () G3 (kG.trans ((a2.keep.mono (by have := kG.next; simpa using this)).trans (w3.keep (by rw [a2.num]; have := kG.next; simpa using this))))
    rw [← e2] at this
    exact this
theorem p_fdue (h : RefR H col c p b) : PureC prog (XK 54) F_refill_Budget_Due [.pointer (some ⟨p, 0, none⟩)] H (match b.due with | some d => .tuple #[vI d, .bool true] | none => .tuple #[vI 0, .bool false]) := by
  refine pure_of _ (by split <;> rfl) (fun N => nf_F_refill_Budget_Due _ _ _ _) rfl fun N hN => ?_
  unfold vc_F_refill_Budget_Due
  intro X hX
  have hu := h.up hN
  refine c_fnone hu (by decide) ?_
  obtain ⟨a, n, cap, h1, h2, h3⟩ := hu
  have hn := h2.1
  simp only [r_b_eq, bcase_false]
  refine dr.mk (ld_l.mk h1.get rfl ?_)
  cases hl : b.l with
  | nil =>
    rw [hl] at hn
    exact bcase_t (by simp [hn]) ⟨by unfold RefB.due; rw [hl]; rfl, Keep.refl _ _⟩
  | cons x l =>
    have hn' : n = l.length + 1 := by rw [hn, hl]; rfl
    refine bcase_f (by simp; omega) (kp.mk (hX _ fun _ => dr.mk (ld_l.mk h1.get rfl ?_)))
    obtain ⟨bb, o, ds, ro, g', rfl, r2, r3, r4, r5, r6⟩ := (h2.rd eC2_len).at_ (i := 0) (x := x) (by rw [hl]; rfl)
    have hx := h3.ls x (by rw [hl]; simp)
    have hlen := h3.lens
    have e0 : ds[o + 0 * 2 + 0]? = some (vI x.1) := by rw [chunk_get r6 (by decide)]; rfl
    refine ix.mk (by omega) (by omega) (ld_i.mk r3 (by simpa using e0) (dr.mk (ld_i.mk h1.get rfl ⟨?_, Keep.refl _ _⟩)))
    unfold RefB.due
    rw [hl]
    simp only [tickMax] at hx
    rw [i64_in _ (by omega)]; rfl

theorem w_ftake (h : RefR H col c p b) {Q : Value → AH → Prop} (hQ : ∀ r H', RefR H' col c p b.use → Stp (Under c) col H col H' → Q (.bool r) H') : W prog XP F_refill_live_take [.pointer (some ⟨p, 0, none⟩)] H Q := by
  refine enterT _ (nf_F_refill_live_take _ _ _ _) rfl ?_
  unfold vc_F_refill_live_take
  have h0 := h
  obtain ⟨a, n, cap, h1, h2, h3⟩ := h0
  have hn := h2.1
  refine dr.mk (ld_l.mk h1.get rfl ?_)
  cases hl : b.l with
  | nil =>
    rw [hl] at hn
    refine bcase_t (by simp [hn]) (hQ _ H ?_ (Stp.refl _ _ _))
    have : b.use = b := by unfold RefB.use; rw [hl]
    rw [this]; exact h
  | cons x l =>
    have hn' : n = l.length + 1 := by rw [hn, hl]; rfl
    obtain ⟨bb, o, ds, g, rfl, e2, e3, e4, e5, e6⟩ := h2.at_ eC2_len (i := 0) (x := x) (by rw [hl]; rfl)
    have hx := h3.ls x (by rw [hl]; simp)
    have hlen := h3.lens
    have hxl : x.2 ≤ 1000 := by
      have h4 : b.left = x.2 + sumBy (fun y : Int × Int => y.2) l := by unfold RefB.left; rw [hl]; rfl
      have := sumBy_pos (fun y : Int × Int => y.2) l fun y hy => by have := h3.ls y (by rw [hl]; simp [hy]); omega
      omega
    have c1 : ds[o + 0 * 2 + 1]? = some (vI x.2) := e5 1 (by decide)
    refine bcase_f (by simp; omega) (dr.mk (ld_l.mk h1.get rfl (ix.mk (by omega) (by omega) (ld_i.mk e2.get c1 (ix.mk (by omega) (by omega) (st.do e2.get rfl rfl (by simp at e3 ⊢; omega) fun G1 w1 => ?_))))))
    have ew : IntKind.i64.wrap (x.2 - 1) = x.2 - 1 := i64_in _ (by omega)
    rw [ew] at w1
    obtain ⟨k1, s1⟩ := e2.wrote w1
    have hset : setMany ds (o + Int.toNat 0 * 2 + 1) (cellsOf (vI (x.2 - 1))) = setMany ds (o + 0 * 2) (eC2 (x.1, x.2 - 1)) := by
      rw [show o + Int.toNat 0 * 2 + 1 = (o + 0 * 2) + 1 by simp, setMany_within e4 (by simpa using e3) (by simp [cellsOf])]; rfl
    rw [hset] at k1
    have sl1 := e6 (x.1, x.2 - 1) G1 col k1
    rw [hl] at sl1
    simp only [List.set_cons_zero] at sl1
    have b1 := h1.fr s1 (by simp)
    have g1 : (setMany ds (o + 0 * 2) (eC2 (x.1, x.2 - 1)))[o + 0 * 2 + 1]? = some (vI (x.2 - 1)) := by
      rw [setMany_getX _ _ _ _ (by simp [eC2_len] at *; omega), if_pos (by simp [eC2_len])]
      rw [show o + 0 * 2 + 1 - (o + 0 * 2) = 1 by omega]; rfl
    refine dr.mk (ld_l.mk b1.get rfl (ix.mk (by omega) (by omega) (ld_i.mk k1.get g1 ?_)))
    have huse := h3.use
    by_cases hz : x.2 - 1 = 0
    · have hu : b.use = { b with l := l } := by unfold RefB.use; rw [hl]; simp only [hz, if_true]
      rw [hu] at huse hQ
      refine bcase_t (by simp [hz]) (dr.mk (ld_l.mk b1.get rfl (sl1.sub eC2_len (lo := 1) (hi := n) (by omega) (by omega) rfl ?_ fun a' cap' k2 => dr.mk ?_)))
      · simp only [bnd]
        rw [if_pos (by omega)]; rfl
      · refine st.do b1.get rfl rfl (by simp) fun G2 w2 => ?_
        obtain ⟨b2, s2⟩ := b1.wrote w2
        have hdrop : (((x.1, x.2 - 1) :: l).take n).drop 1 = l := by
          rw [hn']; simp
        rw [hdrop] at k2
        exact hQ true G2 ⟨a', n - 1, cap', by simpa [setMany, cellsOf] using b2, k2.fr s2 (by simp), huse⟩ (s1.under.trans s2.under0)
    · have hu : b.use = { b with l := (x.1, x.2 - 1) :: l } := by unfold RefB.use; rw [hl]; simp only [hz, if_false]
      rw [hu] at huse hQ
      exact bcase_f (by simpa using hz) (hQ true G1 ⟨_, n, cap, b1, sl1, huse⟩ s1.under)
theorem w_fuse (h : RefR H col c p b) {Q : Value → AH → Prop} (hQ : ∀ r H', RefR H' col c p b.use → Stp (Under c) col H col H' → Q (.bool r) H') : W prog XP F_refill_Budget_Use [.pointer (some ⟨p, 0, none⟩)] H Q := by
  refine enterT _ (nf_F_refill_Budget_Use _ _ _ _) rfl ?_
  unfold vc_F_refill_Budget_Use
  refine c_fnone h (by decide) ?_
  simp only [r_b_eq, Bool.not_false, bcase_true]
  refine dr.mk (w_ftake h fun r H' h' s' => ?_)
  simp only [r_b_eq]
  exact hQ r H' h' s'

theorem w_fdone (h : RefR H col c p b) {Q : Value → AH → Prop} (hQ : ∀ H', RefR H' col c p b.done → Stp (Under c) col H col H' → Q (.tuple #[]) H') : W prog XP F_refill_Budget_Done [.pointer (some ⟨p, 0, none⟩)] H Q := by
  refine enterT _ (nf_F_refill_Budget_Done _ _ _ _) rfl ?_
  unfold vc_F_refill_Budget_Done
  refine c_fnone h (by decide) ?_
  have hp := p_left h
  obtain ⟨a, n, cap, h1, h2, h3⟩ := h
  have hlen := h3.lens
  have := h3.free0; have := h3.sum
  simp only [r_b_eq, Bool.not_false, bcase_true]
  refine dr.mk (ld_i.mk h1.get rfl (dr.mk (callT hp TL_nd rfl (by decide) ?_)))
  simp only [r_i_eq]
  refine ⟨⟨ld1_at h1.get rfl, by simp [veq]⟩, dr.mk (st.do h1.get rfl rfl (by simp) fun G1 w1 => ?_)⟩
  have ew : IntKind.i64.wrap (b.free + b.left) = b.free + b.left := i64_in _ (by omega)
  rw [ew] at w1
  obtain ⟨k1, s1⟩ := h1.wrote w1
  refine dr.mk (st.do k1.get rfl rfl (by simp [setMany, cellsOf]) fun G2 w2 => ?_)
  obtain ⟨k2, s2⟩ := k1.wrote w2
  exact hQ G2 ⟨none, 0, 0, by have := k2; simp [setMany, cellsOf] at this; exact this, SlE.nil, h3.done⟩ (s1.under0.trans s2.under0)
theorem w_fstop (h : RefR H col c p b) {Q : Value → AH → Prop} (hQ : ∀ H', RefR H' col c p b.stop → Stp (Under c) col H col H' → Q (.tuple #[]) H') : W prog XP F_refill_Budget_Stop [.pointer (some ⟨p, 0, none⟩)] H Q := by
  refine enterT _ (nf_F_refill_Budget_Stop _ _ _ _) rfl ?_
  unfold vc_F_refill_Budget_Stop
  refine c_fnone h (by decide) ?_
  simp only [r_b_eq, Bool.not_false, bcase_true]
  have hok : RefOk b := let ⟨_, _, _, _, _, k⟩ := h; k
  refine w_fdone h fun G1 g1 s1 => ?_
  obtain ⟨a, n, cap, h1, h2, h3⟩ := g1
  simp only [r_T_eq]
  refine dr.mk (st.do h1.get rfl rfl (by simp) fun G2 w2 => ?_)
  obtain ⟨k2, s2⟩ := h1.wrote w2
  exact hQ G2 ⟨a, n, cap, by have := k2; simp [setMany, cellsOf] at this; exact this, h2.fr s2 (by simp), hok.stop⟩ (s1.trans s2.under0)
theorem w_fresume (h : RefR H col c p b) {Q : Value → AH → Prop} (hQ : ∀ H', RefR H' col c p b.resume → Stp (Under c) col H col H' → Q (.tuple #[]) H') : W prog XP F_refill_Budget_Resume [.pointer (some ⟨p, 0, none⟩)] H Q := by
  refine enterT _ (nf_F_refill_Budget_Resume _ _ _ _) rfl ?_
  unfold vc_F_refill_Budget_Resume
  refine c_fnone h (by decide) ?_
  simp only [r_b_eq, Bool.not_false, bcase_true]
  obtain ⟨a, n, cap, h1, h2, h3⟩ := h
  refine dr.mk (st.do h1.get rfl rfl (by simp) fun G2 w2 => ?_)
  obtain ⟨k2, s2⟩ := h1.wrote w2
  exact hQ G2 ⟨a, n, cap, by have := k2; simp [setMany, cellsOf] at this; exact this, h2.fr s2 (by simp), h3.resume⟩ s2.under0
theorem w_freset (h : RefR H col c p b) {Q : Value → AH → Prop} (hQ : ∀ H', RefR H' col c p b.reset → Stp (Under c) col H col H' → Q (.tuple #[]) H') : W prog XP F_refill_Budget_Reset [.pointer (some ⟨p, 0, none⟩)] H Q := by
  refine enterT _ (nf_F_refill_Budget_Reset _ _ _ _) rfl ?_
  unfold vc_F_refill_Budget_Reset
  refine c_fnone h (by decide) ?_
  simp only [r_b_eq, Bool.not_false, bcase_true]
  obtain ⟨a, n, cap, h1, h2, h3⟩ := h
  refine dr.mk (st.do h1.get rfl rfl (by simp) fun G1 w1 => ?_)
  obtain ⟨k1, s1⟩ := h1.wrote w1
  refine dr.mk (ld_i.mk k1.get rfl (dr.mk (st.do k1.get rfl rfl (by simp [setMany, cellsOf]) fun G2 w2 => ?_)))
  obtain ⟨k2, s2⟩ := k1.wrote w2
  refine dr.mk (st.do k2.get rfl rfl (by simp [setMany, cellsOf]) fun G3 w3 => ?_)
  obtain ⟨k3, s3⟩ := k2.wrote w3
  exact hQ G3 ⟨none, 0, 0, by have := k3; simp [setMany, cellsOf] at this; exact this, SlE.nil, h3.reset⟩ ((s1.under0.trans s2.under0).trans s3.under0)

theorem w_fgo (h : RefR H col c p b) {now : Int} {busy : Bool} (h0 : 0 ≤ now) (h1' : now ≤ tickMax) {Q : Value → AH → Prop} (hQ : ∀ H' col', RefR H' col' c p (b.go now busy) → Stp (Under c) col H col' H' → Q (.tuple #[]) H') :
    W prog XP F_refill_Budget_Go [.pointer (some ⟨p, 0, none⟩), vI now, .bool busy] H Q := by
  refine enterT _ (nf_F_refill_Budget_Go _ _ _ _ _ _) rfl ?_
  unfold vc_F_refill_Budget_Go
  refine c_fnone h (by decide) ?_
  simp only [r_b_eq, bcase_false]
  have h' := h
  obtain ⟨a, n, cap, h1, h2, h3⟩ := h'
  have hlen := h3.lens
  have := h3.free0; have := h3.sum
  intro X6 hX6
  have hgo : RefOk (b.go now busy) := h3.go h0 h1'
  have fin : ∀ (G : AH), Bk G col c p [.slice a n cap, .bool b.s.refill, vI b.s.C, vI b.s.T, vI b.start, vI b.now, vI (b.fill now), .bool b.still] 0 → SlE eC2 2 G col (0 :: c) a n cap b.l → Stp (Under c) col H col G → X6 [] G := fun G q1 q2 sG => by
    refine hX6 _ fun _ => dr.mk (st.do q1.get rfl rfl (by simp) fun G1 w1 => ?_)
    obtain ⟨k1, s1⟩ := q1.wrote w1
    have k1' : Bk G1 col c p [.slice a n cap, .bool b.s.refill, vI b.s.C, vI b.s.T, vI b.start, vI now, vI (b.fill now), .bool b.still] 0 := by simpa [setMany, cellsOf] using k1
    have k2 := q2.fr s1 (by simp)
    have sG1 := sG.trans s1.under0
    intro X32 hX32
    have no : ¬ (busy = true ∧ b.still = false ∧ 0 < b.fill now) → X32 [.bool false] G1 := fun hc => by
      have e : b.go now busy = { b with now := now, free := b.fill now } := by unfold RefB.go; rw [if_neg hc]
      refine hX32 _ _ fun _ => bcase_f rfl (hQ G1 col ?_ sG1)
      rw [e] at hgo ⊢
      exact ⟨a, n, cap, k1', k2, hgo⟩
    refine bcase_both (fun hb => dr.mk (ld_b.mk k1'.get rfl (bcase_both (fun hs => dr.mk (ld_i.mk k1'.get rfl (kp.mk ?_))) fun hs => kp.mk (no fun hc => by simp at hs; rw [hs] at hc; simp at hc)))) fun hb => kp.mk (no fun hc => by rw [hb] at hc; simp at hc)
    have hs' : b.still = false := by simpa using hs
    by_cases hf : 0 < b.fill now
    · rw [decide_eq_true hf]
      have hc : busy = true ∧ b.still = false ∧ 0 < b.fill now := ⟨hb, hs', hf⟩
      have e : b.go now busy = { b with now := now, l := b.l ++ [(now, b.fill now)], free := 0 } := by unfold RefB.go; rw [if_pos hc]
      rw [e] at hgo hQ
      refine hX32 _ _ fun _ => bcase_t rfl (dr.mk (ld_l.mk k1'.get rfl (dr.mk (ld_i.mk k1'.get rfl (nw.new fun q G2 a2 => ?_)))))
      have t2 : Stp (fun _ => False) col G1 col G2 := a2.keep.stp _ _
      refine (k2.fr t2 id).push (y := ((now, b.fill now) : Int × Int)) (bs := q) (g := 0) (ro := false) eC2_len eC2_cell (by exact a2.at_) (by decide) (by decide) (by have := k2.1; omega) (by have := k2.1; omega) fun a' cap' G3 col3 k3 s3 _ => ?_
      have k13 := (k1'.fr t2 id).fr s3 (by simp)
      refine dr.mk (st.do k13.get rfl rfl (by simp) fun G4 w4 => ?_)
      obtain ⟨k4, s4⟩ := k13.wrote w4
      refine dr.mk (st.do k4.get rfl rfl (by simp [setMany, cellsOf]) fun G5 w5 => ?_)
      obtain ⟨k5, s5⟩ := k4.wrote w5
      exact hQ G5 col3 ⟨a', n + 1, cap', by simpa [setMany, cellsOf] using k5, (k3.fr s4 (by simp)).fr s5 (by simp), hgo⟩
        ((((sG1.trans (t2.mono fun _ h => h.elim)).trans s3.under).trans s4.under0).trans s5.under0)
    · rw [decide_eq_false hf]
      exact no fun hc => hf hc.2.2
  refine callT (p_period h h0 h1') TL_nd rfl (by decide) ?_
  simp only [r_i_eq]
  refine dr.mk (ld_i.mk h1.get rfl ⟨⟨ld1_at h1.get rfl, by simp [veq]⟩, callT (p_period h h3.now0 h3.now1) TL_nd rfl (by decide) ?_⟩)
  simp only [r_i_eq]
  refine bcase_dec (fun hlt => ?_) fun hlt => ?_
  · have ef : b.fill now = b.s.C - b.left := by unfold RefB.fill; rw [if_pos hlt]
    refine dr.mk (ld_i.mk h1.get rfl (dr.mk (callT (p_left h) TL_nd rfl (by decide) ?_)))
    simp only [r_i_eq]
    refine ⟨⟨ld1_at h1.get rfl, by simp [veq]⟩, dr.mk (st.do h1.get rfl rfl (by simp) fun G1 w1 => kp.mk ?_)⟩
    have ew : IntKind.i64.wrap (b.s.C - b.left) = b.s.C - b.left := i64_in _ (by omega)
    rw [ew] at w1
    obtain ⟨k1, s1⟩ := h1.wrote w1
    exact fin G1 (by rw [ef]; simpa [setMany, cellsOf] using k1) (h2.fr s1 (by simp)) s1.under0
  · have ef : b.fill now = b.free := by unfold RefB.fill; rw [if_neg hlt]
    exact kp.mk (fin H (by rw [ef]; exact h1) h2 (Stp.refl _ _ _))

theorem w_fnew {s : SrvC} {start : Int} (hs : s.right = true) (h0 : 0 ≤ start) (h1 : start ≤ tickMax) (hfc : ∀ b, b < H.next → ¬ Under c (col b)) {Q : Value → AH → Prop}
    (hQ : ∀ H' col' p, RefR H' col' c p ⟨[], s, start, start, s.C, false⟩ → Stp (fun _ => False) col H col' H' → Q (.pointer (some ⟨p, 0, none⟩)) H') : W prog XP F_refill_New [.agg #[.bool s.refill, vI s.C, vI s.T], vI start] H Q := by
  refine enterT _ (nf_F_refill_New _ _ _ _ _ _ _) rfl ?_
  unfold vc_F_refill_New
  refine nw.new fun q G1 a1 => ?_
  intro X hX
  refine ld_Abii.mk a1.at_ rfl (by simp) (c_sright s (by decide) ?_)
  simp only [r_b_eq, hs, Bool.not_true, bcase_false]
  simp only [tickMax] at h1
  refine bcase_dec (fun h => absurd h (by omega)) fun _ => bcase_dec (fun h => absurd h (by omega)) fun _ => kp.mk (hX _ fun _ => ?_)
  refine ld_Abii.mk a1.at_ rfl (by simp) (ld_i.mk a1.at_ rfl (nw.new fun p G2 a2 => ?_))
  have s1 : Stp (fun _ => False) col H col G1 := Stp.none a1.keep
  obtain ⟨k2, s2⟩ := a2.bk (fun _ => False) col c
  have hr := SrvC.right_iff.mp hs
  exact hQ G2 _ p ⟨none, 0, 0, k2, SlE.nil, ⟨hs, h0, h1, h0, h1, fun x hx => by simp at hx, by show 0 ≤ s.C; omega, by show 0 + s.C ≤ s.C; omega⟩⟩ (s1.trans s2)
end
end Go.Ez

/- A budget whose ticks come back a period behind their use: what is ripe. -/
set_option linter.all false
namespace Go.Ez
open Go.Proofs Go.IntWalk
def eC3 (x : Int × Int × Int) : List Value := [vI x.1, vI x.2.1, vI x.2.2]
theorem eC3_len (x : Int × Int × Int) : (eC3 x).length = 3 := rfl
theorem eC3_cell (x : Int × Int × Int) : (eC3 x).all isCell = true := rfl
section
variable {H H' : AH} {col col' : Col} {c : List Nat} {p : Nat} {b : ChkB}
def ChkR (H : AH) (col : Col) (c : List Nat) (p : Nat) (b : ChkB) : Prop :=
  ∃ a n cap a2 n2 cap2, Bk H col c p [.slice a n cap, .bool b.s.refill, vI b.s.C, vI b.s.T, vI b.free, .slice a2 n2 cap2, .bool b.still] 0 ∧ SlE eC3 3 H col (0 :: c) a n cap b.l ∧ SlE eC2 2 H col (1 :: c) a2 n2 cap2 b.back ∧ ChkOk b
theorem ChkR.fr (h : ChkR H col c p b) {D : List Nat → Prop} (s : Stp D col H col' H') (hd : ∀ x, Under c x → ¬ D x) : ChkR H' col' c p b := by
  obtain ⟨a, n, cap, a2, n2, cap2, h1, h2, h3, h4⟩ := h
  exact ⟨a, n, cap, a2, n2, cap2, h1.fr s (hd _ (Under.refl _)), h2.fr s (hd _ ⟨[0], rfl⟩), h3.fr s (hd _ ⟨[1], rfl⟩), h4⟩
theorem ChkR.up (h : ChkR H col c p b) {N : Nat} (hN : H.next ≤ N) : ChkR (H.up N) col c p b := by
  obtain ⟨a, n, cap, a2, n2, cap2, h1, h2, h3, h4⟩ := h
  exact ⟨a, n, cap, a2, n2, cap2, h1.up hN, h2.up hN, h3.up hN, h4⟩
theorem ChkR.lt (h : ChkR H col c p b) : p < H.next := let ⟨_, _, _, _, _, _, h1, _⟩ := h; h1.lt
theorem ChkR.cl (h : ChkR H col c p b) : col p = c := let ⟨_, _, _, _, _, _, h1, _⟩ := h; h1.cl
theorem ChkR.ok (h : ChkR H col c p b) : ChkOk b := let ⟨_, _, _, _, _, _, _, _, _, h⟩ := h; h

/-- Only one block is written, beside new ones. -/
structure Only (q : Nat) (H H' : AH) : Prop where
  next : H.next ≤ H'.next
  get : ∀ b, b < H.next → b ≠ q → H'.get b = H.get b
theorem Only.refl (q : Nat) (H : AH) : Only q H H := ⟨Nat.le_refl _, fun _ _ _ => rfl⟩
theorem Only.trans {q : Nat} {H H1 H2 : AH} (h : Only q H H1) (k : Only q H1 H2) : Only q H H2 := ⟨Nat.le_trans h.next k.next, fun b hb hn => (k.get b (Nat.lt_of_lt_of_le hb h.next) hn).trans (h.get b hb hn)⟩
theorem Only.stp {q : Nat} {H H' : AH} {D : List Nat → Prop} {col : Col} (h : Only q H H') (hd : D (col q)) : Stp D col H col H' :=
  ⟨h.next, fun _ _ => rfl, fun b hb hn => h.get b hb fun e => hn (by rw [e]; exact hd), fun hf b hb => hf b (Nat.le_trans h.next hb)⟩

def ripeN (now : Int) (x : Int × Int) : Int := if x.1 ≤ now then x.2 else 0
theorem w_ripe1 {q1 q2 : Nat} {now n : Int} {x : Int × Int} (h1 : Bk H col [] q1 [vI now] 0) (h2 : Bk H col [] q2 [vI n] 0) (hne : q1 ≠ q2) (hn : 0 ≤ n) (hx : 0 ≤ x.2) (hs : n + x.2 ≤ 100000) {Q : Value → AH → Prop}
    (hQ : ∀ H', Bk H' col [] q2 [vI (n + ripeN now x)] 0 → Only q2 H H' → Q (.bool (decide (x.1 ≤ now))) H') : W prog XP F_chunk_Budget_ripe_1 [.agg #[vI x.1, vI x.2], .pointer (some ⟨q1, 0, none⟩), .pointer (some ⟨q2, 0, none⟩)] H Q := by
  refine enterT _ (nf_F_chunk_Budget_ripe_1 _ _ _ _ _ _ _) rfl ?_
  unfold vc_F_chunk_Budget_ripe_1
  refine nw.new fun t G a => ?_
  have t1 : Stp (fun _ => False) col H col G := a.keep.stp _ _
  have k1 := h1.fr t1 id
  have k2 := h2.fr t1 id
  intro X hX
  have hnt : ∀ {y}, y < H.next → t ≠ y := fun hy e => by have := a.num; omega
  refine ld_i.mk a.at_ rfl (ld_i.mk k1.get rfl (bcase_dec (fun hle => ?_) fun hle => kp.mk (hX _ fun _ => ld_i.mk a.at_ rfl (ld_i.mk k1.get rfl (hQ G ?_ ⟨t1.next, fun b hb _ => a.keep.get b hb⟩)))))
  · refine ld_i.mk k2.get rfl (ld_i.mk a.at_ rfl (st.do k2.get rfl rfl (by simp) fun G2 w => kp.mk (hX _ fun _ => ?_)))
    have e : IntKind.i64.wrap (n + x.2) = n + x.2 := i64_in _ (by omega)
    rw [e] at w
    obtain ⟨k22, s2⟩ := k2.wrote w
    have g1 := w.far a.at_ (hnt h2.lt)
    have g2 := k1.other w hne
    refine ld_i.mk g1 rfl (ld_i.mk g2.get rfl (hQ G2 ?_ ⟨by rw [w.next]; exact t1.next, fun b hb hn => (w.other b hn).trans (a.keep.get b hb)⟩))
    unfold ripeN; rw [if_pos hle]; simpa [setMany, cellsOf] using k22
  · unfold ripeN; rw [if_neg hle, Int.add_zero]; exact k2

/-- What is ripe of the first k. -/
theorem ripe_sum (now : Int) : ∀ l : List (Int × Int), sumBy (ripeN now) l = sumBy (·.2) (l.filter fun x => decide (x.1 ≤ now))
  | [] => rfl
  | x :: l => by
    have := ripe_sum now l
    by_cases h : x.1 ≤ now
    · simp [List.filter_cons, h, sumBy, ripeN, this]
    · simp [List.filter_cons, h, sumBy, ripeN, this]
theorem take_snoc {α : Type} {l : List α} {k : Nat} (hk : k < l.length) : l.take (k + 1) = l.take k ++ [l[k]] := by
  rw [List.take_succ, List.getElem?_eq_getElem hk]; rfl

abbrev rV (q1 q2 : Nat) : Value := .func (.func F_chunk_Budget_ripe_1) #[] #[.pointer (some ⟨q1, 0, none⟩), .pointer (some ⟨q2, 0, none⟩)]
theorem w_idxB {d : List Nat} {a : Option Addr} {n cap : Nat} {l : List (Int × Int)} {q1 q2 : Nat} {now : Int} (h : RdE eC2 2 H col d a n cap l) (hd : d ≠ []) (hl : ∀ x ∈ l, 1 ≤ x.2) (hsum : sumBy (·.2) l ≤ 1000) (h1 : Bk H col [] q1 [vI now] 0) (h2 : Bk H col [] q2 [vI 0] 0) (hne : q1 ≠ q2)
    {Q : Value → AH → Prop}
    (hno : (∀ x ∈ l, ¬ x.1 ≤ now) → ∀ H', Bk H' col [] q2 [vI 0] 0 → Only q2 H H' → Q (vI (-1)) H')
    (hyes : ∀ (k : Nat) x, l[k]? = some x → x.1 ≤ now → (∀ i y, i < k → l[i]? = some y → ¬ y.1 ≤ now) → ∀ H', Bk H' col [] q2 [vI (sumBy (ripeN now) (l.take (k + 1)))] 0 → Only q2 H H' → Q (vI k) H') :
    W prog XP F_slices_IndexFunc__chunk_Backchunk_Back [.slice a n cap, rV q1 q2] H Q := by
  refine enterT _ (nf_F_slices_IndexFunc__chunk_Backchunk_Back _ _ _ _ _ _ _) rfl ?_
  unfold vc_F_slices_IndexFunc__chunk_Backchunk_Back
  intro X hX
  have hn := h.1
  have hlen := sumBy_len (fun x : Int × Int => x.2) l hl
  have z0 : ∀ k, (∀ i x, i < k → l[i]? = some x → ¬ x.1 ≤ now) → sumBy (ripeN now) (l.take k) = 0 := by
    intro k
    induction k with
    | zero => intro _; rfl
    | succ k ih =>
      intro hk
      by_cases hlt : k < l.length
      · rw [take_snoc hlt, sumBy_app, ih fun i x hi hx => hk i x (by omega) hx]
        have := hk k l[k] (by omega) (by simp)
        simp [sumBy, ripeN, this]
      · rw [List.take_of_length_le (by omega), ← List.take_of_length_le (show l.length ≤ k by omega)]
        exact ih fun i x hi hx => hk i x (by omega) hx
  have loop := loop_up (X := X) (fun k (_ : Unit) => [vI k]) (fun k _ G => Bk G col [] q2 [vI 0] 0 ∧ Only q2 H G ∧ ∀ i x, i < k → l[i]? = some x → ¬ x.1 ≤ now) n ?_ ?_
  · exact loop 0 () H (by omega) ⟨h2, Only.refl _ _, fun i x hi => absurd hi (Nat.not_lt_zero i)⟩
  · rintro _ G ⟨g1, g2, g3⟩
    refine hX _ _ fun _ => bcase_dec (fun h => absurd h (by omega)) fun _ => hno (fun x hx => ?_) G g1 g2
    obtain ⟨i, hi, rfl⟩ := List.getElem_of_mem hx
    exact g3 i _ (by omega) (by simp)
  · rintro k _ G hk ⟨g1, g2, g3⟩ go
    have hkl : k < l.length := by omega
    have sG : Stp (fun x => x = []) col H col G := g2.stp h2.cl
    obtain ⟨bb, o, ds, ro, g', rfl, r2, r3, r4, r5, r6⟩ := (h.fr sG hd).at_ (i := k) (x := l[k]) (by simp)
    have hb1 : Bk G col [] q1 [vI now] 0 := ⟨Nat.lt_of_lt_of_le h1.lt g2.next, h1.cl, (g2.get q1 h1.lt hne).trans h1.get⟩
    have hx1 := hl l[k] (List.getElem_mem hkl)
    have hxs : l[k].2 ≤ 1000 := by
      have := sumBy_take (fun x : Int × Int => x.2) l (fun x hx => by have := hl x hx; omega) (k + 1)
      rw [take_snoc hkl, sumBy_app] at this
      have h0 := (sumBy_take (fun x : Int × Int => x.2) l (fun x hx => by have := hl x hx; omega) k).1
      simp only [sumBy] at this; omega
    refine hX _ _ fun _ => bcase_dec (fun _ => ix.mk (by omega) (by omega) (ld_Aii.mk r3 (by rw [Int.toNat_natCast]; exact r6) (by rw [Int.toNat_natCast]; omega) ⟨_, _, rfl, ?_⟩)) fun h => absurd (by omega) h
    refine w_ripe1 (x := l[k]) hb1 g1 hne (by omega) (by omega) (by omega) fun G2 k2 o2 => ?_
    simp only [r_b_eq]
    refine bcase_dec (fun hle => ?_) fun hle => kp.mk ?_
    · refine hyes k l[k] (by simp) hle g3 G2 ?_ (g2.trans o2)
      rw [take_snoc hkl, sumBy_app, z0 k g3]; simpa [sumBy] using k2
    · have e1 : IntKind.i64.wrap ((k : Int) + 1) = ((k + 1 : Nat) : Int) := by rw [i64_in _ (by omega)]; omega
      rw [e1]
      refine go () G2 ⟨?_, g2.trans o2, fun i x hi hx => ?_⟩
      · have : ripeN now l[k] = 0 := by unfold ripeN; rw [if_neg hle]
        rw [this] at k2; simpa using k2
      · rcases Nat.lt_or_ge i k with h | h
        · exact g3 i x h hx
        · have : i = k := by omega
          subst this
          simp only [hkl, List.getElem?_eq_getElem, Option.some.injEq] at hx
          rw [← hx]; exact hle
end
end Go.Ez

/- A budget whose ticks come back: what is ripe is out of the list. -/
set_option linter.all false
namespace Go.Ez
open Go.Proofs Go.IntWalk
section
variable {H H' : AH} {col col' : Col} {c : List Nat} {p : Nat} {b : ChkB}

/-- One block, and those of a colour. -/
structure Only2 (q : Nat) (cc : List Nat) (col : Col) (H H' : AH) : Prop where
  next : H.next ≤ H'.next
  get : ∀ b, b < H.next → b ≠ q → col b ≠ cc → H'.get b = H.get b
theorem Only2.refl (q : Nat) (cc : List Nat) (col : Col) (H : AH) : Only2 q cc col H H := ⟨Nat.le_refl _, fun _ _ _ _ => rfl⟩
theorem Only2.trans {q : Nat} {cc : List Nat} {H H1 H2 : AH} (h : Only2 q cc col H H1) (k : Only2 q cc col H1 H2) : Only2 q cc col H H2 :=
  ⟨Nat.le_trans h.next k.next, fun b hb hn hc => (k.get b (Nat.lt_of_lt_of_le hb h.next) hn hc).trans (h.get b hb hn hc)⟩
theorem Only.two {q : Nat} {cc : List Nat} {H H1 : AH} (h : Only q H H1) : Only2 q cc col H H1 := ⟨h.next, fun b hb hn _ => h.get b hb hn⟩
theorem Stp.two {q : Nat} {cc : List Nat} {H H1 : AH} (h : Stp (fun x => x = cc) col H col H1) : Only2 q cc col H H1 := ⟨h.next, fun b hb _ hc => h.get b hb hc⟩

/-- A cut of a slice, as the machine reckons it. -/
theorem sliceA_lo {s n cap o bs g : Nat} {ds : List Value} {i : Nat} (hb : H.get bs = some (.cells ds false g)) (hg : g = 0 ∨ g = s) (hi : i ≤ n) :
    sliceA H s (.slice (some ⟨bs, o, none⟩) n cap) (some (vI i)) none = some (.slice (some ⟨bs, if cap = i then o else o + i * s, none⟩) (n - i) (cap - i)) := by
  simp only [sliceA, hb, bnd, Option.bind_some]
  rw [if_pos (by omega)]
  simp only [Option.bind_some, Int.toNat_natCast]
  rw [if_pos hg]
theorem sliceA_hi {s n cap o bs g : Nat} {ds : List Value} {i : Nat} (hb : H.get bs = some (.cells ds false g)) (hg : g = 0 ∨ g = s) (hi : i ≤ cap) :
    sliceA H s (.slice (some ⟨bs, o, none⟩) n cap) none (some (vI i)) = some (.slice (some ⟨bs, o, none⟩) i cap) := by
  simp only [sliceA, hb, bnd]
  rw [if_pos (by omega)]
  simp only [Option.bind_some, Int.toNat_natCast]
  rw [if_pos hg]
  by_cases h : cap = 0 <;> simp

theorem take_drop_set {l : List (Int × Int)} {i j : Nat} {x : Int × Int} (h : i < j) : (l.set i x).drop j = l.drop j := by
  apply List.ext_getElem?
  intro k
  rw [List.getElem?_drop, List.getElem?_drop, List.getElem?_set_ne (by omega)]
theorem take_set_succ {l : List (Int × Int)} {i : Nat} {x : Int × Int} (h : i < l.length) : (l.set i x).take (i + 1) = l.take i ++ [x] := by
  rw [take_snoc (by simpa using h)]
  congr 1
  · apply List.ext_getElem?
    intro k
    rw [List.getElem?_take, List.getElem?_take]
    by_cases hk : k < i
    · rw [if_pos hk, if_pos hk, List.getElem?_set_ne (by omega)]
    · rw [if_neg hk, if_neg hk]
  · simp

theorem w_delB {cc : List Nat} {a : Option Addr} {n cap : Nat} {l : List (Int × Int)} {q1 q2 : Nat} {now : Int} (h : SlE eC2 2 H col cc a n cap l) (hd : cc ≠ []) (hl : ∀ x ∈ l, 1 ≤ x.2) (hsum : sumBy (·.2) l ≤ 1000) (h1 : Bk H col [] q1 [vI now] 0) (h2 : Bk H col [] q2 [vI 0] 0) (hne : q1 ≠ q2)
    (hfr : Fresh col H) {Q : Value → AH → Prop}
    (hQ : ∀ H' a' n' cap', SlE eC2 2 H' col cc a' n' cap' (l.filter fun x => !decide (x.1 ≤ now)) → Bk H' col [] q2 [vI (sumBy (ripeN now) l)] 0 → Only2 q2 cc col H H' → Q (.slice a' n' cap') H') :
    W prog XP F_slices_DeleteFunc__chunk_Backchunk_Back [.slice a n cap, rV q1 q2] H Q := by
  refine enterT _ (nf_F_slices_DeleteFunc__chunk_Backchunk_Back _ _ _ _ _ _ _) rfl ?_
  unfold vc_F_slices_DeleteFunc__chunk_Backchunk_Back
  have hn := h.1
  have hlen := sumBy_len (fun x : Int × Int => x.2) l hl
  have hfalse : ∀ m : List (Int × Int), (∀ x ∈ m, ¬ x.1 ≤ now) → (m.filter fun x => !decide (x.1 ≤ now)) = m ∧ sumBy (ripeN now) m = 0 := fun m hm => by
    refine ⟨List.filter_eq_self.mpr fun x hx => by simp [hm x hx], ?_⟩
    induction m with
    | nil => rfl
    | cons x m ih =>
      have := ih fun y hy => hm y (by simp [hy])
      simp [sumBy, ripeN, hm x (by simp), this]
  refine w_idxB (h.rd eC2_len) hd hl hsum h1 h2 hne (fun hall G g2 o2 => ?_) fun k x hkx hle hbefore G g2 o2 => ?_
  · simp only [r_i_eq]
    refine bcase_t rfl (hQ G a n cap ?_ ?_ o2.two)
    · rw [(hfalse l hall).1]; exact h.fr (o2.stp (D := fun x => x = []) h2.cl) hd
    · rw [(hfalse l hall).2]; exact g2
  · simp only [r_i_eq]
    refine bcase_f (by rw [beq_eq_false_iff_ne]; omega) ?_
    have hkl : k < l.length := by
      rcases Nat.lt_or_ge k l.length with h | h
      · exact h
      · rw [List.getElem?_eq_none h] at hkx; cases hkx
    have e0 : IntKind.i64.wrap ((k : Int) + 1) = ((k + 1 : Nat) : Int) := by rw [i64_in _ (by omega)]; omega
    rw [e0]
    intro X hX
    have hG1 : ∀ {G : AH}, Only2 q2 cc col H G → Bk G col [] q1 [vI now] 0 := fun o => ⟨Nat.lt_of_lt_of_le h1.lt o.next, h1.cl, (o.get q1 h1.lt hne (by rw [h1.cl]; exact hd.symm)).trans h1.get⟩
    have hpre : (l.take k).filter (fun x => !decide (x.1 ≤ now)) = l.take k := (hfalse (l.take k) fun y hy => by
      obtain ⟨i, hi, rfl⟩ := List.getElem_of_mem hy
      simp only [List.length_take] at hi
      rw [List.getElem_take]
      exact hbefore i _ (by omega) (by simp)).1
    have hxk : l[k] = x := by simp [hkl] at hkx; exact hkx
    have loop : ∀ (m j : Nat), l.length - j = m → ∀ (i : Nat) (G : AH) (L : List (Int × Int)), i < j → j ≤ l.length → SlE eC2 2 G col cc a n cap L → L.take i = (l.take j).filter (fun x => !decide (x.1 ≤ now)) → L.drop j = l.drop j → L.length = l.length →
        Bk G col [] q2 [vI (sumBy (ripeN now) (l.take j))] 0 → Only2 q2 cc col H G → X [vI i, vI j] G := by
      intro m
      induction m with
      | zero =>
        intro j hm i G L hij hj gL gt gd gl gq go
        refine hX _ _ _ fun _ => bcase_dec (fun h => absurd h (by omega)) fun _ => ?_
        have hjl : j = l.length := by omega
        rw [hjl, List.take_length] at gt gq
        rcases gL.2.of with ⟨_, h0, _⟩ | ⟨bs, o, ds, g, rfl, kb, kg, knc, kcap, kds⟩
        · omega
        · refine ⟨_, _, _, sliceA_lo kb.get kg (i := i) (by omega), ?_⟩
          by_cases hz : n - i = 0
          · omega
          · -- the rest is cleared
            let o2 := if cap = i then o else o + i * 2
            have ho2 : o2 = o + i * 2 := by
              simp only [o2]; rw [if_neg (by omega)]
            have hzer : zerosA [vI 0, vI 0] (n - i) = List.replicate ((n - i) * 2) (vI 0) := by
              unfold zerosA
              generalize n - i = r
              induction r with
              | zero => rfl
              | succ r ih => rw [List.replicate_succ, List.flatten_cons, ih, Nat.succ_mul]; rfl
            have e2 : Nat.ble (o2 + (List.replicate ((n - i) * 2) (vI 0)).length) ds.length = true := Nat.ble_eq_true_of_le (by rw [ho2]; simp; omega)
            refine ⟨G.set bs (.cells (setMany ds o2 (List.replicate ((n - i) * 2) (vI 0))) false g), ?_, ?_⟩
            · simp only [clearA]
              rw [if_neg hz, hzer]
              simp only [stCells, kb.get]
              have : (List.replicate ((n - i) * 2) (vI 0)).all isCell = true := by rw [List.all_replicate]; simp [isCell]
              rw [this]
              show (bif Nat.ble (o2 + _) ds.length && true then _ else none) = _
              rw [e2]; rfl
            · have w : Wrote1 G (G.set bs (.cells (setMany ds o2 (List.replicate ((n - i) * 2) (vI 0))) false g)) bs (.cells (setMany ds o2 (List.replicate ((n - i) * 2) (vI 0))) false g) :=
                ⟨rfl, by rw [AH.get_set, if_pos rfl], fun x hx => by rw [AH.get_set, if_neg hx]⟩
              obtain ⟨k1, s1⟩ := kb.wrote w
              refine ⟨_, _, _, sliceA_hi k1.get kg (i := i) (by omega), hQ _ _ _ _ ?_ ?_ (go.trans s1.two)⟩
              · rw [← gt]
                refine ⟨by simp; omega, by rw [flat_len eC2_len]; simp; omega, .inr ⟨bs, o, _, g, rfl, k1, kg, by omega, by rw [setMany_lenX]; exact kcap, ?_⟩⟩
                apply List.ext_getElem?
                intro r
                rw [List.getElem?_take]
                have hfl : ((L.take i).flatMap eC2).length = i * 2 := by rw [flat_len eC2_len]; simp; omega
                by_cases hr : r < i * 2
                · rw [if_pos hr, List.getElem?_drop, setMany_getX _ _ _ _ (by rw [ho2]; simp; omega), if_neg (by rw [ho2]; omega)]
                  have : (L.flatMap eC2)[r]? = ((L.take i).flatMap eC2)[r]? := by
                    have e : L = L.take i ++ L.drop i := (List.take_append_drop i L).symm
                    conv => lhs; rw [e]
                    rw [List.flatMap_append, List.getElem?_append_left (by omega)]
                  rw [← this, ← kds, List.getElem?_take, if_pos (by omega), List.getElem?_drop]
                · rw [if_neg hr, List.getElem?_eq_none (by omega)]
              · exact gq.fr s1 (fun e => hd e.symm)
      | succ m ih =>
        intro j hm i G L hij hj gL gt gd gl gq go
        have hjl : j < l.length := by omega
        have e1 : IntKind.i64.wrap ((j : Int) + 1) = ((j + 1 : Nat) : Int) := by rw [i64_in _ (by omega)]; omega
        have ei : IntKind.i64.wrap ((i : Int) + 1) = ((i + 1 : Nat) : Int) := by rw [i64_in _ (by omega)]; omega
        have hLj : L[j]? = some l[j] := by
          have : (L.drop j)[0]? = (l.drop j)[0]? := by rw [gd]
          simpa [hjl] using this
        have hx1 := hl l[j] (List.getElem_mem hjl)
        have hst := sumBy_take (fun x : Int × Int => x.2) l (fun x hx => by have := hl x hx; omega)
        have hrip : ∀ k, 0 ≤ sumBy (ripeN now) (l.take k) ∧ sumBy (ripeN now) (l.take k) ≤ 1000 := fun k => by
          have hle : ∀ m : List (Int × Int), (∀ x ∈ m, 1 ≤ x.2) → 0 ≤ sumBy (ripeN now) m ∧ sumBy (ripeN now) m ≤ sumBy (fun x => x.2) m := by
            intro m
            induction m with
            | nil => intro _; simp [sumBy]
            | cons x m ih =>
              intro hm
              have h3 := ih fun y hy => hm y (by simp [hy])
              have h4 := hm x (by simp)
              simp only [sumBy, ripeN]
              split <;> omega
          have h5 := hle (l.take k) fun x hx => hl x (List.mem_of_mem_take hx)
          have h6 := hst k
          omega
        have hxs : l[j].2 ≤ 1000 := by
          have h6 := hst (j + 1)
          have h7 := hst j
          rw [take_snoc hjl, sumBy_app] at h6
          simp only [sumBy] at h6; omega
        obtain ⟨bb, o, ds, ro, g', rfl, r2, r3, r4, r5, r6⟩ := (gL.rd eC2_len).at_ hLj
        refine hX _ _ _ fun _ => bcase_dec (fun _ => ix.mk (by omega) (by omega) (ld_Aii.mk r3 (by rw [Int.toNat_natCast]; exact r6) (by rw [Int.toNat_natCast]; omega) (nw.new fun t G2 a2 => st.do a2.at_ rfl rfl (by simp) fun G3 w3 => ?_))) fun h => absurd (by omega) h
        have hfG : Fresh col G := fun b hb => hfr b (Nat.le_trans go.next hb)
        have t2 : Stp (fun _ => False) col G col G2 := a2.keep.stp _ _
        obtain ⟨o3, t3, s3⟩ := (a2.own hfG).own_wr t2 (by rw [a2.num]; exact Nat.le_refl _) w3
        have o3' : Bk G3 col [] t [vI l[j].1, vI l[j].2] 0 := by simpa [setMany, cellsOf] using o3
        have n2t : t ≠ q2 := by have := gq.lt; have := a2.num; omega
        have n1t : t ≠ q1 := by have := (hG1 go).lt; have := a2.num; omega
        have gq3 : Bk G3 col [] q2 [vI (sumBy (ripeN now) (l.take j))] 0 := (gq.fr t2 id).other w3 n2t.symm
        have g13 : Bk G3 col [] q1 [vI now] 0 := ((hG1 go).fr t2 id).other w3 n1t.symm
        have gL3 := (gL.fr t2 id).fr t3 hd
        have go3 : Only2 q2 cc col H G3 := go.trans ⟨s3.next, fun b hb _ _ => s3.get b hb id⟩
        refine ld_Aii.mk o3'.get rfl (by simp) ⟨_, _, rfl, ?_⟩
        refine w_ripe1 (x := l[j]) g13 gq3 hne (hrip j).1 (by omega) (by have := (hrip j).2; omega) fun G4 k4 o4 => ?_
        have t4 : Stp (fun x => x = []) col G3 col G4 := o4.stp gq3.cl
        have gL4 := gL3.fr t4 hd
        have o34 : Bk G4 col [] t [vI l[j].1, vI l[j].2] 0 := ⟨Nat.lt_of_lt_of_le o3'.lt o4.next, o3'.cl, (o4.get t o3'.lt n2t).trans o3'.get⟩
        have go4 := go3.trans o4.two
        have hq4 : sumBy (ripeN now) (l.take j) + ripeN now l[j] = sumBy (ripeN now) (l.take (j + 1)) := by rw [take_snoc hjl, sumBy_app]; simp [sumBy]
        rw [hq4] at k4
        have hdr : ∀ M : List (Int × Int), M.drop j = l.drop j → M.drop (j + 1) = l.drop (j + 1) := fun M hM => by
          rw [← List.drop_drop, ← List.drop_drop, hM]
        simp only [r_b_eq]
        by_cases hr : l[j].1 ≤ now
        · refine bcase_f (by simp [hr]) (kp.mk ?_)
          rw [e1]
          refine ih (j + 1) (by omega) i G4 L (by omega) (by omega) gL4 ?_ (hdr L gd) gl k4 go4
          rw [take_snoc hjl, List.filter_append, ← gt]; simp [hr]
        · refine bcase_t (by simp [hr]) ?_
          have hiL : i < L.length := by omega
          obtain ⟨b5, o5, ds5, g5, e5, k5, h55, _, _, hset⟩ := gL4.at_ eC2_len (i := i) (x := L[i]) (by simp)
          cases e5
          refine ld_Aii.mk o34.get rfl (by simp) (ix.mk (by omega) (by omega) (st.do k5.get rfl rfl (by rw [Int.toNat_natCast]; omega) fun G5 w5 => kp.mk ?_))
          obtain ⟨k6, s6⟩ := k5.wrote w5
          rw [e1, ei]
          refine ih (j + 1) (by omega) (i + 1) G5 (L.set i l[j]) (by omega) (by omega) (hset l[j] G5 col (by rw [Int.toNat_natCast] at k6; exact k6)) ?_ ?_ (by simpa using gl) (k4.fr s6 fun e => hd e.symm) (go4.trans s6.two)
          · rw [take_set_succ hiL, gt, take_snoc hjl, List.filter_append]; simp [hr]
          · rw [take_drop_set (by omega)]; exact hdr L gd
    refine loop _ (k + 1) rfl k G l (by omega) (by omega) (h.fr (o2.stp (D := fun x => x = []) h2.cl) hd) ?_ rfl rfl g2 o2.two
    rw [take_snoc hkl, List.filter_append, hpre, hxk]; simp [hle]

theorem w_ripe {a2 : Option Addr} {n2 cap2 : Nat} {x3 : Value} (hc : isCell x3 = true) (h1 : Bk H col c p [x3, .bool b.s.refill, vI b.s.C, vI b.s.T, vI b.free, .slice a2 n2 cap2, .bool b.still] 0) (h3 : SlE eC2 2 H col (1 :: c) a2 n2 cap2 b.back) (h4 : ChkOk b)
    (hcn : c ≠ []) (hfr : Fresh col H) {now : Int} {Q : Value → AH → Prop}
    (hQ : ∀ H' a' n' cap', Bk H' col c p [x3, .bool b.s.refill, vI b.s.C, vI b.s.T, vI b.free, .slice a' n' cap', .bool b.still] 0 → SlE eC2 2 H' col (1 :: c) a' n' cap' (b.kept now) → Stp (fun x => x = c ∨ x = 1 :: c) col H col H' → Q (vI (b.ripe now)) H') :
    W prog XP F_chunk_Budget_ripe [.pointer (some ⟨p, 0, none⟩), vI now] H Q := by
  refine enterT _ (nf_F_chunk_Budget_ripe _ _ _ _ _) rfl ?_
  unfold vc_F_chunk_Budget_ripe
  have hlen := h4.lens
  refine nw.new fun q1 G1 e1 => nw.new fun q2 G2 e2 => st.do e2.at_ rfl rfl (by simp) fun G3 w3 => ?_
  have t1 : Stp (fun _ => False) col H col G1 := e1.keep.stp _ _
  have t2 : Stp (fun _ => False) col G1 col G2 := e2.keep.stp _ _
  have t12 := t1.trans t2
  have o1 := (e1.own hfr).fr t2 id
  have o2 := e2.own (t1.fresh hfr)
  obtain ⟨o3, t3, s3⟩ := o2.own_wr t12 (by rw [e2.num]; exact t1.next) w3
  have hne : q1 ≠ q2 := by have := (e1.own hfr).lt; have := e2.num; omega
  have o13 := o1.other w3 hne
  have p1 := (h1.fr t12 id).fr t3 (fun e => hcn e)
  have p3 := (h3.fr t12 id).fr t3 (by simp)
  refine dr.mk (ld_l.mk p1.get rfl ?_)
  have hsum : sumBy (fun x : Int × Int => x.2) b.back ≤ 1000 := by
    have := h4.lens
    unfold ChkB.owed at this
    have h0 : (b.l.length : Int) ≥ 0 := by omega
    omega
  refine w_delB p3 (by simp) h4.bs hsum o13 (by simpa [setMany, cellsOf] using o3) hne (s3.fresh hfr) fun G4 a' n' cap' k4 kq o4 => ?_
  simp only [r_l_eq]
  have hp4 : Bk G4 col c p [x3, .bool b.s.refill, vI b.s.C, vI b.s.T, vI b.free, .slice a2 n2 cap2, .bool b.still] 0 := by
    refine ⟨Nat.lt_of_lt_of_le p1.lt o4.next, p1.cl, (o4.get p p1.lt (fun e => ?_) (by rw [p1.cl]; simp)).trans p1.get⟩
    have := p1.cl
    rw [e, o3.cl] at this
    exact hcn this.symm
  refine dr.mk (st.do hp4.get rfl rfl (by simp) fun G5 w5 => ?_)
  obtain ⟨k5, s5⟩ := hp4.wrote w5
  have kq5 := kq.fr s5 (fun e => hcn e.symm)
  refine ld_i.mk kq5.get rfl ?_
  rw [ripe_sum]
  refine hQ G5 a' n' cap' (by simpa [setMany, cellsOf] using k5) (k4.fr s5 (by simp)) ?_
  have n14 : Stp (fun x => x = c ∨ x = 1 :: c) col H col G4 := by
    refine ⟨Nat.le_trans s3.next o4.next, fun _ _ => rfl, fun b hb hn => ?_, fun hf b hb => hf b (Nat.le_trans (Nat.le_trans s3.next o4.next) hb)⟩
    rw [o4.get b (Nat.lt_of_lt_of_le hb s3.next) (by have := e2.num; have := t1.next; omega) (fun e => hn (.inr e))]
    exact s3.get b hb id
  exact n14.trans (s5.mono fun x hx => .inl hx)
end
end Go.Ez
