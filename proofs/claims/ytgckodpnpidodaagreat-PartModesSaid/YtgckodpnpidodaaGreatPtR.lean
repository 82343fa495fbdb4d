import Derived.Test.YtgckodpnpidodaaGreatPtT4
set_option linter.all false
/- A ring of numbers: requests. -/
set_option linter.all false
namespace Go.Ez
open Go.Proofs Go.IntWalk
section
variable {H H' : AH} {col col' : Col} {c : List Nat} {b room : Nat} {q : List Int}
/-- A ring with a room, and what is in it. -/
def RgR (H : AH) (col : Col) (c : List Nat) (b room : Nat) (q : List Int) : Prop :=
  ∃ a cap l first, Bk H col c b [.slice a room cap, vI (first : Nat), vI q.length] 0 ∧ SlE eI 1 H col (0 :: c) a room cap l ∧ first < room ∧ q.length ≤ room ∧ room ≤ 4096 ∧ ∀ i, i < q.length → l.getD ((first + i) % room) 0 = q.getD i 0
theorem RgR.fr (h : RgR H col c b room q) {D : List Nat → Prop} (s : Stp D col H col' H') (hd : ∀ x, Under c x → ¬ D x) : RgR H' col' c b room q := by
  obtain ⟨a, cap, l, first, h1, h2, h3⟩ := h
  exact ⟨a, cap, l, first, h1.fr s (hd _ (Under.refl _)), h2.fr s (hd _ ⟨[0], rfl⟩), h3⟩
theorem RgR.up (h : RgR H col c b room q) {N : Nat} (hN : H.next ≤ N) : RgR (H.up N) col c b room q := by
  obtain ⟨a, cap, l, first, h1, h2, h3⟩ := h
  exact ⟨a, cap, l, first, h1.up hN, h2.up hN, h3⟩
theorem RgR.lt (h : RgR H col c b room q) : b < H.next := let ⟨_, _, _, _, h1, _⟩ := h; h1.lt
theorem RgR.cl (h : RgR H col c b room q) : col b = c := let ⟨_, _, _, _, h1, _⟩ := h; h1.cl
theorem RgR.len (h : RgR H col c b room q) : q.length ≤ room := let ⟨_, _, _, _, _, _, _, h, _⟩ := h; h

theorem p_rnone (h : RgR H col c b room q) : PureC prog (XK 40) F_ring_Ring_int_none [.pointer (some ⟨b, 0, none⟩)] H (.bool false) := by
  refine pure_of _ rfl (fun N => nf_F_ring_Ring_int_none _ _ _ _) rfl fun N hN => ?_
  unfold vc_F_ring_Ring_int_none
  obtain ⟨a, cap, l, first, h1, h2, h3, h4, h5, h6⟩ := h.up hN
  exact bcase_f rfl (dr.mk (ld_l.mk h1.get rfl ⟨by simp; omega, Keep.refl _ _⟩))
theorem c_rnone (h : RgR H col c b room q) {j : Nat} {Q : Value → AH → Prop} (hj : 40 < j) (hQ : Q (.bool false) H) : W prog (XK j) F_ring_Ring_int_none [.pointer (some ⟨b, 0, none⟩)] H Q := callT (p_rnone h) TL_nd rfl hj hQ
/-- The place of the i-th; the ring's list may have been changed, and the count. -/
theorem p_place {a : Option Addr} {cap first i : Nat} {w : Value} (h1 : H.get b = some (.cells [.slice a room cap, vI (first : Nat), w] false 0)) (hf : first < room) (hi : i ≤ room) (hr : room ≤ 4096) : PureC prog (XK 41) F_ring_Ring_int_place [.pointer (some ⟨b, 0, none⟩), vI i] H (vI ((first + i) % room : Nat)) := by
  refine pure_of _ rfl (fun N => nf_F_ring_Ring_int_place _ _ _ _ _) rfl fun N hN => ?_
  unfold vc_F_ring_Ring_int_place
  refine dr.mk (ld_i.mk h1 rfl (dr.mk (ld_l.mk h1 rfl (binI_rem.mpr ⟨by omega, ?_⟩))))
  refine ⟨?_, Keep.refl _ _⟩
  have e1 : IntKind.i64.wrap ((first : Int) + (i : Int)) = ((first + i : Nat) : Int) := by rw [i64_in _ (by omega)]; omega
  rw [e1]
  congr 1
theorem p_is (h : RgR H col c b room q) {i : Int} : PureC prog (XK 42) F_ring_Ring_int_is [.pointer (some ⟨b, 0, none⟩), vI i] H (.bool (decide (0 ≤ i ∧ i < q.length))) := by
  refine pure_of _ rfl (fun N => nf_F_ring_Ring_int_is _ _ _ _ _) rfl fun N hN => ?_
  unfold vc_F_ring_Ring_int_is
  refine c_rnone (h.up hN) (by decide) ?_
  obtain ⟨a, cap, l, first, h1, h2, h3, h4, h5, h6⟩ := h.up hN
  simp only [r_b_eq, Bool.not_false, bcase_true]
  refine bcase_dec (fun h0 => dr.mk (ld_i.mk h1.get rfl ⟨?_, Keep.refl _ _⟩)) fun h0 => ⟨?_, Keep.refl _ _⟩
  · congr 1
    exact decide_eq_decide.mpr ⟨fun h => ⟨h0, h⟩, fun h => h.2⟩
  · rw [decide_eq_false]; exact fun h => h0 h.1
theorem c_is (h : RgR H col c b room q) {i : Int} {j : Nat} {Q : Value → AH → Prop} (hj : 42 < j) (hQ : Q (.bool (decide (0 ≤ i ∧ i < q.length))) H) : W prog (XK j) F_ring_Ring_int_is [.pointer (some ⟨b, 0, none⟩), vI i] H Q := callT (p_is h) TL_nd rfl hj hQ
theorem p_rat (h : RgR H col c b room q) {i : Nat} : PureC prog (XK 43) F_ring_Ring_int_At [.pointer (some ⟨b, 0, none⟩), vI i] H (if i < q.length then .tuple #[vI (q.getD i 0), .bool true] else .tuple #[vI 0, .bool false]) := by
  refine pure_of _ (by split <;> rfl) (fun N => nf_F_ring_Ring_int_At _ _ _ _ _) rfl fun N hN => ?_
  unfold vc_F_ring_Ring_int_At
  refine c_is (h.up hN) (by decide) ?_
  obtain ⟨a, cap, l, first, h1, h2, h3, h4, h5, h6⟩ := h.up hN
  simp only [r_b_eq]
  by_cases hi : i < q.length
  · rw [decide_eq_true (by omega)]
    simp only [Bool.not_true, bcase_false]
    refine dr.mk (ld_l.mk h1.get rfl (callT (p_place h1.get h3 (i := i) (by omega) h5) TL_nd rfl (by decide) ?_))
    simp only [r_i_eq]
    refine ⟨⟨ld1_at h1.get rfl, by simp [veq]⟩, h2.rdI rfl (get_some (by rw [← h2.1]; exact Nat.mod_lt _ (by omega)) 0) ?_⟩
    rw [h6 i hi]
    exact ⟨by rw [if_pos hi], Keep.refl _ _⟩
  · rw [decide_eq_false (by omega)]
    exact bcase_t rfl ⟨by rw [if_neg hi], Keep.refl _ _⟩
theorem p_rlen (h : RgR H col c b room q) : PureC prog (XK 44) F_ring_Ring_int_Len [.pointer (some ⟨b, 0, none⟩)] H (vI q.length) := by
  refine pure_of _ rfl (fun N => nf_F_ring_Ring_int_Len _ _ _ _) rfl fun N hN => ?_
  unfold vc_F_ring_Ring_int_Len
  obtain ⟨a, cap, l, first, h1, h2, h3, h4, h5, h6⟩ := h.up hN
  exact bcase_f rfl (dr.mk (ld_i.mk h1.get rfl ⟨rfl, Keep.refl _ _⟩))
theorem c_rlen (h : RgR H col c b room q) {j : Nat} {Q : Value → AH → Prop} (hj : 44 < j) (hQ : Q (vI q.length) H) : W prog (XK j) F_ring_Ring_int_Len [.pointer (some ⟨b, 0, none⟩)] H Q := callT (p_rlen h) TL_nd rfl hj hQ

theorem mod_ne {room first i k : Nat} (hf : first < room) (hi : i < room) (hk : k < room) (h : (first + i) % room = (first + k) % room) : i = k := by
  have h1 := Nat.div_add_mod (first + i) room
  have h2 := Nat.div_add_mod (first + k) room
  have two : ∀ x : Nat, x < 2 → x = 0 ∨ x = 1 := fun x hx => by omega
  have q1 := two ((first + i) / room) (Nat.div_lt_of_lt_mul (by omega))
  have q2 := two ((first + k) / room) (Nat.div_lt_of_lt_mul (by omega))
  rcases q1 with q1 | q1 <;> rcases q2 with q2 | q2 <;> rw [q1] at h1 <;> rw [q2] at h2 <;> simp at h1 h2 <;> omega
theorem setI_getD {l : List Int} {a k : Nat} {x : Int} (ha : a < l.length) : (l.set a x).getD k 0 = if k = a then x else l.getD k 0 := by
  simp only [List.getD_eq_getElem?_getD, List.getElem?_set]
  by_cases h : a = k
  · subst h; simp [ha]
  · have : ¬ k = a := fun e => h e.symm
    simp [h, this]

theorem w_rset (h : RgR H col c b room q) {i : Nat} (hi : i < q.length) {x : Int} {Q : Value → AH → Prop} (hQ : ∀ H', RgR H' col c b room (q.set i x) → Stp (Under c) col H col H' → Q (.bool true) H') :
    W prog XP F_ring_Ring_int_Set [.pointer (some ⟨b, 0, none⟩), vI i, vI x] H Q := by
  refine enterT _ (nf_F_ring_Ring_int_Set _ _ _ _ _ _) rfl ?_
  unfold vc_F_ring_Ring_int_Set
  refine c_is h (by decide) ?_
  obtain ⟨a, cap, l, first, h1, h2, h3, h4, h5, h6⟩ := h
  simp only [r_b_eq]
  rw [decide_eq_true (by omega)]
  simp only [Bool.not_true, bcase_false]
  have hl := h2.1
  have hm : (first + i) % room < l.length := by rw [← hl]; exact Nat.mod_lt _ (by omega)
  refine dr.mk (ld_l.mk h1.get rfl (callT (p_place h1.get h3 (i := i) (by omega) h5) TL_nd rfl (by decide) ?_))
  simp only [r_i_eq]
  refine ⟨⟨ld1_at h1.get rfl, by simp [veq]⟩, h2.wrI rfl hm fun G k s => ?_⟩
  refine hQ G ⟨a, cap, _, first, by simpa using h1.fr s (by simp), k, h3, by simpa using h4, h5, fun j hj => ?_⟩ s.under
  simp only [List.length_set] at hj
  rw [setI_getD hm, setI_getD hi]
  by_cases e : j = i
  · subst e; rw [if_pos rfl, if_pos rfl]
  · rw [if_neg e, if_neg (fun e' => e (mod_ne h3 (by omega) (by omega) e'))]; exact h6 j hj

theorem w_rpush (h : RgR H col c b room q) {x : Int} {Q : Value → AH → Prop} (hno : q.length = room → Q (.bool false) H) (hQ : q.length < room → ∀ H', RgR H' col c b room (q ++ [x]) → Stp (Under c) col H col H' → Q (.bool true) H') :
    W prog XP F_ring_Ring_int_Push [.pointer (some ⟨b, 0, none⟩), vI x] H Q := by
  refine enterT _ (nf_F_ring_Ring_int_Push _ _ _ _ _) rfl ?_
  unfold vc_F_ring_Ring_int_Push
  intro X hX
  refine c_rnone h (by decide) ?_
  obtain ⟨a, cap, l, first, h1, h2, h3, h4, h5, h6⟩ := h
  have hl := h2.1
  simp only [r_b_eq, bcase_false]
  refine dr.mk (ld_i.mk h1.get rfl (dr.mk (ld_l.mk h1.get rfl (bcase_both (fun he => hno (Int.ofNat.inj (by simpa using he))) fun he => kp.mk (hX _ fun _ => ?_)))))
  have hlt : q.length < room := by
    have : ¬ (q.length : Int) = (room : Int) := by simpa using he
    omega
  have e1 : IntKind.i64.wrap ((q.length : Int) + 1) = ((q.length + 1 : Nat) : Int) := by rw [i64_in _ (by omega)]; omega
  have e2 : IntKind.i64.wrap (((q.length + 1 : Nat) : Int) - 1) = ((q.length : Nat) : Int) := by rw [i64_in _ (by omega)]; omega
  refine dr.mk (ld_i.mk h1.get rfl (dr.mk (st.do h1.get rfl rfl (by simp) fun G w => ?_)))
  obtain ⟨k1, s1⟩ := h1.wrote w
  rw [e1] at k1
  have k1' : Bk G col c b [.slice a room cap, vI (first : Nat), vI ((q.length + 1 : Nat) : Int)] 0 := by simpa [setMany, cellsOf] using k1
  have k2 := h2.fr s1 (by simp)
  refine dr.mk (ld_l.mk k1'.get rfl (dr.mk (ld_i.mk k1'.get rfl ?_)))
  rw [e2]
  refine callT (p_place k1'.get h3 (i := q.length) (by omega) h5) TL_nd rfl (by decide) ?_
  simp only [r_i_eq]
  have hm : (first + q.length) % room < l.length := by rw [← hl]; exact Nat.mod_lt _ (by omega)
  refine ⟨⟨ld1_at k1'.get rfl, by simp [veq]⟩, k2.wrI rfl hm fun G2 k3 s2 => ?_⟩
  refine hQ hlt G2 ⟨a, cap, _, first, by simpa using k1'.fr s2 (by simp), k3, h3, by simp; omega, h5, fun j hj => ?_⟩ (s1.under0.trans s2.under)
  simp only [List.length_append, List.length_singleton] at hj
  rw [setI_getD hm]
  by_cases e : j = q.length
  · subst e; rw [if_pos rfl]; simp [List.getD_eq_getElem?_getD]
  · rw [if_neg (fun e' => e (mod_ne h3 (by omega) (by omega) e')), h6 j (by omega)]
    simp [List.getD_eq_getElem?_getD, List.getElem?_append_left (show j < q.length by omega)]

theorem w_rpop (h : RgR H col c b room q) {x : Int} {q' : List Int} (hq : q = x :: q') {Q : Value → AH → Prop} (hQ : ∀ H', RgR H' col c b room q' → Stp (Under c) col H col H' → Q (.tuple #[vI x, .bool true]) H') :
    W prog XP F_ring_Ring_int_Pop [.pointer (some ⟨b, 0, none⟩)] H Q := by
  refine enterT _ (nf_F_ring_Ring_int_Pop _ _ _ _) rfl ?_
  unfold vc_F_ring_Ring_int_Pop
  have hlen : q.length = q'.length + 1 := by rw [hq]; rfl
  have hat := p_rat h (i := 0)
  rw [if_pos (by omega), show q.getD 0 0 = x by rw [hq]; rfl] at hat
  refine callT hat TL_nd rfl (by decide) ?_
  simp only [r_T_i_b_eq]
  intro X hX
  obtain ⟨a, cap, l, first, h1, h2, h3, h4, h5, h6⟩ := h
  have hl := h2.1
  refine bcase_t rfl (dr.mk (ld_l.mk h1.get rfl (dr.mk (ld_i.mk h1.get rfl (h2.wrI rfl (by omega) fun G k s => ?_)))))
  have k1 := h1.fr s (by simp)
  refine callT (p_place k1.get h3 (i := 1) (by omega) h5) TL_nd rfl (by decide) ?_
  simp only [r_i_eq]
  refine dr.mk (st.do k1.get rfl rfl (by simp) fun G2 w2 => ?_)
  obtain ⟨k2, s2⟩ := k1.wrote w2
  have e1 : IntKind.i64.wrap ((q.length : Int) - 1) = ((q'.length : Nat) : Int) := by rw [i64_in _ (by omega)]; omega
  refine dr.mk (ld_i.mk k2.get rfl (dr.mk (st.do k2.get rfl rfl (by simp [setMany, cellsOf]) fun G3 w3 => kp.mk (hX _ fun _ => ?_))))
  obtain ⟨k3, s3⟩ := k2.wrote w3
  rw [e1] at k3
  have hfst : (first + 1) % room < room := Nat.mod_lt _ (by omega)
  refine hQ G3 ⟨a, cap, _, (first + 1) % room, by simpa [setMany, cellsOf] using k3, (k.fr s2 (by simp)).fr s3 (by simp), hfst, by omega, h5, fun j hj => ?_⟩ ((s.under.trans s2.under0).trans s3.under0)
  have e2 : ((first + 1) % room + j) % room = (first + (j + 1)) % room := by
    rw [Nat.mod_add_mod]; congr 1; omega
  rw [e2, setI_getD (by omega)]
  have : (first + (j + 1)) % room ≠ first := fun e => by
    have h0 : (first + 0) % room = first := by simpa using Nat.mod_eq_of_lt h3
    have := mod_ne h3 (show j + 1 < room by omega) (show 0 < room by omega) (e.trans h0.symm)
    omega
  rw [if_neg this, h6 (j + 1) (by omega), hq]; rfl

theorem w_rclear (h : RgR H col c b room q) {Q : Value → AH → Prop} (hQ : ∀ H', RgR H' col c b room [] → Stp (Under c) col H col H' → Q (.tuple #[]) H') :
    W prog XP F_ring_Ring_int_Clear [.pointer (some ⟨b, 0, none⟩)] H Q := by
  refine enterT _ (nf_F_ring_Ring_int_Clear _ _ _ _) rfl ?_
  unfold vc_F_ring_Ring_int_Clear
  obtain ⟨a, cap, l, first, h1, h2, h3, h4, h5, h6⟩ := h
  have hl := h2.1
  refine bcase_f rfl (dr.mk (ld_l.mk h1.get rfl ?_))
  rcases h2.2.of with ⟨_, h0, _⟩ | ⟨bb, o, ds, g, rfl, e2, eg, e3, e4, e5⟩
  · omega
  · have e2' : Nat.ble (o + (List.replicate room (vI 0)).length) ds.length = true := Nat.ble_eq_true_of_le (by simp; omega)
    have hz : zerosA [vI 0] room = List.replicate room (vI 0) := by
      unfold zerosA
      clear h1 h2 h3 h4 h5 h6 hl e3 e4 e5 e2'
      induction room with
      | zero => rfl
      | succ k ih => simp [List.replicate_succ]
    refine ⟨H.set bb (.cells (setMany ds o (List.replicate room (vI 0))) false g), ?_, ?_⟩
    · simp only [clearA]
      rw [if_neg (by omega), hz]
      simp only [stCells, e2.get, e2']
      have : (List.replicate room (vI 0)).all isCell = true := by rw [List.all_replicate]; simp [isCell]
      rw [this]; rfl
    · have w : Wrote1 H (H.set bb (.cells (setMany ds o (List.replicate room (vI 0))) false g)) bb (.cells (setMany ds o (List.replicate room (vI 0))) false g) :=
        ⟨rfl, by rw [AH.get_set, if_pos rfl], fun x hx => by rw [AH.get_set, if_neg hx]⟩
      obtain ⟨k1, s1⟩ := e2.wrote w
      have k0 := h1.fr s1 (by simp)
      have ksl : SlE eI 1 (H.set bb (.cells (setMany ds o (List.replicate room (vI 0))) false g)) col (0 :: c) (some ⟨bb, o, none⟩) room cap (List.replicate room 0) := by
        refine ⟨by simp, by rw [flat_len eI_len]; simp, .inr ⟨bb, o, _, g, rfl, k1, eg, e3, by rw [setMany_lenX]; exact e4, ?_⟩⟩
        have : (List.replicate room (0 : Int)).flatMap eI = List.replicate room (vI 0) := by rw [flat_eI, List.map_replicate]
        rw [this]
        apply List.ext_getElem?
        intro i
        rw [List.getElem?_take]
        by_cases hi : i < room * 1
        · rw [if_pos hi, List.getElem?_drop, setMany_getX _ _ _ _ (by simp; omega), if_pos (by simp; omega)]
          congr 1; omega
        · rw [if_neg hi, List.getElem?_eq_none (by simp; omega)]
      refine dr.mk (st.do k0.get rfl rfl (by simp) fun G2 w2 => ?_)
      obtain ⟨k2, s2⟩ := k0.wrote w2
      refine dr.mk (st.do k2.get rfl rfl (by simp [setMany, cellsOf]) fun G3 w3 => ?_)
      obtain ⟨k3, s3⟩ := k2.wrote w3
      exact hQ G3 ⟨some ⟨bb, o, none⟩, cap, List.replicate room 0, 0, by simpa [setMany, cellsOf] using k3, (ksl.fr s2 (by simp)).fr s3 (by simp), by omega, by simp, h5, fun i hi => absurd hi (Nat.not_lt_zero i)⟩ ((s1.under.trans s2.under0).trans s3.under0)

theorem w_rnew (hr : 0 < room) (hr2 : room ≤ 4096) (hfc : ∀ b, b < H.next → ¬ Under c (col b)) {Q : Value → AH → Prop} (hQ : ∀ b H' col', RgR H' col' c b room [] → Stp (fun _ => False) col H col' H' → Q (.pointer (some ⟨b, 0, none⟩)) H') :
    W prog XP F_ring_New_int [vI room] H Q := by
  refine enterT _ (nf_F_ring_New_int _ _ _ _) rfl ?_
  unfold vc_F_ring_New_int
  have e : (if (4096 : Int) < (if (0 : Int) > (room : Int) then 0 else (room : Int)) then 4096 else (if (0 : Int) > (room : Int) then 0 else (room : Int))) = (room : Int) := by
    rw [if_neg (show ¬ (0 : Int) > (room : Int) by omega), if_neg (by omega)]
  rw [e]
  have em : mkS 8 [vI 0] (vI room) (vI room) = some (.cells ((List.replicate room (0 : Int)).flatMap eI) false 0, room, room) := by
    simp only [mkS]
    rw [if_pos ⟨by omega, by omega, by omega, by omega⟩]
    have : zerosA [vI 0] ((room : Int)).toNat = (List.replicate room (0 : Int)).flatMap eI := by
      rw [Int.toNat_natCast, zerosA, flat_eI, List.map_replicate]
      clear e hr hr2 hQ
      induction room with
      | zero => rfl
      | succ k ih => simp [List.replicate_succ]
    rw [this, Int.toNat_natCast]
  refine ⟨_, _, _, em, nw.new fun b1 H1 w1 => nw.new fun b2 H2 w2 => ?_⟩
  obtain ⟨k1, s1⟩ := w1.bk (fun _ => False) col (0 :: c)
  obtain ⟨k2, s2⟩ := w2.bk (fun _ => False) (setC col b1 (0 :: c)) c
  have p1 := k1.fr s2 id
  refine hQ b2 H2 _ ⟨some ⟨b1, 0, none⟩, room, List.replicate room 0, 0, by simpa using k2, ⟨by simp, by rw [flat_len eI_len]; simp, .inr ⟨_, 0, _, 0, rfl, p1, .inl rfl, Nat.le_refl _, by rw [flat_len eI_len]; simp, by rw [List.drop_zero, List.take_of_length_le (by rw [flat_len eI_len]; simp)]⟩⟩, hr, by simp, hr2, fun i hi => absurd hi (Nat.not_lt_zero i)⟩ (s1.trans s2)
end
end Go.Ez

/- The police of arrivals. -/
set_option linter.all false
namespace Go.Ez
open Go.Proofs Go.IntWalk
structure KnownC where
  t : TaskC
  last : Int
  was : Bool
def eKnown (k : KnownC) : List Value := [.bool k.t.hi, vI k.t.T, vI k.t.D, vI k.t.V, vI k.t.Lo, vI k.t.Top, vI k.last, .bool k.was]
theorem eKnown_len (k : KnownC) : (eKnown k).length = 8 := rfl
theorem eKnown_cell (k : KnownC) : (eKnown k).all isCell = true := rfl
structure KnownOk (k : KnownC) : Prop where
  l0 : 0 ≤ k.last
  l1 : k.last ≤ 4611686018427387904
  right : k.t.right = true
def soonM (k : KnownC) (now : Int) : Bool := k.was && decide (now - k.last < k.t.T)
/-- May a job arrive? 0: it may. -/
def mayM (ks : List KnownC) (high : Bool) (task now : Int) : Int :=
  if 0 ≤ task ∧ task < ks.length ∧ 0 ≤ now ∧ now ≤ 4611686018427387904 then
    match ks[task.toNat]? with
    | some k => if high = true ∧ k.t.hi = false then 42 else if soonM k now = true then 40 else 0
    | none => 1
  else 1
section
variable {H H' : AH} {col col' : Col} {c : List Nat} {p : Nat} {ks : List KnownC} {high : Bool}
def PolR (H : AH) (col : Col) (c : List Nat) (p : Nat) (ks : List KnownC) (high : Bool) : Prop :=
  ∃ a n cap, Bk H col c p [.slice a n cap, .bool high] 0 ∧ SlE eKnown 8 H col (0 :: c) a n cap ks ∧ ks.length ≤ 6 ∧ ∀ k ∈ ks, KnownOk k
theorem PolR.fr (h : PolR H col c p ks high) {D : List Nat → Prop} (s : Stp D col H col' H') (hd : ∀ x, Under c x → ¬ D x) : PolR H' col' c p ks high := by
  obtain ⟨a, n, cap, h1, h2, h3⟩ := h
  exact ⟨a, n, cap, h1.fr s (hd _ (Under.refl _)), h2.fr s (hd _ ⟨[0], rfl⟩), h3⟩
theorem PolR.up (h : PolR H col c p ks high) {N : Nat} (hN : H.next ≤ N) : PolR (H.up N) col c p ks high := by
  obtain ⟨a, n, cap, h1, h2, h3⟩ := h
  exact ⟨a, n, cap, h1.up hN, h2.up hN, h3⟩
theorem PolR.lt (h : PolR H col c p ks high) : p < H.next := let ⟨_, _, _, h1, _⟩ := h; h1.lt

theorem p_ptask_out (h : PolR H col c p ks high) {n : Int} (hn : ¬ (0 ≤ n ∧ n < ks.length)) : PureC prog (XK 45) F_police_Police_task [.pointer (some ⟨p, 0, none⟩), vI n] H (.pointer none) := by
  refine pure_of _ rfl (fun N => nf_F_police_Police_task _ _ _ _ _) rfl fun N hN => ?_
  unfold vc_F_police_Police_task
  obtain ⟨a, m, cap, h1, h2, h3⟩ := h.up hN
  have := h2.1
  intro X hX
  refine bcase_f rfl (bcase_dec (fun _ => ⟨by trivial, Keep.refl _ _⟩) fun h0 => dr.mk (ld_l.mk h1.get rfl (bcase_dec (fun _ => ⟨by trivial, Keep.refl _ _⟩) fun h => absurd (by omega) hn)))
theorem p_ptask (h : PolR H col c p ks high) {k : Nat} {x : KnownC} (hx : ks[k]? = some x) : ∃ b o ds g, Bk H col (0 :: c) b ds g ∧ o + k * 8 + 8 ≤ ds.length ∧ (∀ i, i < 8 → ds[o + k * 8 + i]? = (eKnown x)[i]?) ∧ (ds.drop (o + k * 8)).take 8 = eKnown x ∧
    PureC prog (XK 45) F_police_Police_task [.pointer (some ⟨p, 0, none⟩), vI k] H (.pointer (some ⟨b, o + k * 8, none⟩)) ∧
    (∀ y, KnownOk y → ∀ H1 col1, Stp (fun x => x = 0 :: c) col H col1 H1 → Bk H1 col1 (0 :: c) b (setMany ds (o + k * 8) (eKnown y)) g → PolR H1 col1 c p (ks.set k y) high) := by
  have h0 := h
  obtain ⟨a, m, cap, h1, h2, h3, h4⟩ := h0
  obtain ⟨b, o, ds, g, rfl, e2, e3, e4, e5, e6⟩ := h2.at_ eKnown_len hx
  have hk : k < ks.length := by
    rcases Nat.lt_or_ge k ks.length with h | h
    · exact h
    · rw [List.getElem?_eq_none h] at hx; cases hx
  have hm := h2.1
  refine ⟨b, o, ds, g, e2, e3, e5, e4, ?_, fun y hy H1 col1 s hb => ⟨_, _, _, h1.fr s (by simp), e6 y H1 col1 hb, by simpa using h3, fun z hz => ?_⟩⟩
  · refine pure_of _ (Nat.ble_eq_true_of_le e2.lt) (fun N => nf_F_police_Police_task _ _ _ _ _) rfl fun N hN => ?_
    unfold vc_F_police_Police_task
    have q1 := h1.up hN
    intro X hX
    refine bcase_f rfl (bcase_dec (fun h => absurd h (by omega)) fun h0 => dr.mk (ld_l.mk q1.get rfl (bcase_dec (fun h => absurd h (by omega)) fun h => kp.mk (hX _ fun _ => dr.mk (ld_l.mk q1.get rfl (ix.mk (by omega) (by omega) ⟨?_, Keep.refl _ _⟩))))))
    simp
  · rcases List.mem_or_eq_of_mem_set hz with h | h
    · exact h4 z h
    · rw [h]; exact hy
theorem p_dropped (h : PolR H col c p ks high) {k : Nat} {x : KnownC} (hx : ks[k]? = some x) : PureC prog (XK 46) F_police_Police_Dropped [.pointer (some ⟨p, 0, none⟩), vI k] H (.bool (high && !x.t.hi)) := by
  refine pure_of _ rfl (fun N => nf_F_police_Police_Dropped _ _ _ _ _) rfl fun N hN => ?_
  unfold vc_F_police_Police_Dropped
  obtain ⟨b, o, ds, g, e2, e3, e5, e4, hp, _⟩ := p_ptask (h.up hN) hx
  refine callT hp TL_nd rfl (by decide) ?_
  obtain ⟨a, m, cap, h1, h2, h3⟩ := h.up hN
  simp only [r_p_eq]
  refine bcase_t rfl (dr.mk (ld_b.mk h1.get rfl (bcase_both (fun hh => dr.mk (ld_b.mk e2.get (e5 0 (by decide)) ⟨by rw [hh]; rfl, Keep.refl _ _⟩)) fun hh => ⟨by rw [hh]; rfl, Keep.refl _ _⟩)))
theorem p_soon {x : KnownC} (hx : KnownOk x) {now : Int} (h0 : 0 ≤ now) (h1 : now ≤ 4611686018427387904) : PureC prog (XK 47) F_police_known_soon [.agg #[.bool x.t.hi, vI x.t.T, vI x.t.D, vI x.t.V, vI x.t.Lo, vI x.t.Top, vI x.last, .bool x.was], vI now] H (.bool (soonM x now)) := by
  refine pure_of _ rfl (fun N => nf_F_police_known_soon _ _ _ _ _ _ _ _ _ _ _ _) rfl fun N hN => ?_
  unfold vc_F_police_known_soon
  refine nw.new fun q G a => ld_b.mk a.at_ rfl (bcase_both (fun hh => ld_i.mk a.at_ rfl (ld_i.mk a.at_ rfl ⟨?_, a.keep⟩)) fun hh => ⟨by unfold soonM; rw [hh]; rfl, a.keep⟩)
  have := hx.l0; have := hx.l1
  have e : IntKind.i64.wrap (now - x.last) = now - x.last := i64_in _ (by omega)
  rw [e]; unfold soonM; rw [hh]; rfl
theorem p_may (h : PolR H col c p ks high) {task now : Int} : PureC prog (XK 48) F_police_Police_May [.pointer (some ⟨p, 0, none⟩), vI task, vI now] H (vI (mayM ks high task now)) := by
  refine pure_of _ rfl (fun N => nf_F_police_Police_May _ _ _ _ _ _) rfl fun N hN => ?_
  unfold vc_F_police_Police_May
  have hu := h.up hN
  by_cases hin : 0 ≤ task ∧ task < ks.length
  · obtain ⟨k, rfl⟩ : ∃ k : Nat, task = k := ⟨task.toNat, by omega⟩
    have hk : k < ks.length := by omega
    have hx : ks[k]? = some ks[k] := by simp
    obtain ⟨b, o, ds, g, e2, e3, e5, e4, hp, _⟩ := p_ptask hu hx
    refine callT hp TL_nd rfl (by decide) ?_
    simp only [r_p_eq]
    intro X hX
    have no : ¬ (0 ≤ now ∧ now ≤ 4611686018427387904) → X [.bool true] (H.up N) := fun hno => hX _ _ fun _ => bcase_t rfl ⟨by unfold mayM; rw [if_neg (fun h => hno h.2.2)], Keep.refl _ _⟩
    refine bcase_f rfl (bcase_dec (fun h0 => kp.mk (no (by omega))) fun h0 => kp.mk ?_)
    by_cases h1 : 4611686018427387904 < now
    · rw [decide_eq_true h1]; exact no (by omega)
    · rw [decide_eq_false h1]
      refine hX _ _ fun _ => bcase_f rfl (callT (p_dropped hu hx) TL_nd rfl (by decide) ?_)
      simp only [r_b_eq]
      have hm : mayM ks high k now = if high = true ∧ ks[k].t.hi = false then 42 else if soonM ks[k] now = true then 40 else 0 := by
        unfold mayM; rw [if_pos (by omega), Int.toNat_natCast, hx]
      rw [hm]
      refine bcase_both (fun hd => ⟨?_, Keep.refl _ _⟩) fun hd => ?_
      · simp at hd; rw [if_pos hd]
      · have hd' : ¬ (high = true ∧ ks[k].t.hi = false) := by simpa using hd
        rw [if_neg hd']
        refine dr.mk (ld_Abiiiiiib.mk e2.get e4 e3 ?_)
        obtain ⟨_, _, _, _, _, _, hok⟩ := h
        refine callT (p_soon (hok _ (List.getElem_mem hk)) (by omega) (by omega)) TL_nd rfl (by decide) ?_
        simp only [r_b_eq]
        refine bcase_both (fun hs => ⟨by rw [if_pos hs], Keep.refl _ _⟩) fun hs => ⟨by rw [if_neg (by simp [hs])], Keep.refl _ _⟩
  · refine callT (p_ptask_out hu hin) TL_nd rfl (by decide) ?_
    simp only [r_p_eq]
    intro X hX
    exact bcase_t rfl (kp.mk (hX _ _ fun _ => bcase_t rfl ⟨by unfold mayM; rw [if_neg (fun h => hin ⟨h.1, h.2.1⟩)], Keep.refl _ _⟩))
theorem c_may (h : PolR H col c p ks high) {task now : Int} {j : Nat} {Q : Value → AH → Prop} (hj : 48 < j) (hQ : Q (vI (mayM ks high task now)) H) : W prog (XK j) F_police_Police_May [.pointer (some ⟨p, 0, none⟩), vI task, vI now] H Q := callT (p_may h) TL_nd rfl hj hQ

def takeM (ks : List KnownC) (task now : Int) : List KnownC :=
  match ks[task.toNat]? with
  | some k => ks.set task.toNat { k with last := now, was := true }
  | none => ks
theorem w_take (h : PolR H col c p ks high) {task now : Int} {Q : Value → AH → Prop} (hno : mayM ks high task now ≠ 0 → Q (vI (mayM ks high task now)) H)
    (hQ : mayM ks high task now = 0 → ∀ H', PolR H' col c p (takeM ks task now) high → Stp (Under c) col H col H' → Q (vI 0) H') : W prog XP F_police_Police_Take [.pointer (some ⟨p, 0, none⟩), vI task, vI now] H Q := by
  refine enterT _ (nf_F_police_Police_Take _ _ _ _ _ _) rfl ?_
  unfold vc_F_police_Police_Take
  refine c_may h (by decide) ?_
  simp only [r_i_eq]
  refine bcase_both (fun h0 => ?_) fun h0 => hno (by simpa using h0)
  have h0' : mayM ks high task now = 0 := by simpa using h0
  have hin : 0 ≤ task ∧ task < ks.length ∧ 0 ≤ now ∧ now ≤ 4611686018427387904 := by
    unfold mayM at h0'
    by_cases hh : 0 ≤ task ∧ task < ks.length ∧ 0 ≤ now ∧ now ≤ 4611686018427387904
    · exact hh
    · rw [if_neg hh] at h0'; omega
  obtain ⟨k, rfl⟩ : ∃ k : Nat, task = k := ⟨task.toNat, by omega⟩
  have hk : k < ks.length := by omega
  have hx : ks[k]? = some ks[k] := by simp
  obtain ⟨b, o, ds, g, e2, e3, e5, e4, hp, hset⟩ := p_ptask h hx
  refine callT hp TL_nd rfl (by decide) ?_
  simp only [r_p_eq]
  refine dr.mk (st.do e2.get rfl rfl (by omega) fun G1 w1 => ?_)
  obtain ⟨k1, s1⟩ := e2.wrote w1
  refine dr.mk (st.do k1.get rfl rfl (by rw [setMany_lenX]; omega) fun G2 w2 => ?_)
  obtain ⟨k2, s2⟩ := k1.wrote w2
  rw [h0']
  refine hQ h0' G2 ?_ (s1.under.trans s2.under)
  have ht : takeM ks k now = ks.set k { ks[k] with last := now, was := true } := by unfold takeM; rw [Int.toNat_natCast, hx]
  rw [ht]
  obtain ⟨_, _, _, _, _, _, hok⟩ := h
  refine hset { ks[k] with last := now, was := true } ⟨hin.2.2.1, hin.2.2.2, (hok _ (List.getElem_mem hk)).right⟩ G2 col (s1.trans s2) ?_
  have e6 : setMany ds (o + k * 8 + 6) (cellsOf (vI now)) = setMany ds (o + k * 8) (eKnown { ks[k] with last := now }) := by
    rw [setMany_within e4 e3 (by simp [cellsOf])]; rfl
  have e7 : setMany (setMany ds (o + k * 8) (eKnown { ks[k] with last := now })) (o + k * 8 + 7) (cellsOf (.bool true)) = setMany ds (o + k * 8) (eKnown { ks[k] with last := now, was := true }) := by
    apply List.ext_getElem?
    intro i
    rw [setMany_getX _ _ _ _ (by rw [setMany_lenX]; simp [cellsOf]; omega), setMany_getX _ _ _ _ (by rw [eKnown_len]; omega), setMany_getX _ _ _ _ (by rw [eKnown_len]; omega), eKnown_len, eKnown_len]
    by_cases hi : o + k * 8 ≤ i ∧ i < o + k * 8 + 8
    · rw [if_pos hi, if_pos hi]
      obtain ⟨j, hj⟩ : ∃ j, i = o + k * 8 + j := ⟨i - (o + k * 8), by omega⟩
      subst hj
      have : o + k * 8 + j - (o + k * 8) = j := by omega
      rw [this]
      by_cases h7 : j = 7
      · subst h7
        rw [if_pos ⟨by omega, by simp [cellsOf]⟩]
        have : o + k * 8 + 7 - (o + k * 8 + 7) = 0 := by omega
        rw [this]; rfl
      · rw [if_neg (by simp [cellsOf]; omega)]
        have : j < 7 := by omega
        match j, this with
        | 0, _ => rfl
        | 1, _ => rfl
        | 2, _ => rfl
        | 3, _ => rfl
        | 4, _ => rfl
        | 5, _ => rfl
        | 6, _ => rfl
    · rw [if_neg hi, if_neg hi, if_neg (by simp [cellsOf]; omega)]
  rw [e6, e7] at k2
  exact k2
theorem w_drop (h : PolR H col c p ks high) {x : Bool} {Q : Value → AH → Prop} (hQ : ∀ H', PolR H' col c p ks x → Stp (Under c) col H col H' → Q (.tuple #[]) H') : W prog XP F_police_Police_Drop [.pointer (some ⟨p, 0, none⟩), .bool x] H Q := by
  refine enterT _ (nf_F_police_Police_Drop _ _ _ _ _) rfl ?_
  unfold vc_F_police_Police_Drop
  obtain ⟨a, m, cap, h1, h2, h3⟩ := h
  refine bcase_t rfl (dr.mk (st.do h1.get rfl rfl (by simp) fun G w => ?_))
  obtain ⟨k1, s1⟩ := h1.wrote w
  exact hQ G ⟨a, m, cap, by simpa [setMany, cellsOf] using k1, h2.fr s1 (by simp), h3⟩ s1.under0

theorem w_pnew {d : List Nat} {a : Option Addr} {n cap : Nat} {ts : List TaskC} (h : RdE eTask 6 H col d a n cap ts) (hl : ts.length ≤ 6) (hall : ts.all (·.right) = true) (hcn : c ≠ []) (hfr : Fresh col H) (hfc : ∀ b, b < H.next → ¬ Under c (col b)) {Q : Value → AH → Prop}
    (hQ : ∀ H' col' p, PolR H' col' c p (ts.map fun t => ⟨t, 0, false⟩) false → Stp (fun _ => False) col H col' H' → Q (.pointer (some ⟨p, 0, none⟩)) H') :
    W prog XP F_police_New [.slice a n cap] H Q := by
  refine enterT _ (nf_F_police_New _ _ _ _ _ _) rfl ?_
  unfold vc_F_police_New
  have hn := h.1
  intro X1 hX1
  refine bcase_dec (fun h6 => absurd h6 (by omega)) fun h6 => ?_
  refine callT (p_contT (p := fun t => !t.right) h (by omega) (fun t => rfl) fun t M Q hQ => callT (p_pnew1 t) TL_nd rfl (by decide) hQ) TL_nd rfl (by decide) ?_
  simp only [r_b_eq]
  have hany : (ts.any fun t => !t.right) = false := by
    have := any_not (·.right) ts
    rw [hall] at this; simpa using this
  rw [hany]
  refine bcase_f rfl (kp.mk (hX1 _ fun _ => nw.new fun p G2 a2 => ?_))
  obtain ⟨k2, s02⟩ := a2.bk (fun _ => False) col c
  intro X hX
  have loop := loop_up (X := X) (fun k (_ : Unit) => [vI k]) (fun k _ G => ∃ col3 sa sn sc, Bk G col3 c p [.slice sa sn sc, .bool false] 0 ∧ SlE eKnown 8 G col3 (0 :: c) sa sn sc ((ts.take k).map fun t => ⟨t, 0, false⟩) ∧ Stp (fun _ => False) col H col3 G) n ?_ ?_
  · exact loop 0 () G2 (by omega) ⟨_, none, 0, 0, k2, by simpa using SlE.nil, s02⟩
  · rintro _ G ⟨col3, sa, sn, sc, q1, q2, q4⟩
    refine hX _ _ fun _ => bcase_dec (fun h => absurd h (by omega)) fun _ => ?_
    rw [hn, List.take_length] at q2
    refine hQ G col3 p ⟨sa, sn, sc, q1, q2, by simpa using hl, fun k hk => ?_⟩ q4
    simp only [List.mem_map] at hk
    obtain ⟨t, ht, rfl⟩ := hk
    exact ⟨Int.le_refl 0, by show (0 : Int) ≤ 4611686018427387904; decide, List.all_eq_true.mp hall t ht⟩
  · rintro k _ G hk ⟨col3, sa, sn, sc, q1, q2, q4⟩ go
    have e1 : IntKind.i64.wrap ((k : Int) + 1) = ((k + 1 : Nat) : Int) := by rw [i64_in _ (by omega)]; omega
    have hkt : k < ts.length := by omega
    obtain ⟨b, o, ds, ro, g', rfl, r2, r3, r4, r5, r6⟩ := (h.fr q4 id).at_ (i := k) (x := ts[k]) (by simp)
    refine hX _ _ fun _ => bcase_dec (fun _ => ix.mk (by omega) (by omega) (ld_Abiiiii.mk r3 (by rw [Int.toNat_natCast]; exact r6) (by rw [Int.toNat_natCast]; omega) (nw.new fun t1 G3 a3 => st.do a3.at_ rfl rfl (by simp) fun G4 w4 => ?_))) fun h => absurd (by omega) h
    have hf := q4.fresh hfr
    have s3 : Stp (fun _ => False) col H col3 G3 := a3.newer q4
    have t3 : Stp (fun _ => False) col3 G col3 G3 := a3.keep.stp _ _
    obtain ⟨o4, t4, s4⟩ := (a3.own hf).own_wr s3 (by rw [a3.num]; exact q4.next) w4
    have p1 := (q1.fr t3 id).fr t4 hcn
    have p2 := (q2.fr t3 id).fr t4 (by simp)
    have o4' : Bk G4 col3 [] t1 (eTask ts[k]) 0 := by simpa [setMany, cellsOf, eTask] using o4
    refine dr.mk (ld_l.mk p1.get rfl (ld_Abiiiii.mk o4'.get rfl (by simp [eTask]) (nw.new fun t2 G5 a5 => ?_)))
    have t5 : Stp (fun _ => False) col3 G4 col3 G5 := a5.keep.stp _ _
    refine (p2.fr t5 id).push (y := (⟨ts[k], 0, false⟩ : KnownC)) (bs := t2) (g := 0) (ro := false) eKnown_len eKnown_cell (by exact a5.at_) (by decide) (by decide) (by have := p2.1; simp at this; omega) (by have := p2.1; simp at this; omega) fun a' cap' G6 col6 k6 s6 hget => ?_
    have p16 := (p1.fr t5 id).fr s6 (by simp)
    refine dr.mk (st.do p16.get rfl rfl (by simp) fun G7 w7 => kp.mk ?_)
    obtain ⟨p17, s7⟩ := p16.wrote w7
    rw [e1]
    have hp2 : H.next ≤ p := by rw [a2.num]; exact Nat.le_refl _
    have hE6 : Stp (fun _ => False) col H col6 G6 := (a5.newer s4).newer s6 fun b hb e => hfc b hb (by rw [e]; exact ⟨[0], rfl⟩)
    refine go () G7 ⟨col6, a', sn + 1, cap', by simpa [setMany, cellsOf] using p17, ?_, Wrote1.newer hE6 w7 hp2⟩
    have : ((ts.take (k + 1)).map fun t => (⟨t, 0, false⟩ : KnownC)) = ((ts.take k).map fun t => ⟨t, 0, false⟩) ++ [⟨ts[k], 0, false⟩] := by
      rw [List.take_succ, List.getElem?_eq_getElem hkt, List.map_append]; rfl
    rw [this]
    exact k6.fr s7 (by simp)
end
end Go.Ez
