import Derived.Test.YtgckodpnpidodaaGreatEzTop
import Derived.Test.YtgckodpnpidodaaGreatPaVc0
import Derived.IntWalk
import Derived.Test.YtgckodpnpidodaaGreatEzNum
import Derived.Test.YtgckodpnpidodaaGreatLawHeap
set_option linter.all false
/- The functions of a partition that leave nothing behind. -/
set_option linter.all false
namespace Go.Ez
open Go.Proofs Go.IntWalk

def X0 : Ext := extOf [(F_parcloselaw20_knows, .bool true)]
def TL : List FuncId := [F_cmp_isNaN_int, F_cmp_Less_int, F_cmp_Compare_int, F_cmp_Or_int, F_heap_lists_order, F_heap_lists_less, F_heap_Heap_none, F_heap_Heap_in, F_heap_Heap_First, F_heap_Heap_Len,
  F_heap_lists_down_1, F_slices_IsSorted__intint, F_conf_rise, F_conf_Task_Right, F_conf_Server_Right, F_conf_all_conf_Task_1, F_conf_all_conf_Server_1, F_tasks_New_1, F_police_New_1, F_slices_IndexFunc__conf_Taskconf_Task,
  F_slices_IndexFunc__conf_Serverconf_Server, F_slices_ContainsFunc__conf_Taskconf_Task, F_slices_ContainsFunc__conf_Serverconf_Server, F_conf_all_conf_Task, F_conf_all_conf_Server, F_slices_Max__uint8uint8, F_conf_Part_Rights,
  F_tasks_Table_none, F_tasks_Table_slot, F_tasks_Table_busy, F_tasks_Table_High, F_tasks_Table_Len, F_tasks_Table_First, F_tasks_Job_right, F_tasks_Job_op, F_tasks_slot_due, F_tasks_slot_budget, F_tasks_Table_Missed_1, F_tasks_Table_Rise_1, F_tasks_Table_Clear_1,
  F_ring_Ring_int_none, F_ring_Ring_int_place, F_ring_Ring_int_is, F_ring_Ring_int_At, F_ring_Ring_int_Len, F_police_Police_task, F_police_Police_Dropped, F_police_known_soon, F_police_Police_May,
  F_num_btoi, F_num_Floor, F_refill_Budget_none, F_refill_Budget_period, F_refill_live_left, F_refill_Budget_Due, F_chunk_Budget_none, F_chunk_live_first, F_chunk_Budget_Due,
  F_part_Part_none, F_part_Part_Up, F_part_Part_High, F_part_Part_Pick, F_part_Part_Queue, F_parcloselaw20_num, F_parcloselaw20_few, F_parcloselaw20_light]
theorem TL_nd : TL.Nodup := by decide
noncomputable abbrev prog := Tryz.prog
noncomputable abbrev XK (i : Nat) : Ext := XT prog X0 TL i
/-- All of them are told. -/
noncomputable abbrev XP : Ext := XK 999

theorem p_isNaN {H : AH} {n : Int} : PureC prog (XK 0) F_cmp_isNaN_int [vI n] H (.bool false) := by
  refine pure_of _ rfl (fun N => nf_F_cmp_isNaN_int _ _ _ _) rfl fun N hN => ?_
  unfold vc_F_cmp_isNaN_int
  exact ⟨by simp, Keep.refl _ _⟩
theorem c_isNaN {j : Nat} {H : AH} {n : Int} {Q : Value → AH → Prop} (hj : 0 < j) (h : Q (.bool false) H) : W prog (XK j) F_cmp_isNaN_int [vI n] H Q := callT p_isNaN TL_nd rfl hj h

theorem p_Less {H : AH} {a b : Int} : PureC prog (XK 1) F_cmp_Less_int [vI a, vI b] H (.bool (decide (a < b))) := by
  refine pure_of _ rfl (fun N => nf_F_cmp_Less_int _ _ _ _ _) rfl fun N hN => ?_
  unfold vc_F_cmp_Less_int
  refine c_isNaN (by decide) ?_
  simp [Keep.refl]
theorem c_Less {j : Nat} {H : AH} {a b : Int} {Q : Value → AH → Prop} (hj : 1 < j) (h : Q (.bool (decide (a < b))) H) : W prog (XK j) F_cmp_Less_int [vI a, vI b] H Q := callT p_Less TL_nd rfl hj h

/-- -1, 0, 1 -/
def cmpI (a b : Int) : Int := if a < b then -1 else if b < a then 1 else 0
theorem p_Compare {H : AH} {a b : Int} : PureC prog (XK 2) F_cmp_Compare_int [vI a, vI b] H (vI (cmpI a b)) := by
  refine pure_of _ rfl (fun N => nf_F_cmp_Compare_int _ _ _ _ _) rfl fun N hN => ?_
  unfold vc_F_cmp_Compare_int
  refine c_isNaN (by decide) ?_
  simp only [r_b_eq]
  refine c_isNaN (by decide) ?_
  simp only [r_b_eq, bcase_false, bcase_decide, cmpI]
  exact ⟨fun h => ⟨by simp [h], Keep.refl _ _⟩, fun h => ⟨fun h' => ⟨by simp [h, h'], Keep.refl _ _⟩, fun h' => ⟨by simp [h, h'], Keep.refl _ _⟩⟩⟩
theorem c_Compare {j : Nat} {H : AH} {a b : Int} {Q : Value → AH → Prop} (hj : 2 < j) (h : Q (vI (cmpI a b)) H) : W prog (XK j) F_cmp_Compare_int [vI a, vI b] H Q := callT p_Compare TL_nd rfl hj h

/-- The first that is not 0. -/
def orI : List Int → Int
  | [] => 0
  | a :: l => if a = 0 then orI l else a
theorem p_Or {H : AH} {b g n c : Nat} {ro : Bool} {l : List Int} (hb : H.get b = some (.cells (l.map vI) ro g)) (hn : n = l.length) (hl : l.length < 1000) : PureC prog (XK 3) F_cmp_Or_int [.slice (some ⟨b, 0, none⟩) n c] H (vI (orI l)) := by
  subst hn
  refine pure_of _ rfl (fun N => nf_F_cmp_Or_int _ _ _ _ _ _) rfl fun N hN => ?_
  unfold vc_F_cmp_Or_int
  intro X hX
  have loop : ∀ (m : List Int) (i : Int), (∃ k : Nat, i = k ∧ k ≤ l.length ∧ l.drop k = m) → orI l = orI m → X [vI i] (H.up N) := by
    intro m
    induction m with
    | nil =>
      rintro i ⟨k, rfl, hk, hd⟩ ho
      have : k = l.length := by
        have := congrArg List.length hd; simp at this; omega
      refine hX _ _ fun _ => ?_
      rw [bcase_decide]
      exact ⟨fun h => absurd h (by omega), fun _ => ⟨by rw [ho]; rfl, Keep.refl _ _⟩⟩
    | cons a m ih =>
      rintro i ⟨k, rfl, hk, hd⟩ ho
      have hlt : k < l.length := by
        have := congrArg List.length hd; simp at this; omega
      have ha : l[k]? = some a := by
        have : (l.drop k)[0]? = some a := by rw [hd]; rfl
        rw [List.getElem?_drop] at this; simpa using this
      refine hX _ _ fun _ => ?_
      rw [bcase_decide]
      refine ⟨fun _ => ix.mk (by omega) (by omega) (ld_i.mk (x := a) (hb) (by simp [ha]) ?_), fun h => absurd (by omega) h⟩
      by_cases h0 : a = 0
      · subst h0
        simp only [bne_self_eq_false, bcase_false]
        refine kp.mk (ih _ ⟨k + 1, by rw [i64_in _ (by omega)]; omega, by omega, by rw [← List.drop_drop, hd]; rfl⟩ (by rw [ho]; simp [orI]))
      · have : (a != 0) = true := by simp [h0]
        rw [this, bcase_true]
        exact ⟨by rw [ho]; simp [orI, h0], Keep.refl _ _⟩
  exact loop l 0 ⟨0, rfl, by omega, by simp⟩ rfl
theorem c_Or {j b g n c : Nat} {H : AH} {ro : Bool} {l : List Int} {Q : Value → AH → Prop} (hj : 3 < j) (hb : H.get b = some (.cells (l.map vI) ro g)) (hn : n = l.length) (hl : l.length < 1000) (h : Q (vI (orI l)) H) :
    W prog (XK j) F_cmp_Or_int [.slice (some ⟨b, 0, none⟩) n c] H Q := callT (p_Or hb hn hl) TL_nd rfl hj h
end Go.Ez

/- The heap of a partition's tasks: what its functions do. -/
set_option linter.all false
namespace Go.Ez
open Go.Proofs Go.IntWalk Hp

/-- The lists of a heap. -/
def HpA (H : AH) (col : Col) (c : List Nat) (b : Nat) (l : List Nat) (pl d : List Int) : Prop :=
  ∃ a1 n1 c1 a2 n2 c2 a3 n3 c3, Bk H col c b [.slice a1 n1 c1, .slice a2 n2 c2, .slice a3 n3 c3, .bool true] 0 ∧
    SlE eN 1 H col (0 :: c) a1 n1 c1 l ∧ SlE eI 1 H col (1 :: c) a2 n2 c2 pl ∧ SlE eI 1 H col (2 :: c) a3 n3 c3 d
section
variable {H H' : AH} {col col' : Col} {c : List Nat} {b : Nat} {l : List Nat} {pl d : List Int}
theorem HpA.up (h : HpA H col c b l pl d) {N : Nat} (hN : H.next ≤ N) : HpA (H.up N) col c b l pl d := by
  obtain ⟨a1, n1, c1, a2, n2, c2, a3, n3, c3, h0, h1, h2, h3⟩ := h
  exact ⟨a1, n1, c1, a2, n2, c2, a3, n3, c3, h0.up hN, h1.up hN, h2.up hN, h3.up hN⟩
theorem HpA.fr (h : HpA H col c b l pl d) {D : List Nat → Prop} (s : Stp D col H col' H') (hd : ∀ x, Under c x → ¬ D x) : HpA H' col' c b l pl d := by
  obtain ⟨a1, n1, c1, a2, n2, c2, a3, n3, c3, h0, h1, h2, h3⟩ := h
  exact ⟨a1, n1, c1, a2, n2, c2, a3, n3, c3, h0.fr s (hd _ (Under.refl _)), h1.fr s (hd _ ⟨[0], rfl⟩), h2.fr s (hd _ ⟨[1], rfl⟩), h3.fr s (hd _ ⟨[2], rfl⟩)⟩

theorem p_order (h : HpA H col c b l pl d) {x y : Nat} (hx : x < d.length) (hy : y < d.length) :
    PureC prog (XK 4) F_heap_lists_order [.pointer (some ⟨b, 0, none⟩), vI x, vI y] H (vI (orI [cmpI (d.getD x 0) (d.getD y 0), cmpI x y])) := by
  refine pure_of _ rfl (fun N => nf_F_heap_lists_order _ _ _ _ _ _) rfl fun N hN => ?_
  unfold vc_F_heap_lists_order
  obtain ⟨a1, n1, c1, a2, n2, c2, a3, n3, c3, h0, h1, h2, h3⟩ := h.up hN
  refine dr.mk (ld_l.mk h0.get rfl (h3.rdI rfl (get_some hx 0) (dr.mk (ld_l.mk h0.get rfl (h3.rdI rfl (get_some hy 0) ?_)))))
  refine c_Compare (by decide) ?_
  simp only [r_i_eq]
  refine c_Compare (by decide) ?_
  simp only [r_i_eq]
  refine nw.new fun b' G a => ?_
  refine c_Or (by decide) (l := [cmpI (d.getD x 0) (d.getD y 0), cmpI x y]) a.at_ rfl (by simp) ?_
  simp only [r_i_eq]
  exact ⟨by trivial, a.keep⟩
theorem c_order (h : HpA H col c b l pl d) {x y : Nat} (hx : x < d.length) (hy : y < d.length) {j : Nat} {Q : Value → AH → Prop} (hj : 4 < j) (hQ : Q (vI (orI [cmpI (d.getD x 0) (d.getD y 0), cmpI x y])) H) :
    W prog (XK j) F_heap_lists_order [.pointer (some ⟨b, 0, none⟩), vI x, vI y] H Q := callT (p_order h hx hy) TL_nd rfl hj hQ
theorem ord_klt {x y : Nat} : decide (orI [cmpI (d.getD x 0) (d.getD y 0), cmpI x y] < 0) = decide (klt d x y) := by
  have : orI [cmpI (d.getD x 0) (d.getD y 0), cmpI x y] < 0 ↔ klt d x y := by
    unfold orI orI orI cmpI klt
    repeat' split
    all_goals omega
  simp only [this]
theorem p_less (h : HpA H col c b l pl d) {i k : Nat} (hi : i < l.length) (hk : k < l.length) (hd : ∀ i, i < l.length → l.getD i 0 < d.length) :
    PureC prog (XK 5) F_heap_lists_less [.pointer (some ⟨b, 0, none⟩), vI i, vI k] H (.bool (decide (klt d (l.getD i 0) (l.getD k 0)))) := by
  refine pure_of _ rfl (fun N => nf_F_heap_lists_less _ _ _ _ _ _) rfl fun N hN => ?_
  unfold vc_F_heap_lists_less
  have hu := h.up hN
  obtain ⟨a1, n1, c1, a2, n2, c2, a3, n3, c3, h0, h1, h2, h3⟩ := hu
  refine dr.mk (ld_l.mk h0.get rfl (h1.rdN rfl (get_some hi 0) (dr.mk (ld_l.mk h0.get rfl (h1.rdN rfl (get_some hk 0) ?_)))))
  refine c_order (h.up hN) (hd i hi) (hd k hk) (by decide) ?_
  simp only [r_i_eq, ord_klt]
  exact ⟨by trivial, Keep.refl _ _⟩
theorem c_less (h : HpA H col c b l pl d) {i k : Nat} (hi : i < l.length) (hk : k < l.length) (hd : ∀ i, i < l.length → l.getD i 0 < d.length) {j : Nat} {Q : Value → AH → Prop} (hj : 5 < j)
    (hQ : Q (.bool (decide (klt d (l.getD i 0) (l.getD k 0)))) H) : W prog (XK j) F_heap_lists_less [.pointer (some ⟨b, 0, none⟩), vI i, vI k] H Q := callT (p_less h hi hk hd) TL_nd rfl hj hQ

theorem p_hnone (h : HpA H col c b l pl d) : PureC prog (XK 6) F_heap_Heap_none [.pointer (some ⟨b, 0, none⟩)] H (.bool false) := by
  refine pure_of _ rfl (fun N => nf_F_heap_Heap_none _ _ _ _) rfl fun N hN => ?_
  unfold vc_F_heap_Heap_none
  obtain ⟨a1, n1, c1, a2, n2, c2, a3, n3, c3, h0, _⟩ := h.up hN
  exact dr.mk (ld_b.mk h0.get rfl ⟨rfl, Keep.refl _ _⟩)
theorem c_hnone (h : HpA H col c b l pl d) {j : Nat} {Q : Value → AH → Prop} (hj : 6 < j) (hQ : Q (.bool false) H) : W prog (XK j) F_heap_Heap_none [.pointer (some ⟨b, 0, none⟩)] H Q := callT (p_hnone h) TL_nd rfl hj hQ

theorem p_in (h : HpA H col c b l pl d) {x : Nat} (hx : x < pl.length) : PureC prog (XK 7) F_heap_Heap_in [.pointer (some ⟨b, 0, none⟩), vI x] H (.tuple #[.bool (pl.getD x 0 != -1), vI 0]) := by
  refine pure_of _ rfl (fun N => nf_F_heap_Heap_in _ _ _ _ _) rfl fun N hN => ?_
  unfold vc_F_heap_Heap_in
  intro X hX
  refine c_hnone (h.up hN) (by decide) ?_
  obtain ⟨a1, n1, c1, a2, n2, c2, a3, n3, c3, h0, h1, h2, h3⟩ := h.up hN
  have := h2.1
  simp only [r_b_eq, bcase_false]
  refine bcase_dec (fun h => absurd h (by omega)) fun _ => dr.mk (ld_l.mk h0.get rfl (bcase_dec (fun h => absurd h (by omega)) fun _ => kp.mk (hX _ fun _ => ?_)))
  exact dr.mk (ld_l.mk h0.get rfl (h2.rdI rfl (get_some hx 0) ⟨rfl, Keep.refl _ _⟩))
theorem c_in (h : HpA H col c b l pl d) {x : Nat} (hx : x < pl.length) {j : Nat} {Q : Value → AH → Prop} (hj : 7 < j) (hQ : Q (.tuple #[.bool (pl.getD x 0 != -1), vI 0]) H) :
    W prog (XK j) F_heap_Heap_in [.pointer (some ⟨b, 0, none⟩), vI x] H Q := callT (p_in h hx) TL_nd rfl hj hQ

theorem p_hlen (h : HpA H col c b l pl d) : PureC prog (XK 9) F_heap_Heap_Len [.pointer (some ⟨b, 0, none⟩)] H (vI l.length) := by
  refine pure_of _ rfl (fun N => nf_F_heap_Heap_Len _ _ _ _) rfl fun N hN => ?_
  unfold vc_F_heap_Heap_Len
  refine c_hnone (h.up hN) (by decide) ?_
  obtain ⟨a1, n1, c1, a2, n2, c2, a3, n3, c3, h0, h1, h2, h3⟩ := h.up hN
  simp only [r_b_eq, bcase_false]
  exact dr.mk (ld_l.mk h0.get rfl ⟨by rw [h1.1], Keep.refl _ _⟩)
theorem c_hlen (h : HpA H col c b l pl d) {j : Nat} {Q : Value → AH → Prop} (hj : 9 < j) (hQ : Q (vI l.length) H) : W prog (XK j) F_heap_Heap_Len [.pointer (some ⟨b, 0, none⟩)] H Q := callT (p_hlen h) TL_nd rfl hj hQ

theorem p_hfirst (h : HpA H col c b l pl d) (hd : ∀ i, i < l.length → l.getD i 0 < d.length) :
    PureC prog (XK 8) F_heap_Heap_First [.pointer (some ⟨b, 0, none⟩)] H (if l.length = 0 then .tuple #[vI 0, vI 0, .bool false] else .tuple #[vI (l.getD 0 0), vI (d.getD (l.getD 0 0) 0), .bool true]) := by
  refine pure_of _ (by split <;> rfl) (fun N => nf_F_heap_Heap_First _ _ _ _) rfl fun N hN => ?_
  unfold vc_F_heap_Heap_First
  intro X1 h1 X2 h2
  refine c_hnone (h.up hN) (by decide) ?_
  obtain ⟨a1, n1, c1, a2, n2, c2, a3, n3, c3, k0, k1, k2, k3⟩ := h.up hN
  have hn1 := k1.1
  simp only [r_b_eq, bcase_false]
  refine dr.mk (ld_l.mk k0.get rfl (kp.mk (h2 _ _ fun _ => ?_)))
  by_cases hl : l.length = 0
  · refine bcase_t (by simp; omega) ⟨by rw [if_pos hl], Keep.refl _ _⟩
  · refine bcase_f (by simp; omega) (kp.mk (h1 _ fun _ => ?_))
    refine dr.mk (ld_l.mk k0.get rfl (k1.rdN (k := 0) rfl (get_some (by omega) 0) (dr.mk (ld_l.mk k0.get rfl (k3.rdI rfl (get_some (hd 0 (by omega)) 0) ⟨by rw [if_neg hl], Keep.refl _ _⟩)))))
theorem c_hfirst (h : HpA H col c b l pl d) (hd : ∀ i, i < l.length → l.getD i 0 < d.length) {j : Nat} {Q : Value → AH → Prop} (hj : 8 < j)
    (hQ : Q (if l.length = 0 then .tuple #[vI 0, vI 0, .bool false] else .tuple #[vI (l.getD 0 0), vI (d.getD (l.getD 0 0) 0), .bool true]) H) : W prog (XK j) F_heap_Heap_First [.pointer (some ⟨b, 0, none⟩)] H Q :=
  callT (p_hfirst h hd) TL_nd rfl hj hQ
end
end Go.Ez

/- The heap of a partition's tasks: what is put, changed, removed. -/
set_option linter.all false
namespace Go.Ez
open Go.Proofs Go.IntWalk Hp
section
variable {H H' : AH} {col col' : Col} {c : List Nat} {b : Nat} {l : List Nat} {pl d : List Int}

theorem Stp.under {H H' : AH} {col col' : Col} {c : List Nat} {k : Nat} (s : Stp (fun x => x = k :: c) col H col' H') : Stp (Under c) col H col' H' := s.mono fun x hx => ⟨[k], by simp [hx]⟩
theorem Stp.under0 {H H' : AH} {col col' : Col} {c : List Nat} (s : Stp (fun x => x = c) col H col' H') : Stp (Under c) col H col' H' := s.mono fun x hx => ⟨[], by simp [hx]⟩
theorem Stp.under1 {H H' : AH} {col col' : Col} {c : List Nat} {k : Nat} (s : Stp (Under (k :: c)) col H col' H') : Stp (Under c) col H col' H' := s.mono fun x hx => hx.cons

theorem w_hset (h : HpA H col c b l pl d) {i x : Nat} (hi : i < l.length) (hx : x < pl.length) {Q : Value → AH → Prop}
    (hQ : ∀ H', HpA H' col c b (l.set i x) (pl.set x i) d → Stp (Under c) col H col H' → Q (.tuple #[]) H') : W prog XP F_heap_lists_set [.pointer (some ⟨b, 0, none⟩), vI i, vI x] H Q := by
  refine enterT _ (nf_F_heap_lists_set _ _ _ _ _ _) rfl ?_
  unfold vc_F_heap_lists_set
  obtain ⟨a1, n1, c1, a2, n2, c2, a3, n3, c3, h0, h1, h2, h3⟩ := h
  refine dr.mk (ld_l.mk h0.get rfl (dr.mk (ld_l.mk h0.get rfl (h1.wrN rfl hi rfl fun H1 k1 s1 => ?_))))
  refine (h2.fr s1 (by simp)).wrI rfl hx fun H2 k2 s2 => ?_
  exact hQ _ ⟨a1, n1, c1, a2, n2, c2, a3, n3, c3, (h0.fr s1 (by simp)).fr s2 (by simp), k1.fr s2 (by simp), k2, (h3.fr s1 (by simp)).fr s2 (by simp)⟩ (s1.under.trans s2.under)

theorem w_swap (h : HpA H col c b l pl d) {i k : Nat} (hi : i < l.length) (hk : k < l.length) (hp : ∀ i, i < l.length → l.getD i 0 < pl.length) {Q : Value → AH → Prop}
    (hQ : ∀ H', HpA H' col c b (sw l i k) ((pl.set (l.getD k 0) i).set (l.getD i 0) k) d → Stp (Under c) col H col H' → Q (.tuple #[]) H') : W prog XP F_heap_lists_swap [.pointer (some ⟨b, 0, none⟩), vI i, vI k] H Q := by
  refine enterT _ (nf_F_heap_lists_swap _ _ _ _ _ _) rfl ?_
  unfold vc_F_heap_lists_swap
  have h' := h
  obtain ⟨a1, n1, c1, a2, n2, c2, a3, n3, c3, h0, h1, h2, h3⟩ := h
  refine dr.mk (ld_l.mk h0.get rfl (h1.rdN rfl (get_some hi 0) (dr.mk (ld_l.mk h0.get rfl (h1.rdN rfl (get_some hk 0) ?_)))))
  refine w_hset h' hi (hp k hk) fun H1 k1 s1 => ?_
  simp only [r_T_eq]
  refine w_hset k1 (by simpa using hk) (by simpa using hp i hi) fun H2 k2 s2 => ?_
  simp only [r_T_eq]
  exact hQ _ k2 (s1.trans s2)

theorem Br.of {i : Nat} (h : HO l d fun _ => False) (hi : i < l.length) : Br l d i := fun h0 k hk0 hk hp => by
  have h1 := h k hk0 hk id
  have h2 := h i h0 hi id
  rw [hp] at h1
  exact nlt_trans h1 h2

theorem w_up {room : Nat} {f : Nat → Option Int} (h : HpA H col c b l pl d) (hf : Has room l pl d f) (hr : room ≤ 1024) {i : Nat} {m : Bool} (hi : i < l.length) (ho : HO l d fun k => k = i ∨ (m = false ∧ par k = i)) (hb : Br l d i) (hlen : l.length ≤ 1024) {Q : Value → AH → Prop}
    (hQ : ∀ H' l' pl', HpA H' col c b l' pl' d → Has room l' pl' d f → l'.length = l.length → (∃ i', i' < l'.length ∧ l'.getD i' 0 = l.getD i 0 ∧ (HO l' d fun k => par k = i') ∧ Br l' d i') → (HO l' d fun k => par k = i) → Br l' d i → Stp (Under c) col H col H' → Q (.tuple #[]) H') :
    W prog XP F_heap_lists_up [.pointer (some ⟨b, 0, none⟩), vI i] H Q := by
  refine enterT _ (nf_F_heap_lists_up _ _ _ _ _) rfl ?_
  unfold vc_F_heap_lists_up
  intro X hX
  have loop : ∀ (j : Nat) (G : AH) (l1 : List Nat) (pl1 : List Int) (m1 : Bool), j < l1.length → HpA G col c b l1 pl1 d → Has room l1 pl1 d f → l1.length = l.length → l1.getD j 0 = l.getD i 0 →
      (HO l1 d fun k => k = j ∨ (m1 = false ∧ par k = j)) → Br l1 d j → (m1 = false → l1 = l ∧ j = i) → Stp (Under c) col H col G → X [vI j] G := by
    intro j
    induction j using Nat.strongRecOn with
    | _ j ih =>
      intro G l1 pl1 m1 hj h1 hf1 hl1 hx1 ho1 hb1 hm1 s1
      refine hX _ _ fun _ X6 h6 => ?_
      have fin : (j = 0 ∨ ¬ klt d (l1.getD j 0) (l1.getD (par j) 0)) → Q (.tuple #[]) G := fun hs => by
        have hst := up_stop ho1 hs
        cases m1 with
        | false =>
          obtain ⟨rfl, rfl⟩ := hm1 rfl
          exact hQ G _ pl1 h1 hf1 rfl ⟨j, hj, rfl, hst.mono fun k h => h.2, hb1⟩ (hst.mono fun k h => h.2) hb1 s1
        | true =>
          have hz : HO l1 d fun _ => False := hst.mono fun k h => by cases h.1
          exact hQ G l1 pl1 h1 hf1 hl1 ⟨j, hj, hx1, hz.mono fun _ h => h.elim, Br.of hz hj⟩ (hz.mono fun _ h => h.elim) (Br.of hz (by omega)) s1
      refine bcase_dec (fun h0 => ?_) fun h0 => fin (.inl (by omega))
      have hq : IntKind.i64.wrap (((j : Int) - 1)) = ((j - 1 : Nat) : Int) := by rw [i64_in _ (by omega)]; omega
      have hd : IntKind.i64.wrap (((j - 1 : Nat) : Int).tdiv 2) = ((par j : Nat) : Int) := by
        have ht : (((j - 1 : Nat) : Int)).tdiv 2 = ((par j : Nat) : Int) := by
          rw [Int.tdiv_eq_ediv_of_nonneg (by omega)]; simp only [par]; omega
        rw [ht]; exact i64_in _ (by simp only [par]; omega)
      rw [hq]
      refine binI_quo.mpr ⟨by decide, ?_⟩
      rw [hd]
      have hpj : par j < l1.length := by simp only [par]; omega
      refine c_less h1 hj hpj (fun i hi => by rw [hf1.wf.dl]; exact (hf1.wf.at_ i hi).1) (by decide) ?_
      simp only [r_b_eq]
      refine bcase_dec (fun hlt => kp.mk (h6 _ fun _ => ?_)) fun hlt => fin (.inr hlt)
      rw [hq]
      refine binI_quo.mpr ⟨by decide, ?_⟩
      rw [hd]
      refine w_swap h1 hj hpj (fun i hi => by rw [hf1.wf.pll]; exact (hf1.wf.at_ i hi).1) fun G2 h2 s2 => ?_
      simp only [r_T_eq]
      refine binI_quo.mpr ⟨by decide, ?_⟩
      rw [hd]
      obtain ⟨q1, q2⟩ := up_step ho1 hb1 (by omega) hj hlt
      refine kp.mk (ih (par j) (by simp only [par]; omega) G2 _ _ true (by simpa using hpj) h2 (hf1.swap hj hpj) (by simpa using hl1) ?_ q1 q2 (fun e => by cases e) (s1.trans s2))
      rw [sw_get hj hpj, if_pos rfl]; exact hx1
  exact loop i H l pl m hi h hf rfl rfl ho hb (fun _ => ⟨rfl, rfl⟩) (Stp.refl _ _ _)

/-- The place that is due first, of one and the two below it. -/
def leastF (l : List Nat) (d : List Int) (i : Nat) : Nat :=
  let b1 := if 2 * i + 1 < l.length ∧ klt d (l.getD (2 * i + 1) 0) (l.getD i 0) then 2 * i + 1 else i
  if 2 * i + 2 < l.length ∧ klt d (l.getD (2 * i + 2) 0) (l.getD b1 0) then 2 * i + 2 else b1
theorem leastF_least {i : Nat} : Least l d i (leastF l d i) := by
  have hpar : ∀ k, 0 < k → par k = i → k = 2 * i + 1 ∨ k = 2 * i + 2 := fun k h0 h => by simp only [par] at h; omega
  unfold leastF
  by_cases h1 : 2 * i + 1 < l.length ∧ klt d (l.getD (2 * i + 1) 0) (l.getD i 0)
  · simp only [if_pos h1]
    by_cases h2 : 2 * i + 2 < l.length ∧ klt d (l.getD (2 * i + 2) 0) (l.getD (2 * i + 1) 0)
    · rw [if_pos h2]
      refine .inr ⟨by omega, h2.1, by simp only [par]; omega, h2.2.trans h1.2, fun k h0 hk hp => ?_⟩
      rcases hpar k h0 hp with rfl | rfl
      · exact h2.2.asymm
      · exact klt.irrefl
    · rw [if_neg h2]
      refine .inr ⟨by omega, h1.1, by simp only [par]; omega, h1.2, fun k h0 hk hp => ?_⟩
      rcases hpar k h0 hp with rfl | rfl
      · exact klt.irrefl
      · exact fun h => h2 ⟨hk, h⟩
  · simp only [if_neg h1]
    by_cases h2 : 2 * i + 2 < l.length ∧ klt d (l.getD (2 * i + 2) 0) (l.getD i 0)
    · rw [if_pos h2]
      refine .inr ⟨by omega, h2.1, by simp only [par]; omega, h2.2, fun k h0 hk hp => ?_⟩
      rcases hpar k h0 hp with rfl | rfl
      · exact nlt_of (fun h => h1 ⟨hk, h⟩) h2.2
      · exact klt.irrefl
    · rw [if_neg h2]
      refine .inl ⟨rfl, fun k h0 hk hp => ?_⟩
      rcases hpar k h0 hp with rfl | rfl
      · exact fun h => h1 ⟨hk, h⟩
      · exact fun h => h2 ⟨hk, h⟩

theorem p_least (h : HpA H col c b l pl d) {q g : Nat} {ro : Bool} (hq : H.get q = some (.cells [.pointer (some ⟨b, 0, none⟩)] ro g)) {i : Nat} (hi : i < l.length) (hlen : l.length ≤ 1024) (hd : ∀ i, i < l.length → l.getD i 0 < d.length) :
    PureC prog (XK 10) F_heap_lists_down_1 [vI i, .pointer (some ⟨q, 0, none⟩)] H (vI (leastF l d i)) := by
  refine pure_of _ rfl (fun N => nf_F_heap_lists_down_1 _ _ _ _ _) rfl fun N hN => ?_
  unfold vc_F_heap_lists_down_1
  intro X hX
  have hu := h.up hN
  have hu' := hu
  obtain ⟨a1, n1, c1, a2, n2, c2, a3, n3, c3, k0, k1, k2, k3⟩ := hu'
  have hn1 := k1.1
  have e0 : IntKind.i64.wrap (2 * (i : Int)) = 2 * (i : Int) := i64_in _ (by omega)
  have e1 : IntKind.i64.wrap (2 * (i : Int) + 1) = ((2 * i + 1 : Nat) : Int) := by rw [i64_in _ (by omega)]; omega
  have e2 : IntKind.i64.wrap (2 * (i : Int) + 2) = ((2 * i + 2 : Nat) : Int) := by rw [i64_in _ (by omega)]; omega
  have step : ∀ (best k : Nat), best < l.length → k ≤ 2 * i + 3 → (∀ best', best' < l.length → k < l.length → k ≤ 2 * i + 2 → best' = (if klt d (l.getD k 0) (l.getD best 0) then k else best) → X [vI best', vI ((k + 1 : Nat) : Int)] (H.up N)) →
      ((¬ k < l.length ∨ k = 2 * i + 3) → vI best = vI (leastF l d i)) → X [vI best, vI k] (H.up N) := by
    intro best k hb hk hgo hst
    refine hX _ _ _ fun _ X7 h7 => ?_
    rw [e0, e2]
    refine bcase_dec (fun hle => ?_) fun hle => ⟨hst (.inr (by omega)), Keep.refl _ _⟩
    refine ld_p.mk hq rfl (dr.mk (ld_l.mk k0.get rfl (bcase_dec (fun hlt => kp.mk (h7 _ fun _ => ?_)) fun hlt => ⟨hst (.inl (by omega)), Keep.refl _ _⟩)))
    refine ld_p.mk hq rfl (c_less hu (by omega) hb hd (by decide) ?_)
    simp only [r_b_eq]
    have e3 : IntKind.i64.wrap ((k : Int) + 1) = ((k + 1 : Nat) : Int) := by rw [i64_in _ (by omega)]; omega
    refine bcase_dec (fun hlt => kp.mk ?_) fun hlt => kp.mk ?_
    · rw [e3]; exact hgo k (by omega) (by omega) (by omega) (by rw [if_pos hlt])
    · rw [e3]; exact hgo best hb (by omega) (by omega) (by rw [if_neg hlt])
  rw [e0, e1]
  refine step i (2 * i + 1) hi (by omega) (fun b1 hb1 h1 _ hb1e => ?_) fun hs => ?_
  · refine step b1 (2 * i + 2) hb1 (by omega) (fun b2 hb2 h2 _ hb2e => ?_) fun hs => ?_
    · refine step b2 (2 * i + 3) hb2 (by omega) (fun b3 hb3 h3 h4 _ => by omega) fun hs => ?_
      have : leastF l d i = b2 := by
        unfold leastF
        have x1 : (if 2 * i + 1 < l.length ∧ klt d (l.getD (2 * i + 1) 0) (l.getD i 0) then 2 * i + 1 else i) = b1 := by
          rw [hb1e]; by_cases hk : klt d (l.getD (2 * i + 1) 0) (l.getD i 0) <;> simp [hk, h1]
        simp only [x1]
        rw [hb2e]; by_cases hk : klt d (l.getD (2 * i + 2) 0) (l.getD b1 0) <;> simp [hk, h2]
      rw [this]
    · have h2 : ¬ 2 * i + 2 < l.length := by omega
      have : leastF l d i = b1 := by
        unfold leastF
        have x1 : (if 2 * i + 1 < l.length ∧ klt d (l.getD (2 * i + 1) 0) (l.getD i 0) then 2 * i + 1 else i) = b1 := by
          rw [hb1e]; by_cases hk : klt d (l.getD (2 * i + 1) 0) (l.getD i 0) <;> simp [hk, h1]
        simp only [x1]
        simp [h2]
      rw [this]
  · have h1 : ¬ 2 * i + 1 < l.length := by omega
    have h2 : ¬ 2 * i + 2 < l.length := by omega
    have : leastF l d i = i := by unfold leastF; simp [h1, h2]
    rw [this]
theorem c_least (h : HpA H col c b l pl d) {q g : Nat} {ro : Bool} (hq : H.get q = some (.cells [.pointer (some ⟨b, 0, none⟩)] ro g)) {i : Nat} (hi : i < l.length) (hlen : l.length ≤ 1024) (hd : ∀ i, i < l.length → l.getD i 0 < d.length)
    {Q : Value → AH → Prop} (hQ : Q (vI (leastF l d i)) H) : W prog XP F_heap_lists_down_1 [vI i, .pointer (some ⟨q, 0, none⟩)] H Q := callT (p_least h hq hi hlen hd) TL_nd rfl (by decide) hQ

theorem w_down {room : Nat} {f : Nat → Option Int} (h : HpA H col c b l pl d) (hf : Has room l pl d f) (hr : room ≤ 1024) {i : Nat} (hi : i < l.length) (ho : HO l d fun k => par k = i) (hb : Br l d i) (hlen : l.length ≤ 1024) (hcn : c ≠ []) {Q : Value → AH → Prop}
    (hfree : ∀ b, H.next ≤ b → col b = [])
    (hQ : ∀ H' l' pl', HpA H' col c b l' pl' d → Has room l' pl' d f → l'.length = l.length → (HO l' d fun _ => False) → Stp (Under c) col H col H' → Q (.tuple #[]) H') :
    W prog XP F_heap_lists_down [.pointer (some ⟨b, 0, none⟩), vI i] H Q := by
  refine enterT _ (nf_F_heap_lists_down _ _ _ _ _) rfl ?_
  unfold vc_F_heap_lists_down
  refine nw.new fun q G a => ?_
  have sa : Stp (Under c) col H col G := a.keep.stp _ _
  have hG : HpA G col c b l pl d := h.fr (a.keep.stp (fun _ => False) _) fun _ _ h => h
  have ho' : Bk G col [] q [.pointer (some ⟨b, 0, none⟩)] 0 := ⟨by rw [a.next, a.num]; omega, hfree q (by rw [a.num]; omega), a.at_⟩
  have hdl : ∀ i, i < l.length → l.getD i 0 < d.length := fun i hi => by rw [hf.wf.dl]; exact (hf.wf.at_ i hi).1
  refine ⟨_, _, rfl, c_least hG ho'.get hi hlen hdl ?_⟩
  simp only [r_i_eq]
  intro X hX
  have loop : ∀ (m j : Nat) (G1 : AH) (l1 : List Nat) (pl1 : List Int), l.length - j = m → j < l1.length → HpA G1 col c b l1 pl1 d → Has room l1 pl1 d f → l1.length = l.length → (HO l1 d fun k => par k = j) → Br l1 d j →
      Stp (Under c) col G col G1 → X [vI j, vI (leastF l1 d j)] G1 := by
    intro m
    induction m using Nat.strongRecOn with
    | _ m ih =>
      intro j G1 l1 pl1 hm hj h1 hf1 hl1 ho1 hb1 s1
      refine hX _ _ _ fun _ => ?_
      have hle := leastF_least (l := l1) (d := d) (i := j)
      by_cases hne : leastF l1 d j = j
      · refine bcase_f (by simp [hne]) ?_
        rw [hne] at hle
        exact hQ _ _ _ h1 hf1 hl1 (down_stop ho1 hle) (sa.trans s1)
      · refine bcase_t (by simp; omega) ?_
        obtain ⟨q1, q2, q3, q4⟩ := down_step ho1 hb1 hle hne
        have k1 := ho'.fr s1 (fun e => by obtain ⟨t, e⟩ := e; simp at e; exact hcn e.2)
        refine ld_p.mk k1.get rfl (w_swap h1 hj q4 (fun i hi => by rw [hf1.wf.pll]; exact (hf1.wf.at_ i hi).1) fun G2 h2 s2 => ?_)
        simp only [r_T_eq]
        have k2 := k1.fr s2 (fun e => by obtain ⟨t, e⟩ := e; simp at e; exact hcn e.2)
        have hf2 := hf1.swap hj q4
        refine ⟨_, _, rfl, c_least h2 k2.get (by simpa using q4) (by simpa using (by omega)) (fun i hi => by rw [hf2.wf.dl]; exact (hf2.wf.at_ i hi).1) ?_⟩
        simp only [r_i_eq]
        exact kp.mk (ih (l.length - leastF l1 d j) (by omega) _ G2 _ _ rfl (by simpa using q4) h2 hf2 (by simpa using hl1) q1 q2 (s1.trans s2))
  exact loop _ i G l pl rfl hi hG hf rfl ho hb (Stp.refl _ _ _)
end
end Go.Ez

/- The heap of a partition's tasks: its calls, told without its lists. -/
set_option linter.all false
namespace Go.Ez
open Go.Proofs Go.IntWalk Hp

/-- A heap with a room: who is in, and when it is due. -/
def HpR (H : AH) (col : Col) (c : List Nat) (b room : Nat) (f : Nat → Option Int) : Prop :=
  ∃ l pl d, HpA H col c b l pl d ∧ Has room l pl d f ∧ (HO l d fun _ => False) ∧ room ≤ 1024
/-- New blocks have no colour yet. -/
def Fresh (col : Col) (H : AH) : Prop := ∀ b, H.next ≤ b → col b = []
theorem Fresh.up {col : Col} {H : AH} (h : Fresh col H) {N : Nat} (hN : H.next ≤ N) : Fresh col (H.up N) := fun b hb => h b (Nat.le_trans hN hb)
section
variable {H H' : AH} {col col' : Col} {c : List Nat} {b room : Nat} {f : Nat → Option Int}
theorem HpR.up (h : HpR H col c b room f) {N : Nat} (hN : H.next ≤ N) : HpR (H.up N) col c b room f := let ⟨l, pl, d, h1, h2⟩ := h; ⟨l, pl, d, h1.up hN, h2⟩
theorem HpR.fr (h : HpR H col c b room f) {D : List Nat → Prop} (s : Stp D col H col' H') (hd : ∀ x, Under c x → ¬ D x) : HpR H' col' c b room f := let ⟨l, pl, d, h1, h2⟩ := h; ⟨l, pl, d, h1.fr s hd, h2⟩
theorem HpR.lt (h : HpR H col c b room f) : b < H.next := let ⟨_, _, _, ⟨_, _, _, _, _, _, _, _, _, h0, _⟩, _⟩ := h; h0.lt

theorem c_len (h : HpR H col c b room f) : ∃ m : Nat, (m = 0 ↔ ∀ x, f x = none) ∧ m ≤ room ∧ PureC prog (XK 9) F_heap_Heap_Len [.pointer (some ⟨b, 0, none⟩)] H (vI m) := by
  obtain ⟨l, pl, d, h1, h2, h3, h4⟩ := h
  exact ⟨l.length, ⟨fun e => h2.empty.mp (List.eq_nil_of_length_eq_zero e), fun e => by rw [h2.empty.mpr e]; rfl⟩, h2.len_le, p_hlen h1⟩
theorem c_first (h : HpR H col c b room f) : ((∀ x, f x = none) ∧ PureC prog (XK 8) F_heap_Heap_First [.pointer (some ⟨b, 0, none⟩)] H (.tuple #[vI 0, vI 0, .bool false])) ∨
    ∃ (x : Nat) (n : Int), f x = some n ∧ (∀ y m, f y = some m → n < m ∨ (n = m ∧ x ≤ y)) ∧ PureC prog (XK 8) F_heap_Heap_First [.pointer (some ⟨b, 0, none⟩)] H (.tuple #[vI x, vI n, .bool true]) := by
  obtain ⟨l, pl, d, h1, h2, h3, h4⟩ := h
  have hd : ∀ i, i < l.length → l.getD i 0 < d.length := fun i hi => by rw [h2.wf.dl]; exact (h2.wf.at_ i hi).1
  have hp := p_hfirst h1 hd
  by_cases hl : l.length = 0
  · rw [if_pos hl] at hp
    exact .inl ⟨h2.empty.mp (List.eq_nil_of_length_eq_zero hl), hp⟩
  · rw [if_neg hl] at hp
    refine .inr ⟨l.getD 0 0, d.getD (l.getD 0 0) 0, h2.at0 (by omega), fun y m hy => ?_, hp⟩
    obtain ⟨k, hk, e, hm, _⟩ := h2.some_ hy
    have := root h3 k hk
    rw [e] at this
    unfold klt at this
    omega
theorem c_isin (h : HpR H col c b room f) {x : Nat} (hx : x < room) {j : Nat} (hj : 7 < j) {Q : Value → AH → Prop} (hQ : Q (.tuple #[.bool (f x).isSome, vI 0]) H) : W prog (XK j) F_heap_Heap_in [.pointer (some ⟨b, 0, none⟩), vI x] H Q := by
  obtain ⟨l, pl, d, h1, h2, h3, h4⟩ := h
  refine c_in h1 (by rw [h2.wf.pll]; exact hx) hj ?_
  have : (pl.getD x 0 != -1) = (f x).isSome := by
    cases hf : f x with
    | none => rw [h2.none_ hx hf]; rfl
    | some n =>
      obtain ⟨k, _, _, _, _, e⟩ := h2.some_ hf
      rw [e]
      have : ((k : Int) != -1) = true := by rw [bne_iff_ne]; omega
      rw [this]; rfl
  rw [this]; exact hQ

theorem w_hchange (h : HpR H col c b room f) (hfr : Fresh col H) (hcn : c ≠ []) {x : Nat} {m n : Int} (hf : f x = some m) {Q : Value → AH → Prop}
    (hQ : ∀ H', HpR H' col c b room (fun y => if y = x then some n else f y) → Stp (Under c) col H col H' → Q (vI 0) H') : W prog XP F_heap_Heap_Change [.pointer (some ⟨b, 0, none⟩), vI x, vI n] H Q := by
  refine enterT _ (nf_F_heap_Heap_Change _ _ _ _ _ _) rfl ?_
  unfold vc_F_heap_Heap_Change
  have h' := h
  obtain ⟨l, pl, d, h1, h2, h3, h4⟩ := h'
  obtain ⟨i, hi, hix, hdx, hxr, hpx⟩ := h2.some_ hf
  refine c_isin h hxr (by decide) ?_
  rw [hf]
  have hll := h2.len_le
  have hpl := h2.wf.pll
  simp only [r_T_b_i_eq, Option.isSome_some, Bool.not_true, bcase_false]
  refine bcase_f (by decide) ?_
  obtain ⟨a1, n1, c1, a2, n2, c2, a3, n3, c3, k0, k1, k2, k3⟩ := h1
  refine dr.mk (ld_l.mk k0.get rfl (k3.wrI rfl (by rw [h2.wf.dl]; exact hxr) fun G1 q1 s1 => ?_))
  have g1 : HpA G1 col c b l pl (d.set x n) := ⟨a1, n1, c1, a2, n2, c2, a3, n3, c3, k0.fr s1 (by simp), k1.fr s1 (by simp), k2.fr s1 (by simp), q1⟩
  have hc := h2.change (n := n) hf
  refine dr.mk (dr.mk (ld_l.mk (k0.fr s1 (by simp)).get rfl ((k2.fr s1 (by simp)).rdI rfl (get_some (by omega) 0) ?_)))
  rw [hpx]
  -- the order, but for where it is
  have hoo : ∀ k, 0 < k → k < l.length → k ≠ i → par k ≠ i → ¬ klt (d.set x n) (l.getD k 0) (l.getD (par k) 0) := fun k hk0 hk hk1 hk2 => by
    have := h3 k hk0 hk id
    have e1 : (d.set x n).getD (l.getD k 0) 0 = d.getD (l.getD k 0) 0 := by rw [set_getD, if_neg (fun e => hk1 (h2.wf.inj hk hi (by rw [e.1, hix])))]
    have hpk : par k < l.length := by simp only [par]; omega
    have e2 : (d.set x n).getD (l.getD (par k) 0) 0 = d.getD (l.getD (par k) 0) 0 := by rw [set_getD, if_neg (fun e => hk2 (h2.wf.inj hpk hi (by rw [e.1, hix])))]
    unfold klt at this ⊢
    rw [e1, e2]; exact this
  have hbr : Br l (d.set x n) i := fun hi0 k hk0 hk hkp => by
    have := Br.of h3 hi hi0 k hk0 hk hkp
    have hki : k ≠ i := by intro e; rw [e] at hkp; simp only [par] at hkp; omega
    have hpi : par i ≠ i := by simp only [par]; omega
    have hpl' : par i < l.length := by simp only [par]; omega
    have e1 : (d.set x n).getD (l.getD k 0) 0 = d.getD (l.getD k 0) 0 := by rw [set_getD, if_neg (fun e => hki (h2.wf.inj hk hi (by rw [e.1, hix])))]
    have e2 : (d.set x n).getD (l.getD (par i) 0) 0 = d.getD (l.getD (par i) 0) 0 := by rw [set_getD, if_neg (fun e => hpi (h2.wf.inj hpl' hi (by rw [e.1, hix])))]
    unfold klt at this ⊢
    rw [e1, e2]; exact this
  refine w_up g1 hc h4 (m := false) hi (fun k hk0 hk he => hoo k hk0 hk (fun e => he (.inl e)) (fun e => he (.inr ⟨rfl, e⟩))) hbr (by omega) fun G2 l2 pl2 g2 hf2 hl2 hp2 _ _ s2 => ?_
  obtain ⟨i2, hi2, e2, ho2, hb2⟩ := hp2
  simp only [r_T_eq]
  have g2' := g2
  obtain ⟨a1', n1', c1', a2', n2', c2', a3', n3', c3', k0', k1', k2', k3'⟩ := g2'
  have hpx2 : pl2.getD x 0 = i2 := by
    have := (hf2.wf.at_ i2 hi2).2
    rw [e2, hix] at this; exact this
  refine dr.mk (dr.mk (ld_l.mk k0'.get rfl (k2'.rdI rfl (get_some (by have := hf2.wf.pll; omega) 0) ?_)))
  rw [hpx2]
  have s02 : Stp (Under c) col H col G2 := s1.under.trans s2
  refine w_down g2 hf2 h4 hi2 ho2 hb2 (by omega) hcn (fun b hb => hfr b (by have := s02.next; omega)) fun G3 l3 pl3 g3 hf3 hl3 ho3 s3 => ?_
  simp only [r_T_eq]
  exact hQ G3 ⟨l3, pl3, _, g3, hf3, ho3, h4⟩ (s02.trans s3)

theorem w_hremove (h : HpR H col c b room f) (hfr : Fresh col H) (hcn : c ≠ []) {x : Nat} {m : Int} (hf : f x = some m) {Q : Value → AH → Prop}
    (hQ : ∀ H', HpR H' col c b room (fun y => if y = x then none else f y) → Stp (Under c) col H col H' → Q (.bool true) H') : W prog XP F_heap_Heap_Remove [.pointer (some ⟨b, 0, none⟩), vI x] H Q := by
  refine enterT _ (nf_F_heap_Heap_Remove _ _ _ _ _) rfl ?_
  unfold vc_F_heap_Heap_Remove
  have h' := h
  obtain ⟨l, pl, d, h1, h2, h3, h4⟩ := h'
  obtain ⟨i, hi, hix, hdx, hxr, hpx⟩ := h2.some_ hf
  refine c_isin h hxr (by decide) ?_
  rw [hf]
  have hll := h2.len_le
  have hpl := h2.wf.pll
  simp only [r_T_b_i_eq, Option.isSome_some, Bool.not_true, bcase_false]
  have h1' := h1
  obtain ⟨a1, n1, c1, a2, n2, c2, a3, n3, c3, k0, k1, k2, k3⟩ := h1'
  have hn1 := k1.1
  have el : IntKind.i64.wrap ((n1 : Int) - 1) = ((l.length - 1 : Nat) : Int) := by rw [i64_in _ (by omega)]; omega
  refine dr.mk (ld_l.mk k0.get rfl (k2.rdI rfl (get_some (by omega) 0) (dr.mk (ld_l.mk k0.get rfl (dr.mk ?_)))))
  rw [hpx, el]
  have hlast : l.length - 1 < l.length := by omega
  refine w_swap h1 hi hlast (fun i hi => by rw [h2.wf.pll]; exact (h2.wf.at_ i hi).1) fun G1 g1 s1 => ?_
  simp only [r_T_eq]
  have hs := h2.swap hi hlast
  have g1' := g1
  obtain ⟨a1', n1', c1', a2', n2', c2', a3', n3', c3', k0', k1', k2', k3'⟩ := g1'
  have hn1' := k1'.1
  rw [sw_len] at hn1'
  refine dr.mk (ld_l.mk k0'.get rfl (k1'.sub eN_len (lo := 0) (hi := l.length - 1) (by omega) (by omega) ?_ rfl fun a4 c4 k4 => dr.mk ?_))
  · have h6 : n1' ≤ c1' := by
      rcases k1'.2.of with ⟨_, h, _⟩ | ⟨_, _, _, _, _, _, _, h, _⟩
      · omega
      · exact h
    simp only [bnd]
    rw [if_pos (by omega)]; simp
  · refine st.do k0'.get rfl rfl (by simp) fun G2 w2 => ?_
    obtain ⟨b2, s2⟩ := k0'.wrote w2
    have q1 := k4.fr s2 (by simp)
    have q2 := k2'.fr s2 (by simp)
    have q3 := k3'.fr s2 (by simp)
    refine dr.mk (ld_l.mk b2.get rfl (q2.wrI rfl (by simp; omega) fun G3 q4 s3 => ?_))
    have hlx : (sw l i (l.length - 1)).getD ((sw l i (l.length - 1)).length - 1) 0 = x := by rw [sw_len, sw_get hi hlast, if_pos rfl]; exact hix
    have hp := hs.pop (x := x) (by rw [sw_len]; omega) hlx
    rw [sw_len] at hp
    have q1' : SlE eN 1 G3 col (0 :: c) a4 (l.length - 1 - 0) c4 ((sw l i (l.length - 1)).take (l.length - 1)) := by simpa using q1.fr s3 (by simp)
    have g3 : HpA G3 col c b ((sw l i (l.length - 1)).take (l.length - 1)) (((pl.set (l.getD (l.length - 1) 0) i).set (l.getD i 0) (l.length - 1 : Nat)).set x (-1)) d :=
      ⟨a4, _, c4, a2', n2', c2', a3', n3', c3', by simpa [setMany, cellsOf] using b2.fr s3 (by simp), q1', q4, q3.fr s3 (by simp)⟩
    have s03 : Stp (Under c) col H col G3 := (s1.trans s2.under0).trans s3.under
    have hpL : ∀ j, j < l.length - 1 → ((sw l i (l.length - 1)).take (l.length - 1)).getD j 0 = (sw l i (l.length - 1)).getD j 0 := fun j hj => by
      rw [List.getD_eq_getElem?_getD, List.getD_eq_getElem?_getD, List.getElem?_take, if_pos hj]
    have hlen' : ((sw l i (l.length - 1)).take (l.length - 1)).length = l.length - 1 := by simp
    -- where the last one stands now
    have hval : ∀ j, j < l.length - 1 → ((sw l i (l.length - 1)).take (l.length - 1)).getD j 0 = if j = i then l.getD (l.length - 1) 0 else l.getD j 0 := fun j hj => by
      rw [hpL j hj, sw_get hi hlast, if_neg (by omega)]
    refine bcase_dec (fun hlt => dr.mk ?_) fun hlt => ?_
    · have hi' : i < ((sw l i (l.length - 1)).take (l.length - 1)).length := by rw [hlen']; omega
      have hoo : HO ((sw l i (l.length - 1)).take (l.length - 1)) d fun k => k = i ∨ (false = false ∧ par k = i) := fun k hk0 hk he => by
        rw [hlen'] at hk
        have hpk : par k < l.length - 1 := by simp only [par]; omega
        rw [hval k hk, hval _ hpk, if_neg (fun e => he (.inl e)), if_neg (fun e => he (.inr ⟨rfl, e⟩))]
        exact h3 k hk0 (by omega) id
      have hbr : Br ((sw l i (l.length - 1)).take (l.length - 1)) d i := fun hi0 k hk0 hk hkp => by
        rw [hlen'] at hk
        have hpi : par i < l.length - 1 := by simp only [par]; omega
        have hki : k ≠ i := by intro e; rw [e] at hkp; simp only [par] at hkp; omega
        have hpn : par i ≠ i := by simp only [par]; omega
        rw [hval k hk, hval _ hpi, if_neg hki, if_neg hpn]
        exact Br.of h3 hi hi0 k hk0 (by omega) hkp
      refine w_up g3 hp h4 (m := false) hi' hoo hbr (by omega) fun G4 l4 pl4 g4 hf4 hl4 _ ho4 hb4 s4 => ?_
      simp only [r_T_eq]
      have s04 := s03.trans s4
      refine dr.mk (w_down g4 hf4 h4 (by omega) ho4 hb4 (by omega) hcn (fun b hb => hfr b (by have := s04.next; omega)) fun G5 l5 pl5 g5 hf5 hl5 ho5 s5 => ?_)
      simp only [r_T_eq]
      exact hQ G5 ⟨l5, pl5, d, g5, hf5, ho5, h4⟩ (s04.trans s5)
    · have hie : i = l.length - 1 := by omega
      refine hQ G3 ⟨_, _, d, g3, hp, fun k hk0 hk _ => ?_, h4⟩ s03
      rw [hlen'] at hk
      have hpk : par k < l.length - 1 := by simp only [par]; omega
      rw [hval k hk, hval _ hpk, if_neg (by omega), if_neg (by omega)]
      exact h3 k hk0 (by omega) id

theorem w_hput (h : HpR H col c b room f) (hfr : Fresh col H) {x : Nat} {n : Int} (hx : x < room) (hf : f x = none) {Q : Value → AH → Prop}
    (hQ : ∀ H' col', HpR H' col' c b room (fun y => if y = x then some n else f y) → Stp (Under c) col H col' H' → Q (vI 0) H') : W prog XP F_heap_Heap_Put [.pointer (some ⟨b, 0, none⟩), vI x, vI n] H Q := by
  refine enterT _ (nf_F_heap_Heap_Put _ _ _ _ _ _) rfl ?_
  unfold vc_F_heap_Heap_Put
  have h' := h
  obtain ⟨l, pl, d, h1, h2, h3, h4⟩ := h'
  refine c_isin h hx (by decide) ?_
  rw [hf]
  have hll := h2.len_le
  have hpl := h2.wf.pll
  have hdl := h2.wf.dl
  have hlt : l.length < 1024 := by
    -- x is not in
    have := (h2.put (n := n) hx hf).len_le
    simp at this; omega
  simp only [r_T_b_i_eq, Option.isSome_none, bcase_false]
  refine bcase_f (by decide) ?_
  obtain ⟨a1, n1, c1, a2, n2, c2, a3, n3, c3, k0, k1, k2, k3⟩ := h1
  have hn1 := k1.1
  refine dr.mk (ld_l.mk k0.get rfl (k3.wrI rfl (by omega) fun G1 q1 s1 => dr.mk (ld_l.mk (k0.fr s1 (by simp)).get rfl (nw.new fun t G2 a => ?_))))
  have s2 : Stp (fun _ => False) col G1 col G2 := a.keep.stp _ _
  have p0 := (k0.fr s1 (by simp)).fr s2 id
  have p1 := (k1.fr s1 (by simp)).fr s2 id
  have p2 := (k2.fr s1 (by simp)).fr s2 id
  have p3 := q1.fr s2 id
  refine p1.push (y := x) eN_len eN_cell a.at_ (by decide) (by decide) (by omega) (by omega) fun a4 c4 G3 col3 p4 s3 _ => dr.mk ?_
  refine st.do (p0.fr s3 (by simp)).get rfl rfl (by simp) fun G4 w4 => ?_
  obtain ⟨b4, s4⟩ := (p0.fr s3 (by simp)).wrote w4
  have r1 := p4.fr s4 (by simp)
  have r2 := (p2.fr s3 (by simp)).fr s4 (by simp)
  have r3 := (p3.fr s3 (by simp)).fr s4 (by simp)
  have g4 : HpA G4 col3 c b (l ++ [x]) pl (d.set x n) := ⟨_, _, _, a2, n2, c2, a3, n3, c3, by simpa [setMany, cellsOf] using b4, r1, r2, r3⟩
  have e1 : IntKind.i64.wrap (((n1 + 1 : Nat) : Int) - 1) = ((l.length : Nat) : Int) := by rw [i64_in _ (by omega)]; omega
  refine dr.mk (dr.mk (ld_l.mk b4.get rfl ?_))
  rw [e1]
  refine w_hset g4 (by simp) (by omega) fun G5 g5 s5 => ?_
  simp only [r_T_eq]
  have eset : (l ++ [x]).set l.length x = l ++ [x] := by
    apply List.ext_getElem?
    intro j
    rw [List.getElem?_set]
    by_cases hj : l.length = j
    · subst hj; simp
    · simp [hj]
  rw [eset] at g5
  have hp := h2.put (n := n) hx hf
  have g5' := g5
  obtain ⟨a1', n1', c1', a2', n2', c2', a3', n3', c3', k0', k1', k2', k3'⟩ := g5'
  have hn1' := k1'.1
  simp only [List.length_append, List.length_singleton] at hn1'
  have e2 : IntKind.i64.wrap ((n1' : Int) - 1) = ((l.length : Nat) : Int) := by rw [i64_in _ (by omega)]; omega
  refine dr.mk (dr.mk (ld_l.mk k0'.get rfl ?_))
  rw [e2]
  have gl : ∀ j, j < l.length → (l ++ [x]).getD j 0 = l.getD j 0 := fun j hj => by simp [List.getD_eq_getElem?_getD, List.getElem?_append_left hj]
  have hne : ∀ j, j < l.length → l.getD j 0 ≠ x := fun j hj e => by
    have := h2.at0 hj
    rw [e, hf] at this; cases this
  have hoo : HO (l ++ [x]) (d.set x n) fun k => k = l.length ∨ (false = false ∧ par k = l.length) := fun k hk0 hk he => by
    have hkl : k < l.length := by
      simp only [List.length_append, List.length_singleton] at hk
      have : k ≠ l.length := fun e => he (.inl e)
      omega
    have hpk : par k < l.length := by simp only [par]; omega
    rw [gl k hkl, gl _ hpk]
    have := h3 k hk0 hkl id
    have e1 : (d.set x n).getD (l.getD k 0) 0 = d.getD (l.getD k 0) 0 := by rw [set_getD, if_neg (fun e => hne k hkl e.1)]
    have e2 : (d.set x n).getD (l.getD (par k) 0) 0 = d.getD (l.getD (par k) 0) 0 := by rw [set_getD, if_neg (fun e => hne _ hpk e.1)]
    unfold klt at this ⊢
    rw [e1, e2]; exact this
  have hbr : Br (l ++ [x]) (d.set x n) l.length := fun hi0 k hk0 hk hkp => by
    simp only [List.length_append, List.length_singleton] at hk
    simp only [par] at hkp; omega
  have s05 : Stp (Under c) col H col3 G5 := (((s1.under.trans (s2.mono fun _ h => h.elim)).trans s3.under).trans s4.under0).trans s5
  refine w_up g5 hp h4 (m := false) (by simp) hoo hbr (by simp; omega) fun G6 l6 pl6 g6 hf6 hl6 _ ho6 _ s6 => ?_
  simp only [r_T_eq]
  simp only [List.length_append, List.length_singleton] at hl6
  refine hQ G6 col3 ⟨l6, pl6, _, g6, hf6, fun k hk0 hk _ => ho6 k hk0 hk fun e => ?_, h4⟩ (s05.trans s6)
  simp only [par] at e; omega

theorem w_hnew {room : Nat} (hr : room ≤ 1024) (hfc : ∀ b, b < H.next → ¬ Under c (col b)) {Q : Value → AH → Prop}
    (hQ : ∀ b H' col', HpR H' col' c b room (fun _ => none) → Stp (fun _ => False) col H col' H' → Q (.pointer (some ⟨b, 0, none⟩)) H') : W prog XP F_heap_New [vI room] H Q := by
  refine enterT _ (nf_F_heap_New _ _ _ _) rfl ?_
  unfold vc_F_heap_New
  have e : (if (1024 : Int) < (if (0 : Int) > (room : Int) then 0 else (room : Int)) then 1024 else (if (0 : Int) > (room : Int) then 0 else (room : Int))) = (room : Int) := by
    rw [if_neg (show ¬ (0 : Int) > (room : Int) by omega), if_neg (by omega)]
  rw [e]
  have em : mkS 8 [vI 0] (vI room) (vI room) = some (.cells ((List.replicate room (0 : Int)).flatMap eI) false 0, room, room) := by
    simp only [mkS]
    rw [if_pos ⟨by omega, by omega, by omega, by omega⟩]
    have : zerosA [vI 0] ((room : Int)).toNat = (List.replicate room (0 : Int)).flatMap eI := by
      rw [Int.toNat_natCast, zerosA, flat_eI, List.map_replicate]
      induction room with
      | zero => rfl
      | succ k ih => simp [List.replicate_succ]
    rw [this, Int.toNat_natCast]
  refine ⟨_, _, _, em, nw.new fun b1 H1 w1 => ⟨_, _, _, em, nw.new fun b2 H2 w2 => nw.new fun b3 H3 w3 => ?_⟩⟩
  obtain ⟨k1, s1⟩ := w1.bk (fun _ => False) col (1 :: c)
  obtain ⟨k2, s2⟩ := w2.bk (fun _ => False) (setC col b1 (1 :: c)) (2 :: c)
  obtain ⟨k3, s3⟩ := w3.bk (fun _ => False) (setC (setC col b1 (1 :: c)) b2 (2 :: c)) c
  have p1 := (k1.fr s2 id).fr s3 id
  have p2 := k2.fr s3 id
  have mk : ∀ {G : AH} {cl : Col} {c' : List Nat} {q : Nat} {l : List Int}, Bk G cl c' q (l.flatMap eI) 0 → SlE eI 1 G cl c' (some ⟨q, 0, none⟩) l.length l.length l := fun hb =>
    ⟨rfl, by rw [flat_len eI_len], .inr ⟨_, 0, _, 0, rfl, hb, .inl rfl, Nat.le_refl _, by rw [flat_len eI_len]; omega, by rw [List.drop_zero, List.take_of_length_le (by rw [flat_len eI_len]; omega)]⟩⟩
  have m1 := mk p1
  have m2 := mk p2
  rw [List.length_replicate] at m1 m2
  refine dr.mk (ld_l.mk k3.get rfl ?_)
  intro X hX
  let col3 : Col := setC (setC (setC col b1 (1 :: c)) b2 (2 :: c)) b3 c
  have loop := loop_up (X := X) (fun k (_ : Unit) => [vI k]) (fun k _ G => ∃ pl : List Int, Bk G col3 c b3 [.slice none 0 0, .slice (some ⟨b1, 0, none⟩) room room, .slice (some ⟨b2, 0, none⟩) room room, .bool true] 0 ∧
      SlE eI 1 G col3 (1 :: c) (some ⟨b1, 0, none⟩) room room pl ∧ SlE eI 1 G col3 (2 :: c) (some ⟨b2, 0, none⟩) room room (List.replicate room 0) ∧ (∀ x, x < k → pl.getD x 0 = -1) ∧ Stp (fun _ => False) col H col3 G) room ?_ ?_
  · exact loop 0 () H3 (by omega) ⟨List.replicate room 0, k3, m1, m2, fun x hx => absurd hx (Nat.not_lt_zero x), (s1.trans s2).trans s3⟩
  · rintro _ G ⟨pl, g0, g1, g2, g3, gs⟩
    refine hX _ _ fun _ => bcase_dec (fun h => absurd h (by omega)) fun _ => ?_
    have hl := g1.1
    refine hQ b3 G col3 ⟨[], pl, List.replicate room 0, ⟨none, 0, 0, _, _, _, _, _, _, g0, SlE.nil, g1, g2⟩, ⟨⟨hl.symm, by simp, fun i hi => absurd hi (Nat.not_lt_zero i), fun x hx => .inl (g3 x hx)⟩, fun x => ?_⟩, fun k _ hk => absurd hk (Nat.not_lt_zero k), hr⟩ gs
    rw [if_neg]; rintro ⟨j, hj, _⟩; exact absurd hj (Nat.not_lt_zero j)
  · rintro k _ G hk ⟨pl, g0, g1, g2, g3, gs⟩ go
    refine hX _ _ fun _ => bcase_dec (fun _ => ?_) fun h => absurd (by omega) h
    have hl := g1.1
    refine dr.mk (ld_l.mk g0.get rfl (g1.wrI rfl (by omega) fun G1 q1 t1 => kp.mk ?_))
    have e1 : IntKind.i64.wrap ((k : Int) + 1) = ((k + 1 : Nat) : Int) := by rw [i64_in _ (by omega)]; omega
    rw [e1]
    -- only the block that is new is written
    have hb1 : H.next ≤ b1 := by rw [w1.num]; exact Nat.le_refl _
    refine go () G1 ⟨pl.set k (-1), g0.fr t1 (by simp), q1, g2.fr t1 (by simp), fun x hx => ?_, ?_⟩
    · rw [set_getD]
      by_cases e : x = k
      · rw [if_pos ⟨e, by omega⟩]
      · rw [if_neg (fun h => e h.1)]; exact g3 x (by omega)
    · refine ⟨Nat.le_trans gs.next t1.next, fun b hb => gs.cl b hb, fun b hb _ => ?_, fun hf b hb => gs.fresh hf b (Nat.le_trans t1.next hb)⟩
      rw [← gs.get b hb id]
      refine t1.get b (Nat.lt_of_lt_of_le hb gs.next) fun e => ?_
      have : col3 b = col b := gs.cl b hb
      exact hfc b hb (by rw [← this, e]; exact ⟨[1], rfl⟩)
end
end Go.Ez
