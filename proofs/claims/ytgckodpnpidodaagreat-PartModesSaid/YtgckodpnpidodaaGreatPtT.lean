import Derived.Test.YtgckodpnpidodaaGreatPtX
import Derived.Test.YtgckodpnpidodaaGreatPtC
import Derived.Test.YtgckodpnpidodaaGreatEzMore
set_option linter.all false
/- A partition's table of jobs: the functions that look. -/
set_option linter.all false
namespace Go.Ez
open Go.Proofs Go.IntWalk

section
variable {H H' : AH} {col col' : Col} {c : List Nat}
def JobR (H : AH) (col : Col) (c : List Nat) (q : Nat) (j : JobC) : Prop :=
  ∃ a n cap, Bk H col c q [vI j.task, vI j.arrived, vI j.work, vI j.done, .slice a n cap] 0 ∧ SlE eOp 3 H col (0 :: c) a n cap j.ops
theorem JobR.fr {q : Nat} {j : JobC} (h : JobR H col c q j) {D : List Nat → Prop} (s : Stp D col H col' H') (hd : ∀ x, Under c x → ¬ D x) : JobR H' col' c q j := by
  obtain ⟨a, n, cap, h1, h2⟩ := h
  exact ⟨a, n, cap, h1.fr s (hd _ (Under.refl _)), h2.fr s (hd _ ⟨[0], rfl⟩)⟩
theorem JobR.up {q N : Nat} {j : JobC} (h : JobR H col c q j) (hN : H.next ≤ N) : JobR (H.up N) col c q j := by
  obtain ⟨a, n, cap, h1, h2⟩ := h
  exact ⟨a, n, cap, h1.up hN, h2.up hN⟩
def SlotJ (H : AH) (col : Col) (c : List Nat) : Option Nat → Option JobC → Prop
  | none, none => True
  | some q, some j => JobR H col c q j
  | _, _ => False
theorem SlotJ.fr {q : Option Nat} {j : Option JobC} (h : SlotJ H col c q j) {D : List Nat → Prop} (s : Stp D col H col' H') (hd : ∀ x, Under c x → ¬ D x) : SlotJ H' col' c q j := by
  cases q <;> cases j <;> simp only [SlotJ] at h ⊢
  exact JobR.fr h s hd
theorem SlotJ.up {q : Option Nat} {j : Option JobC} {N : Nat} (h : SlotJ H col c q j) (hN : H.next ≤ N) : SlotJ (H.up N) col c q j := by
  cases q <;> cases j <;> simp only [SlotJ] at h ⊢
  exact JobR.up h hN
/-- The slots, and their jobs. -/
def SlotsR (H : AH) (col : Col) (c : List Nat) (raw : List RawC) (sl : List SlotC) : Prop :=
  raw.length = sl.length ∧ ∀ k s, sl[k]? = some s → ∃ q, raw[k]? = some (s.1, q) ∧ SlotJ H col (k :: 2 :: c) q s.2
theorem SlotsR.fr {raw : List RawC} {sl : List SlotC} (h : SlotsR H col c raw sl) {D : List Nat → Prop} (s : Stp D col H col' H') (hd : ∀ x, Under (2 :: c) x → ¬ D x) : SlotsR H' col' c raw sl :=
  ⟨h.1, fun k s' hs => let ⟨q, h1, h2⟩ := h.2 k s' hs; ⟨q, h1, h2.fr s fun x hx => hd x hx.cons⟩⟩
theorem SlotsR.up {raw : List RawC} {sl : List SlotC} {N : Nat} (h : SlotsR H col c raw sl) (hN : H.next ≤ N) : SlotsR (H.up N) col c raw sl :=
  ⟨h.1, fun k s' hs => let ⟨q, h1, h2⟩ := h.2 k s' hs; ⟨q, h1, h2.up hN⟩⟩
/-- A table: its parts. -/
structure TabO (H : AH) (col : Col) (c : List Nat) (p : Nat) (raw : List RawC) (sl : List SlotC) (high : Bool) (f : Nat → Option Int) (sa : Option Addr) (sn sc bh : Nat) : Prop where
  bk : Bk H col c p [.slice sa sn sc, .pointer (some ⟨bh, 0, none⟩), .bool high] 0
  sls : SlE eSlot 7 H col (0 :: c) sa sn sc raw
  hp : HpR H col (1 :: c) bh 6 f
  jobs : SlotsR H col c raw sl
  ok : TabOk sl
theorem TabO.fr {p : Nat} {raw : List RawC} {sl : List SlotC} {high : Bool} {f : Nat → Option Int} {sa : Option Addr} {sn sc bh : Nat} (h : TabO H col c p raw sl high f sa sn sc bh) {D : List Nat → Prop} (s : Stp D col H col' H') (hd : ∀ x, Under c x → ¬ D x) :
    TabO H' col' c p raw sl high f sa sn sc bh :=
  ⟨h.bk.fr s (hd _ (Under.refl _)), h.sls.fr s (hd _ ⟨[0], rfl⟩), h.hp.fr s fun x hx => hd x hx.cons, h.jobs.fr s fun x hx => hd x hx.cons, h.ok⟩
theorem TabO.up {p N : Nat} {raw : List RawC} {sl : List SlotC} {high : Bool} {f : Nat → Option Int} {sa : Option Addr} {sn sc bh : Nat} (h : TabO H col c p raw sl high f sa sn sc bh) (hN : H.next ≤ N) :
    TabO (H.up N) col c p raw sl high f sa sn sc bh := ⟨h.bk.up hN, h.sls.up hN, h.hp.up hN, h.jobs.up hN, h.ok⟩
/-- A table; of each job, by which mode it is due. -/
def TabM (H : AH) (col : Col) (c : List Nat) (p : Nat) (sl : List SlotC) (high : Bool) (md : Nat → Bool) : Prop :=
  ∃ raw f sa sn sc bh, TabO H col c p raw sl high f sa sn sc bh ∧ ∀ k, f k = dueM md sl k
abbrev TabR (H : AH) (col : Col) (c : List Nat) (p : Nat) (sl : List SlotC) (high : Bool) : Prop := TabM H col c p sl high fun _ => high
theorem TabM.fr {p : Nat} {sl : List SlotC} {high : Bool} {md : Nat → Bool} (h : TabM H col c p sl high md) {D : List Nat → Prop} (s : Stp D col H col' H') (hd : ∀ x, Under c x → ¬ D x) : TabM H' col' c p sl high md := by
  obtain ⟨raw, f, sa, sn, sc, bh, h1, h2⟩ := h
  exact ⟨raw, f, sa, sn, sc, bh, h1.fr s hd, h2⟩
theorem TabM.up {p N : Nat} {sl : List SlotC} {high : Bool} {md : Nat → Bool} (h : TabM H col c p sl high md) (hN : H.next ≤ N) : TabM (H.up N) col c p sl high md := by
  obtain ⟨raw, f, sa, sn, sc, bh, h1, h2⟩ := h
  exact ⟨raw, f, sa, sn, sc, bh, h1.up hN, h2⟩
theorem TabM.lt {p : Nat} {sl : List SlotC} {high : Bool} {md : Nat → Bool} (h : TabM H col c p sl high md) : p < H.next := let ⟨_, _, _, _, _, _, h1, _⟩ := h; h1.bk.lt

variable {p : Nat} {raw : List RawC} {sl : List SlotC} {high : Bool} {f : Nat → Option Int} {sa : Option Addr} {sn sc bh : Nat}
theorem TabO.len (h : TabO H col c p raw sl high f sa sn sc bh) : sn = sl.length := by rw [h.sls.1, h.jobs.1]
theorem p_tnone (h : TabO H col c p raw sl high f sa sn sc bh) : PureC prog (XK 27) F_tasks_Table_none [.pointer (some ⟨p, 0, none⟩)] H (.bool false) := by
  refine pure_of _ rfl (fun N => nf_F_tasks_Table_none _ _ _ _) rfl fun N hN => ?_
  unfold vc_F_tasks_Table_none
  exact dr.mk (ld_p.mk (h.bk.up hN).get rfl ⟨by trivial, Keep.refl _ _⟩)
theorem c_tnone (h : TabO H col c p raw sl high f sa sn sc bh) {j : Nat} {Q : Value → AH → Prop} (hj : 27 < j) (hQ : Q (.bool false) H) : W prog (XK j) F_tasks_Table_none [.pointer (some ⟨p, 0, none⟩)] H Q := callT (p_tnone h) TL_nd rfl hj hQ
/-- Where a slot lies. -/
theorem TabO.slot (h : TabO H col c p raw sl high f sa sn sc bh) {k : Nat} {s : SlotC} (hs : sl[k]? = some s) : ∃ b o ds g q, sa = some ⟨b, o, none⟩ ∧ Bk H col (0 :: c) b ds g ∧ o + k * 7 + 7 ≤ ds.length ∧ (∀ i, i < 7 → ds[o + k * 7 + i]? = (eSlot (s.1, q))[i]?) ∧
    raw[k]? = some (s.1, q) ∧ SlotJ H col (k :: 2 :: c) q s.2 ∧ k < sn ∧ k < 6 ∧
    (∀ y H1 col1, Bk H1 col1 (0 :: c) b (setMany ds (o + k * 7) (eSlot y)) g → SlE eSlot 7 H1 col1 (0 :: c) sa sn sc (raw.set k y)) ∧ (ds.drop (o + k * 7)).take 7 = eSlot (s.1, q) := by
  obtain ⟨q, h1, h2⟩ := h.jobs.2 k s hs
  obtain ⟨b, o, ds, g, e1, e2, e3, e4, e5, e6⟩ := h.sls.at_ eSlot_len h1
  have hk : k < sl.length := by
    rcases Nat.lt_or_ge k sl.length with h | h
    · exact h
    · rw [List.getElem?_eq_none h] at hs; cases hs
  have := h.ok.len
  exact ⟨b, o, ds, g, q, e1, e2, e3, e5, h1, h2, by rw [h.len]; exact hk, by omega, e6, e4⟩
theorem p_slot (h : TabO H col c p raw sl high f sa sn sc bh) {n : Int} : PureC prog (XK 28) F_tasks_Table_slot [.pointer (some ⟨p, 0, none⟩), vI n] H
    (.pointer (if 0 ≤ n ∧ n < sl.length then sa.map fun a => ⟨a.block, a.off + n.toNat * 7, none⟩ else none)) := by
  have hln := h.len
  refine pure_of _ ?_ (fun N => nf_F_tasks_Table_slot _ _ _ _ _) rfl fun N hN => ?_
  · split
    · obtain ⟨b, o, ds, g, q, e1, e2, _⟩ := h.slot (k := n.toNat) (s := sl[n.toNat]'(by omega)) (by simp)
      rw [e1]
      exact Nat.ble_eq_true_of_le e2.lt
    · rfl
  · unfold vc_F_tasks_Table_slot
    intro X hX
    have hu := h.up hN
    refine c_tnone hu (by decide) ?_
    simp only [r_b_eq, bcase_false]
    refine bcase_dec (fun h0 => ⟨by rw [if_neg (by omega)], Keep.refl _ _⟩) fun h0 => dr.mk (ld_l.mk hu.bk.get rfl (bcase_dec (fun h1 => ⟨by rw [if_neg (by omega)], Keep.refl _ _⟩) fun h1 => kp.mk (hX _ fun _ => dr.mk (ld_l.mk hu.bk.get rfl ?_))))
    obtain ⟨b, o, ds, g, q, rfl, e2, _⟩ := h.slot (k := n.toNat) (s := sl[n.toNat]'(by omega)) (by simp)
    exact ix.mk (by omega) (by omega) ⟨by rw [if_pos (by omega)]; rfl, Keep.refl _ _⟩
theorem c_slot_in (h : TabO H col c p raw sl high f sa sn sc bh) {k b o : Nat} (hk : k < sl.length) (e : sa = some ⟨b, o, none⟩) {j : Nat} {Q : Value → AH → Prop} (hj : 28 < j) (hQ : Q (.pointer (some ⟨b, o + k * 7, none⟩)) H) :
    W prog (XK j) F_tasks_Table_slot [.pointer (some ⟨p, 0, none⟩), vI k] H Q := by
  refine callT (p_slot h) TL_nd rfl hj ?_
  rw [if_pos (by omega), e]; simpa using hQ
theorem c_slot_out (h : TabO H col c p raw sl high f sa sn sc bh) {n : Int} (hn : ¬ (0 ≤ n ∧ n < sl.length)) {j : Nat} {Q : Value → AH → Prop} (hj : 28 < j) (hQ : Q (.pointer none) H) :
    W prog (XK j) F_tasks_Table_slot [.pointer (some ⟨p, 0, none⟩), vI n] H Q := by
  refine callT (p_slot h) TL_nd rfl hj ?_
  rw [if_neg hn]; exact hQ
theorem p_busy_out (h : TabO H col c p raw sl high f sa sn sc bh) {n : Int} (hn : ¬ (0 ≤ n ∧ n < sl.length)) : PureC prog (XK 29) F_tasks_Table_busy [.pointer (some ⟨p, 0, none⟩), vI n] H (.pointer none) := by
  refine pure_of _ rfl (fun N => nf_F_tasks_Table_busy _ _ _ _ _) rfl fun N hN => ?_
  unfold vc_F_tasks_Table_busy
  refine c_slot_out (h.up hN) hn (by decide) ?_
  simp only [r_p_eq]
  exact ⟨by trivial, Keep.refl _ _⟩
theorem p_busy_no (h : TabO H col c p raw sl high f sa sn sc bh) {k : Nat} {t : TaskC} (hs : sl[k]? = some (t, none)) : PureC prog (XK 29) F_tasks_Table_busy [.pointer (some ⟨p, 0, none⟩), vI k] H (.pointer none) := by
  refine pure_of _ rfl (fun N => nf_F_tasks_Table_busy _ _ _ _ _) rfl fun N hN => ?_
  unfold vc_F_tasks_Table_busy
  obtain ⟨b, o, ds, g, q, rfl, e2, e3, e4, e5, e6, e7, _⟩ := (h.up hN).slot hs
  have hq : q = none := by
    cases q with
    | none => rfl
    | some q => simp [SlotJ] at e6
  subst hq
  refine c_slot_in (h.up hN) (by have := h.len; omega) rfl (by decide) ?_
  simp only [r_p_eq]
  exact dr.mk (ld_p.mk e2.get (e4 6 (by decide)) ⟨by trivial, Keep.refl _ _⟩)
theorem p_busy (h : TabO H col c p raw sl high f sa sn sc bh) {k b o : Nat} {t : TaskC} {j : JobC} (hs : sl[k]? = some (t, some j)) (e : sa = some ⟨b, o, none⟩) : PureC prog (XK 29) F_tasks_Table_busy [.pointer (some ⟨p, 0, none⟩), vI k] H (.pointer (some ⟨b, o + k * 7, none⟩)) := by
  subst e
  refine pure_of _ ?_ (fun N => nf_F_tasks_Table_busy _ _ _ _ _) rfl fun N hN => ?_
  · obtain ⟨b', o', ds, g, q, e1, e2, _⟩ := h.slot hs
    cases e1
    exact Nat.ble_eq_true_of_le e2.lt
  · unfold vc_F_tasks_Table_busy
    obtain ⟨b', o', ds, g, q, e1, e2, e3, e4, e5, e6, e7, _⟩ := (h.up hN).slot hs
    cases e1
    cases q with
    | none => simp [SlotJ] at e6
    | some q =>
      refine c_slot_in (h.up hN) (by have := h.len; omega) rfl (by decide) ?_
      simp only [r_p_eq]
      exact dr.mk (ld_p.mk e2.get (e4 6 (by decide)) ⟨by trivial, Keep.refl _ _⟩)
theorem c_busy_out (h : TabO H col c p raw sl high f sa sn sc bh) {n : Int} (hn : ¬ (0 ≤ n ∧ n < sl.length)) {j : Nat} {Q : Value → AH → Prop} (hj : 29 < j) (hQ : Q (.pointer none) H) : W prog (XK j) F_tasks_Table_busy [.pointer (some ⟨p, 0, none⟩), vI n] H Q :=
  callT (p_busy_out h hn) TL_nd rfl hj hQ
theorem c_busy_no (h : TabO H col c p raw sl high f sa sn sc bh) {k : Nat} {t : TaskC} (hs : sl[k]? = some (t, none)) {j : Nat} {Q : Value → AH → Prop} (hj : 29 < j) (hQ : Q (.pointer none) H) : W prog (XK j) F_tasks_Table_busy [.pointer (some ⟨p, 0, none⟩), vI k] H Q :=
  callT (p_busy_no h hs) TL_nd rfl hj hQ
theorem c_busy (h : TabO H col c p raw sl high f sa sn sc bh) {k b o : Nat} {t : TaskC} {jb : JobC} (hs : sl[k]? = some (t, some jb)) (e : sa = some ⟨b, o, none⟩) {j : Nat} {Q : Value → AH → Prop} (hj : 29 < j) (hQ : Q (.pointer (some ⟨b, o + k * 7, none⟩)) H) :
    W prog (XK j) F_tasks_Table_busy [.pointer (some ⟨p, 0, none⟩), vI k] H Q := callT (p_busy h hs e) TL_nd rfl hj hQ
theorem p_thigh (h : TabO H col c p raw sl high f sa sn sc bh) : PureC prog (XK 30) F_tasks_Table_High [.pointer (some ⟨p, 0, none⟩)] H (.bool high) := by
  refine pure_of _ rfl (fun N => nf_F_tasks_Table_High _ _ _ _) rfl fun N hN => ?_
  unfold vc_F_tasks_Table_High
  refine c_tnone (h.up hN) (by decide) ?_
  simp only [r_b_eq, Bool.not_false, bcase_true]
  exact dr.mk (ld_b.mk (h.bk.up hN).get rfl ⟨by trivial, Keep.refl _ _⟩)
theorem c_thigh {md : Nat → Bool} (h : TabM H col c p sl high md) {j : Nat} {Q : Value → AH → Prop} (hj : 30 < j) (hQ : Q (.bool high) H) : W prog (XK j) F_tasks_Table_High [.pointer (some ⟨p, 0, none⟩)] H Q := by
  obtain ⟨raw, f, sa, sn, sc, bh, h1, _⟩ := h
  exact callT (p_thigh h1) TL_nd rfl hj hQ
/-- Is a job there? -/
def noJobs (sl : List SlotC) : Prop := ∀ (k : Nat) (s : SlotC), sl[k]? = some s → s.2 = none
theorem noJobs_due {md : Nat → Bool} : noJobs sl ↔ ∀ k, dueM md sl k = none := by
  constructor
  · intro h k
    unfold dueM
    cases hs : sl[k]? with
    | none => rfl
    | some s => simp [h k s hs]
  · intro h k s hs
    have := h k
    unfold dueM at this
    rw [hs] at this
    simpa using this
theorem c_tlen {md : Nat → Bool} (h : TabM H col c p sl high md) : ∃ m : Nat, (m = 0 ↔ noJobs sl) ∧ m ≤ 6 ∧ ∀ j, 31 < j → ∀ Q : Value → AH → Prop, Q (vI m) H → W prog (XK j) F_tasks_Table_Len [.pointer (some ⟨p, 0, none⟩)] H Q := by
  obtain ⟨raw, f, sa, sn, sc, bh, h1, h2⟩ := h
  obtain ⟨m, hm, hm6, hpu⟩ := c_len h1.hp
  have hpure : PureC prog (XK 31) F_tasks_Table_Len [.pointer (some ⟨p, 0, none⟩)] H (vI m) := by
    refine pure_of _ rfl (fun N => nf_F_tasks_Table_Len _ _ _ _) rfl fun N hN => ?_
    unfold vc_F_tasks_Table_Len
    refine c_tnone (h1.up hN) (by decide) ?_
    simp only [r_b_eq, bcase_false]
    refine dr.mk (ld_p.mk (h1.bk.up hN).get rfl (callT (hpu.up hN) TL_nd rfl (by decide) ?_))
    simp only [r_i_eq]
    exact ⟨by trivial, Keep.refl _ _⟩
  refine ⟨m, ?_, hm6, fun j hj Q hQ => callT hpure TL_nd rfl hj hQ⟩
  rw [hm, noJobs_due (md := md)]
  simp only [h2]
end
end Go.Ez

/- A partition's table of jobs: jobs, who is due. -/
set_option linter.all false
namespace Go.Ez
open Go.Proofs Go.IntWalk
section
variable {H H' : AH} {col col' : Col} {c : List Nat}
variable {p : Nat} {raw : List RawC} {sl : List SlotC} {high : Bool} {f : Nat → Option Int} {sa : Option Addr} {sn sc bh : Nat}

theorem c_tfirst (h : TabR H col c p sl high) : (noJobs sl ∧ PureC prog (XK 32) F_tasks_Table_First [.pointer (some ⟨p, 0, none⟩)] H (.tuple #[vI 0, vI 0, .bool false])) ∨
    ∃ (x : Nat) (n : Int), dueOf high sl x = some n ∧ (∀ y m, dueOf high sl y = some m → n < m ∨ (n = m ∧ x ≤ y)) ∧ PureC prog (XK 32) F_tasks_Table_First [.pointer (some ⟨p, 0, none⟩)] H (.tuple #[vI x, vI n, .bool true]) := by
  obtain ⟨raw, f, sa, sn, sc, bh, h1, h2⟩ := h
  have key : ∀ {x n : Int} {b : Bool}, PureC prog (XK 8) F_heap_Heap_First [.pointer (some ⟨bh, 0, none⟩)] H (.tuple #[vI x, vI n, .bool b]) → PureC prog (XK 32) F_tasks_Table_First [.pointer (some ⟨p, 0, none⟩)] H (.tuple #[vI x, vI n, .bool b]) := by
    intro x n b hpu
    refine pure_of _ rfl (fun N => nf_F_tasks_Table_First _ _ _ _) rfl fun N hN => ?_
    unfold vc_F_tasks_Table_First
    refine c_tnone (h1.up hN) (by decide) ?_
    simp only [r_b_eq, bcase_false]
    refine dr.mk (ld_p.mk (h1.bk.up hN).get rfl (callT (PureC.up hpu hN) TL_nd rfl (by decide) ?_))
    simp only [r_T_i_i_b_eq]
    exact ⟨by trivial, Keep.refl _ _⟩
  rcases c_first h1.hp with ⟨hn, hpu⟩ | ⟨x, n, hx, hmin, hpu⟩
  · refine .inl ⟨(noJobs_due (md := fun _ => high)).mpr fun k => (h2 k).symm.trans (hn k), key hpu⟩
  · exact .inr ⟨x, n, (h2 x).symm.trans hx, fun y m hy => hmin y m ((h2 y).trans hy), key hpu⟩

theorem p_jright {a b w d : Int} {s : Option Addr} {n cap : Nat} : PureC prog (XK 33) F_tasks_Job_right [.agg #[vI a, vI b, vI w, vI d, .slice s n cap]] H
    (.bool (decide (0 ≤ b) && decide (b ≤ 4611686018427387904) && decide (1 ≤ w) && decide (w ≤ 1048576) && (d == 0) && decide ((n : Int) ≤ 64))) := by
  refine pure_of _ rfl (fun N => nf_F_tasks_Job_right _ _ _ _ _ _ _ _ _ _) rfl fun N hN => ?_
  unfold vc_F_tasks_Job_right
  refine nw.new fun q G e => ?_
  have k := e.keep
  refine ld_i.mk e.at_ rfl (bcase_dec (fun h1 => ?_) fun h1 => ⟨by simp [h1], k⟩)
  refine ld_i.mk e.at_ rfl (bcase_dec (fun h2 => ?_) fun h2 => ⟨by simp [h1, h2], k⟩)
  refine ld_i.mk e.at_ rfl (bcase_dec (fun h3 => ?_) fun h3 => ⟨by simp [h1, h2, h3], k⟩)
  refine ld_i.mk e.at_ rfl (bcase_dec (fun h4 => ?_) fun h4 => ⟨by simp [h1, h2, h3, h4], k⟩)
  refine ld_i.mk e.at_ rfl (bcase_both (fun h5 => ?_) fun h5 => ⟨by simp [h1, h2, h3, h4, h5], k⟩)
  exact ld_l.mk e.at_ rfl ⟨by simp only [h1, h2, h3, h4, h5, decide_true, Bool.true_and], k⟩
theorem p_jop {q : Nat} {j : JobC} {c' : List Nat} (h : JobR H col c' q j) (h0 : 0 ≤ j.done) {a : Option Addr} {n cap : Nat} (hb : H.get q = some (.cells [vI j.task, vI j.arrived, vI j.work, vI j.done, .slice a n cap] false 0)) :
    PureC prog (XK 34) F_tasks_Job_op [.agg #[vI j.task, vI j.arrived, vI j.work, vI j.done, .slice a n cap]] H (.agg #[vI j.op.1, vI j.op.2.1, vI j.op.2.2]) := by
  refine pure_of _ rfl (fun N => nf_F_tasks_Job_op _ _ _ _ _ _ _ _ _ _) rfl fun N hN => ?_
  unfold vc_F_tasks_Job_op
  obtain ⟨a', n', cap', k1, k2⟩ := h
  have := k1.get.symm.trans hb
  simp only [Option.some.injEq, Blk.cells.injEq, List.cons.injEq, Value.slice.injEq, and_true, true_and] at this
  obtain ⟨rfl, rfl, rfl⟩ := this
  refine nw.new fun b1 G1 e1 => nw.new fun b2 G2 e2 => ?_
  have g1 := e2.far e1.at_ (by rw [e1.next, e1.num]; omega)
  have kk : Keep N (H.up N) G2 := e1.keep.trans (e2.keep.mono (by rw [e1.next]; exact Nat.le_succ _))
  have hn := k2.1
  refine ld_i.mk g1 rfl (ld_l.mk g1 rfl (bcase_dec (fun hlt => ?_) fun hlt => ?_))
  · refine ld_l.mk g1 rfl (ld_i.mk g1 rfl ?_)
    obtain ⟨b, o, ds, ro, g, rfl, q2, q3, q4, q5, q6⟩ := (((k2.rd eOp_len).up hN).kept kk).at_ (i := j.done.toNat) (x := j.ops[j.done.toNat]'(by omega)) (by simp)
    refine ix.mk (by omega) (by omega) (ld_Aiii.mk q3 q6 (by omega) ?_)
    refine st.do e2.at_ rfl rfl (by simp) fun G3 w3 => ?_
    refine ld_Aiii.mk w3.at_ rfl (by simp [setMany, cellsOf]) ⟨?_, kk.trans (w3.keep (by rw [e2.num, e1.next]; simp))⟩
    have : j.op = j.ops[j.done.toNat]'(by omega) := by
      unfold JobC.op
      rw [if_pos (by omega), List.getD_eq_getElem?_getD, List.getElem?_eq_getElem (by omega)]; rfl
    rw [this]
  · refine st.do e2.at_ rfl rfl (by simp) fun G3 w3 => ?_
    refine ld_Aiii.mk w3.at_ rfl (by simp [setMany, cellsOf]) ⟨?_, kk.trans (w3.keep (by rw [e2.num, e1.next]; simp))⟩
    have : j.op = (0, 0, 0) := by
      unfold JobC.op
      rw [if_neg (by omega)]
    rw [this]

/-- What a slot's pointer tells. -/
theorem p_due (h : TabO H col c p raw sl high f sa sn sc bh) {k b o : Nat} {t : TaskC} {j : JobC} (hs : sl[k]? = some (t, some j)) (e : sa = some ⟨b, o, none⟩) {x : Bool} : PureC prog (XK 35) F_tasks_slot_due [.pointer (some ⟨b, o + k * 7, none⟩), .bool x] H (vI (dueJ x t j)) := by
  subst e
  refine pure_of _ rfl (fun N => nf_F_tasks_slot_due _ _ _ _ _) rfl fun N hN => ?_
  unfold vc_F_tasks_slot_due
  obtain ⟨b', o', ds, g, q, e1, e2, e3, e4, e5, e6, e7, _⟩ := (h.up hN).slot hs
  cases e1
  cases q with
  | none => simp [SlotJ] at e6
  | some q =>
    obtain ⟨a, n, cap, k1, k2⟩ := e6
    have hr : t.right = true := h.ok.right _ (List.mem_of_getElem? hs)
    replace hr := TaskC.right_iff.mp hr
    have hj := h.ok.job k t j hs
    have h0 := hj.a0
    have h1 := hj.a1
    have e : ∀ z : Int, 0 ≤ z → z ≤ 1000 → IntKind.i64.wrap (j.arrived + z) = j.arrived + z := fun z hz hz' => i64_in _ (by omega)
    cases x with
    | true =>
      refine dr.mk (ld_p.mk e2.get (e4 6 (by decide)) (dr.mk (ld_i.mk k1.get rfl (dr.mk (ld_i.mk e2.get (e4 2 (by decide)) ?_)))))
      rw [e t.D (by omega) (by omega)]
      exact ⟨rfl, Keep.refl _ _⟩
    | false =>
      refine dr.mk (ld_p.mk e2.get (e4 6 (by decide)) (dr.mk (ld_i.mk k1.get rfl (dr.mk (ld_i.mk e2.get (e4 3 (by decide)) ?_)))))
      rw [e t.V (by omega) (by omega)]
      exact ⟨rfl, Keep.refl _ _⟩
theorem p_budget (h : TabO H col c p raw sl high f sa sn sc bh) {k b o : Nat} {s : SlotC} (hs : sl[k]? = some s) (e : sa = some ⟨b, o, none⟩) {x : Bool} : PureC prog (XK 36) F_tasks_slot_budget [.pointer (some ⟨b, o + k * 7, none⟩), .bool x] H (vI (if x then s.1.Top else s.1.Lo)) := by
  subst e
  refine pure_of _ rfl (fun N => nf_F_tasks_slot_budget _ _ _ _ _) rfl fun N hN => ?_
  unfold vc_F_tasks_slot_budget
  obtain ⟨b', o', ds, g, q, e1, e2, e3, e4, e5, e6, e7, _⟩ := (h.up hN).slot hs
  cases e1
  cases x with
  | true => exact dr.mk (ld_i.mk e2.get (e4 5 (by decide)) ⟨rfl, Keep.refl _ _⟩)
  | false => exact dr.mk (ld_i.mk e2.get (e4 4 (by decide)) ⟨rfl, Keep.refl _ _⟩)
theorem p_missed1 (h : TabO H col c p raw sl high f sa sn sc bh) {k b o : Nat} {t : TaskC} {j : JobC} (hs : sl[k]? = some (t, some j)) (e : sa = some ⟨b, o, none⟩) {q g : Nat} {ro : Bool} {now : Int} (hq : H.get q = some (.cells [vI now] ro g)) :
    PureC prog (XK 37) F_tasks_Table_Missed_1 [.pointer (some ⟨b, o + k * 7, none⟩), .pointer (some ⟨q, 0, none⟩)] H (.bool (decide (dueJ true t j ≤ now))) := by
  subst e
  refine pure_of _ rfl (fun N => nf_F_tasks_Table_Missed_1 _ _ _ _ _) rfl fun N hN => ?_
  unfold vc_F_tasks_Table_Missed_1
  obtain ⟨b', o', ds, g, q', e1, e2, e3, e4, e5, e6, e7, _⟩ := (h.up hN).slot hs
  cases e1
  cases q' with
  | none => simp [SlotJ] at e6
  | some q' =>
    obtain ⟨a, n, cap, k1, k2⟩ := e6
    have hr : t.right = true := h.ok.right _ (List.mem_of_getElem? hs)
    replace hr := TaskC.right_iff.mp hr
    have hj := h.ok.job k t j hs
    have h0 := hj.a0
    have h1 := hj.a1
    refine dr.mk (ld_p.mk e2.get (e4 6 (by decide)) (dr.mk (ld_i.mk k1.get rfl (dr.mk (ld_i.mk e2.get (e4 2 (by decide)) (ld_i.mk hq rfl ?_))))))
    have e : IntKind.i64.wrap (j.arrived + t.D) = j.arrived + t.D := i64_in _ (by omega)
    rw [e]
    exact ⟨rfl, Keep.refl _ _⟩
theorem p_rise1 (h : TabO H col c p raw sl high f sa sn sc bh) {k b o : Nat} {s : SlotC} (hs : sl[k]? = some s) (e : sa = some ⟨b, o, none⟩) :
    PureC prog (XK 38) F_tasks_Table_Rise_1 [.pointer (some ⟨b, o + k * 7, none⟩)] H (.bool !s.1.hi) := by
  subst e
  refine pure_of _ rfl (fun N => nf_F_tasks_Table_Rise_1 _ _ _ _) rfl fun N hN => ?_
  unfold vc_F_tasks_Table_Rise_1
  obtain ⟨b', o', ds, g, q, e1, e2, e3, e4, e5, e6, e7, _⟩ := (h.up hN).slot hs
  cases e1
  exact dr.mk (ld_b.mk e2.get (e4 0 (by decide)) ⟨rfl, Keep.refl _ _⟩)
theorem p_clear1 {a : Option Addr} : PureC prog (XK 39) F_tasks_Table_Clear_1 [.pointer a] H (.bool true) := by
  refine pure_of _ rfl (fun N => nf_F_tasks_Table_Clear_1 _ _ _ _) rfl fun N hN => ?_
  unfold vc_F_tasks_Table_Clear_1
  exact ⟨rfl, Keep.refl _ _⟩

/-- A job is gone. -/
theorem TabOk.gone (h : TabOk sl) {k : Nat} {s : SlotC} (hs : sl[k]? = some s) : TabOk (sl.set k (s.1, none)) := by
  refine ⟨by simpa using h.len, fun x hx => ?_, fun i t j hi => ?_⟩
  · rcases List.mem_or_eq_of_mem_set hx with h1 | h1
    · exact h.right x h1
    · rw [h1]; exact h.right s (List.mem_of_getElem? hs)
  · rw [List.getElem?_set] at hi
    split at hi
    · split at hi <;> cases hi
    · exact h.job i t j hi
theorem due_set {md : Nat → Bool} {k i : Nat} {s : SlotC} (hk : k < sl.length) : dueM md (sl.set k s) i = if i = k then s.2.map (dueJ (md k) s.1) else dueM md sl i := by
  unfold dueM
  rw [List.getElem?_set]
  by_cases h : k = i
  · subst h; simp [hk]
  · have : ¬ i = k := fun e => h e.symm
    simp [h, this]
theorem w_gone {md : Nat → Bool} (h : TabM H col c p sl high md) (hfr : Fresh col H) {k : Nat} {t : TaskC} {j : JobC} (hs : sl[k]? = some (t, some j)) {Q : Value → AH → Prop}
    (hQ : ∀ H', TabM H' col c p (sl.set k (t, none)) high md → Stp (Under c) col H col H' → Q (.tuple #[]) H') : W prog XP F_tasks_Table_gone [.pointer (some ⟨p, 0, none⟩), vI k] H Q := by
  refine enterT _ (nf_F_tasks_Table_gone _ _ _ _ _) rfl ?_
  unfold vc_F_tasks_Table_gone
  obtain ⟨raw, f, sa, sn, sc, bh, h1, h2⟩ := h
  obtain ⟨b, o, ds, g, q, rfl, e2, e3, e4, e5, e6, e7, e8, e9, e10⟩ := h1.slot hs
  have hkl : k < sl.length := by have := h1.len; omega
  refine dr.mk (ld_l.mk h1.bk.get rfl (ix.mk (by omega) (by omega) (st.do e2.get rfl rfl (by simp; omega) fun G w => ?_)))
  obtain ⟨b1, s1⟩ := e2.wrote w
  have hset : setMany ds (o + ((k : Int)).toNat * 7 + 6) (cellsOf (.pointer none)) = setMany ds (o + k * 7) (eSlot (t, none)) := by
    rw [Int.toNat_natCast, setMany_within e10 e3 (by simp [cellsOf])]; rfl
  rw [hset] at b1
  have hsl := e9 (t, none) G col b1
  have hf : f k = some (dueJ (md k) t j) := by rw [h2]; simp [dueM, hs]
  refine dr.mk (ld_p.mk (h1.bk.fr s1 (by simp)).get rfl ?_)
  refine w_hremove (h1.hp.fr s1 fun x hx e => by subst e; have := Under.apart (Under.refl (0 :: c)) hx; omega) (s1.fresh hfr) (by simp) hf fun G2 g2 s2 => ?_
  simp only [r_b_eq]
  have hd1 : ∀ {m : Nat} {x : List Nat}, Under (m :: c) x → x = 0 :: c → m = 0 := fun {m x} hx e => by
    subst e
    exact (Under.apart (Under.refl (0 :: c)) hx).symm
  refine hQ G2 ⟨raw.set k (t, none), fun y => if y = k then none else f y, some ⟨b, o, none⟩, sn, sc, bh, ⟨?_, ?_, g2, ?_, h1.ok.gone hs⟩, fun i => ?_⟩ (s1.under.trans s2.under1)
  · exact (h1.bk.fr s1 (by simp)).fr s2 fun e => e.self
  · exact hsl.fr s2 fun e => by have := Under.apart e (Under.refl (0 :: c)); omega
  · refine ⟨by simpa using h1.jobs.1, fun i s hi => ?_⟩
    rw [List.getElem?_set] at hi ⊢
    have hrl : raw.length = sl.length := h1.jobs.1
    by_cases hik : k = i
    · subst hik
      rw [if_pos rfl, if_pos hkl] at hi
      cases hi
      exact ⟨none, (if_pos rfl).trans (if_pos (by omega)), trivial⟩
    · rw [if_neg hik] at hi ⊢
      obtain ⟨q', k1, k2⟩ := h1.jobs.2 i s hi
      refine ⟨q', k1, (k2.fr s1 fun x hx e => ?_).fr s2 fun x hx e => ?_⟩
      · have := hd1 hx.cons e; omega
      · have := Under.apart e hx.cons; omega
  · rw [due_set hkl]
    by_cases e : i = k
    · simp [e]
    · simp [e, h2]
end
end Go.Ez

/- A partition's table of jobs: a tick; who goes. -/
set_option linter.all false
namespace Go.Ez
open Go.Proofs Go.IntWalk
section
variable {H H' : AH} {col col' : Col} {c : List Nat}
variable {p : Nat} {raw : List RawC} {sl : List SlotC} {high : Bool} {f : Nat → Option Int} {sa : Option Addr} {sn sc bh : Nat}

/-- A job is changed in place: what is due stays. -/
theorem TabR.job (h : TabO H col c p raw sl high f sa sn sc bh) (h2 : ∀ k, f k = dueOf high sl k) {k : Nat} {t : TaskC} {j j' : JobC} {q : Nat} (hs : sl[k]? = some (t, some j)) (hq : raw[k]? = some (t, some q)) (ha : j'.arrived = j.arrived) (hok : JobOk k t j')
    (hj : JobR H' col' (k :: 2 :: c) q j') (s : Stp (fun x => x = k :: 2 :: c) col H col' H') : TabR H' col' c p (sl.set k (t, some j')) high := by
  have hkl : k < sl.length := by
    rcases Nat.lt_or_ge k sl.length with h | h
    · exact h
    · rw [List.getElem?_eq_none h] at hs; cases hs
  have n1 : ∀ {x : List Nat} {m : Nat}, Under (m :: c) x → m ≠ 2 → x ≠ k :: 2 :: c := fun hx hm e => by
    subst e
    exact hm (Under.apart hx (⟨[k], rfl⟩ : Under (2 :: c) (k :: 2 :: c)))
  refine ⟨raw, f, sa, sn, sc, bh, ⟨h.bk.fr s (fun e => ?_), h.sls.fr s (fun e => n1 (Under.refl (0 :: c)) (by decide) e), h.hp.fr s fun x hx e => n1 hx (by decide) e, ⟨by simpa using h.jobs.1, fun i s' hi => ?_⟩, ⟨by simpa using h.ok.len, fun x hx => ?_, fun i t' j1 hi => ?_⟩⟩, fun i => ?_⟩
  · have := congrArg List.length e; simp at this; omega
  · rw [List.getElem?_set] at hi
    by_cases hik : k = i
    · subst hik
      rw [if_pos rfl, if_pos hkl] at hi
      cases hi
      exact ⟨some q, hq, hj⟩
    · rw [if_neg hik] at hi
      obtain ⟨q', k1, k2⟩ := h.jobs.2 i s' hi
      exact ⟨q', k1, k2.fr s fun x hx e => by subst e; exact hik (Under.apart (Under.refl (k :: 2 :: c)) hx)⟩
  · rcases List.mem_or_eq_of_mem_set hx with h1 | h1
    · exact h.ok.right x h1
    · rw [h1]; exact h.ok.right (t, some j) (List.mem_of_getElem? hs)
  · rw [List.getElem?_set] at hi
    by_cases hik : k = i
    · subst hik
      rw [if_pos rfl, if_pos hkl] at hi
      cases hi; exact hok
    · rw [if_neg hik] at hi; exact h.ok.job i t' j1 hi
  · rw [due_set hkl, h2]
    by_cases e : i = k
    · subst e; simp [dueM, hs, dueJ, ha]
    · simp [e]

theorem set_set {k : Nat} {a b : SlotC} : (sl.set k a).set k b = sl.set k b := by simp

theorem w_run_no (h : TabR H col c p sl high) (hcn : c ≠ []) (hfr : Fresh col H) {n : Int} (hn : ∀ k : Nat, n = k → ∀ t j, sl[k]? ≠ some (t, some j)) {Q : Value → AH → Prop}
    (hQ : ∀ H', TabR H' col c p sl high → Stp (Under c) col H col H' → Q (.tuple #[.agg #[vI 0, vI 0, vI 0], vI 4]) H') : W prog XP F_tasks_Table_Run [.pointer (some ⟨p, 0, none⟩), vI n] H Q := by
  refine enterT _ (nf_F_tasks_Table_Run _ _ _ _ _) rfl ?_
  unfold vc_F_tasks_Table_Run
  refine nw.new fun q G a => ?_
  have sa' : Stp (Under c) col H col G := Stp.none a.keep
  have hG := h.fr (a.keep.stp (fun _ => False) col) fun _ _ h => h
  have hG' := hG
  obtain ⟨raw, f, sa, sn, sc, bh, h1, h2⟩ := hG
  have key : ∀ {X : Value → AH → Prop}, X (.pointer none) G → W prog XP F_tasks_Table_busy [.pointer (some ⟨p, 0, none⟩), vI n] G X := fun hX => by
    by_cases hin : 0 ≤ n ∧ n < sl.length
    · obtain ⟨k, rfl⟩ : ∃ k : Nat, n = k := ⟨n.toNat, by omega⟩
      have hk : k < sl.length := by omega
      cases hs : sl[k] with
      | mk t oj =>
        cases oj with
        | none => exact c_busy_no h1 (t := t) (by rw [List.getElem?_eq_getElem hk, hs]) (by decide) hX
        | some j => exact absurd (by rw [List.getElem?_eq_getElem hk, hs]) (hn k rfl t j)
    · exact c_busy_out h1 hin (by decide) hX
  refine key ?_
  simp only [r_p_eq]
  refine bcase_t rfl (st.do a.at_ rfl rfl (by simp) fun G2 w => ld_Aiii.mk w.at_ rfl (by simp [setMany, cellsOf]) ?_)
  obtain ⟨_, s2, s3⟩ := (a.own hfr).own_wr sa' (by rw [a.num]; exact Nat.le_refl _) w
  exact hQ G2 (hG'.fr s2 (nil_d hcn)) s3

theorem w_run (h : TabR H col c p sl high) (hcn : c ≠ []) (hfr : Fresh col H) {k : Nat} {t : TaskC} {j : JobC} (hs : sl[k]? = some (t, some j)) (hd : j.done < j.work) {Q : Value → AH → Prop}
    (hQ : ∀ H', TabR H' col c p (sl.set k (t, (runJ high t j).2)) high → Stp (Under c) col H col H' → Q (.tuple #[.agg #[vI j.op.1, vI j.op.2.1, vI j.op.2.2], vI (runJ high t j).1]) H') :
    W prog XP F_tasks_Table_Run [.pointer (some ⟨p, 0, none⟩), vI k] H Q := by
  refine enterT _ (nf_F_tasks_Table_Run _ _ _ _ _) rfl ?_
  unfold vc_F_tasks_Table_Run
  refine nw.new fun q1 G1 a1 => ?_
  have s1 : Stp (Under c) col H col G1 := Stp.none a1.keep
  have hG := h.fr (a1.keep.stp (fun _ => False) col) fun _ _ h => h
  obtain ⟨raw, f, sa, sn, sc, bh, h1, h2⟩ := hG
  obtain ⟨b, o, ds, g, q, rfl, e2, e3, e4, e5, e6, e7, e8, e9, e10⟩ := h1.slot hs
  cases q with
  | none => simp [SlotJ] at e6
  | some q =>
  have hjr : JobR G1 col (k :: 2 :: c) q j := e6
  obtain ⟨ja, jn, jc, k1, k2⟩ := e6
  have hok := h1.ok.job k t j hs
  have o1 := a1.own hfr
  refine c_busy h1 hs rfl (by decide) ?_
  simp only [r_p_eq]
  refine bcase_f rfl (dr.mk (ld_p.mk e2.get (e4 6 (by decide)) (dr.mk (ld_Aiiiil.mk k1.get rfl (by simp) ?_))))
  refine callT (p_jop hjr hok.d0 k1.get) TL_nd rfl (by decide) ?_
  simp only [r_Aiii_eq]
  refine nw.new fun q2 G2 a2 => st.do a2.at_ rfl rfl (by simp) fun G3 w3 => ?_
  have s2 : Stp (Under c) col H col G2 := a2.newer s1
  have hf1 : ∀ b, G1.next ≤ b → col b = [] := s1.fresh hfr
  obtain ⟨o3, t3, s3⟩ := (a2.own hf1).own_wr s2 (by rw [a2.num]; exact s1.next) w3
  have t2 : Stp (fun _ => False) col G1 col G2 := a2.keep.stp _ _
  have h3 := (h1.fr t2 fun _ _ h => h).fr t3 (nil_d hcn)
  have e2' := (e2.fr t2 id).fr t3 (by simp)
  have k1' := (k1.fr t2 id).fr t3 (by simp)
  have k2' := (k2.fr t2 id).fr t3 (by simp)
  have o1' := (o1.fr t2 id)
  have ne : q1 ≠ q2 := by have := o1.lt; have := a2.num; omega
  have o1'' := o1'.other w3 ne
  refine dr.mk (ld_p.mk e2'.get (e4 6 (by decide)) (dr.mk (ld_i.mk k1'.get rfl (dr.mk (st.do k1'.get rfl rfl (by simp) fun G4 w4 => ?_)))))
  obtain ⟨k1n, t4⟩ := k1'.wrote w4
  have hw : IntKind.i64.wrap (j.done + 1) = j.done + 1 := i64_in _ (by have := hok.d0; have := hok.w1; omega)
  rw [hw] at k1n
  let j' : JobC := { j with done := j.done + 1 }
  have hjr' : JobR G4 col (k :: 2 :: c) q j' := ⟨ja, jn, jc, by simpa [setMany, cellsOf] using k1n, k2'.fr t4 (by simp)⟩
  have hok' : JobOk k t j' := ⟨hok.task, hok.a0, hok.a1, hok.w1, by have := hok.d0; show 0 ≤ j.done + 1; omega, by show j.done + 1 ≤ j.work; omega, hok.ops⟩
  have h4 : TabR G4 col c p (sl.set k (t, some j')) high := TabR.job h3 h2 hs e5 rfl hok' hjr' t4
  have hu4 : Under c (k :: 2 :: c) := ⟨[k, 2], rfl⟩
  have s4 : Stp (Under c) col H col G4 := s3.trans (t4.mono fun x hx => by rw [hx]; exact hu4)
  have nil4 : ∀ x : List Nat, x = [] → ¬ x = k :: 2 :: c := fun x hx e => by rw [hx] at e; cases e
  have o14 := o1''.fr t4 (nil4 _ rfl)
  have o34 := o3.fr t4 (nil4 _ rfl)
  have e24 := e2'.fr t4 (by simp)
  -- the end
  intro X hX
  have fin : ∀ (G : AH), Bk G col [] q1 [vI 0, vI 0, vI 0] 0 → Bk G col [] q2 [vI j.op.1, vI j.op.2.1, vI j.op.2.2] 0 → TabR G col c p (sl.set k (t, (runJ high t j).2)) high → Stp (Under c) col H col G → X [vI (runJ high t j).1] G := fun G p1 p2 hT sT => by
    refine hX _ _ fun _ => ld_Aiii.mk p2.get rfl (by simp) (st.do p1.get rfl rfl (by simp) fun G5 w5 => ld_Aiii.mk w5.at_ rfl (by simp [setMany, cellsOf]) ?_)
    obtain ⟨_, t5, s5⟩ := p1.own_wr sT (by rw [a1.num]; exact Nat.le_refl _) w5
    exact hQ G5 (hT.fr t5 (nil_d hcn)) s5
  have w_g : (runJ high t j).2 = none → ∀ {r : Value → AH → Prop}, (∀ G, X [vI (runJ high t j).1] G → r (.tuple #[]) G) → W prog XP F_tasks_Table_gone [.pointer (some ⟨p, 0, none⟩), vI k] G4 r := fun hnone {r} hr => by
    have hkl : k < sl.length := by have := h3.len; omega
    refine w_gone h4 (s4.fresh hfr) (k := k) (t := t) (j := j') (by rw [List.getElem?_set_self hkl]) fun G5 h5 s5 => hr G5 (fin G5 ?_ ?_ ?_ (s4.trans s5))
    · exact o14.fr s5 (under_nil hcn)
    · exact (by simpa [setMany, cellsOf] using o34.fr s5 (under_nil hcn))
    · rw [hnone]; rw [set_set] at h5; exact h5
  have h4o := h4
  obtain ⟨raw4, f4, sa4, sn4, sc4, bh4, h4t, _⟩ := h4o
  have hbk4 : G4.get p = some (.cells [.slice sa4 sn4 sc4, .pointer (some ⟨bh4, 0, none⟩), .bool high] false 0) := h4t.bk.get
  have hs4 : (sl.set k (t, some j'))[k]? = some (t, some j') := by rw [List.getElem?_set_self (by have := h3.len; omega)]
  obtain ⟨b', o', ds', g', q', e1', e2', e3', e4', e5', e6', e7', e8', e9', e10'⟩ := h4t.slot hs4
  have hbk3 := h3.bk.fr t4 (fun e => by have := congrArg List.length e; simp at this; omega)
  have : sa4 = some ⟨b, o, none⟩ := by
    have := hbk3.get.symm.trans hbk4
    simp only [Option.some.injEq, Blk.cells.injEq, List.cons.injEq, Value.slice.injEq] at this
    exact this.1.1.1.symm
  subst this
  cases e1'
  have hbud : PureC prog (XK 36) F_tasks_slot_budget [.pointer (some ⟨b, o + k * 7, none⟩), .bool high] G4 (vI (if high then t.Top else t.Lo)) := p_budget h4t hs4 rfl
  have k1g : G4.get q = some (.cells [vI j.task, vI j.arrived, vI j.work, vI (j.done + 1), .slice ja jn jc] false 0) := by simpa [setMany, cellsOf] using k1n.get
  refine dr.mk (ld_p.mk e24.get (e4 6 (by decide)) (dr.mk (ld_i.mk k1g rfl (dr.mk (ld_b.mk hbk4 rfl ?_)))))
  refine callT hbud TL_nd rfl (by decide) ?_
  simp only [r_i_eq]
  have a1' : ld1 G4 (.pointer (some ⟨q, 0 + 3, none⟩)) = some (vI (j.done + 1)) := ld1_at k1g rfl
  have a2' : ld1 G4 (.pointer (some ⟨b, o + k * 7 + 6, none⟩)) = some (.pointer (some ⟨q, 0, none⟩)) := ld1_at e24.get (e4 6 (by decide))
  refine ⟨⟨a1', by simp [veq]⟩, ⟨a2', by simp [veq]⟩, ?_⟩
  refine dr.mk (ld_p.mk e24.get (e4 6 (by decide)) (dr.mk (ld_i.mk k1g rfl (dr.mk (ld_p.mk e24.get (e4 6 (by decide)) (dr.mk (ld_i.mk k1g rfl ?_)))))))
  have o34' : Bk G4 col [] q2 [vI j.op.1, vI j.op.2.1, vI j.op.2.2] 0 := by simpa [setMany, cellsOf] using o34
  have stay4 : (runJ high t j).2 = some j' → X [vI (runJ high t j).1] G4 := fun hs' => fin G4 o14 o34' (by rw [hs']; exact h4) s4
  refine bcase_both (fun hw1 => ?_) fun hw1 => ?_
  · have hr : runJ high t j = (1, none) := by
      have : j.done + 1 = j.work := by simpa using hw1
      simp only [runJ, if_pos this]
    refine w_g (by rw [hr]) fun G hg => ?_
    simp only [r_T_eq, kp_eq]
    rw [hr] at hg; exact hg
  · have hne : ¬ j.done + 1 = j.work := by simpa using hw1
    refine bcase_dec (fun hb => ?_) fun hb => ?_
    · refine dr.mk (ld_b.mk hbk4 rfl (bcase_both (fun hh => ?_) fun hh => ?_))
      · have hr : runJ high t j = (2, none) := by unfold runJ; dsimp only; rw [if_neg hne, if_pos hb, if_pos (Or.inl hh)]
        refine w_g (by rw [hr]) fun G hg => ?_
        simp only [r_T_eq, kp_eq]
        rw [hr] at hg; exact hg
      · refine dr.mk (ld_b.mk e24.get (e4 0 (by decide)) (bcase_both (fun hi => ?_) fun hi => ?_))
        · have hi' : t.hi = false := by simpa using hi
          have hr : runJ high t j = (2, none) := by unfold runJ; dsimp only; rw [if_neg hne, if_pos hb, if_pos (Or.inr (Or.inl hi'))]
          refine w_g (by rw [hr]) fun G hg => ?_
          simp only [r_T_eq, kp_eq]
          rw [hr] at hg; exact hg
        · have hi' : t.hi = true := by simpa using hi
          refine dr.mk (ld_i.mk e24.get (e4 5 (by decide)) (dr.mk (ld_i.mk e24.get (e4 4 (by decide)) (bcase_both (fun ht => ?_) fun ht => ?_))))
          · have ht' : t.Top = t.Lo := by simpa using ht
            have hr : runJ high t j = (2, none) := by unfold runJ; dsimp only; rw [if_neg hne, if_pos hb, if_pos (Or.inr (Or.inr ht'))]
            refine w_g (by rw [hr]) fun G hg => ?_
            simp only [r_T_eq, kp_eq]
            rw [hr] at hg; exact hg
          · have ht' : ¬ t.Top = t.Lo := by simpa using ht
            have hr : runJ high t j = (3, some j') := by
              simp only [runJ, if_neg hne, if_pos hb]
              rw [if_neg]; simp [hh, hi', ht']
            refine bcase_t (by simp; exact hb) (kp.mk ?_)
            have := stay4 (by rw [hr]); rw [hr] at this; exact this
    · have hr : runJ high t j = (0, some j') := by simp only [runJ, if_neg hne, if_neg hb]; rfl
      refine bcase_f (by simp; omega) (kp.mk ?_)
      have := stay4 (by rw [hr]); rw [hr] at this; exact this
end
end Go.Ez
