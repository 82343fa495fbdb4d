import Derived.Test.YtgckodpnpidodaaGreatPtX
import Derived.Test.YtgckodpnpidodaaGreatMod
set_option linter.all false
/- What partitions may be: the functions that tell it. -/
set_option linter.all false
namespace Go.Ez
open Go.Proofs Go.IntWalk

section
variable {H : AH} {col : Col} {c : List Nat}
theorem p_sorted {b g n cp : Nat} {ro : Bool} {l : List Int} (hb : H.get b = some (.cells (l.map vI) ro g)) (hn : n = l.length) (hl : l.length < 1000) : PureC prog (XK 11) F_slices_IsSorted__intint [.slice (some ⟨b, 0, none⟩) n cp] H (.bool (sortedB l)) := by
  subst hn
  refine pure_of _ rfl (fun N => nf_F_slices_IsSorted__intint _ _ _ _ _ _) rfl fun N hN => ?_
  unfold vc_F_slices_IsSorted__intint
  intro X hX
  have loop : ∀ k : Nat, k < l.length ∨ k = 0 → (∀ j, k ≤ j → j + 1 < l.length → l.getD j 0 ≤ l.getD (j + 1) 0) → ∀ i : Int, i = k → X [vI i] (H.up N) := by
    intro k
    induction k with
    | zero =>
      intro _ hs i hi
      subst hi
      refine hX _ _ fun _ => bcase_dec (fun h => absurd h (by omega)) fun _ => ⟨?_, Keep.refl _ _⟩
      rw [(sortedB_iff l).mpr fun j hj => hs j (by omega) hj]
    | succ k ih =>
      intro hk hs i hi
      subst hi
      have hk : k + 1 < l.length := by omega
      have e1 : IntKind.i64.wrap ((((k + 1 : Nat) : Int)) - 1) = ((k : Nat) : Int) := by rw [i64_in _ (by omega)]; omega
      refine hX _ _ fun _ => bcase_dec (fun _ => ?_) fun h => absurd (by omega) h
      rw [e1]
      refine ix.mk (by omega) (by omega) (ld_i.mk (x := l.getD (k + 1) 0) hb (by simp [List.getElem?_map, List.getD_eq_getElem?_getD, hk]) (ix.mk (by omega) (by omega) (ld_i.mk (x := l.getD k 0) hb (by simp [List.getElem?_map, List.getD_eq_getElem?_getD, show k < l.length by omega]) ?_)))
      refine c_Less (by decide) ?_
      simp only [r_b_eq]
      refine bcase_dec (fun hlt => ⟨?_, Keep.refl _ _⟩) fun hlt => kp.mk (ih (by omega) (fun j hj hj1 => ?_) _ rfl)
      · have : sortedB l = false := by
          cases hsb : sortedB l with
          | false => rfl
          | true =>
            have := (sortedB_iff l).mp hsb k hk
            omega
        rw [this]
      · rcases Nat.lt_or_ge k j with h | h
        · exact hs j (by omega) hj1
        · have : j = k := by omega
          subst this; omega
  by_cases hz : l.length = 0
  · refine hX _ _ fun _ => bcase_dec (fun h => ?_) fun _ => ⟨?_, Keep.refl _ _⟩
    · rw [hz, i64_in _ (by omega)] at h; omega
    · rw [List.eq_nil_of_length_eq_zero hz]; rfl
  · exact loop (l.length - 1) (by omega) (fun j hj hj1 => by omega) _ (by rw [i64_in _ (by omega)]; omega)
theorem p_rise {b g n cp : Nat} {ro : Bool} {l : List Int} (hb : H.get b = some (.cells (l.map vI) ro g)) (hn : n = l.length) (hl : l.length < 1000) : PureC prog (XK 12) F_conf_rise [.slice (some ⟨b, 0, none⟩) n cp] H (.bool (sortedB l)) := by
  refine pure_of _ rfl (fun N => nf_F_conf_rise _ _ _ _ _ _) rfl fun N hN => ?_
  unfold vc_F_conf_rise
  refine callT (p_sorted (H := H.up N) hb hn hl) TL_nd rfl (by decide) ?_
  simp only [r_b_eq]
  exact ⟨by trivial, Keep.refl _ _⟩
theorem c_rise {j b g n cp : Nat} {ro : Bool} {l : List Int} {Q : Value → AH → Prop} (hj : 12 < j) (hb : H.get b = some (.cells (l.map vI) ro g)) (hn : n = l.length) (hl : l.length < 1000) (hQ : Q (.bool (sortedB l)) H) : W prog (XK j) F_conf_rise [.slice (some ⟨b, 0, none⟩) n cp] H Q :=
  callT (p_rise hb hn hl) TL_nd rfl hj hQ

theorem p_tright (t : TaskC) : PureC prog (XK 13) F_conf_Task_Right [.agg #[.bool t.hi, vI t.T, vI t.D, vI t.V, vI t.Lo, vI t.Top]] H (.bool t.right) := by
  refine pure_of _ rfl (fun N => nf_F_conf_Task_Right _ _ _ _ _ _ _ _ _) rfl fun N hN => ?_
  unfold vc_F_conf_Task_Right
  refine nw.new fun b G a => ?_
  intro X hX
  refine ld_i.mk a.at_ rfl (ld_i.mk a.at_ rfl (ld_i.mk a.at_ rfl (ld_i.mk a.at_ rfl (nw.new fun b1 G1 a1 => ?_))))
  refine c_rise (l := [1, t.Lo, t.V, t.D, t.T, 1000]) (by decide) a1.at_ rfl (by simp) ?_
  have h1 := a1.far a.at_ (by have := a.next; have := a.num; omega)
  have k1 : Keep N (H.up N) G1 := a.keep.trans (a1.keep.mono (by have := a.next; simp at *; omega))
  simp only [r_b_eq]
  refine bcase_both (fun h => ⟨?_, k1⟩) fun h => ?_
  · simp only [TaskC.right]; simp at h; rw [h]; rfl
  · refine ld_i.mk h1 rfl (ld_i.mk h1 rfl (ld_i.mk h1 rfl (nw.new fun b2 G2 a2 => ?_)))
    refine c_rise (l := [t.Lo, t.Top, t.D]) (by decide) a2.at_ rfl (by simp) ?_
    have h2 := a2.far h1 (by have := a.next; have := a.num; have := a1.next; omega)
    have k2 : Keep N (H.up N) G2 := k1.trans (a2.keep.mono (by have := k1.next; simpa using this))
    simp only [r_b_eq]
    refine bcase_both (fun h' => ⟨?_, k2⟩) fun h' => kp.mk (hX _ fun _ => ?_)
    · simp only [TaskC.right]; simp at h h'; rw [h, h']; rfl
    · have hr : t.right = (t.hi || (t.V == t.D && t.Top == t.Lo)) := by simp only [TaskC.right]; simp at h h'; rw [h, h']; simp
      rw [hr]
      refine ld_b.mk h2 rfl (bcase_both (fun hh => ⟨by rw [hh]; rfl, k2⟩) fun hh => ld_i.mk h2 rfl (ld_i.mk h2 rfl (bcase_both (fun hv => ld_i.mk h2 rfl (ld_i.mk h2 rfl ⟨by rw [hh, hv]; rfl, k2⟩)) fun hv => ⟨by rw [hh, hv]; rfl, k2⟩)))
theorem c_tright {j : Nat} (t : TaskC) {Q : Value → AH → Prop} (hj : 13 < j) (hQ : Q (.bool t.right) H) : W prog (XK j) F_conf_Task_Right [.agg #[.bool t.hi, vI t.T, vI t.D, vI t.V, vI t.Lo, vI t.Top]] H Q := callT (p_tright t) TL_nd rfl hj hQ
theorem p_sright (t : SrvC) : PureC prog (XK 14) F_conf_Server_Right [.agg #[.bool t.refill, vI t.C, vI t.T]] H (.bool t.right) := by
  refine pure_of _ rfl (fun N => nf_F_conf_Server_Right _ _ _ _ _ _) rfl fun N hN => ?_
  unfold vc_F_conf_Server_Right
  refine nw.new fun b G a => ?_
  refine ld_i.mk a.at_ rfl (ld_i.mk a.at_ rfl (nw.new fun b1 G1 a1 => ?_))
  refine c_rise (l := [1, t.C, t.T, 1000]) (by decide) a1.at_ rfl (by simp) ?_
  have k1 : Keep N (H.up N) G1 := a.keep.trans (a1.keep.mono (by have := a.next; simp at *; omega))
  simp only [r_b_eq]
  exact ⟨rfl, k1⟩
theorem c_sright {j : Nat} (t : SrvC) {Q : Value → AH → Prop} (hj : 14 < j) (hQ : Q (.bool t.right) H) : W prog (XK j) F_conf_Server_Right [.agg #[.bool t.refill, vI t.C, vI t.T]] H Q := callT (p_sright t) TL_nd rfl hj hQ

theorem inv_task {G : AH} {v : Value} : invA Tryz.prog G (.iface T_conf_Task v) "Right" = some (F_conf_Task_Right, v) := by kernel_rfl
theorem inv_srv {G : AH} {v : Value} : invA Tryz.prog G (.iface T_conf_Server v) "Right" = some (F_conf_Server_Right, v) := by kernel_rfl
theorem p_all1 (t : TaskC) : PureC prog (XK 15) F_conf_all_conf_Task_1 [.agg #[.bool t.hi, vI t.T, vI t.D, vI t.V, vI t.Lo, vI t.Top]] H (.bool !t.right) := by
  refine pure_of _ rfl (fun N => nf_F_conf_all_conf_Task_1 _ _ _ _ _ _ _ _ _) rfl fun N hN => ?_
  unfold vc_F_conf_all_conf_Task_1
  refine nw.new fun b G a => ld_Abiiiii.mk a.at_ rfl (by simp) ⟨_, _, inv_task, ?_⟩
  refine c_tright t (by decide) ?_
  simp only [r_b_eq]
  exact ⟨by trivial, a.keep⟩
theorem p_all1s (t : SrvC) : PureC prog (XK 16) F_conf_all_conf_Server_1 [.agg #[.bool t.refill, vI t.C, vI t.T]] H (.bool !t.right) := by
  refine pure_of _ rfl (fun N => nf_F_conf_all_conf_Server_1 _ _ _ _ _ _) rfl fun N hN => ?_
  unfold vc_F_conf_all_conf_Server_1
  refine nw.new fun b G a => ld_Abii.mk a.at_ rfl (by simp) ⟨_, _, inv_srv, ?_⟩
  refine c_sright t (by decide) ?_
  simp only [r_b_eq]
  exact ⟨by trivial, a.keep⟩
theorem p_tnew1 (t : TaskC) : PureC prog (XK 17) F_tasks_New_1 [.agg #[.bool t.hi, vI t.T, vI t.D, vI t.V, vI t.Lo, vI t.Top]] H (.bool !t.right) := by
  refine pure_of _ rfl (fun N => nf_F_tasks_New_1 _ _ _ _ _ _ _ _ _) rfl fun N hN => ?_
  unfold vc_F_tasks_New_1
  refine nw.new fun b G a => ld_Abiiiii.mk a.at_ rfl (by simp) ?_
  refine c_tright t (by decide) ?_
  simp only [r_b_eq]
  exact ⟨by trivial, a.keep⟩
theorem p_pnew1 (t : TaskC) : PureC prog (XK 18) F_police_New_1 [.agg #[.bool t.hi, vI t.T, vI t.D, vI t.V, vI t.Lo, vI t.Top]] H (.bool !t.right) := by
  refine pure_of _ rfl (fun N => nf_F_police_New_1 _ _ _ _ _ _ _ _ _) rfl fun N hN => ?_
  unfold vc_F_police_New_1
  refine nw.new fun b G a => ld_Abiiiii.mk a.at_ rfl (by simp) ?_
  refine c_tright t (by decide) ?_
  simp only [r_b_eq]
  exact ⟨by trivial, a.keep⟩
end
end Go.Ez

/- What partitions may be: lists of tasks and servers. -/
set_option linter.all false
namespace Go.Ez
open Go.Proofs Go.IntWalk
section
variable {H : AH} {col : Col} {c : List Nat}
abbrev vTask (t : TaskC) : Value := .agg #[.bool t.hi, vI t.T, vI t.D, vI t.V, vI t.Lo, vI t.Top]
abbrev vSrv (t : SrvC) : Value := .agg #[.bool t.refill, vI t.C, vI t.T]

theorem p_idxT {a : Option Addr} {n cap : Nat} {l : List TaskC} (h : RdE eTask 6 H col c a n cap l) (hl : l.length < 10000000000000) {v : Value} {g : FuncId} {p : TaskC → Bool} (hv : ∀ t, fnV v [vTask t] = some (g, [vTask t]))
    (hg : ∀ t N (Q : Value → AH → Prop), Q (.bool (p t)) (H.up N) → W prog (XK 19) g [vTask t] (H.up N) Q) : PureC prog (XK 19) F_slices_IndexFunc__conf_Taskconf_Task [.slice a n cap, v] H (vI (idxI p l)) := by
  refine pure_of _ rfl (fun N => nf_F_slices_IndexFunc__conf_Taskconf_Task _ _ _ _ _ _ _) rfl fun N hN => ?_
  unfold vc_F_slices_IndexFunc__conf_Taskconf_Task
  intro X hX
  have hn := h.1
  have loop := loop_up (X := X) (fun k (_ : Unit) => [vI k]) (fun k _ G => G = H.up N ∧ ∀ i x, i < k → l[i]? = some x → p x = false) n ?_ ?_
  · exact loop 0 () _ (by omega) ⟨rfl, fun i x hi => by omega⟩
  · rintro _ _ ⟨rfl, hp⟩
    refine hX _ _ fun _ => bcase_dec (fun h => absurd h (by omega)) fun _ => ⟨?_, Keep.refl _ _⟩
    rw [(idxI_at p l n hp).1 hn]
  · rintro k _ _ hk ⟨rfl, hp⟩ go
    obtain ⟨b, o, ds, ro, g', rfl, h2, h3, h4, h5, h6⟩ := h.at_ (i := k) (x := l[k]) (by simp)
    refine hX _ _ fun _ => bcase_dec (fun _ => ix.mk (by omega) (by omega) (ld_Abiiiii.mk h3 (by rw [Int.toNat_natCast]; exact h6) (by rw [Int.toNat_natCast]; omega) ⟨_, _, hv _, hg _ _ _ ?_⟩)) fun h => absurd (by omega) h
    simp only [r_b_eq]
    refine bcase_both (fun ht => ⟨?_, Keep.refl _ _⟩) fun hf => kp.mk ?_
    · rw [(idxI_at p l k hp).2 _ (by simp) ht]
    · have e1 : IntKind.i64.wrap ((k : Int) + 1) = ((k + 1 : Nat) : Int) := by rw [i64_in _ (by omega)]; omega
      rw [e1]
      refine go () _ ⟨rfl, fun i x hi hx => ?_⟩
      rcases Nat.lt_or_ge i k with h | h
      · exact hp i x h hx
      · have : i = k := by omega
        subst this
        simp only [show i < l.length by omega, List.getElem?_eq_getElem, Option.some.injEq] at hx
        rw [← hx]; exact hf
theorem p_idxS {a : Option Addr} {n cap : Nat} {l : List SrvC} (h : RdE eSrv 3 H col c a n cap l) (hl : l.length < 10000000000000) {v : Value} {g : FuncId} {p : SrvC → Bool} (hv : ∀ t, fnV v [vSrv t] = some (g, [vSrv t]))
    (hg : ∀ t N (Q : Value → AH → Prop), Q (.bool (p t)) (H.up N) → W prog (XK 20) g [vSrv t] (H.up N) Q) : PureC prog (XK 20) F_slices_IndexFunc__conf_Serverconf_Server [.slice a n cap, v] H (vI (idxI p l)) := by
  refine pure_of _ rfl (fun N => nf_F_slices_IndexFunc__conf_Serverconf_Server _ _ _ _ _ _ _) rfl fun N hN => ?_
  unfold vc_F_slices_IndexFunc__conf_Serverconf_Server
  intro X hX
  have hn := h.1
  have loop := loop_up (X := X) (fun k (_ : Unit) => [vI k]) (fun k _ G => G = H.up N ∧ ∀ i x, i < k → l[i]? = some x → p x = false) n ?_ ?_
  · exact loop 0 () _ (by omega) ⟨rfl, fun i x hi => by omega⟩
  · rintro _ _ ⟨rfl, hp⟩
    refine hX _ _ fun _ => bcase_dec (fun h => absurd h (by omega)) fun _ => ⟨?_, Keep.refl _ _⟩
    rw [(idxI_at p l n hp).1 hn]
  · rintro k _ _ hk ⟨rfl, hp⟩ go
    obtain ⟨b, o, ds, ro, g', rfl, h2, h3, h4, h5, h6⟩ := h.at_ (i := k) (x := l[k]) (by simp)
    refine hX _ _ fun _ => bcase_dec (fun _ => ix.mk (by omega) (by omega) (ld_Abii.mk h3 (by rw [Int.toNat_natCast]; exact h6) (by rw [Int.toNat_natCast]; omega) ⟨_, _, hv _, hg _ _ _ ?_⟩)) fun h => absurd (by omega) h
    simp only [r_b_eq]
    refine bcase_both (fun ht => ⟨?_, Keep.refl _ _⟩) fun hf => kp.mk ?_
    · rw [(idxI_at p l k hp).2 _ (by simp) ht]
    · have e1 : IntKind.i64.wrap ((k : Int) + 1) = ((k + 1 : Nat) : Int) := by rw [i64_in _ (by omega)]; omega
      rw [e1]
      refine go () _ ⟨rfl, fun i x hi hx => ?_⟩
      rcases Nat.lt_or_ge i k with h | h
      · exact hp i x h hx
      · have : i = k := by omega
        subst this
        simp only [show i < l.length by omega, List.getElem?_eq_getElem, Option.some.injEq] at hx
        rw [← hx]; exact hf

theorem p_contT {a : Option Addr} {n cap : Nat} {l : List TaskC} (h : RdE eTask 6 H col c a n cap l) (hl : l.length < 10000000000000) {v : Value} {g : FuncId} {p : TaskC → Bool} (hv : ∀ t, fnV v [vTask t] = some (g, [vTask t]))
    (hg : ∀ t N (Q : Value → AH → Prop), Q (.bool (p t)) ((H.up N)) → W prog (XK 19) g [vTask t] (H.up N) Q) : PureC prog (XK 21) F_slices_ContainsFunc__conf_Taskconf_Task [.slice a n cap, v] H (.bool (l.any p)) := by
  refine pure_of _ rfl (fun N => nf_F_slices_ContainsFunc__conf_Taskconf_Task _ _ _ _ _ _ _) rfl fun N hN => ?_
  unfold vc_F_slices_ContainsFunc__conf_Taskconf_Task
  refine callT (p_idxT (h.up hN) hl hv fun t M Q hQ => hg t M Q hQ) TL_nd rfl (by decide) ?_
  simp only [r_i_eq, idxI_any]
  exact ⟨by trivial, Keep.refl _ _⟩
theorem p_contS {a : Option Addr} {n cap : Nat} {l : List SrvC} (h : RdE eSrv 3 H col c a n cap l) (hl : l.length < 10000000000000) {v : Value} {g : FuncId} {p : SrvC → Bool} (hv : ∀ t, fnV v [vSrv t] = some (g, [vSrv t]))
    (hg : ∀ t N (Q : Value → AH → Prop), Q (.bool (p t)) ((H.up N)) → W prog (XK 20) g [vSrv t] (H.up N) Q) : PureC prog (XK 22) F_slices_ContainsFunc__conf_Serverconf_Server [.slice a n cap, v] H (.bool (l.any p)) := by
  refine pure_of _ rfl (fun N => nf_F_slices_ContainsFunc__conf_Serverconf_Server _ _ _ _ _ _ _) rfl fun N hN => ?_
  unfold vc_F_slices_ContainsFunc__conf_Serverconf_Server
  refine callT (p_idxS (h.up hN) hl hv fun t M Q hQ => hg t M Q hQ) TL_nd rfl (by decide) ?_
  simp only [r_i_eq, idxI_any]
  exact ⟨by trivial, Keep.refl _ _⟩
theorem any_not {α : Type} (p : α → Bool) (l : List α) : (!l.any fun x => !p x) = l.all p := by
  induction l with
  | nil => rfl
  | cons a l ih => simp only [List.any_cons, List.all_cons, Bool.not_or, Bool.not_not, ih]
theorem p_allT {a : Option Addr} {n cap : Nat} {l : List TaskC} (h : RdE eTask 6 H col c a n cap l) (hl : l.length < 10000000000000) {m : Int} : PureC prog (XK 23) F_conf_all_conf_Task [.slice a n cap, vI m] H (.bool (decide ((l.length : Int) ≤ m) && l.all (·.right))) := by
  refine pure_of _ rfl (fun N => nf_F_conf_all_conf_Task _ _ _ _ _ _ _) rfl fun N hN => ?_
  unfold vc_F_conf_all_conf_Task
  have hn := h.1
  refine bcase_dec (fun hm => ?_) fun hm => ⟨?_, Keep.refl _ _⟩
  · refine callT (p_contT (p := fun t => !t.right) (h.up hN) hl (fun t => rfl) fun t M Q hQ => callT (p_all1 t) TL_nd rfl (by decide) hQ) TL_nd rfl (by decide) ?_
    simp only [r_b_eq]
    refine ⟨?_, Keep.refl _ _⟩
    rw [any_not, decide_eq_true (by omega), Bool.true_and]
  · rw [decide_eq_false (by omega), Bool.false_and]
theorem p_allS {a : Option Addr} {n cap : Nat} {l : List SrvC} (h : RdE eSrv 3 H col c a n cap l) (hl : l.length < 10000000000000) {m : Int} : PureC prog (XK 24) F_conf_all_conf_Server [.slice a n cap, vI m] H (.bool (decide ((l.length : Int) ≤ m) && l.all (·.right))) := by
  refine pure_of _ rfl (fun N => nf_F_conf_all_conf_Server _ _ _ _ _ _ _) rfl fun N hN => ?_
  unfold vc_F_conf_all_conf_Server
  have hn := h.1
  refine bcase_dec (fun hm => ?_) fun hm => ⟨?_, Keep.refl _ _⟩
  · refine callT (p_contS (p := fun t => !t.right) (h.up hN) hl (fun t => rfl) fun t M Q hQ => callT (p_all1s t) TL_nd rfl (by decide) hQ) TL_nd rfl (by decide) ?_
    simp only [r_b_eq]
    refine ⟨?_, Keep.refl _ _⟩
    rw [any_not, decide_eq_true (by omega), Bool.true_and]
  · rw [decide_eq_false (by omega), Bool.false_and]

theorem p_max3 {b o g : Nat} {ro : Bool} {ds : List Value} {x y z : Int} {cap : Nat} (hb : H.get b = some (.cells ds ro g)) (h0 : ds[o]? = some (.int .u8 x)) (h1 : ds[o + 1]? = some (.int .u8 y)) (h2 : ds[o + 2]? = some (.int .u8 z)) :
    PureC prog (XK 25) F_slices_Max__uint8uint8 [.slice (some ⟨b, o, none⟩) 3 cap] H (.int .u8 (if z > (if y > x then y else x) then z else (if y > x then y else x))) := by
  refine pure_of _ rfl (fun N => nf_F_slices_Max__uint8uint8 _ _ _ _ _ _) rfl fun N hN => ?_
  unfold vc_F_slices_Max__uint8uint8
  intro X1 hX1
  refine bcase_dec (fun h => absurd h (by omega)) fun _ => kp.mk (hX1 _ fun _ => ix.mk (by omega) (by omega) (ld_c.mk hb (by simpa using h0) ?_))
  intro X hX
  refine hX _ _ _ fun _ => bcase_dec (fun _ => ix.mk (by omega) (by omega) (ld_c.mk hb (by simpa using h1) (kp.mk ?_))) fun h => absurd (by omega) h
  rw [show IntKind.i64.wrap (1 + 1) = 2 by decide]
  refine hX _ _ _ fun _ => bcase_dec (fun _ => ix.mk (by omega) (by omega) (ld_c.mk hb (by simpa using h2) (kp.mk ?_))) fun h => absurd (by omega) h
  rw [show IntKind.i64.wrap (2 + 1) = 3 by decide]
  exact hX _ _ _ fun _ => bcase_dec (fun h => absurd h (by omega)) fun _ => ⟨rfl, Keep.refl _ _⟩

/-- Why a partition may not be; 0: it may. -/
def rightsM (ts : List TaskC) (ss : List SrvC) (x y z : Int) : Int :=
  if (decide ((ts.length : Int) ≤ 6) && ts.all (·.right)) = false then 22 else if (decide ((ss.length : Int) ≤ 3) && ss.all (·.right)) = false then 23 else if 2 < (if z > (if y > x then y else x) then z else (if y > x then y else x)) then 26 else 0
theorem p_rights {a1 a2 a3 : Option Addr} {n1 c1 n2 c2 n3 c3 : Nat} {ts : List TaskC} {ss : List SrvC} {d1 d2 : List Nat} {x y z : Int} (h1 : RdE eTask 6 H col d1 a1 n1 c1 ts) (h2 : RdE eSrv 3 H col d2 a2 n2 c2 ss) (hl1 : ts.length < 10000000000000) (hl2 : ss.length < 10000000000000) :
    PureC prog (XK 26) F_conf_Part_Rights [.agg #[.slice a1 n1 c1, .slice a2 n2 c2, .slice a3 n3 c3, .int .u8 x, .int .u8 y, .int .u8 z]] H (vI (rightsM ts ss x y z)) := by
  refine pure_of _ rfl (fun N => nf_F_conf_Part_Rights _ _ _ _ _ _ _ _ _ _ _ _ _ _ _) rfl fun N hN => ?_
  unfold vc_F_conf_Part_Rights
  refine nw.new fun b G a => ld_l.mk a.at_ rfl ?_
  have r1 := (h1.up hN).kept a.keep
  have r2 := (h2.up hN).kept a.keep
  refine callT (p_allT r1 hl1) TL_nd rfl (by decide) ?_
  simp only [r_b_eq]
  refine bcase_both (fun h => ⟨?_, a.keep⟩) fun h => ld_l.mk a.at_ rfl ?_
  · simp only [Bool.not_eq_true'] at h; simp only [rightsM, h, if_true]
  · refine callT (p_allS r2 hl2) TL_nd rfl (by decide) ?_
    simp only [Bool.not_eq_false'] at h
    simp only [r_b_eq]
    refine bcase_both (fun h' => ⟨?_, a.keep⟩) fun h' => ?_
    · simp only [Bool.not_eq_true'] at h'; simp only [rightsM, h, h', if_true]; rfl
    · simp only [Bool.not_eq_false'] at h'
      refine ⟨some ⟨b, 3, none⟩, 3, 3, ?_, ?_⟩
      · simp only [sliceArr, Nat.zero_add, a.at_, bnd, Option.bind_some]; rfl
      · refine callT (p_max3 a.at_ rfl rfl rfl) TL_nd rfl (by decide) ?_
        simp only [r_c_eq]
        refine bcase_dec (fun hm => ⟨?_, a.keep⟩) fun hm => ⟨?_, a.keep⟩
        · simp only [rightsM, h, h', hm, if_true]; rfl
        · simp only [rightsM, h, h', hm, if_false]; rfl
theorem c_rights {j : Nat} {a1 a2 a3 : Option Addr} {n1 c1 n2 c2 n3 c3 : Nat} {ts : List TaskC} {ss : List SrvC} {d1 d2 : List Nat} {x y z : Int} {Q : Value → AH → Prop} (hj : 26 < j) (h1 : RdE eTask 6 H col d1 a1 n1 c1 ts) (h2 : RdE eSrv 3 H col d2 a2 n2 c2 ss) (hl1 : ts.length < 10000000000000) (hl2 : ss.length < 10000000000000)
    (hQ : Q (vI (rightsM ts ss x y z)) H) : W prog (XK j) F_conf_Part_Rights [.agg #[.slice a1 n1 c1, .slice a2 n2 c2, .slice a3 n3 c3, .int .u8 x, .int .u8 y, .int .u8 z]] H Q := callT (p_rights h1 h2 hl1 hl2) TL_nd rfl hj hQ
end
end Go.Ez
