/- Contracts: a partition that is none. -/
import Derived.Test.YtgckodpnpidodaaGreatPnVc
set_option linter.all false
set_option linter.unusedVariables false
set_option linter.unusedSimpArgs false
namespace Go.Ez
open Go.Proofs

def X0 : Ext := extOf [(F_parcloselaw20_knows, .bool true)]

theorem enter {f : FuncId} {args : List Value} {H : AH} {Q : Value → AH → Prop} (A : Ann) {V : Prop} (e : wpF Tryz.prog (W Tryz.prog X0) A f args H Q = V) (hd : X0.dom f = false) (h : V) : W Tryz.prog X0 f args H Q :=
  wpF_sound hd A (by rw [e]; exact h)

/-- No partition, or one that nobody made. -/
def NoneP (H : AH) (p : Option Addr) : Prop :=
  p = none ∨ ∃ b, p = some ⟨b, 0, none⟩ ∧ b < H.next ∧ H.get b = some (.cells [.pointer none, .pointer none, .slice none 0 0, .bool false] false 0)
theorem NoneP.keep {H H' : AH} {p : Option Addr} (h : NoneP H p) (k : Keep H.next H H') : NoneP H' p := by
  rcases h with h | ⟨b, h1, h2, h3⟩
  · exact .inl h
  · exact .inr ⟨b, h1, Nat.lt_of_lt_of_le h2 k.next, k.at_ h3 h2⟩

theorem w_none {H : AH} {p : Option Addr} (h : NoneP H p) : W Tryz.prog X0 F_part_Part_none [.pointer p] H fun v H' => v = .bool true ∧ H = H' := by
  refine enter _ (nf_F_part_Part_none _ _ _ _) rfl ?_
  unfold vc_F_part_Part_none
  rcases h with rfl | ⟨b, rfl, h2, h3⟩
  · simp
  · exact ⟨b, 0, rfl, none, ld1_at h3 rfl, rfl, rfl⟩

theorem w_stop {H : AH} {p : Option Addr} (h : NoneP H p) : W Tryz.prog X0 F_part_Part_Stop [.pointer p] H fun v H' => v = .tuple #[] ∧ H = H' := by
  refine enter _ (nf_F_part_Part_Stop _ _ _ _) rfl ?_
  unfold vc_F_part_Part_Stop
  refine (w_none h).mono ?_
  rintro _ _ ⟨rfl, rfl⟩
  exact ⟨true, rfl, rfl, rfl⟩

theorem w_restart {H : AH} {p : Option Addr} (h : NoneP H p) : W Tryz.prog X0 F_part_Part_Restart [.pointer p] H fun v H' => v = .tuple #[] ∧ H = H' := by
  refine enter _ (nf_F_part_Part_Restart _ _ _ _) rfl ?_
  unfold vc_F_part_Part_Restart
  refine (w_none h).mono ?_
  rintro _ _ ⟨rfl, rfl⟩
  exact ⟨true, rfl, rfl, rfl⟩

theorem w_up {H : AH} {p : Option Addr} (h : NoneP H p) : W Tryz.prog X0 F_part_Part_Up [.pointer p] H fun v H' => v = .bool false ∧ H = H' := by
  refine enter _ (nf_F_part_Part_Up _ _ _ _) rfl ?_
  unfold vc_F_part_Part_Up
  refine (w_none h).mono ?_
  rintro _ _ ⟨rfl, rfl⟩
  exact ⟨true, rfl, rfl, rfl⟩

theorem w_high {H : AH} {p : Option Addr} (h : NoneP H p) : W Tryz.prog X0 F_part_Part_High [.pointer p] H fun v H' => v = .bool false ∧ H = H' := by
  refine enter _ (nf_F_part_Part_High _ _ _ _) rfl ?_
  unfold vc_F_part_Part_High
  refine (w_none h).mono ?_
  rintro _ _ ⟨rfl, rfl⟩
  exact ⟨true, rfl, rfl, rfl⟩

theorem w_queue {H : AH} {p : Option Addr} {n : Int} (h : NoneP H p) : W Tryz.prog X0 F_part_Part_Queue [.pointer p, .int .i64 n] H fun v H' => v = .int .i64 0 ∧ H = H' := by
  refine enter _ (nf_F_part_Part_Queue _ _ _ _ _) rfl ?_
  unfold vc_F_part_Part_Queue
  refine (w_none h).mono ?_
  rintro _ _ ⟨rfl, rfl⟩
  exact ⟨true, rfl, rfl, rfl⟩

theorem w_request {H : AH} {p : Option Addr} {n m : Int} (h : NoneP H p) : W Tryz.prog X0 F_part_Part_Request [.pointer p, .int .i64 n, .int .i64 m] H fun v H' => v = .int .i64 1 ∧ H = H' := by
  refine enter _ (nf_F_part_Part_Request _ _ _ _ _ _) rfl ?_
  unfold vc_F_part_Part_Request
  refine (w_none h).mono ?_
  rintro _ _ ⟨rfl, rfl⟩
  exact ⟨true, rfl, rfl, rfl⟩

theorem w_jobs {H : AH} {p : Option Addr} (h : NoneP H p) : W Tryz.prog X0 F_part_Part_Jobs [.pointer p] H fun v H' => v = .slice none 0 0 ∧ H = H' := by
  refine enter _ (nf_F_part_Part_Jobs _ _ _ _) rfl ?_
  unfold vc_F_part_Part_Jobs
  refine (w_none h).mono ?_
  rintro _ _ ⟨rfl, rfl⟩
  exact ⟨true, rfl, rfl, rfl⟩

theorem w_begin {H : AH} {p : Option Addr} {n : Int} (h : NoneP H p) : W Tryz.prog X0 F_part_Part_Begin [.pointer p, .int .i64 n] H fun v H' => v = .slice none 0 0 ∧ H = H' := by
  refine enter _ (nf_F_part_Part_Begin _ _ _ _ _) rfl ?_
  unfold vc_F_part_Part_Begin
  refine (w_up h).mono ?_
  rintro _ _ ⟨rfl, rfl⟩
  exact ⟨false, rfl, rfl, rfl⟩

theorem w_num {H : AH} {n : Int} : W Tryz.prog X0 F_parcloselaw20_num [.int .i64 n] H fun v H' => v = .int .i64 n ∧ H = H' :=
  enter _ (nf_F_parcloselaw20_num _ _ _ _) rfl ⟨rfl, rfl⟩

theorem w_arrive {H : AH} {p : Option Addr} {n a b c d : Int} {s : Option Addr} {k l : Nat} (h : NoneP H p) :
    W Tryz.prog X0 F_part_Part_Arrive [.pointer p, .int .i64 n, .agg #[.int .i64 a, .int .i64 b, .int .i64 c, .int .i64 d, .slice s k l]] H fun v H' => v = .int .i64 1 ∧ Keep H.next H H' := by
  refine enter _ (nf_F_part_Part_Arrive _ _ _ _ _ _ _ _ _ _ _ _) rfl ?_
  unfold vc_F_part_Part_Arrive
  rintro _ _ rfl rfl
  have k := (Keep.refl H.next H).alloc (Nat.le_refl _) (.cells [.int .i64 a, .int .i64 b, .int .i64 c, .int .i64 d, .slice s k l] false 0)
  refine (w_none (h.keep k)).mono ?_
  rintro _ _ ⟨rfl, rfl⟩
  exact ⟨true, rfl, rfl, k⟩

theorem w_pick {H : AH} {p : Option Addr} (h : NoneP H p) :
    W Tryz.prog X0 F_part_Part_Pick [.pointer p] H fun v H' => v = .tuple #[.agg #[.bool false, .int .i64 0], .bool false] ∧ Keep H.next H H' := by
  refine enter _ (nf_F_part_Part_Pick _ _ _ _) rfl ?_
  unfold vc_F_part_Part_Pick
  rintro _ _ rfl rfl
  have k := (Keep.refl H.next H).alloc (Nat.le_refl _) (.cells [.bool false, .int .i64 0] false 0)
  refine (w_up (h.keep k)).mono ?_
  rintro _ _ ⟨rfl, rfl⟩
  refine ⟨false, rfl, ?_⟩
  refine ⟨_, stV_eq get_alloc_self rfl rfl (by decide), ?_⟩
  refine ⟨false, 0, ?_, rfl, k.set (Nat.le_refl _) _⟩
  rw [ldN_eq (by rw [AH.get_set, if_pos rfl])]
  rfl

theorem w_run {H : AH} {p : Option Addr} (h : NoneP H p) :
    W Tryz.prog X0 F_part_Part_Run [.pointer p] H fun v H' => v = .tuple #[.agg #[.bool false, .int .i64 0], .agg #[.int .i64 0, .int .i64 0, .int .i64 0], .slice none 0 0] ∧ Keep H.next H H' := by
  refine enter _ (nf_F_part_Part_Run _ _ _ _) rfl ?_
  unfold vc_F_part_Part_Run
  intro b1 H2 hb1 hH2 b3 H4 hb3 hH4
  have a2 := new1 hb1 hH2
  have a4 := new1 hb3 hH4
  clear hb1 hH2 hb3 hH4
  have i2 := a2.next; have i4 := a4.next; have j2 := a2.num; have j4 := a4.num
  have K4 : Keep H.next H H4 := a2.keep.trans (a4.keep.mono (by omega))
  have g1 := a4.far a2.at_ (by omega)
  have g3 := a4.at_
  refine (w_pick (h.keep K4)).mono ?_
  rintro _ H5 ⟨rfl, k5⟩
  refine ⟨false, 0, false, rfl, ?_⟩
  intro b10 H11 hb10 hH11
  have a11 := new1 hb10 hH11
  clear hb10 hH11
  have i5 := k5.next; have i11 := a11.next; have j11 := a11.num
  replace g1 := a11.far (k5.at_ g1 (by omega)) (by omega)
  replace g3 := a11.far (k5.at_ g3 (by omega)) (by omega)
  have K11 : Keep H.next H H11 := (K4.trans (k5.mono (by omega))).trans (a11.keep.mono (by omega))
  refine stV_do a11.at_ rfl rfl (by decide) fun H12 s12 => ?_
  simp only [Bool.not_false, bcase_true]
  refine stV_do (s12.far g1 (by omega)) rfl rfl (by decide) fun H13 s13 => ?_
  refine stV_do (s13.far (s12.far g3 (by omega)) (by omega)) rfl rfl (by decide) fun H14 s14 => ?_
  exact ⟨false, 0, ldN_at (s14.far s13.at_ (by omega)) (by decide) rfl, 0, 0, 0, ldN_at s14.at_ (by decide) rfl, rfl,
    ((K11.trans (s12.keep (by omega))).trans (s13.keep (by omega))).trans (s14.keep (by omega))⟩
end Go.Ez
