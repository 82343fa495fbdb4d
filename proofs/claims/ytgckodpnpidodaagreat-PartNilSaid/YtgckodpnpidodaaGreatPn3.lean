/- PartNil: what the call computes. -/
import Derived.Test.YtgckodpnpidodaaGreatPn2
set_option linter.all false
set_option linter.unusedVariables false
set_option linter.unusedSimpArgs false
namespace Go.Ez
open Go.Proofs Go.IntWalk

theorem w_knows {H : AH} : W Tryz.prog X0 F_parcloselaw20_knows [] H fun v H' => v = .bool true ∧ H = H' :=
  W.ext rfl rfl ⟨rfl, rfl⟩

theorem w_light1 {H : AH} {b : Nat} {a0 a1 a2 a3 a4 a5 a6 : Int} {s : Option Addr} {n c : Nat}
    (hg : H.get b = some (.cells [.int .i64 a0, .int .i64 a1, .int .i64 a2, .int .i64 a3, .int .i64 a4, .int .i64 a5, .int .i64 a6, .slice s n c] false 0)) :
    W Tryz.prog X0 F_parcloselaw20_light [.slice (some ⟨b, 0, none⟩) 1 1] H fun v H' => v = .bool (decide (n ≤ 70)) ∧ H = H' := by
  refine enter _ (nf_F_parcloselaw20_light _ _ _ _ _ _) rfl ?_
  unfold vc_F_parcloselaw20_light
  intro X hX
  refine hX _ _ fun _ => ?_
  rw [bcase_decide, bcase_decide]
  refine ⟨fun _ => ⟨fun _ => ⟨b, 0, rfl, by omega, by omega, _, _, _, ld1_at hg rfl, bcase_decide.mpr ⟨fun h => ⟨?_, rfl⟩, fun h => ⟨rfl, ?_⟩⟩⟩, fun h => absurd (by omega) h⟩, fun h => absurd (by omega) h⟩
  · rw [decide_eq_false (by omega)]
  · refine hX _ _ fun _ => ?_
    rw [bcase_decide, bcase_decide]
    rw [i64_in _ (by omega)]
    refine ⟨fun h => absurd h (by omega), fun _ => ⟨?_, rfl⟩⟩
    rw [decide_eq_true (show n ≤ 70 by omega)]
    rfl

theorem eq52 : eqSV Tryz.prog .neq 47 (.agg #[.bool false, .int .i64 0]) (.agg #[.bool false, .int .i64 0]) = some (.bool false) := by kernel_rfl
theorem eq54 : eqSV Tryz.prog .neq 49 (.agg #[.int .i64 0, .int .i64 0, .int .i64 0]) (.agg #[.int .i64 0, .int .i64 0, .int .i64 0]) = some (.bool false) := by kernel_rfl
theorem again1 {H : AH} {p : Value} {n : Int} (h : ld1 H p = some (.int .i64 n)) : Again H (.ld1 p) (.int .i64 n) := ⟨h, by simp [veq]⟩

theorem w_partNil {H : AH} {a0 a1 a2 a3 a4 a5 a6 : Int} {s : Option Addr} {n c : Nat} (ho : Ops H s n) :
    W Tryz.prog X0 F_parcloselaw20_PartNil [.agg #[.int .i64 a0, .int .i64 a1, .int .i64 a2, .int .i64 a3, .int .i64 a4, .int .i64 a5, .int .i64 a6, .slice s n c]] H fun v _ => v = .bool true := by
  refine enter _ (nf_F_parcloselaw20_PartNil _ _ _ _ _ _ _ _ _ _ _ _ _) rfl ?_
  unfold vc_F_parcloselaw20_PartNil
  intro b8 H9 hb8 hH9
  have a9 := new1 hb8 hH9
  clear hb8 hH9
  have i9 := a9.next; have j9 := a9.num
  refine ⟨_, _, _, _, _, _, _, _, _, _, ldN_at a9.at_ (by simp) rfl, ?_⟩
  intro b18 H19a hb18 hH19
  have a19 := new1 hb18 hH19
  clear hb18 hH19
  have i19 := a19.next; have j19 := a19.num
  refine (w_light1 a19.at_).mono ?_
  rintro _ _ ⟨rfl, rfl⟩

  refine ⟨_, rfl, ?_⟩
  by_cases hn : n ≤ 70
  case neg =>
    rw [decide_eq_false hn]
    simp only [Bool.not_false, bcase_true]
    refine w_knows.mono ?_
    rintro _ _ ⟨rfl, rfl⟩
    exact ⟨_, rfl, rfl⟩
  rw [decide_eq_true hn]
  simp only [Bool.not_true, bcase_false]
  intro X hX
  have g8 := a19.far a9.at_ (by omega)
  have K19 : Keep H.next H H19a := a9.keep.trans (a19.keep.mono (by omega))
  have loop : ∀ (k : Nat) (i : Int) (p : Option Addr) (G : AH), (2 - i).toNat = k → 0 ≤ i → i ≤ 2 → Keep H19a.next H19a G → NoneP G p → X [.pointer p, .int .i64 i] G := by
    intro k
    induction k with
    | zero =>
      intro i p G hk h0 h2 KG hp
      refine hX _ _ _ fun _ => ?_
      rw [bcase_decide]
      refine ⟨fun h => absurd h (by omega), fun _ => ?_⟩
      refine w_knows.mono ?_
      rintro _ _ ⟨rfl, rfl⟩
      exact ⟨_, rfl, rfl⟩
    | succ k ih =>
      intro i p G hk h0 h2 KG hp
      refine hX _ _ _ fun _ => ?_
      rw [bcase_decide]
      refine ⟨fun _ => ?_, fun h => absurd (by omega) h⟩
      refine (w_stop hp).mono ?_
      rintro _ _ ⟨rfl, rfl⟩
      refine ⟨rfl, (w_restart hp).mono ?_⟩
      rintro _ _ ⟨rfl, rfl⟩
      refine ⟨rfl, (w_pick hp).mono ?_⟩
      rintro _ G1 ⟨rfl, k1⟩
      refine ⟨_, _, _, rfl, ?_⟩
      intro b40 G2 hb40 hG2
      have a2 := new1 hb40 hG2
      clear hb40 hG2
      refine stV_do a2.at_ rfl rfl (by decide) fun G3 s3 => ?_
      have n0 := KG.next; have n1 := k1.next; have n2 := a2.next; have m2 := a2.num; have n3 := s3.next
      have K3 : Keep G.next G G3 := (k1.trans (a2.keep.mono n1)).trans (s3.keep (by omega))
      refine (w_run (hp.keep K3)).mono ?_
      rintro _ G4 ⟨rfl, k4⟩
      refine ⟨_, _, _, _, _, _, _, _, rfl, ?_⟩
      intro b51 G5 hb51 hG5 b53 G6 hb53 hG6
      have a5 := new1 hb51 hG5
      have a6 := new1 hb53 hG6
      clear hb51 hG5 hb53 hG6
      have n4 := k4.next; have n5 := a5.next; have m5 := a5.num; have n6 := a6.next; have m6 := a6.num
      refine stV_do (a6.far a5.at_ (by omega)) rfl rfl (by decide) fun G7 s7 => ?_
      have n7 := s7.next
      refine stV_do (s7.far a6.at_ (by omega)) rfl rfl (by decide) fun G8 s8 => ?_
      have n8 := s8.next
      have K8 : Keep G.next G G8 := ((((K3.trans (k4.mono (by omega))).trans (a5.keep.mono (by omega))).trans (a6.keep.mono (by omega))).trans (s7.keep (by omega))).trans (s8.keep (by omega))
      have g40 := s8.far (s7.far (a6.far (a5.far (k4.at_ s3.at_ (by omega)) (by omega)) (by omega)) (by omega)) (by omega)
      have g51 := s8.far s7.at_ (by omega)
      have g53 := s8.at_
      have g8' := K8.at_ (KG.at_ g8 (by omega)) (by omega)
      refine ⟨_, _, _, _, _, _, _, ldN_at g8' (by simp) rfl, ?_⟩
      have ho8 := ((ho.keep K19 (Nat.le_refl _)).keep KG (Nat.le_refl _)).keep K8 (Nat.le_refl _)
      refine (w_job ho8 hn).mono ?_
      rintro _ G9 ⟨⟨s', n', c', rfl⟩, k9⟩
      have n9 := k9.next
      refine ⟨_, _, _, _, _, _, _, rfl, ?_⟩
      have K9 : Keep G.next G G9 := K8.trans (k9.mono (by omega))
      refine (w_arrive (hp.keep K9)).mono ?_
      rintro _ G10 ⟨rfl, k10⟩
      have n10 := k10.next
      have K10 : Keep G.next G G10 := K9.trans (k10.mono (by omega))
      have far : ∀ {b : Nat} {B : Blk}, G8.get b = some B → b < G8.next → G10.get b = some B := fun h hb => k10.at_ (k9.at_ h hb) (by omega)
      refine ⟨_, rfl, w_num.mono ?_⟩
      rintro _ _ ⟨rfl, rfl⟩
      refine ⟨_, rfl, ?_⟩
      simp only [bne_self_eq_false, bcase_false]
      have g8'' := far g8' (by omega)
      refine ⟨_, ld1_at g8'' rfl, _, ld1_at g8'' rfl, (w_request (hp.keep K10)).mono ?_⟩
      rintro _ _ ⟨rfl, rfl⟩
      refine ⟨_, rfl, w_num.mono ?_⟩
      rintro _ _ ⟨rfl, rfl⟩
      refine ⟨_, rfl, ?_⟩
      simp only [bne_self_eq_false, bcase_false]
      refine (w_begin (hp.keep K10)).mono ?_
      rintro _ _ ⟨rfl, rfl⟩
      refine ⟨_, _, _, rfl, (w_jobs (hp.keep K10)).mono ?_⟩
      rintro _ _ ⟨rfl, rfl⟩
      refine ⟨_, _, _, rfl, _, ld1_at g8'' rfl, again1 (ld1_at g8'' rfl), again1 (ld1_at g8'' rfl), (w_queue (hp.keep K10)).mono ?_⟩
      rintro _ _ ⟨rfl, rfl⟩
      refine ⟨_, rfl, ?_⟩
      have e0 : (IntKind.i64.wrap (IntKind.i64.wrap (IntKind.i64.wrap (((0 : Nat) : Int) + ((0 : Nat) : Int)) + ((0 : Nat) : Int)) + 0) != 0) = false := by decide
      rw [e0]
      simp only [bcase_false]
      refine ⟨_, _, ldN_at (far g40 (by omega)) (by decide) rfl, _, _, ldN_at (far g51 (by omega)) (by decide) rfl, _, eq52, ?_⟩
      simp only [bcase_false]
      refine ⟨_, _, _, ldN_at (far g53 (by omega)) (by decide) rfl, _, eq54, ?_⟩
      simp only [bcase_false]
      refine (w_up (hp.keep K10)).mono ?_
      rintro _ _ ⟨rfl, rfl⟩
      refine ⟨_, rfl, ?_⟩
      simp only [bcase_false]
      refine (w_high (hp.keep K10)).mono ?_
      rintro _ _ ⟨rfl, rfl⟩
      refine ⟨_, rfl, ?_⟩
      simp only [bcase_false]
      intro b108 G11 hb108 hG11
      have a11 := new1 hb108 hG11
      clear hb108 hG11
      have n11 := a11.next; have m11 := a11.num
      refine ⟨trivial, ?_⟩
      rw [i64_in _ (by omega)]
      refine ih (i + 1) _ G11 (by omega) (by omega) (by omega) ((KG.trans (K10.mono n0)).trans (a11.keep.mono (by omega))) (.inr ⟨b108, rfl, by omega, a11.at_⟩)
  exact loop 2 0 none H19a rfl (by omega) (by omega) (Keep.refl _ _) (.inl rfl)
end Go.Ez
