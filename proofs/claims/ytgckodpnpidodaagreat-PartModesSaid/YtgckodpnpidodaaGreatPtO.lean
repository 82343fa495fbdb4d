import Derived.Test.YtgckodpnpidodaaGreatPtM
import Derived.Test.YtgckodpnpidodaaGreatRows
set_option linter.all false
/- PartModes: the arguments are opened. -/
set_option linter.all false
set_option maxRecDepth 100000
namespace Go.Ez
open Go.Proofs Go.IntWalk Go.ChangeShapes Go.WideShapes Go.RowKit
section
variable {Hh : Type} {en : TypeId × Value → Hh} {W : World}
theorem field_at {n : Nat} {cs : List Value} {fs : Array Field} {xs : List (DataW Hh × List MemPlace)}
    (h : ∀ (i : Nat) (f : Field), fs[i]? = some f → DataW.trod en Tryz.prog W 0 (fun _ => true) true n f.type ((cs.drop f.offset).take (Tryz.prog.cellsOf f.type)) = xs[i]?)
    (hl : xs.length = fs.size) {i t off k : Nat} (hf : (fs[i]?).map (fun f => (f.type, f.offset)) = some (t, off)) (hk : Tryz.prog.cellsOf t = k) :
    ∃ y, DataW.trod en Tryz.prog W 0 (fun _ => true) true n t ((cs.drop off).take k) = some y := by
  cases hfi : fs[i]? with
  | none => rw [hfi] at hf; cases hf
  | some f =>
    rw [hfi] at hf
    simp only [Option.map_some, Option.some.injEq, Prod.mk.injEq] at hf
    obtain ⟨rfl, rfl⟩ := hf
    have h1 := h i f hfi
    have hi : i < fs.size := by
      rcases Nat.lt_or_ge i fs.size with h | h
      · exact h
      · rw [Array.getElem?_eq_none h] at hfi; cases hfi
    have h2 : xs[i]? = some (xs[i]'(by omega)) := by simp
    rw [h2, hk] at h1
    exact ⟨_, h1⟩
theorem co_int : Tryz.prog.cellsOf 3 = 1 := by kernel_rfl
theorem co_bool : Tryz.prog.cellsOf 4 = 1 := by kernel_rfl
theorem co_op : Tryz.prog.cellsOf 98 = 3 := by kernel_rfl
theorem co_job : Tryz.prog.cellsOf 41 = 5 := by kernel_rfl
theorem co_act : Tryz.prog.cellsOf 43 = 8 := by kernel_rfl
theorem co_ops : Tryz.prog.cellsOf 39 = 1 := by kernel_rfl
theorem rd_op : Rds en Tryz.prog W 98 3 eOp fun _ _ => True where
  cells := co_op
  pos := by decide
  len := eOp_len
  mono := fun _ _ _ _ _ => trivial
  rd := fun fuel cs y hl hy A μ hL => by
    obtain ⟨xs', n4, rfl, -, -, hxl', hfs'⟩ := DataW.trod_struct Tryz.underlying98 hy
    match cs, hl with
    | [k0, k1, k2], _ =>
      obtain ⟨q0, j0⟩ := field_at hfs' hxl' (i := 0) (t := 3) (off := 0) rfl co_int
      obtain ⟨q1, j1⟩ := field_at hfs' hxl' (i := 1) (t := 3) (off := 1) rfl co_int
      obtain ⟨q2, j2⟩ := field_at hfs' hxl' (i := 2) (t := 3) (off := 2) rfl co_int
      simp only [List.drop_zero, List.take_succ_cons, List.take_zero, List.drop_succ_cons] at j0 j1 j2
      obtain ⟨b0, e0, -⟩ := DataW.trod_int Tryz.underlying3 j0
      obtain ⟨b1, e1, -⟩ := DataW.trod_int Tryz.underlying3 j1
      obtain ⟨b2, e2, -⟩ := DataW.trod_int Tryz.underlying3 j2
      cases e0; cases e1; cases e2
      exact ⟨A, μ, (b0, b1, b2), hL, Sub.refl _, Keep.refl _ _, .cons (.int _ _) (.cons (.int _ _) (.cons (.int _ _) .nil)), trivial⟩
theorem rd_int : Rds en Tryz.prog W 3 1 eI fun _ _ => True where
  cells := co_int
  pos := by decide
  len := eI_len
  mono := fun _ _ _ _ _ => trivial
  rd := fun fuel cs y hl hy A μ hL => by
    match cs, hl with
    | [k0], _ =>
      obtain ⟨b0, e0, -⟩ := DataW.trod_int Tryz.underlying3 hy
      cases e0
      exact ⟨A, μ, b0, hL, Sub.refl _, Keep.refl _ _, .cons (.int _ _) .nil, trivial⟩
theorem co_task : Tryz.prog.cellsOf 62 = 6 := by kernel_rfl
theorem co_srv : Tryz.prog.cellsOf 81 = 3 := by kernel_rfl
theorem rd_task : Rds en Tryz.prog W 62 6 eTask fun _ _ => True where
  cells := co_task
  pos := by decide
  len := eTask_len
  mono := fun _ _ _ _ _ => trivial
  rd := fun fuel cs y hl hy A μ hL => by
    obtain ⟨xs', n4, rfl, -, -, hxl', hfs'⟩ := DataW.trod_struct Tryz.underlying62 hy
    match cs, hl with
    | [k0, k1, k2, k3, k4, k5], _ =>
      obtain ⟨q0, j0⟩ := field_at hfs' hxl' (i := 0) (t := 4) (off := 0) rfl co_bool
      obtain ⟨q1, j1⟩ := field_at hfs' hxl' (i := 1) (t := 3) (off := 1) rfl co_int
      obtain ⟨q2, j2⟩ := field_at hfs' hxl' (i := 2) (t := 3) (off := 2) rfl co_int
      obtain ⟨q3, j3⟩ := field_at hfs' hxl' (i := 3) (t := 3) (off := 3) rfl co_int
      obtain ⟨q4, j4⟩ := field_at hfs' hxl' (i := 4) (t := 3) (off := 4) rfl co_int
      obtain ⟨q5, j5⟩ := field_at hfs' hxl' (i := 5) (t := 3) (off := 5) rfl co_int
      simp only [List.drop_zero, List.take_succ_cons, List.take_zero, List.drop_succ_cons] at j0 j1 j2 j3 j4 j5
      obtain ⟨b0, e0, -⟩ := DataW.trod_bool Tryz.underlying4 j0
      obtain ⟨b1, e1, -⟩ := DataW.trod_int Tryz.underlying3 j1
      obtain ⟨b2, e2, -⟩ := DataW.trod_int Tryz.underlying3 j2
      obtain ⟨b3, e3, -⟩ := DataW.trod_int Tryz.underlying3 j3
      obtain ⟨b4, e4, -⟩ := DataW.trod_int Tryz.underlying3 j4
      obtain ⟨b5, e5, -⟩ := DataW.trod_int Tryz.underlying3 j5
      cases e0; cases e1; cases e2; cases e3; cases e4; cases e5
      exact ⟨A, μ, ⟨b0, b1, b2, b3, b4, b5⟩, hL, Sub.refl _, Keep.refl _ _, .cons (.bool _) (.cons (.int _ _) (.cons (.int _ _) (.cons (.int _ _) (.cons (.int _ _) (.cons (.int _ _) .nil))))), trivial⟩
theorem rd_srv : Rds en Tryz.prog W 81 3 eSrv fun _ _ => True where
  cells := co_srv
  pos := by decide
  len := eSrv_len
  mono := fun _ _ _ _ _ => trivial
  rd := fun fuel cs y hl hy A μ hL => by
    obtain ⟨xs', n4, rfl, -, -, hxl', hfs'⟩ := DataW.trod_struct Tryz.underlying81 hy
    match cs, hl with
    | [k0, k1, k2], _ =>
      obtain ⟨q0, j0⟩ := field_at hfs' hxl' (i := 0) (t := 4) (off := 0) rfl co_bool
      obtain ⟨q1, j1⟩ := field_at hfs' hxl' (i := 1) (t := 3) (off := 1) rfl co_int
      obtain ⟨q2, j2⟩ := field_at hfs' hxl' (i := 2) (t := 3) (off := 2) rfl co_int
      simp only [List.drop_zero, List.take_succ_cons, List.take_zero, List.drop_succ_cons] at j0 j1 j2
      obtain ⟨b0, e0, -⟩ := DataW.trod_bool Tryz.underlying4 j0
      obtain ⟨b1, e1, -⟩ := DataW.trod_int Tryz.underlying3 j1
      obtain ⟨b2, e2, -⟩ := DataW.trod_int Tryz.underlying3 j2
      cases e0; cases e1; cases e2
      exact ⟨A, μ, ⟨b0, b1, b2⟩, hL, Sub.refl _, Keep.refl _ _, .cons (.bool _) (.cons (.int _ _) (.cons (.int _ _) .nil)), trivial⟩
/-- What is known of an act: its operations can be read. -/
def GoodAct (A : AH) (x : ActC) : Prop := ∃ ops, ∀ col d, (∀ b, b < A.next → col b = d) → RdX eOp 3 A col d x.a x.k x.cap ops
theorem rdX_keep {α : Type} {e : α → List Value} {s : Nat} {A A' : AH} {a : Option Addr} {n c : Nat} {l : List α} (hk : Keep A.next A A') (h : ∀ col d, (∀ b, b < A.next → col b = d) → RdX e s A col d a n c l) : ∀ col d, (∀ b, b < A'.next → col b = d) → RdX e s A' col d a n c l :=
  fun col d hc => (h col d fun b hb => hc b (Nat.lt_of_lt_of_le hb hk.next)).fr (D := fun _ => False) (hk.stp _ _) id
theorem rd_act : Rds en Tryz.prog W 43 8 eAct GoodAct where
  cells := co_act
  pos := by decide
  len := eAct_len
  mono := fun A A' x hk ⟨ops, h⟩ => ⟨ops, rdX_keep hk h⟩
  rd := fun fuel cs y hl hy A μ hL => by
    obtain ⟨xs, n1, rfl, -, -, hxl, hfs⟩ := DataW.trod_struct Tryz.underlying43 hy
    match cs, hl with
    | [c0, c1, c2, c3, c4, c5, c6, c7], _ =>
      obtain ⟨y0, h0⟩ := field_at hfs hxl (i := 0) (t := 3) (off := 0) rfl co_int
      obtain ⟨y1, h1⟩ := field_at hfs hxl (i := 1) (t := 3) (off := 1) rfl co_int
      obtain ⟨y2, h2⟩ := field_at hfs hxl (i := 2) (t := 3) (off := 2) rfl co_int
      obtain ⟨y3, h3⟩ := field_at hfs hxl (i := 3) (t := 41) (off := 3) rfl co_job
      simp only [List.drop_zero, List.take_succ_cons, List.take_zero, List.drop_succ_cons] at h0 h1 h2 h3
      obtain ⟨a0, e0, -⟩ := DataW.trod_int Tryz.underlying3 h0
      obtain ⟨a1, e1, -⟩ := DataW.trod_int Tryz.underlying3 h1
      obtain ⟨a2, e2, -⟩ := DataW.trod_int Tryz.underlying3 h2
      cases e0; cases e1; cases e2
      obtain ⟨us, n2, rfl, -, -, hul, hgs⟩ := DataW.trod_struct Tryz.underlying41 h3
      obtain ⟨z0, g0⟩ := field_at hgs hul (i := 0) (t := 3) (off := 0) rfl co_int
      obtain ⟨z1, g1⟩ := field_at hgs hul (i := 1) (t := 3) (off := 1) rfl co_int
      obtain ⟨z2, g2⟩ := field_at hgs hul (i := 2) (t := 3) (off := 2) rfl co_int
      obtain ⟨z3, g3⟩ := field_at hgs hul (i := 3) (t := 3) (off := 3) rfl co_int
      obtain ⟨z4, g4⟩ := field_at hgs hul (i := 4) (t := 39) (off := 4) rfl co_ops
      simp only [List.drop_zero, List.take_succ_cons, List.take_zero, List.drop_succ_cons] at g0 g1 g2 g3 g4
      obtain ⟨a3, e3, -⟩ := DataW.trod_int Tryz.underlying3 g0
      obtain ⟨a4, e4, -⟩ := DataW.trod_int Tryz.underlying3 g1
      obtain ⟨a5, e5, -⟩ := DataW.trod_int Tryz.underlying3 g2
      obtain ⟨a6, e6, -⟩ := DataW.trod_int Tryz.underlying3 g3
      cases e3; cases e4; cases e5; cases e6
      obtain ⟨A', μ', s, n, c, ops, k1, k2, k3, k4, k5, _⟩ := rd_op.slice Tryz.underlying39 g4 hL
      exact ⟨A', μ', ⟨a0, a1, a2, a3, a4, a5, a6, s, n, c⟩, k1, k2, k3, .cons (.int _ _) (.cons (.int _ _) (.cons (.int _ _) (.cons (.int _ _) (.cons (.int _ _) (.cons (.int _ _) (.cons (.int _ _) (.cons k4 .nil))))))), ⟨ops, k5⟩⟩
theorem co_part : Tryz.prog.cellsOf 27 = 6 := by kernel_rfl
theorem co_tasks : Tryz.prog.cellsOf 22 = 1 := by kernel_rfl
theorem co_srvs : Tryz.prog.cellsOf 23 = 1 := by kernel_rfl
theorem co_ints : Tryz.prog.cellsOf 24 = 1 := by kernel_rfl
theorem co_a3 : Tryz.prog.cellsOf 25 = 3 := by kernel_rfl
theorem co_u8 : Tryz.prog.cellsOf 5 = 1 := by kernel_rfl
theorem len6 {l : List Value} (h : (Array.mk l).size = 6) : ∃ c0 c1 c2 c3 c4 c5, l = [c0, c1, c2, c3, c4, c5] := by
  match l, h with
  | [c0, c1, c2, c3, c4, c5], _ => exact ⟨_, _, _, _, _, _, rfl⟩
theorem opened_part {v : Value} {d : DataW Hh} {ps : List MemPlace} {base : Nat} (hval : Value.okWide Tryz.prog W .any base 27 v)
    (hd : DataW.Trod en Tryz.prog W 0 (fun _ => true) true 27 v d ps) {A : AH} {μ : Mu} (hL : Laid A μ W) :
    ∃ A' μ' a1 n1 c1 a2 n2 c2 a3 n3 c3 ts ss ds x y z, Laid A' μ' W ∧ Sub μ μ' ∧ Keep A.next A A' ∧ VRel μ' (.agg #[.slice a1 n1 c1, .slice a2 n2 c2, .slice a3 n3 c3, .int .u8 x, .int .u8 y, .int .u8 z]) v ∧
      (∀ col d, (∀ b, b < A'.next → col b = d) → RdX eTask 6 A' col d a1 n1 c1 ts ∧ RdX eSrv 3 A' col d a2 n2 c2 ss ∧ RdX eI 1 A' col d a3 n3 c3 ds) := by
  unfold Value.okWide at hval
  rw [Tryz.underlying27] at hval
  obtain ⟨cs, rfl, hsz, hrow⟩ := hval
  rw [co_part] at hsz
  obtain ⟨fuel, hf⟩ := hd
  obtain ⟨xs, n1, rfl, -, -, hxl, hfs⟩ := DataW.trod_struct Tryz.underlying27 hf
  obtain ⟨l⟩ := cs
  obtain ⟨c0, c1, c2, c3, c4, c5, rfl⟩ := len6 hsz
  obtain ⟨y0, h0⟩ := field_at hfs hxl (i := 0) (t := 22) (off := 0) rfl co_tasks
  obtain ⟨y1, h1⟩ := field_at hfs hxl (i := 1) (t := 23) (off := 1) rfl co_srvs
  obtain ⟨y2, h2⟩ := field_at hfs hxl (i := 2) (t := 24) (off := 2) rfl co_ints
  obtain ⟨y3, h3⟩ := field_at hfs hxl (i := 3) (t := 25) (off := 3) rfl co_a3
  simp only [Value.cells, List.drop_zero, List.take_succ_cons, List.take_zero, List.drop_succ_cons] at h0 h1 h2 h3
  obtain ⟨zs, n2, rfl, -, -, hzl, hgs⟩ := DataW.trod_array Tryz.underlying25 h3
  rw [co_u8] at hgs
  have g0 := hgs 0 (by decide)
  have g1 := hgs 1 (by decide)
  have g2 := hgs 2 (by decide)
  rw [List.getElem?_eq_getElem (by omega)] at g0 g1 g2
  simp only [Nat.zero_mul, Nat.one_mul, List.drop_zero, List.take_succ_cons, List.take_zero, List.drop_succ_cons, Nat.mul_one] at g0 g1 g2
  obtain ⟨x, e3, -⟩ := DataW.trod_int Tryz.underlying5 g0
  obtain ⟨y, e4, -⟩ := DataW.trod_int Tryz.underlying5 g1
  obtain ⟨z, e5, -⟩ := DataW.trod_int Tryz.underlying5 g2
  cases e3; cases e4; cases e5
  obtain ⟨A1, μ1, s1, m1, k1, ts, p1, p2, p3, p4, p5, _⟩ := rd_task.slice Tryz.underlying22 h0 hL
  obtain ⟨A2, μ2, s2, m2, k2, ss, q1, q2, q3, q4, q5, _⟩ := rd_srv.slice Tryz.underlying23 h1 p1
  obtain ⟨A3, μ3, s3, m3, k3, ds, r1, r2, r3, r4, r5, _⟩ := rd_int.slice Tryz.underlying24 h2 q1
  refine ⟨A3, μ3, s1, m1, k1, s2, m2, k2, s3, m3, k3, ts, ss, ds, x, y, z, r1, (p2.trans q2).trans r2, (p3.next_trans q3).next_trans r3,
    VRel.agg_iff (.cons ((p4.mono q2).mono r2) (.cons (q4.mono r2) (.cons r4 (.cons (.int _ _) (.cons (.int _ _) (.cons (.int _ _) .nil)))))), fun col d hc => ⟨rdX_keep (q3.next_trans r3) p5 col d hc, rdX_keep r3 q5 col d hc, r5 col d hc⟩⟩
theorem opened_acts {v : Value} {d : DataW Hh} {ps : List MemPlace} {base : Nat} (hval : Value.okWide Tryz.prog W .any base 28 v)
    (hd : DataW.Trod en Tryz.prog W 0 (fun _ => true) true 28 v d ps) {A : AH} {μ : Mu} (hL : Laid A μ W) :
    ∃ A' μ' a n c l, Laid A' μ' W ∧ Sub μ μ' ∧ Keep A.next A A' ∧ VRel μ' (.slice a n c) v ∧ (∀ col d, (∀ b, b < A'.next → col b = d) → RdX eAct 8 A' col d a n c l) ∧ ∀ x ∈ l, GoodAct A' x := by
  obtain ⟨fuel, hf⟩ := hd
  have hv : ∃ a n c, v = .slice a n c := by
    unfold Value.okWide at hval
    rw [Tryz.underlying28] at hval
    unfold Cell.okWide at hval
    rw [Tryz.underlying28] at hval
    cases v <;> simp [Cell.ok, Tryz.underlying28] at hval
    exact ⟨_, _, _, rfl⟩
  obtain ⟨a, n, c, rfl⟩ := hv
  exact rd_act.slice Tryz.underlying28 hf hL
end
end Go.Ez
