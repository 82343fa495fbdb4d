import Derived.Test.YtgckodpnpidodaaGreatPtO
import Derived.Stop.Joined
set_option linter.all false
/- PartModes: the contract. -/
set_option linter.all false
set_option maxRecDepth 100000
namespace Go.Ez
open Go.Proofs Go.Proofs.YtgckodpnpidodaaGreat Go.IntWalk Go.ChangeShapes Go.WideShapes Go.ChangeAt Go.RowKit
theorem mixed : Tryz.prog.follows .mixedOrders = true := by kernel_rfl
theorem laid : laidOutB Tryz.prog = true := by kernel_rfl
theorem knows_run : (callE Tryz.prog 60 F_parcloselaw20_knows [] ⟨0, .leaf⟩).map (·.1) = some (.bool true) := by kernel_rfl
theorem X0_ok : X0.Ok Tryz.prog := extOf_ok mixed fun p hp => by
  simp only [List.mem_singleton] at hp
  subst hp
  exact ⟨rfl, 60, knows_run⟩
section
variable {Hh : Type} {en : TypeId × Value → Hh} {W : World} {P : Program}
theorem each_mem : ∀ {ts : List TypeId} {ds : List (DataW Hh)} {i : Nat} {t : TypeId} {d : DataW Hh} {w : Nat}, ts[i]? = some t → ds[i]? = some d → w ∈ d.weights P t → w ∈ DataW.weightsEach P ts ds
  | [], _, _, _, _, _, h, _, _ => by cases h
  | _ :: _, [], _, _, _, _, _, h, _ => by cases h
  | t :: ts, d :: ds, 0, _, _, w, h, h', hw => by
    cases h; cases h'
    simp only [DataW.weightsEach, List.mem_append]
    exact .inl hw
  | t :: ts, d :: ds, i + 1, _, _, w, h, h', hw => by
    simp only [DataW.weightsEach, List.mem_append]
    exact .inr (each_mem (i := i) (by simpa using h) (by simpa using h') hw)
theorem slice_weight {ts t : TypeId} (ht : P.underlying ts = some (.slice t)) {fuel : Nat} {v : Value} {y : DataW Hh × List MemPlace} (h : DataW.trod en P W 0 (fun _ => true) true fuel ts [v] = some y) {R : Nat} (hw : ∀ w ∈ y.1.weights P ts, w ≤ R)
    {μ : Mu} {s : Option Addr} {n c : Nat} (hv : VRel μ (.slice s n c) v) : n * P.bytesOf t ≤ R := by
  rcases DataW.trod_slice ht h with ⟨e, _⟩ | ⟨a, len, cap, elems, rest, fu, _, e, hy, _, _, _, hel, _, _, _⟩
  · cases e; cases hv; simp
  · cases e
    have hn : n = len := by cases hv <;> rfl
    have := hw ((elems.length + rest.length) * P.bytesOf t) (by rw [hy]; simp [DataW.weights, ht])
    rw [hn, ← hel]
    exact Nat.le_trans (Nat.mul_le_mul_right _ (Nat.le_add_right _ _)) this
theorem field_at2 {n : Nat} {cs : List Value} {fs : Array Field} {xs : List (DataW Hh × List MemPlace)}
    (h : ∀ (i : Nat) (f : Field), fs[i]? = some f → DataW.trod en Tryz.prog W 0 (fun _ => true) true n f.type ((cs.drop f.offset).take (Tryz.prog.cellsOf f.type)) = xs[i]?)
    (hl : xs.length = fs.size) {i t off k : Nat} (hf : (fs[i]?).map (fun f => (f.type, f.offset)) = some (t, off)) (hk : Tryz.prog.cellsOf t = k) :
    ∃ y, DataW.trod en Tryz.prog W 0 (fun _ => true) true n t ((cs.drop off).take k) = some y ∧ xs[i]? = some y := by
  cases hfi : fs[i]? with
  | none => rw [hfi] at hf; cases hf
  | some f =>
    rw [hfi] at hf
    simp only [Option.map_some, Option.some.injEq, Prod.mk.injEq] at hf
    obtain ⟨rfl, rfl⟩ := hf
    have h1 := h i f hfi
    have hi : i < fs.size := by
      rcases Nat.lt_or_ge i fs.size with h | h
      · exact h
      · rw [Array.getElem?_eq_none h] at hfi; cases hfi
    have h2 : xs[i]? = some (xs[i]'(by omega)) := by simp
    rw [h2, hk] at h1
    exact ⟨_, h1, h2⟩
theorem by_task : Tryz.prog.bytesOf 62 = 48 := by kernel_rfl
theorem by_srv : Tryz.prog.bytesOf 81 = 24 := by kernel_rfl
theorem by_int : Tryz.prog.bytesOf 3 = 8 := by kernel_rfl
theorem part_weights {v : Value} {d : DataW Hh} {ps : List MemPlace} (hd : DataW.Trod en Tryz.prog W 0 (fun _ => true) true 27 v d ps) {R : Nat} (hw : ∀ w ∈ d.weights Tryz.prog 27, w ≤ R) {μ : Mu} {a1 a2 a3 : Option Addr} {n1 c1 n2 c2 n3 c3 : Nat} {x y z : Int}
    (hv : VRel μ (.agg #[.slice a1 n1 c1, .slice a2 n2 c2, .slice a3 n3 c3, .int .u8 x, .int .u8 y, .int .u8 z]) v) : n1 * 48 ≤ R ∧ n2 * 24 ≤ R ∧ n3 * 8 ≤ R := by
  obtain ⟨fuel, hf⟩ := hd
  cases hv with
  | agg _ x' hx hxs =>
    have hsz : x'.size = 6 := hx.symm
    obtain ⟨l⟩ := x'
    obtain ⟨k0, k1, k2, k3, k4, k5, rfl⟩ := len6 hsz
    have v0 : VRel μ (.slice a1 n1 c1) k0 := hxs 0 (by simp) (by simp)
    have v1 : VRel μ (.slice a2 n2 c2) k1 := hxs 1 (by simp) (by simp)
    have v2 : VRel μ (.slice a3 n3 c3) k2 := hxs 2 (by simp) (by simp)
    obtain ⟨xs, m, -, he, -, hxl, hfs⟩ := DataW.trod_struct Tryz.underlying27 hf
    have hd : d = .agg (xs.map (·.1)) := congrArg Prod.fst he
    subst hd
    simp only [DataW.weights, Tryz.underlying27] at hw
    obtain ⟨y0, g0, i0⟩ := field_at2 hfs hxl (i := 0) (t := 22) (off := 0) rfl co_tasks
    obtain ⟨y1, g1, i1⟩ := field_at2 hfs hxl (i := 1) (t := 23) (off := 1) rfl co_srvs
    obtain ⟨y2, g2, i2⟩ := field_at2 hfs hxl (i := 2) (t := 24) (off := 2) rfl co_ints
    simp only [Value.cells, List.drop_zero, List.take_succ_cons, List.take_zero, List.drop_succ_cons] at g0 g1 g2
    have m0 := slice_weight Tryz.underlying22 g0 (fun w hh => hw w (each_mem (i := 0) rfl (by rw [List.getElem?_map, i0]; rfl) hh)) v0
    have m1 := slice_weight Tryz.underlying23 g1 (fun w hh => hw w (each_mem (i := 1) rfl (by rw [List.getElem?_map, i1]; rfl) hh)) v1
    have m2 := slice_weight Tryz.underlying24 g2 (fun w hh => hw w (each_mem (i := 2) rfl (by rw [List.getElem?_map, i2]; rfl) hh)) v2
    rw [by_task] at m0
    rw [by_srv] at m1
    rw [by_int] at m2
    exact ⟨m0, m1, m2⟩
end
theorem hts : ∀ t ∈ Tryz.f3.params.toList, Tryz.prog.readableRec t = true ∧ t < Tryz.prog.types.size := by
  rw [Tryz.params3]
  intro t ht
  have : t = 27 ∨ t = 28 := by simpa using ht
  rcases this with rfl | rfl
  · exact ⟨by kernel_rfl, of_decide_eq_true (by kernel_rfl)⟩
  · exact ⟨by kernel_rfl, of_decide_eq_true (by kernel_rfl)⟩

/-- What the walk gives, for every argument and every world. -/
theorem contract (H : Type) (enc : TypeId × Value → H) (W : World) (args : Array Value) (ds gs : List (DataW H)) (before : List MemPlace) (base : Nat)
    (hval : ∀ (j : Nat) t v, Tryz.f3.params[j]? = some t → args[j]? = some v → Value.okWide Tryz.prog W .any base t v)
    (hW : DataW.Whole enc Tryz.prog Tryz.f3.params.toList Rows.partModesSpec.vars false W args.toList ds gs before)
    (hwt : (DataW.weightsEach Tryz.prog (Tryz.f3.params.toList ++ Rows.partModesSpec.plain.varTypes Tryz.prog) (ds ++ gs)).all (· ≤ reachBytes) = true) :
    Calls Tryz.prog 3 args W fun e W' => ∃ v, e = .returned v ∧ Rows.partModesSpec.post enc Tryz.prog Tryz.f3 false true false false W args v W' := by
  have hW' := hW
  obtain ⟨p, q, hA0, hV, rfl, hfz, hnd⟩ := hW
  have hA : DataW.TrodAll enc Tryz.prog W 0 (fun _ => true) true Tryz.f3.params.toList args.toList ds p := hA0
  rw [Tryz.params3] at hA hval hwt
  obtain ⟨v0, vs0, d0, ds0, p0, q0, hargs, rfl, rfl, h0, r0⟩ := trodAll_cons hA
  obtain ⟨v1, vs1, d1, ds1, p1, q1, rfl, rfl, rfl, h1, r1⟩ := trodAll_cons r0
  obtain ⟨rfl, rfl, rfl⟩ := trodAll_nil r1
  obtain rfl : args = #[v0, v1] := by cases args; simp_all
  obtain ⟨A1, μ1, a1, n1, c1, a2, n2, c2, a3, n3, c3, ts, ss, zs, x, y, z, k1, k2, k3, k4, k5⟩ := opened_part (hval 0 27 v0 rfl rfl) h0 (Laid.nil W)
  obtain ⟨A2, μ2, a6, n6, c6, l, l1, l2, l3, l4, l5, l6⟩ := opened_acts (hval 1 28 v1 rfl rfl) h1 k1
  have hw0 : ∀ w ∈ d0.weights Tryz.prog 27, w ≤ 140737488351232 := fun w hw => by
    have := List.all_eq_true.mp hwt w (each_mem (i := 0) rfl rfl hw)
    exact of_decide_eq_true this
  obtain ⟨b1, b2, b3⟩ := part_weights h0 hw0 k4
  have hcol : ∀ b, b < A2.next → (fun b => if b < A2.next then [0] else [] : Col) b = [0] := fun b hb => by simp [hb]
  obtain ⟨e1, e2, e3⟩ := k5 _ [0] (fun b hb => hcol b (Nat.lt_of_lt_of_le hb l3.next))
  have st : Stp (fun _ => False) (fun b => if b < A2.next then [0] else [] : Col) A1 (fun b => if b < A2.next then [0] else [] : Col) A2 := l3.stp _ _
  refine (Go.Ez.W.calls mixed (XT_ok mixed X0_ok 999) (v := .bool true) rfl (w_modes (e1.fr st id) (e2.fr st id) (e3.fr st id) (l5 _ [0] hcol) (fun x hx => let ⟨ops, h⟩ := l6 x hx; ⟨[0], ops, h _ [0] hcol⟩) b1 b2 b3 (fun b hb => by
    have : ¬ b < A2.next := by omega
    simp [this])) l1.rel (.cons (k4.mono l2) (.cons l4 .nil)) l1.free l1.ro).mono fun e W' hh => ?_
  obtain ⟨rfl, hB⟩ := hh
  exact ⟨_, rfl, lawPost laid hts hW' rfl rfl (by kernel_rfl) Tryz.underlying4 hB⟩
end Go.Ez
