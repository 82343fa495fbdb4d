/- PartNil: the row. -/
import Derived.Test.YtgckodpnpidodaaGreatPn4b
import Derived.Stop.Joined
set_option linter.all false
set_option linter.unusedVariables false
set_option maxRecDepth 100000
set_option linter.unusedSimpArgs false
namespace Go.Ez
open Go.Proofs Go.Proofs.YtgckodpnpidodaaGreat Go.IntWalk Go.ChangeShapes Go.WideShapes Go.ChangeAt Go.RowKit

theorem field_at {H : Type} {enc : TypeId × Value → H} {w : World} {n : Nat} {cs : List Value} {fs : Array Field} {xs : List (DataW H × List MemPlace)}
    (h : ∀ (i : Nat) (f : Field), fs[i]? = some f → DataW.trod enc Tryz.prog w 0 (fun _ => true) true n f.type ((cs.drop f.offset).take (Tryz.prog.cellsOf f.type)) = xs[i]?)
    (hl : xs.length = fs.size) {i t off k : Nat} (hf : (fs[i]?).map (fun f => (f.type, f.offset)) = some (t, off)) (hk : Tryz.prog.cellsOf t = k) :
    ∃ y, DataW.trod enc Tryz.prog w 0 (fun _ => true) true n t ((cs.drop off).take k) = some y := by
  cases hfi : fs[i]? with
  | none => rw [hfi] at hf; cases hf
  | some f =>
    rw [hfi] at hf
    simp only [Option.map_some, Option.some.injEq, Prod.mk.injEq] at hf
    obtain ⟨rfl, rfl⟩ := hf
    have h1 := h i f hfi
    have hi : i < fs.size := by
      rcases Nat.lt_or_ge i fs.size with h | h
      · exact h
      · rw [Array.getElem?_eq_none h] at hfi; cases hfi
    have h2 : xs[i]? = some (xs[i]'(by omega)) := by simp
    rw [h2, hk] at h1
    exact ⟨_, h1⟩

theorem len8 {l : List Value} (h : (Array.mk l).size = 8) : ∃ c0 c1 c2 c3 c4 c5 c6 c7, l = [c0, c1, c2, c3, c4, c5, c6, c7] := by
  match l, h with
  | [c0, c1, c2, c3, c4, c5, c6, c7], _ => exact ⟨_, _, _, _, _, _, _, _, rfl⟩
theorem len3 {l : List Value} (h : l.length = 3) : ∃ c0 c1 c2, l = [c0, c1, c2] := by
  match l, h with
  | [c0, c1, c2], _ => exact ⟨_, _, _, rfl⟩

theorem opened {H : Type} {enc : TypeId × Value → H} {W : World} {v : Value} {d : DataW H} {ps : List MemPlace} {base : Nat} (hval : Value.okWide Tryz.prog W .any base 43 v)
    (hd : DataW.Trod enc Tryz.prog W 0 (fun _ => true) true 43 v d ps) : ∃ (a0 a1 a2 a3 a4 a5 a6 : Int) (l : Option Addr) (n c : Nat),
      v = .agg #[.int .i64 a0, .int .i64 a1, .int .i64 a2, .int .i64 a3, .int .i64 a4, .int .i64 a5, .int .i64 a6, .slice l n c] ∧
      ((l = none ∧ n = 0 ∧ c = 0) ∨ ∃ rb o, l = some ⟨rb, o, none⟩ ∧ rb < W.heap.size ∧ n ≤ c ∧ (∃ cc el fr, W.heap[rb]? = some (.cells cc el fr)) ∧ ∀ i, i < n * 3 → ∃ z, W.cell? ⟨rb, o + i, none⟩ = some (.int .i64 z)) := by
  unfold Value.okWide at hval
  rw [Tryz.underlying43] at hval
  obtain ⟨cs, rfl, hsz, hrow⟩ := hval
  rw [co45] at hsz
  obtain ⟨fuel, hf⟩ := hd
  obtain ⟨xs, n1, rfl, -, -, hxl, hfs⟩ := DataW.trod_struct Tryz.underlying43 hf
  obtain ⟨l⟩ := cs
  obtain ⟨c0, c1, c2, c3, c4, c5, c6, c7, rfl⟩ := len8 hsz
  obtain ⟨y0, h0⟩ := field_at hfs hxl (i := 0) (t := 3) (off := 0) rfl co3
  obtain ⟨y1, h1⟩ := field_at hfs hxl (i := 1) (t := 3) (off := 1) rfl co3
  obtain ⟨y2, h2⟩ := field_at hfs hxl (i := 2) (t := 3) (off := 2) rfl co3
  obtain ⟨y3, h3⟩ := field_at hfs hxl (i := 3) (t := 41) (off := 3) rfl co43
  simp only [Value.cells, List.drop_zero, List.take_succ_cons, List.take_zero, List.drop_succ_cons] at h0 h1 h2 h3
  obtain ⟨a0, e0, -⟩ := DataW.trod_int Tryz.underlying3 h0
  obtain ⟨a1, e1, -⟩ := DataW.trod_int Tryz.underlying3 h1
  obtain ⟨a2, e2, -⟩ := DataW.trod_int Tryz.underlying3 h2
  cases e0; cases e1; cases e2
  obtain ⟨us, n2, rfl, -, -, hul, hgs⟩ := DataW.trod_struct Tryz.underlying41 h3
  obtain ⟨z0, g0⟩ := field_at hgs hul (i := 0) (t := 3) (off := 0) rfl co3
  obtain ⟨z1, g1⟩ := field_at hgs hul (i := 1) (t := 3) (off := 1) rfl co3
  obtain ⟨z2, g2⟩ := field_at hgs hul (i := 2) (t := 3) (off := 2) rfl co3
  obtain ⟨z3, g3⟩ := field_at hgs hul (i := 3) (t := 3) (off := 3) rfl co3
  obtain ⟨z4, g4⟩ := field_at hgs hul (i := 4) (t := 39) (off := 4) rfl co41
  simp only [List.drop_zero, List.take_succ_cons, List.take_zero, List.drop_succ_cons] at g0 g1 g2 g3 g4
  obtain ⟨a3, e3, -⟩ := DataW.trod_int Tryz.underlying3 g0
  obtain ⟨a4, e4, -⟩ := DataW.trod_int Tryz.underlying3 g1
  obtain ⟨a5, e5, -⟩ := DataW.trod_int Tryz.underlying3 g2
  obtain ⟨a6, e6, -⟩ := DataW.trod_int Tryz.underlying3 g3
  cases e3; cases e4; cases e5; cases e6
  rcases DataW.trod_slice Tryz.underlying39 g4 with ⟨e7, -⟩ | ⟨a, len, cap, elems, rest, n3, -, e7, -, -, hlc, -, hel, helems, -, -⟩
  · cases e7
    exact ⟨_, _, _, _, _, _, _, _, _, _, rfl, .inl ⟨rfl, rfl, rfl⟩⟩
  · cases e7
    refine ⟨_, _, _, _, _, _, _, _, _, _, rfl, .inr ?_⟩
    obtain ⟨ts, hts, -, hcell⟩ := hrow
    rw [ct45] at hts
    cases hts
    obtain ⟨u, hu, hc⟩ := hcell 7 (.slice (some a) len cap) rfl
    have : u = 39 := by simpa using hu.symm
    subst this
    simp only [Cell.okWide, Tryz.underlying39, Cell.ok] at hc
    obtain ⟨-, -, -, hsp, row, cells, hsh, -⟩ := hc
    obtain ⟨rb, o, sp⟩ := a
    simp only at hsp hsh
    subst hsp
    have hb : ∃ cc el fr, W.heap[rb]? = some (.cells cc el fr) := by
      unfold World.shape? at hsh
      split at hsh
      · exact ⟨_, _, _, ‹_›⟩
      · cases hsh
    refine ⟨rb, o, rfl, ?_, hlc, hb, fun i hi => ?_⟩
    · obtain ⟨_, _, _, hb⟩ := hb
      rcases Nat.lt_or_ge rb W.heap.size with h | h
      · exact h
      · rw [Array.getElem?_eq_none h] at hb; cases hb
    · have hdiv : i / 3 < len := by omega
      have h5 := helems (i / 3) hdiv
      have c58 : Tryz.prog.cellsOf 98 = 3 := by kernel_rfl
      rw [c58] at h5
      have : elems[i / 3]?.isSome = true := by simp [hel, hdiv]
      cases hcs : W.cells? 0 (Addr.add ⟨rb, o, none⟩ (i / 3 * 3)) 3 with
      | none => rw [hcs] at h5; rw [← h5] at this; cases this
      | some ks =>
        rw [hcs] at h5
        simp only [Option.bind_some] at h5
        obtain ⟨y, hy⟩ : ∃ y, elems[i / 3]? = some y := Option.isSome_iff_exists.mp this
        rw [hy] at h5
        replace hy := h5
        obtain ⟨-, hkl, hks⟩ := World.cells?_some hcs
        obtain ⟨xs', n4, rfl, -, -, hxl', hfs'⟩ := DataW.trod_struct Tryz.underlying98 hy
        obtain ⟨k0, k1, k2, rfl⟩ := len3 hkl
        obtain ⟨q0, j0⟩ := field_at hfs' hxl' (i := 0) (t := 3) (off := 0) rfl co3
        obtain ⟨q1, j1⟩ := field_at hfs' hxl' (i := 1) (t := 3) (off := 1) rfl co3
        obtain ⟨q2, j2⟩ := field_at hfs' hxl' (i := 2) (t := 3) (off := 2) rfl co3
        simp only [List.drop_zero, List.take_succ_cons, List.take_zero, List.drop_succ_cons] at j0 j1 j2
        obtain ⟨b0, e0, -⟩ := DataW.trod_int Tryz.underlying3 j0
        obtain ⟨b1, e1, -⟩ := DataW.trod_int Tryz.underlying3 j1
        obtain ⟨b2, e2, -⟩ := DataW.trod_int Tryz.underlying3 j2
        cases e0; cases e1; cases e2
        have hmod : i = i / 3 * 3 + i % 3 := by omega
        have hm3 : i % 3 = 0 ∨ i % 3 = 1 ∨ i % 3 = 2 := by omega
        have k := hks (i % 3) (by omega)
        rw [add_none, add_none] at k
        rw [show o + i = o + i / 3 * 3 + i % 3 by omega]
        rcases hm3 with e | e | e
        · rw [e] at k ⊢; exact ⟨b0, k⟩
        · rw [e] at k ⊢; exact ⟨b1, k⟩
        · rw [e] at k ⊢; exact ⟨b2, k⟩

theorem hts : ∀ t ∈ Tryz.f4.params.toList, Tryz.prog.readableRec t = true ∧ t < Tryz.prog.types.size := by
  rw [Tryz.params4]
  intro t ht
  have : t = 43 := by simpa using ht
  subst this
  exact ⟨by kernel_rfl, of_decide_eq_true (by kernel_rfl)⟩

/-- What the walk gives, for every argument and every world. -/
theorem contract (H : Type) (enc : TypeId × Value → H) (W : World) (args : Array Value) (ds gs : List (DataW H)) (before : List MemPlace) (base : Nat)
    (hval : ∀ (j : Nat) t v, Tryz.f4.params[j]? = some t → args[j]? = some v → Value.okWide Tryz.prog W .any base t v)
    (hW : DataW.Whole enc Tryz.prog Tryz.f4.params.toList Rows.partNilSpec.vars false W args.toList ds gs before) :
    Calls Tryz.prog 4 args W fun e W' => ∃ v, e = .returned v ∧ Rows.partNilSpec.post enc Tryz.prog Tryz.f4 false true false false W args v W' := by
  have hW' := hW
  obtain ⟨p, q, hA0, hV, rfl, hfz, hnd⟩ := hW
  have hA : DataW.TrodAll enc Tryz.prog W 0 (fun _ => true) true Tryz.f4.params.toList args.toList ds p := hA0
  rw [Tryz.params4] at hA hval
  obtain ⟨v0, vs0, d0, ds0, p0, q0, hargs, rfl, rfl, h0, r0⟩ := trodAll_cons hA
  obtain ⟨rfl, rfl, rfl⟩ := trodAll_nil r0
  obtain rfl : args = #[v0] := by cases args; simp_all
  obtain ⟨a0, a1, a2, a3, a4, a5, a6, l, n, c, rfl, hs⟩ := opened (hval 0 43 v0 rfl rfl) h0
  obtain ⟨A, μ, s, c', hR, hv, ho, hfree, hro⟩ := ops_of hs (enc := enc)
  have hargs2 : VRels μ [.agg #[.int .i64 a0, .int .i64 a1, .int .i64 a2, .int .i64 a3, .int .i64 a4, .int .i64 a5, .int .i64 a6, .slice s n c']]
      [.agg #[.int .i64 a0, .int .i64 a1, .int .i64 a2, .int .i64 a3, .int .i64 a4, .int .i64 a5, .int .i64 a6, .slice l n c]] :=
    .cons (VRel.agg_iff (.cons (.int _ _) (.cons (.int _ _) (.cons (.int _ _) (.cons (.int _ _) (.cons (.int _ _) (.cons (.int _ _) (.cons (.int _ _) (.cons hv .nil))))))))) .nil
  refine (Go.Ez.W.calls mixed X0_ok (v := .bool true) rfl (w_partNil (c := c') ho) hR hargs2 hfree hro).mono fun e W' hh => ?_
  obtain ⟨rfl, hB⟩ := hh
  exact ⟨_, rfl, lawPost laid hts hW' rfl rfl (by kernel_rfl) Tryz.underlying4 hB⟩

end Go.Ez
