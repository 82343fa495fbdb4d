import Derived.Test.YtgckodpnpidodaaGreatEzPure
set_option linter.all false
/- How conditions are reckoned, step by step. -/
set_option linter.all false
namespace Go.Ez

theorem dr_some {b o : Nat} {K : Nat → Nat → Prop} : dr (some ⟨b, o, none⟩) K ↔ K b o := by simp [dr, and_assoc]
theorem dr_none {K : Nat → Nat → Prop} : dr none K ↔ False := by simp [dr]
theorem dr.mk {b o : Nat} {K : Nat → Nat → Prop} (h : K b o) : dr (some ⟨b, o, none⟩) K := ⟨b, o, rfl, h⟩
theorem ix_some {b o n : Nat} {i : Int} {K : Nat → Nat → Prop} : ix (some ⟨b, o, none⟩) n i K ↔ 0 ≤ i ∧ i < (n : Int) ∧ K b o := by simp [ix, and_assoc]
theorem ix.mk {b o n : Nat} {i : Int} {K : Nat → Nat → Prop} (h0 : 0 ≤ i) (h1 : i < (n : Int)) (h : K b o) : ix (some ⟨b, o, none⟩) n i K := ⟨b, o, rfl, h0, h1, h⟩
theorem kp_eq {l : List Value} {K : Prop} : kp l K ↔ K := by simp [kp]
theorem kp.mk {l : List Value} {K : Prop} (h : K) : kp l K := ⟨rfl, h⟩
theorem nw_eq {H : AH} {B : Blk} {K : Nat → AH → Prop} : nw H B K ↔ K H.next (H.alloc B) := ⟨fun h => h _ _ rfl rfl, fun h b H' hb hH => by subst hb; subst hH; exact h⟩
theorem nw.mk {H : AH} {B : Blk} {K : Nat → AH → Prop} (h : K H.next (H.alloc B)) : nw H B K := nw_eq.mpr h
theorem nw.new {H : AH} {B : Blk} {K : Nat → AH → Prop} (h : ∀ b H', New1 H H' b B → K b H') : nw H B K := fun b H' hb hH => h b H' (new1 hb hH)
theorem binI_add {x y : Int} {K : Int → Prop} : binI .add x y K ↔ K (IntKind.i64.wrap (x + y)) := by simp [binI, eBin, eInt]
theorem binI_quo {x y : Int} {K : Int → Prop} : binI .quo x y K ↔ y ≠ 0 ∧ K (IntKind.i64.wrap (x.tdiv y)) := by
  by_cases h : y = 0 <;> simp [binI, eBin, eInt, h]
theorem binI_rem {x y : Int} {K : Int → Prop} : binI .rem x y K ↔ y ≠ 0 ∧ K (x.tmod y) := by
  by_cases h : y = 0 <;> simp [binI, eBin, eInt, h]

/-- A cell. -/
def AH.cell (H : AH) (b o : Nat) : Option Value :=
  match H.get b with
  | some (.cells cs _ _) => cs[o]?
  | _ => none
theorem ld1_cell {H : AH} {b o : Nat} : ld1 H (.pointer (some ⟨b, o, none⟩)) = H.cell b o := rfl
theorem cell_set {H : AH} {b c o g : Nat} {cs : List Value} {ro : Bool} : (H.set b (.cells cs ro g)).cell c o = if c = b then cs[o]? else H.cell c o := by
  simp only [AH.cell, AH.get_set]; by_cases h : c = b <;> simp [h]
theorem cell_alloc {H : AH} {c o g : Nat} {cs : List Value} {ro : Bool} : (H.alloc (.cells cs ro g)).cell c o = if c = H.next then cs[o]? else H.cell c o := by
  simp only [AH.cell, AH.get_alloc]; by_cases h : c = H.next <;> simp [h]
theorem cell_of {H : AH} {b o g : Nat} {cs : List Value} {ro : Bool} (h : H.get b = some (.cells cs ro g)) : H.cell b o = cs[o]? := by simp only [AH.cell, h]
theorem ldN_eq' {H : AH} {b o n : Nat} : ldN H n (.pointer (some ⟨b, o, none⟩)) = match H.get b with
    | some (.cells cs _ _) => if o + n ≤ cs.length then some (.agg ((cs.drop o).take n).toArray) else none
    | _ => none := by
  cases h : H.get b with
  | none => simp [ldN, ldCells, h]
  | some B =>
    cases B with
    | cells cs ro g => simp only; exact ldN_eq h
    | map es c => simp [ldN, ldCells, h]
theorem st_eq {H : AH} {b o n : Nat} {x : Value} {K : AH → Prop} {cs : List Value} {g : Nat} (hg : H.get b = some (.cells cs false g)) (hx : (cellsOf x).length = n) (hc : (cellsOf x).all isCell = true) (hl : o + n ≤ cs.length) :
    st H n (some ⟨b, o, none⟩) x K ↔ K (H.set b (.cells (setMany cs o (cellsOf x)) false g)) := by
  simp only [st, stV_eq hg hx hc hl, Option.some.injEq, exists_eq_left']
theorem st.mk {H : AH} {b o n : Nat} {x : Value} {K : AH → Prop} {cs : List Value} {g : Nat} (hg : H.get b = some (.cells cs false g)) (hx : (cellsOf x).length = n) (hc : (cellsOf x).all isCell = true) (hl : o + n ≤ cs.length)
    (h : K (H.set b (.cells (setMany cs o (cellsOf x)) false g))) : st H n (some ⟨b, o, none⟩) x K := (st_eq hg hx hc hl).mpr h
theorem st.do {H : AH} {b o n : Nat} {x : Value} {K : AH → Prop} {cs : List Value} {g : Nat} (hg : H.get b = some (.cells cs false g)) (hx : (cellsOf x).length = n) (hc : (cellsOf x).all isCell = true) (hl : o + n ≤ cs.length)
    (h : ∀ H', Wrote1 H H' b (.cells (setMany cs o (cellsOf x)) false g) → K H') : st H n (some ⟨b, o, none⟩) x K := stV_do hg hx hc hl h
theorem ld_e.mk {H : AH} {b o g : Nat} {cs : List Value} {ro : Bool} {K : Int → Prop} {x : Int} (hg : H.get b = some (.cells cs ro g)) (hv : cs[o]? = some (.int .i8 x)) (h : K x) : ld_e H (some ⟨b, o, none⟩) K := ⟨x, ld1_at hg hv, h⟩
theorem ld_e_eq {H : AH} {b o : Nat} {K : Int → Prop} : ld_e H (some ⟨b, o, none⟩) K ↔ ∃ x, H.cell b o = some (.int .i8 x) ∧ K x := Iff.rfl
@[simp] theorem r_e_eq {K : Int → Prop} {x : Int} : r_e (.int .i8 x) K ↔ K x := by simp [r_e]
theorem ld_f.mk {H : AH} {b o g : Nat} {cs : List Value} {ro : Bool} {K : Int → Prop} {x : Int} (hg : H.get b = some (.cells cs ro g)) (hv : cs[o]? = some (.int .i16 x)) (h : K x) : ld_f H (some ⟨b, o, none⟩) K := ⟨x, ld1_at hg hv, h⟩
theorem ld_f_eq {H : AH} {b o : Nat} {K : Int → Prop} : ld_f H (some ⟨b, o, none⟩) K ↔ ∃ x, H.cell b o = some (.int .i16 x) ∧ K x := Iff.rfl
@[simp] theorem r_f_eq {K : Int → Prop} {x : Int} : r_f (.int .i16 x) K ↔ K x := by simp [r_f]
theorem ld_g.mk {H : AH} {b o g : Nat} {cs : List Value} {ro : Bool} {K : Int → Prop} {x : Int} (hg : H.get b = some (.cells cs ro g)) (hv : cs[o]? = some (.int .i32 x)) (h : K x) : ld_g H (some ⟨b, o, none⟩) K := ⟨x, ld1_at hg hv, h⟩
theorem ld_g_eq {H : AH} {b o : Nat} {K : Int → Prop} : ld_g H (some ⟨b, o, none⟩) K ↔ ∃ x, H.cell b o = some (.int .i32 x) ∧ K x := Iff.rfl
@[simp] theorem r_g_eq {K : Int → Prop} {x : Int} : r_g (.int .i32 x) K ↔ K x := by simp [r_g]
theorem ld_i.mk {H : AH} {b o g : Nat} {cs : List Value} {ro : Bool} {K : Int → Prop} {x : Int} (hg : H.get b = some (.cells cs ro g)) (hv : cs[o]? = some (.int .i64 x)) (h : K x) : ld_i H (some ⟨b, o, none⟩) K := ⟨x, ld1_at hg hv, h⟩
theorem ld_i_eq {H : AH} {b o : Nat} {K : Int → Prop} : ld_i H (some ⟨b, o, none⟩) K ↔ ∃ x, H.cell b o = some (.int .i64 x) ∧ K x := Iff.rfl
@[simp] theorem r_i_eq {K : Int → Prop} {x : Int} : r_i (.int .i64 x) K ↔ K x := by simp [r_i]
theorem ld_c.mk {H : AH} {b o g : Nat} {cs : List Value} {ro : Bool} {K : Int → Prop} {x : Int} (hg : H.get b = some (.cells cs ro g)) (hv : cs[o]? = some (.int .u8 x)) (h : K x) : ld_c H (some ⟨b, o, none⟩) K := ⟨x, ld1_at hg hv, h⟩
theorem ld_c_eq {H : AH} {b o : Nat} {K : Int → Prop} : ld_c H (some ⟨b, o, none⟩) K ↔ ∃ x, H.cell b o = some (.int .u8 x) ∧ K x := Iff.rfl
@[simp] theorem r_c_eq {K : Int → Prop} {x : Int} : r_c (.int .u8 x) K ↔ K x := by simp [r_c]
theorem ld_h.mk {H : AH} {b o g : Nat} {cs : List Value} {ro : Bool} {K : Int → Prop} {x : Int} (hg : H.get b = some (.cells cs ro g)) (hv : cs[o]? = some (.int .u16 x)) (h : K x) : ld_h H (some ⟨b, o, none⟩) K := ⟨x, ld1_at hg hv, h⟩
theorem ld_h_eq {H : AH} {b o : Nat} {K : Int → Prop} : ld_h H (some ⟨b, o, none⟩) K ↔ ∃ x, H.cell b o = some (.int .u16 x) ∧ K x := Iff.rfl
@[simp] theorem r_h_eq {K : Int → Prop} {x : Int} : r_h (.int .u16 x) K ↔ K x := by simp [r_h]
theorem ld_w.mk {H : AH} {b o g : Nat} {cs : List Value} {ro : Bool} {K : Int → Prop} {x : Int} (hg : H.get b = some (.cells cs ro g)) (hv : cs[o]? = some (.int .u32 x)) (h : K x) : ld_w H (some ⟨b, o, none⟩) K := ⟨x, ld1_at hg hv, h⟩
theorem ld_w_eq {H : AH} {b o : Nat} {K : Int → Prop} : ld_w H (some ⟨b, o, none⟩) K ↔ ∃ x, H.cell b o = some (.int .u32 x) ∧ K x := Iff.rfl
@[simp] theorem r_w_eq {K : Int → Prop} {x : Int} : r_w (.int .u32 x) K ↔ K x := by simp [r_w]
theorem ld_q.mk {H : AH} {b o g : Nat} {cs : List Value} {ro : Bool} {K : Int → Prop} {x : Int} (hg : H.get b = some (.cells cs ro g)) (hv : cs[o]? = some (.int .u64 x)) (h : K x) : ld_q H (some ⟨b, o, none⟩) K := ⟨x, ld1_at hg hv, h⟩
theorem ld_q_eq {H : AH} {b o : Nat} {K : Int → Prop} : ld_q H (some ⟨b, o, none⟩) K ↔ ∃ x, H.cell b o = some (.int .u64 x) ∧ K x := Iff.rfl
@[simp] theorem r_q_eq {K : Int → Prop} {x : Int} : r_q (.int .u64 x) K ↔ K x := by simp [r_q]
theorem ld_b.mk {H : AH} {b o g : Nat} {cs : List Value} {ro : Bool} {K : Bool → Prop} {x : Bool} (hg : H.get b = some (.cells cs ro g)) (hv : cs[o]? = some (.bool x)) (h : K x) : ld_b H (some ⟨b, o, none⟩) K := ⟨x, ld1_at hg hv, h⟩
theorem ld_b_eq {H : AH} {b o : Nat} {K : Bool → Prop} : ld_b H (some ⟨b, o, none⟩) K ↔ ∃ x, H.cell b o = some (.bool x) ∧ K x := Iff.rfl
@[simp] theorem r_b_eq {K : Bool → Prop} {x : Bool} : r_b (.bool x) K ↔ K x := by simp [r_b]
theorem ld_s.mk {H : AH} {b o g : Nat} {cs : List Value} {ro : Bool} {K : ByteArray → Prop} {x : ByteArray} (hg : H.get b = some (.cells cs ro g)) (hv : cs[o]? = some (.string x)) (h : K x) : ld_s H (some ⟨b, o, none⟩) K := ⟨x, ld1_at hg hv, h⟩
theorem ld_s_eq {H : AH} {b o : Nat} {K : ByteArray → Prop} : ld_s H (some ⟨b, o, none⟩) K ↔ ∃ x, H.cell b o = some (.string x) ∧ K x := Iff.rfl
@[simp] theorem r_s_eq {K : ByteArray → Prop} {x : ByteArray} : r_s (.string x) K ↔ K x := by simp [r_s]
theorem ld_p.mk {H : AH} {b o g : Nat} {cs : List Value} {ro : Bool} {K : Option Addr → Prop} {x : Option Addr} (hg : H.get b = some (.cells cs ro g)) (hv : cs[o]? = some (.pointer x)) (h : K x) : ld_p H (some ⟨b, o, none⟩) K := ⟨x, ld1_at hg hv, h⟩
theorem ld_p_eq {H : AH} {b o : Nat} {K : Option Addr → Prop} : ld_p H (some ⟨b, o, none⟩) K ↔ ∃ x, H.cell b o = some (.pointer x) ∧ K x := Iff.rfl
@[simp] theorem r_p_eq {K : Option Addr → Prop} {x : Option Addr} : r_p (.pointer x) K ↔ K x := by simp [r_p]
theorem ld_m.mk {H : AH} {b o g : Nat} {cs : List Value} {ro : Bool} {K : Option Nat → Prop} {x : Option Nat} (hg : H.get b = some (.cells cs ro g)) (hv : cs[o]? = some (.map x)) (h : K x) : ld_m H (some ⟨b, o, none⟩) K := ⟨x, ld1_at hg hv, h⟩
theorem ld_m_eq {H : AH} {b o : Nat} {K : Option Nat → Prop} : ld_m H (some ⟨b, o, none⟩) K ↔ ∃ x, H.cell b o = some (.map x) ∧ K x := Iff.rfl
@[simp] theorem r_m_eq {K : Option Nat → Prop} {x : Option Nat} : r_m (.map x) K ↔ K x := by simp [r_m]
theorem ld_v.mk {H : AH} {b o g : Nat} {cs : List Value} {ro : Bool} {K : Value → Prop} {x : Value} (hg : H.get b = some (.cells cs ro g)) (hv : cs[o]? = some (x)) (h : K x) : ld_v H (some ⟨b, o, none⟩) K := ⟨x, ld1_at hg hv, h⟩
theorem ld_v_eq {H : AH} {b o : Nat} {K : Value → Prop} : ld_v H (some ⟨b, o, none⟩) K ↔ ∃ x, H.cell b o = some (x) ∧ K x := Iff.rfl
@[simp] theorem r_v_eq {K : Value → Prop} {x : Value} : r_v (x) K ↔ K x := by simp [r_v]
theorem ld_l.mk {H : AH} {b o g : Nat} {cs : List Value} {ro : Bool} {K : Option Addr → Nat → Nat → Prop} {x : Option Addr} {n c : Nat} (hg : H.get b = some (.cells cs ro g)) (hv : cs[o]? = some (.slice x n c)) (h : K x n c) : ld_l H (some ⟨b, o, none⟩) K := ⟨x, n, c, ld1_at hg hv, h⟩
theorem ld_l_eq {H : AH} {b o : Nat} {K : Option Addr → Nat → Nat → Prop} : ld_l H (some ⟨b, o, none⟩) K ↔ ∃ x n c, H.cell b o = some (.slice x n c) ∧ K x n c := Iff.rfl
@[simp] theorem r_l_eq {K : Option Addr → Nat → Nat → Prop} {x : Option Addr} {n c : Nat} : r_l (.slice x n c) K ↔ K x n c := by simp [r_l, and_assoc]
end Go.Ez
