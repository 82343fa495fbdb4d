import Derived.Test.YtgckodpnpidodaaGreatEzRep
set_option linter.all false
/- Slices that are owned: appended to, cut. -/
set_option linter.all false
namespace Go.Ez
section
variable {α : Type} {enc : α → List Value} {size : Nat} {H H' : AH} {col col' : Col} {c : List Nat} {a : Option Addr} {n cap : Nat} {l : List α}

theorem flat_cell (hc : ∀ x, (enc x).all isCell = true) : ∀ l : List α, (l.flatMap enc).all isCell = true
  | [] => rfl
  | x :: l => by rw [List.flatMap_cons, List.all_append, hc, flat_cell hc l]; rfl

theorem SlE.app {m bytes : Nat} {x : Value} {ys : List α} {K : Option Addr → Nat → Nat → AH → Prop} (he : ∀ x, (enc x).length = size) (hc : ∀ x, (enc x).all isCell = true)
    (h : SlE enc size H col c a n cap l) (h0 : 0 < size) (hb : bytes ≤ 1048576) (h1 : (n + m) * bytes ≤ 140737488351232) (h2 : n + m ≤ 70368744177664)
    (hsrc : srcA H size x = some (m, ys.flatMap enc)) (hm : ys.length = m)
    (hK : ∀ a' cap' H' col', SlE enc size H' col' c a' (n + m) cap' (l ++ ys) → Stp (fun x => x = c) col H col' H' → (∀ b, b < H.next → (∀ o, a ≠ some ⟨b, o, none⟩) → H'.get b = H.get b) → K a' (n + m) cap' H') :
    apK H size bytes (.slice a n cap) x K := by
  have hxs : (ys.flatMap enc).length = m * size := by rw [flat_len he, hm]
  have hnl := h.1
  unfold apK
  simp only [apA, hsrc, Option.bind_some]
  by_cases hm0 : m = 0
  · have hys : ys = [] := List.eq_nil_of_length_eq_zero (by omega)
    subst hm0
    refine ⟨a, n, cap, H, ?_, hK a cap H col (by simpa [hys] using h) (Stp.refl _ _ _) fun _ _ _ => rfl⟩
    rcases h.2.of with ⟨rfl, rfl, rfl⟩ | ⟨b, o, ds, g, rfl, _⟩ <;> simp [appendA]
  · rcases h.2.of with ⟨rfl, rfl, rfl⟩ | ⟨b, o, ds, g, rfl, hbk, hg, hnc, hcap, hds⟩
    · have hl : l = [] := List.eq_nil_of_length_eq_zero (by omega)
      refine ⟨some ⟨H.next, 0, none⟩, m, m, H.alloc (.cells (ys.flatMap enc) false size), ?_, ?_⟩
      · simp only [appendA]
        rw [if_neg hm0, if_pos ⟨by simpa using h1, by omega, hb, h0⟩]
      · have := (new1 rfl rfl : New1 H (H.alloc (.cells (ys.flatMap enc) false size)) H.next _).bk (fun x => x = c) col c
        have k := hK (some ⟨H.next, 0, none⟩) m _ _ ⟨by simp [hm, hl], by rw [hl, List.nil_append, hxs, Nat.zero_add], .inr ⟨H.next, 0, _, size, rfl, this.1, .inr rfl, by omega, by rw [hxs]; omega, by rw [hl, List.nil_append, List.drop_zero, Nat.zero_add, List.take_of_length_le (by omega)]⟩⟩ this.2 (fun x hx _ => get_alloc_of hx)
        simpa using k
    · have hnsz : n * size ≤ cap * size := Nat.mul_le_mul_right _ hnc
      have hadd : (n + m) * size = n * size + m * size := Nat.add_mul _ _ _
      by_cases hfit : n + m ≤ cap
      · have hfs : (n + m) * size ≤ cap * size := Nat.mul_le_mul_right _ hfit
        have e2 : Nat.ble (o + n * size + (ys.flatMap enc).length) ds.length = true := Nat.ble_eq_true_of_le (by rw [hxs]; omega)
        refine ⟨some ⟨b, o, none⟩, n + m, cap, H.set b (.cells (setMany ds (o + n * size) (ys.flatMap enc)) false g), ?_, ?_⟩
        · simp only [appendA, hbk.get]
          rw [if_neg hm0, if_pos hfit, if_pos (by exact ⟨by trivial, hg⟩)]
          simp only [stCells, hbk.get, e2, flat_cell hc ys, Bool.and_self, cond_true, Option.bind_some]
        · have w : Wrote1 H (H.set b (.cells (setMany ds (o + n * size) (ys.flatMap enc)) false g)) b (.cells (setMany ds (o + n * size) (ys.flatMap enc)) false g) :=
            ⟨rfl, by rw [AH.get_set, if_pos rfl], fun x hx => by rw [AH.get_set, if_neg hx]⟩
          obtain ⟨b1, s1⟩ := hbk.wrote w
          refine hK _ _ _ _ ⟨by simp [hm, hnl], by rw [List.flatMap_append, List.length_append, hxs, h.2.len]; omega, .inr ⟨b, o, _, g, rfl, b1, hg, hfit, by rw [setMany_lenX]; exact hcap, ?_⟩⟩ s1 (fun x hx hne => w.other x fun e => hne o (by rw [e]))
          rw [List.flatMap_append]
          apply List.ext_getElem?
          intro k
          have hll : (l.flatMap enc).length = n * size := h.2.len
          rw [List.getElem?_take]
          by_cases hk : k < (n + m) * size
          · rw [if_pos hk, List.getElem?_drop, setMany_getX _ _ _ _ (by rw [hxs]; omega), hxs]
            by_cases hr : k < n * size
            · rw [if_neg (by omega), List.getElem?_append_left (by omega), ← hds, List.getElem?_take, if_pos hr, List.getElem?_drop]
            · rw [if_pos (by omega), List.getElem?_append_right (by omega), hll]
              congr 1 <;> omega
          · rw [if_neg hk, List.getElem?_eq_none (by rw [List.length_append, hll, hxs]; omega)]
      · have hlt : o + n * size ≤ ds.length := by omega
        refine ⟨some ⟨H.next, 0, none⟩, n + m, n + m, if g = 0 then H.alloc (.cells ((ds.drop o).take (n * size) ++ ys.flatMap enc) false size) else (H.alloc (.cells ((ds.drop o).take (n * size) ++ ys.flatMap enc) false size)).kill b, ?_, ?_⟩
        · simp only [appendA, hbk.get]
          have hgg : g = 0 ∨ g = size ∧ True := hg.imp id fun h => ⟨h, trivial⟩
          rw [if_neg hm0, if_neg hfit, if_pos (by simpa using ⟨h1, h2, hb, h0, hlt, (by simpa using flat_cell hc ys), hg⟩)]
        · have a1 := (new1 rfl rfl : New1 H (H.alloc (.cells ((ds.drop o).take (n * size) ++ ys.flatMap enc) false size)) H.next _)
          obtain ⟨b1, s1⟩ := a1.bk (fun x => x = c) col c
          have hbl := hbk.lt
          have hres : ∀ H2 : AH, H2.next = H.next + 1 → H2.get H.next = some (.cells ((ds.drop o).take (n * size) ++ ys.flatMap enc) false size) →
              (∀ x, x < H.next → x ≠ b → H2.get x = H.get x) → K (some ⟨H.next, 0, none⟩) (n + m) (n + m) H2 := fun H2 q1 q2 q3 => by
            have st2 : Stp (fun x => x = c) col H (setC col H.next c) H2 := by
              refine ⟨by omega, fun x hx => ?_, fun x hx hd => q3 x hx fun e => hd (by rw [e]; exact hbk.cl), fun hf x hx => ?_⟩
              · have : x ≠ H.next := by omega
                simp [setC, this]
              · have : x ≠ H.next := by omega
                simp [setC, this]; exact hf x (by omega)
            refine hK _ _ H2 (setC col H.next c) ⟨by simp [hm, hnl], by rw [List.flatMap_append, List.length_append, hxs, h.2.len]; omega, .inr ⟨H.next, 0, _, size, rfl, ⟨by omega, by simp [setC], q2⟩, .inr rfl, Nat.le_refl _, ?_, ?_⟩⟩ st2 (fun x hx hne => q3 x hx fun e => hne o (by rw [e]))
            · rw [List.length_append, hxs, hds, h.2.len]; omega
            · rw [hds, List.drop_zero, List.take_of_length_le (by rw [List.length_append, hxs, h.2.len]; omega), List.flatMap_append]
          split
          · exact hres _ rfl get_alloc_self fun x hx _ => get_alloc_of hx
          · refine hres _ rfl ?_ fun x hx hne => ?_
            · rw [AH.get_kill, if_neg (by omega)]; exact get_alloc_self
            · rw [AH.get_kill, if_neg hne]; exact get_alloc_of hx

/-- What one block holds, as what is appended. -/
theorem src_one {bs g : Nat} {ro : Bool} {y : α} (hs : H.get bs = some (.cells (enc y) ro g)) (he : ∀ x, (enc x).length = size) : srcA H size (.slice (some ⟨bs, 0, none⟩) 1 1) = some (1, [y].flatMap enc) := by
  have : Nat.ble (0 + 1 * size) (enc y).length = true := Nat.ble_eq_true_of_le (by rw [he]; omega)
  simp only [srcA, ldCells, hs, this, cond_true]
  simp [← he y]
theorem SlE.push {bs bytes g : Nat} {ro : Bool} {y : α} {K : Option Addr → Nat → Nat → AH → Prop} (he : ∀ x, (enc x).length = size) (hc : ∀ x, (enc x).all isCell = true)
    (h : SlE enc size H col c a n cap l) (hs : H.get bs = some (.cells (enc y) ro g)) (h0 : 0 < size) (hb : bytes ≤ 1048576) (h1 : (n + 1) * bytes ≤ 140737488351232) (h2 : n + 1 ≤ 70368744177664)
    (hK : ∀ a' cap' H' col', SlE enc size H' col' c a' (n + 1) cap' (l ++ [y]) → Stp (fun x => x = c) col H col' H' → (∀ b, b < H.next → (∀ o, a ≠ some ⟨b, o, none⟩) → H'.get b = H.get b) → K a' (n + 1) cap' H') :
    apK H size bytes (.slice a n cap) (.slice (some ⟨bs, 0, none⟩) 1 1) K := h.app he hc h0 hb h1 h2 (src_one hs he) rfl hK

/-- A part of a slice. -/
theorem SlE.sub {lo hi : Nat} {lo' hi' : Option Value} {K : Option Addr → Nat → Nat → Prop} (he : ∀ x, (enc x).length = size) (h : SlE enc size H col c a n cap l) (hlh : lo ≤ hi) (hhn : hi ≤ n)
    (h1 : bnd hi' n cap = some hi) (h2 : bnd lo' 0 hi = some lo) (hK : ∀ a' cap', SlE enc size H col c a' (hi - lo) cap' ((l.take hi).drop lo) → K a' (hi - lo) cap') :
    slK H size a n cap lo' hi' K := by
  have hnl := h.1
  rcases h.2.of with ⟨rfl, rfl, rfl⟩ | ⟨b, o, ds, g, rfl, hbk, hg, hnc, hcap, hds⟩
  · have : hi = 0 := by omega
    have : lo = 0 := by omega
    subst_vars
    refine ⟨none, 0, 0, by simp only [sliceA, h1, h2, Option.bind_some], ?_⟩
    have hl : l = [] := List.eq_nil_of_length_eq_zero (by omega)
    have := hK none 0 (by simpa [hl] using (SlE.nil (enc := enc) (size := size) (H := H) (col := col) (c := c)))
    simpa using this
  · refine ⟨some ⟨b, if cap = lo then o else o + lo * size, none⟩, hi - lo, cap - lo, ?_, ?_⟩
    · simp only [sliceA, hbk.get, h1, h2, Option.bind_some]
      rw [if_pos hg]
    · have k1 : lo * size ≤ hi * size := Nat.mul_le_mul_right _ hlh
      have k2 : hi * size ≤ n * size := Nat.mul_le_mul_right _ hhn
      have k3 : n * size ≤ cap * size := Nat.mul_le_mul_right _ hnc
      have k4 : (hi - lo) * size = hi * size - lo * size := Nat.sub_mul _ _ _
      have k5 : (cap - lo) * size = cap * size - lo * size := Nat.sub_mul _ _ _
      have hlen : ((l.take hi).drop lo).length = hi - lo := by simp; omega
      refine hK _ _ ⟨hlen.symm, by rw [flat_len he, hlen], .inr ⟨b, _, ds, g, rfl, hbk, hg, by omega, ?_, ?_⟩⟩
      · split
        · rename_i e; subst e; simp; omega
        · omega
      · split
        · rename_i e
          subst e
          have : hi = cap := by omega
          subst this
          have : l.take hi = l := List.take_of_length_le (by omega)
          have e2 : (l.take hi).drop hi = [] := by simp
          rw [e2]; simp
        · apply List.ext_getElem?
          intro k
          rw [List.getElem?_take]
          by_cases hk : k < (hi - lo) * size
          · rw [if_pos hk, List.getElem?_drop]
            have hs : 0 < size := by
              rcases Nat.eq_zero_or_pos size with e | e
              · subst e; simp at hk
              · exact e
            have hq : k / size < hi - lo := Nat.div_lt_of_lt_mul (by rw [Nat.mul_comm]; exact hk)
            have hm : k % size < size := Nat.mod_lt _ hs
            have e : k = k / size * size + k % size := by rw [Nat.mul_comm]; exact (Nat.div_add_mod k size).symm
            have hx : ∃ x, l[lo + k / size]? = some x := ⟨_, List.getElem?_eq_getElem (by omega)⟩
            obtain ⟨x, hx⟩ := hx
            have hx2 : ((l.take hi).drop lo)[k / size]? = some x := by
              rw [List.getElem?_drop, List.getElem?_take, if_pos (by omega)]; exact hx
            have q1 := flat_get he _ _ _ _ hx2 hm
            rw [← e] at q1
            rw [q1]
            have q2 := flat_get he _ _ _ _ hx hm
            rw [← q2, ← hds, List.getElem?_take]
            have e3 : (lo + k / size) * size = lo * size + k / size * size := Nat.add_mul _ _ _
            rw [if_pos (by omega), List.getElem?_drop]
            congr 1; omega
          · rw [if_neg hk, List.getElem?_eq_none (by rw [flat_len he, hlen]; omega)]
end
end Go.Ez
