/- days.Date: the text of a date. Conditions: seconds up to the year 9999. -/
import Derived.Test.YtcblcjbflgepoaaDays
import Derived.Maps.RangeWalk
import Derived.Lib.SlBytesConst
namespace Go.Proofs.Ytcblcjbflgepoaa
open Go.RowKit Go.Maps
set_option maxRecDepth 100000

/-- The number whose digits end at place q. -/
def dX (Y M E q : Nat) : Nat := if q = 3 then Y else if q = 6 then M else E
def grp (p : Nat) : Nat := if p < 4 then 3 else if p < 7 then 6 else 9
theorem grp_is (p : Nat) : (grp p = 3 ∧ p < 4) ∨ (grp p = 6 ∧ 4 ≤ p ∧ p < 7) ∨ (grp p = 9 ∧ 7 ≤ p) := by
  unfold grp
  by_cases h : p < 4
  · rw [if_pos h]; omega
  · rw [if_neg h]
    by_cases h7 : p < 7
    · rw [if_pos h7]; omega
    · rw [if_neg h7]; omega
/-- The byte at place p, c q digits of those that end at q laid. -/
def dnat (X c : Nat → Nat) (p : Nat) : Nat := if p = 4 ∨ p = 7 then 45 else 48 + if grp p - p < c (grp p) then X (grp p) / 10 ^ (grp p - p) % 10 else 0
def dcell (X c : Nat → Nat) (p : Nat) : Value := .int .u8 (dnat X c p : Int)
def dcells (X c : Nat → Nat) : Array Value := fcells 10 (dcell X c)
def up (c : Nat → Nat) (q j : Nat) : Nat → Nat := fun x => if x = q then j else c x

theorem dset (X c : Nat → Nat) (q j p : Nat) (hq : q = p + j) (hg : grp p = q) (h4 : p ≠ 4 ∧ p ≠ 7) :
    (dcells X (up c q j)).setIfInBounds p (.int .u8 ((48 + X q / 10 ^ j % 10 : Nat) : Int)) = dcells X (up c q (j + 1)) := by
  unfold dcells
  rw [fcells_set]
  refine fcells_congr _ _ _ fun i hi => ?_
  by_cases e : i = p
  · subst e
    rw [if_pos rfl]
    unfold dcell dnat
    rw [if_neg (by omega), hg, show q - i = j by omega]
    unfold up
    rw [if_pos rfl, if_pos (by omega)]
  · rw [if_neg e]
    unfold dcell dnat
    by_cases h47 : i = 4 ∨ i = 7
    · rw [if_pos h47, if_pos h47]
    · rw [if_neg h47, if_neg h47]
      by_cases hgi : grp i = q
      · have hle : i ≤ q := by have := grp_is i; omega
        rw [hgi]
        unfold up
        simp only [if_pos]
        by_cases hlt : q - i < j
        · rw [if_pos hlt, if_pos (by omega)]
        · rw [if_neg hlt, if_neg (by omega)]
      · unfold up
        rw [if_neg hgi, if_neg hgi]
theorem dcur (X c : Nat → Nat) (q j p : Nat) (hq : q = p + j) (h9 : q < 10) (hg : grp p = q) (h4 : p ≠ 4 ∧ p ≠ 7) : (dcells X (up c q j))[p]? = some (.int .u8 48) := by
  unfold dcells
  rw [fcells_at _ _ _ (by omega)]
  unfold dcell dnat
  rw [if_neg (by omega), hg, show q - p = j by omega]
  unfold up
  rw [if_pos rfl, if_neg (by omega)]
  rfl
theorem dfull (X c : Nat → Nat) (q j : Nat) (h : X q / 10 ^ j = 0) : dcells X (up c q j) = dcells X (up c q 10) := by
  refine fcells_congr _ _ _ fun i hi => ?_
  unfold dcell dnat
  by_cases h47 : i = 4 ∨ i = 7
  · rw [if_pos h47, if_pos h47]
  · rw [if_neg h47, if_neg h47]
    by_cases hgi : grp i = q
    · rw [hgi]
      unfold up
      simp only [if_pos]
      have hq : q - i < 10 := by have := grp_is i; omega
      by_cases hlt : q - i < j
      · rw [if_pos hlt, if_pos hq]
      · rw [if_neg hlt, if_pos hq]
        have : X q / 10 ^ (q - i) = 0 := by
          rw [Nat.div_eq_of_lt]
          have h1 : X q < 10 ^ j := by
            rcases Nat.lt_or_ge (X q) (10 ^ j) with h1 | h1
            · exact h1
            · have := Nat.div_pos h1 (Nat.pow_pos (by decide)); omega
          exact Nat.lt_of_lt_of_le h1 (Nat.pow_le_pow_right (by decide) (by omega))
        rw [this]
    · unfold up
      rw [if_neg hgi, if_neg hgi]
theorem dc_congr (X c c' : Nat → Nat) (h : ∀ q, q = 3 ∨ q = 6 ∨ q = 9 → c q = c' q) : dcells X c = dcells X c' := by
  refine fcells_congr _ _ _ fun i hi => ?_
  unfold dcell dnat
  rw [h (grp i) (by have := grp_is i; omega)]
theorem dstart (X : Nat → Nat) : (#[.int .u8 48, .int .u8 48, .int .u8 48, .int .u8 48, .int .u8 45, .int .u8 48, .int .u8 48, .int .u8 45, .int .u8 48, .int .u8 48] : Array Value) = dcells X (fun _ => 0) := by
  simp [dcells, fcells, dcell, dnat, List.range_succ, List.range_zero]
theorem dend (Y M E : Nat) (c : Nat → Nat) (h : ∀ q, q = 3 ∨ q = 6 ∨ q = 9 → c q = 10) : dcells (dX Y M E) c = (bcells (dtext Y M E)).toArray := by
  rw [dc_congr _ c (fun _ => 10) h]
  simp [dcells, fcells, dcell, dnat, dX, grp, bcells, dtext, dg_nat, List.range_succ, List.range_zero]

/-- The map of the three numbers. -/
def dmap (Y M E : Nat) : DataW Unit := (((DataW.map []).put (.int .i64 3) (.lit (.int .i64 (Y : Int)))).put (.int .i64 6) (.lit (.int .i64 (M : Int)))).put (.int .i64 9) (.lit (.int .i64 (E : Int)))
theorem kl_int (a : Int) : WideAt.IsKeyLit (.int .i64 a) := by simp [WideAt.IsKeyLit]
theorem lit_ne {a b : Int} (h : a ≠ b) : (Lit.int .i64 a) ≠ .int .i64 b := fun e => by cases e; exact h rfl
theorem dmap_has (Y M E : Nat) (x : Int) (h : Maps.has (dmap Y M E) (.int .i64 x) = true) : x = 3 ∨ x = 6 ∨ x = 9 := by
  by_cases h3 : x = 3
  · exact .inl h3
  by_cases h6 : x = 6
  · exact .inr (.inl h6)
  by_cases h9 : x = 9
  · exact .inr (.inr h9)
  unfold dmap at h
  rw [has_put_other (lit_ne h9), has_put_other (lit_ne h6), has_put_other (lit_ne h3)] at h
  cases h
theorem dmap_all (Y M E : Nat) (q : Nat) (h : q = 3 ∨ q = 6 ∨ q = 9) : Maps.has (dmap Y M E) (.int .i64 (q : Int)) = true := by
  have i0 : IsMap (DataW.map [] : DataW Unit) := isMap_empty
  rcases h with rfl | rfl | rfl
  · unfold dmap
    rw [has_put_other (lit_ne (by decide)), has_put_other (lit_ne (by decide))]
    exact has_put_same i0 (kl_int _) _
  · unfold dmap
    rw [has_put_other (lit_ne (by decide))]
    exact has_put_same (i0.put _ _) (kl_int _) _
  · exact has_put_same ((i0.put _ _).put _ _) (kl_int _) _
theorem dmap_at (Y M E : Nat) (q : Nat) (h : q = 3 ∨ q = 6 ∨ q = 9) (z : DataW Unit) : (dmap Y M E).atKey (.int .i64 (q : Int)) z = .lit (.int .i64 (dX Y M E q : Int)) := by
  have i0 : IsMap (DataW.map [] : DataW Unit) := isMap_empty
  rcases h with rfl | rfl | rfl
  · unfold dmap
    rw [atKey_put_other (lit_ne (by decide)), atKey_put_other (lit_ne (by decide))]
    exact atKey_put_same i0 (kl_int _) _ _
  · unfold dmap
    rw [atKey_put_other (lit_ne (by decide))]
    exact atKey_put_same (i0.put _ _) (kl_int _) _ _
  · exact atKey_put_same ((i0.put _ _).put _ _) (kl_int _) _ _

theorem lawInt : Keyed Try.prog 3 := int_keyed Try.underlying3
theorem grown_set (w : World) (p : Addr) (v : Value) : w.grownBy (w.setCell p v) (some p.block) :=
  ⟨rfl, rfl, rfl, by simp, fun k _ hne => heap_setCell_other w p k v (fun e => hne (by rw [e]))⟩

/-- Block g is the row of ten bytes that []byte("0000-00-00") lays. -/
def DBlk (w : World) (g : Nat) (cs : Array Value) : Prop := w.heap[g]? = some (.cells cs 5 (10, 11))
section
variable {w w' : World} {g : Nat} {cs : Array Value}
theorem DBlk.lt (h : DBlk w g cs) : g < w.heap.size := by
  rcases Nat.lt_or_ge g w.heap.size with hlt | hge
  · exact hlt
  · unfold DBlk at h; rw [Array.getElem?_eq_none hge] at h; cases h
theorem DBlk.cell (h : DBlk w g cs) (i : Nat) : w.cell? ⟨g, i, none⟩ = cs[i]? := cell_of_row w g i cs _ (10, 11) h
theorem DBlk.frozen (h : DBlk w g cs) (i : Nat) (hi : i < 10) : w.frozen? ⟨g, i, none⟩ = false := by
  unfold DBlk at h
  simp [World.frozen?, h]
  omega
theorem DBlk.set_ (h : DBlk w g cs) (i : Nat) (u : Value) : DBlk (w.setCell ⟨g, i, none⟩ u) g (cs.setIfInBounds i u) := by
  unfold DBlk at h ⊢
  simp [World.setCell, Array.getElem?_modify, h]
theorem DBlk.grown {row : Option Nat} (h : DBlk w g cs) (hb : w.grownBy w' row) (hg : some g ≠ row) : DBlk w' g cs := (hb.block g h.lt hg).trans h
end

theorem run_date_string (w : World) (g : Nat) (l : List UInt8) (h : DBlk w g (bcells l).toArray) (hl : l.length = 10) :
    (convert 54 9 (.slice (some ⟨g, 0, none⟩) 10 10)).run Try.prog w = .ok (.string ⟨l.toArray⟩) w := by
  have := run_convert_bytes_back (P := Try.prog) w 54 9 5 ⟨g, 0, none⟩ 10 l Try.underlying54 Try.underlying5 Try.underlying9 (fun j hj => by
    have e : (⟨g, 0, none⟩ : Addr).add j = ⟨g, j, none⟩ := by unfold Addr.add; split <;> simp_all
    rw [e, h.cell j]
    simp [bcells, hj])
  rwa [hl] at this
theorem dplace (q j x : Nat) (hq : q = 3 ∨ q = 6 ∨ q = 9) (h1 : x < 10000) (h2 : (q = 6 ∨ q = 9) → x < 100) (h : 0 < x / 10 ^ j) : ∃ p, q = p + j ∧ grp p = q ∧ p ≠ 4 ∧ p ≠ 7 := by
  have hj : ∀ n, x < 10 ^ n → j < n := fun n hx => by
    rcases Nat.lt_or_ge j n with h3 | h3
    · exact h3
    · rw [Nat.div_eq_of_lt (Nat.lt_of_lt_of_le hx (Nat.pow_le_pow_right (by decide) h3))] at h
      omega
  have h4 := hj 4 h1
  rcases hq with rfl | rfl | rfl
  · rcases show j = 0 ∨ j = 1 ∨ j = 2 ∨ j = 3 by omega with rfl | rfl | rfl | rfl
    · exact ⟨3, rfl, rfl, by decide⟩
    · exact ⟨2, rfl, rfl, by decide⟩
    · exact ⟨1, rfl, rfl, by decide⟩
    · exact ⟨0, rfl, rfl, by decide⟩
  · rcases show j = 0 ∨ j = 1 by have := hj 2 (h2 (.inl rfl)); omega with rfl | rfl
    · exact ⟨6, rfl, rfl, by decide⟩
    · exact ⟨5, rfl, rfl, by decide⟩
  · rcases show j = 0 ∨ j = 1 by have := hj 2 (h2 (.inr rfl)); omega with rfl | rfl
    · exact ⟨9, rfl, rfl, by decide⟩
    · exact ⟨8, rfl, rfl, by decide⟩

/-- What the loop over the map holds. -/
def DRel (w wr : World) (g b r : Nat) (Y M E : Nat) (left : Lit → Bool) (cnt : Nat) (c : Nat → Nat) : Prop :=
  wr.ranges Try.prog 3 (plainElem Try.prog 3) b r 3 (dmap Y M E) left cnt ∧ (∀ kl, left kl = true → Maps.has (dmap Y M E) kl = true) ∧
  (∀ q, q = 3 ∨ q = 6 ∨ q = 9 → c q = if left (.int .i64 (q : Int)) then 0 else 10) ∧ DBlk wr g (dcells (dX Y M E) c) ∧ Below g w wr

theorem i64_wf {a : Int} (h0 : 0 ≤ a) (h1 : a ≤ 1000000) : (Lit.int .i64 a).wf = true := by
  have h1 : IntKind.i64.min = -9223372036854775808 := rfl
  have h2 : IntKind.i64.max = 9223372036854775807 := rfl
  simp only [Lit.wf, Bool.and_eq_true, decide_eq_true_eq, h1, h2]
  omega

theorem date_no (t : Int) (h : t < 0 ∨ 253402300799 < t) (w : World) :
    Calls Try.prog 11 #[.int .i64 t] w fun e w' => e = .returned (.tuple #[.string ⟨#[]⟩, .int .i64 1]) ∧ w = w' := by
  go_enter Try.func11, Try.ntmps11
  go_wp2_with (refine (second_no _ h _).mono ?_; rintro e w' ⟨rfl, rfl⟩)
  go_ret2
  exact ⟨rfl, rfl⟩

set_option maxHeartbeats 2000000 in
theorem date_yes (t : Int) (h0 : 0 ≤ t) (h1 : t ≤ 253402300799) (D : Nat) (hD : (D : Int) = t / 86400) (w : World) :
    Calls Try.prog 11 #[.int .i64 t] w fun e w' => e = .returned (.tuple #[.string ⟨(dateL D).toArray⟩, .int .i64 0]) ∧ Below w.heap.size w w' := by
  have hY := y_lt (show D ≤ 2932896 by omega)
  have hE := dom_31 D
  have hM : mon D % 12 < 12 := by omega
  have hc := fun W => date_any t h0 h1 D hD W
  clear hD
  have hlist : Hid (dateL D = dtext (1970 + mon D / 12) (mon D % 12 + 1) (dom D + 1)) := rfl
  rw [hlist.out]
  clear hlist
  generalize 1970 + mon D / 12 = Y at *
  generalize mon D % 12 = M at *
  generalize dom D = E at *
  have Hc := Lib.hid hc
  clear hc
  have hmm := @run_makeMap Try.prog
  have kc := fun (w : World) (C : Array Value) (n c : Nat) => Lib.run_convert_bytes_const (P := Try.prog) w 54 5 C n c Try.underlying54 Try.underlying5
  obtain ⟨w0, hw0⟩ : ∃ w0, w0 = w.alloc (.cells #[.int .u8 48, .int .u8 48, .int .u8 48, .int .u8 48, .int .u8 45, .int .u8 48, .int .u8 48, .int .u8 45, .int .u8 48, .int .u8 48] 5 (10, 11)) := ⟨_, rfl⟩
  have hD0 : DBlk w0 w.heap.size (dcells (dX Y (M + 1) (E + 1)) (fun _ => 0)) := by rw [← dstart, hw0]; exact heap_alloc_new w _
  have hb0 : Below w.heap.size w w0 := by rw [hw0]; exact (Below.refl _ _).alloc (Nat.le_refl _) _
  have hz0 : w0.heap.size = w.heap.size + 1 := by rw [hw0]; simp
  have mY := i64_wf (a := (Y : Int)) (by omega) (by omega)
  have mM := i64_wf (a := ((M + 1 : Nat) : Int)) (by omega) (by omega)
  have mE := i64_wf (a := ((E + 1 : Nat) : Int)) (by omega) (by omega)
  have ho0 := World.ownsMap_made (H := Unit) w0 Try.prog 3 (plainElem Try.prog 3)
  obtain ⟨w1, hr1, ho1, hg1⟩ := ho0.update lawInt Try.underlying55 (by decide) (keyOf_int_mk Try.underlying3 (i64_wf (a := 3) (by decide) (by decide))) (plainElem_int Try.underlying3 mY)
  obtain ⟨w2, hr2, ho2, hg2⟩ := ho1.update lawInt Try.underlying55 (by decide) (keyOf_int_mk Try.underlying3 (i64_wf (a := 6) (by decide) (by decide))) (plainElem_int Try.underlying3 mM)
  obtain ⟨w3, hr3, ho3, hg3⟩ := ho2.update lawInt Try.underlying55 (by decide) (keyOf_int_mk Try.underlying3 (i64_wf (a := 9) (by decide) (by decide))) (plainElem_int Try.underlying3 mE)
  have hD1 := ((hD0.grown (World.grownBy_alloc w0 (.map #[] 0) none) (by simp)).grown hg1 (by rw [hz0]; simp)).grown hg2 (by rw [hz0]; simp)
  replace hD1 := hD1.grown hg3 (by rw [hz0]; simp)
  have hb1 := (((hb0.alloc hb0.size (.map #[] 0)).grown hg1 (by simp; omega) (fun j hj => by cases hj; omega)).grown hg2 (by have := hg1.size; simp at this; omega) (fun j hj => by cases hj; omega)).grown hg3 (by have := hg1.size; have := hg2.size; simp at *; omega) (fun j hj => by cases hj; omega)
  have HD0 := Lib.hid hD1
  have Hb0 := Lib.hid hb1
  have Ho3 := Lib.hid ho3
  have hz3 := ho3.lt
  rw [hz0] at hr1 hr2 hr3 Ho3 hz3
  rw [hw0] at hr1
  clear hD0 hb0 ho0 ho1 ho2 ho3 hg1 hg2 hg3 hb1 hD1 hw0 hz0 mY mM mE
  simp only [Int.natCast_add, Int.cast_ofNat_Int] at hr2 hr3
  go_enter Try.func11, Try.ntmps11
  go_wp2_with (first
    | (go_at_call 28; refine (second_yes _ h0 h1 _).mono ?_; rintro e w' ⟨rfl, rfl⟩)
    | (go_at_call 29; refine (Hc.out _).mono ?_; rintro e w' ⟨rfl, rfl⟩)
    | (at_range; refine wpList_range_own _ rfl _ 55 rfl 3 3 lawInt Try.underlying55 _ (w.heap.size + 1) 3 _ rfl Ho3.out ?_; intro w4 hrg4 hg4 hs4))
  go_frame
  have hg4D := HD0.out.grown hg4 (by simp)
  have hg4B := Hb0.out.grown hg4 (Hb0.out.size) (fun j hj => by cases hj)
  have hhas := fun q h => dmap_all Y (M + 1) (E + 1) q h
  have Hhas := Lib.hid hhas
  clear hhas hr1 hr2 hr3 kc hmm hs4 hg4
  obtain ⟨r, Hr⟩ : ∃ r, Hid (w3.heap.size = r) := ⟨_, rfl⟩
  obtain ⟨b, Hb⟩ : ∃ b, Hid (w.heap.size + 1 = b) := ⟨_, rfl⟩
  obtain ⟨g, Hg⟩ : ∃ g, Hid (w.heap.size = g) := ⟨_, rfl⟩
  rw [Hr.out] at hrg4 hz3 ⊢
  rw [Hb.out] at hrg4 hz3
  rw [Hg.out] at hg4D hg4B ⊢
  go_loopw [8, 9] (fun _ _ wr => ∃ left cnt c, DRel w wr g b r Y (M + 1) (E + 1) left cnt c)
    (fun _ _ wr => wr.rangeLeft b r)
  case atStart =>
    refine ⟨_, _, fun _ => 0, hrg4, fun kl h => h, fun q hq => ?_, hg4D, hg4B⟩
    exact (if_pos (Hhas.out q hq)).symm
  case round =>
    obtain ⟨left, cnt, c, hrg, hlf, hcq, hBk, hbw⟩ := hrel
    have Hlf := Lib.hid hlf
    have Hcq := Lib.hid hcq
    clear hlf hcq Hhas hg4D hrg4 hg4B HD0 Hb0 Ho3
    have hgb : g < b := by have := Hg.out; have := Hb.out; omega
    go_wp2_with (first
      | (at_next; refine wpList_next_ranges_ii _ rfl _ rfl 3 3 .i64 .i64 lawInt Try.underlying3 Try.underlying3 b r 3 _ _ _ rfl hrg ?_ ?_)
      | fail)
    · intro hc0 hl0
      have hBe : DBlk wr g (bcells (dtext Y (M + 1) (E + 1))).toArray := by
        rw [← dend Y (M + 1) (E + 1) c (fun q hq => by rw [Hcq.out q hq, hl0]; rfl)]; exact hBk
      have hs := run_date_string wr g _ hBe rfl
      clear hl0 hc0
      go_wp2_with fail
      go_ret2
      exact ⟨rfl, by rw [Hg.out]; exact hbw⟩
    · intro x k w5 cnt5 hwx hwc hlx hat hrg5 hlt hg5 hs5 hen
      obtain ⟨q, rfl, hq⟩ : ∃ q : Nat, x = (q : Int) ∧ (q = 3 ∨ q = 6 ∨ q = 9) := by
        rcases dmap_has _ _ _ _ (Hlf.out _ hlx) with h | h | h
        · exact ⟨3, h, .inl rfl⟩
        · exact ⟨6, h, .inr (.inl rfl)⟩
        · exact ⟨9, h, .inr (.inr rfl)⟩
      obtain rfl : ((dX Y (M + 1) (E + 1) q : Nat) : Int) = k := by
        have h := (dmap_at Y (M + 1) (E + 1) q hq .nil).symm.trans (hat .nil)
        injection h with h
        injection h
      have hX0 : dX Y (M + 1) (E + 1) q < 10000 ∧ ((q = 6 ∨ q = 9) → dX Y (M + 1) (E + 1) q < 100) := by
        unfold dX
        rcases hq with rfl | rfl | rfl <;> simp <;> omega
      have hq9 : q ≤ 9 := by omega
      have hBk5 := hBk.grown hg5 (by intro e; cases e; omega)
      have hbw5 := hbw.grown hg5 (by have := hbw.size; have := Hg.out; omega) (fun j hj => by cases hj; have := Hr.out; have := Hg.out; omega)
      have Hq := Lib.hid hq
      have HX := Lib.hid hX0
      have hc0 : c q = 0 := by rw [Hcq.out q hq, hlx]; rfl
      have Hc0 := Lib.hid hc0
      have Hen := Lib.hid hen
      have hdx : (dX Y (M + 1) (E + 1) q : Nat) < 10000 := HX.out.1
      clear hat hX0 hq hc0 hBk hg5 hs5 hwx hwc
      generalize hX : dX Y (M + 1) (E + 1) = X at *
      go_wp2_with fail
      go_loopw [8, 9] (fun i n wr2 => ∃ (j : Nat) (ii : Int), Hid (ii = (q : Int) - (j : Int)) ∧ i = .int .i64 ii ∧ n = .int .i64 ((X q / 10 ^ j : Nat) : Int) ∧
          wr2.ranges Try.prog 3 (plainElem Try.prog 3) b r 3 (dmap Y (M + 1) (E + 1)) (fun z => left z && !z.sameKey (.int .i64 (q : Int))) cnt5 ∧ DBlk wr2 g (dcells X (up c q j)) ∧ Below g w wr2)
        (fun _ n _ => (intOf n).toNat)
      case atStart =>
        refine ⟨0, _, ?_, rfl, by simp, hrg5, ?_, hbw5⟩
        · show _ = _; simp
        · rw [← dc_congr X c (up c q 0) (fun q' _ => by unfold up; by_cases e : q' = q; (rw [if_pos e, e, Hc0.out]); rw [if_neg e])]; exact hBk5
      case round =>
        clear hrg5 hBk5 hbw5 Hen
        obtain ⟨j, ii, Hii, rfl, rfl, hrg5, hBk5, hbw5⟩ := hrel
        have hul : X q / 10 ^ j ≤ X q := Nat.div_le_self _ _
        obtain ⟨u, Hu⟩ : ∃ u, Hid (X q / 10 ^ j = u) := ⟨_, rfl⟩
        rw [Hu.out] at hul ⊢
        by_cases hu : 0 < u
        · obtain ⟨p, hp, hgp, hp4⟩ := dplace q j (X q) Hq.out HX.out.1 HX.out.2 (by rw [Hu.out]; exact hu)
          have hcell := hBk5.cell p
          rw [dcur X c q j p hp (by omega) hgp hp4] at hcell
          have hfz := hBk5.frozen p (by omega)
          obtain rfl : ii = (p : Int) := by have := Hii.out; omega
          have Hset := Lib.hid (dset X c q j p hp hgp hp4)
          have hp9 : p ≤ 9 := by omega
          clear hp hgp hp4
          go_wp2_with fail
          go_roundw
          case rel =>
            refine ⟨j + 1, (p : Int) - 1, ?_, rfl, ?_, hrg5.kept (grown_set _ ⟨g, p, none⟩ _) (by intro e; injection e with e; have e : b = g := e; omega) (by intro e; injection e with e; have e : r = g := e; omega), ?_, hbw5.setCell (Nat.le_refl _) _⟩
            · have := Hii.out; show _ = _; omega
            · rw [show X q / 10 ^ (j + 1) = X q / 10 ^ j / 10 by rw [Nat.div_div_eq_div_mul, Nat.pow_succ], Hu.out]; rfl
            · rw [← Hset.out, Hu.out]
              exact hBk5.set_ p _
          case measure => simp [intOf]; omega
        · obtain rfl : u = 0 := by omega
          go_wp2_with fail
          go_roundw
          case rel =>
            refine ⟨_, cnt5, up c q 10, hrg5, fun kl h => Hlf.out kl (by simp at h; exact h.1), fun q' hq' => ?_, by rw [hX, ← dfull X c q j Hu.out]; exact hBk5, hbw5⟩
            unfold up
            by_cases e : q' = q
            · subst e
              rw [if_pos rfl, WideAt.sameKey_self (kl_int _)]
              simp
            · rw [if_neg e, sameKey_ne (lit_ne (by omega)), Hcq.out q' hq']
              simp
          case measure => rw [hrg5.left_eq, hrg.left_eq]; exact hlt
end Go.Proofs.Ytcblcjbflgepoaa
