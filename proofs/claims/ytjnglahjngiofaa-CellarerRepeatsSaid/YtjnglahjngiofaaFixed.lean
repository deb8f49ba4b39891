/- inflate.Lengths, Order. Conditions: none. -/
import Derived.Test.YtjnglahjngiofaaConcat
import Derived.Test.YtjnglahjngiofaaRepeat
namespace Go.Proofs.Ytjnglahjngiofaa
open Go.RowKit
set_option maxRecDepth 100000

/-- The lengths of a fixed block. -/
def fixL (i : Nat) : Int := if i < 144 then 8 else if i < 256 then 9 else if i < 280 then 7 else 8
def fixN (j : Nat) : Nat := if j = 0 then 144 else if j = 1 then 112 else if j = 2 then 24 else 8
def fixV (j : Nat) : Int := if j = 0 then 8 else if j = 1 then 9 else if j = 2 then 7 else 8
theorem fix_parts : ∀ j, j < 4 → ∀ i, i < fixN j → fixL (totN fixN j + i) = fixV j := by
  intro j hj i hi
  rcases show j = 0 ∨ j = 1 ∨ j = 2 ∨ j = 3 by omega with rfl | rfl | rfl | rfl
  · have hi' : i < 144 := hi
    show fixL (0 + i) = 8
    unfold fixL
    rw [if_pos (by omega)]
  · have hi' : i < 112 := hi
    show fixL (144 + i) = 9
    unfold fixL
    rw [if_neg (by omega), if_pos (by omega)]
  · have hi' : i < 24 := hi
    show fixL (256 + i) = 7
    unfold fixL
    rw [if_neg (by omega), if_neg (by omega), if_pos (by omega)]
  · have hi' : i < 8 := hi
    show fixL (280 + i) = 8
    unfold fixL
    rw [if_neg (by omega), if_neg (by omega), if_neg (by omega)]
theorem rl_row {w : World} {g c : Nat} {v : Int} (h : Blk w g 3 (rl c v c).toArray) : IRow w (some ⟨g, 0, none⟩) c (fun _ => v) := by
  refine .inr ⟨g, 0, rfl, h.lt, fun i hi => ?_⟩
  rw [h.cell (0 + i), Nat.zero_add, List.getElem?_toArray, rl_at c v c i hi, if_pos hi]
theorem repeat_row (v : Int) (c : Nat) (h1 : 1 ≤ c) (h2 : c ≤ 1000) (b : Nat) (w : World) (hB : Blk w b 3 #[.int .i64 v]) :
    Calls Try.prog 60 #[.slice (some ⟨b, 0, none⟩) 1 1, .int .i64 (c : Int)] w fun e w' => e = .returned (.slice (some ⟨w.heap.size, 0, none⟩) c c) ∧ IRow w' (some ⟨w.heap.size, 0, none⟩) c (fun _ => v) ∧ Below w.heap.size w w' :=
  (repeat_any v c h1 h2 b 0 1 w (by rw [hB.cell 0]; rfl)).mono fun _ _ ⟨h1, h2, h3⟩ => ⟨h1, rl_row h2, h3⟩
theorem below_new {w w1 : World} {o : Obj} (h : Below (w.alloc o).heap.size (w.alloc o) w1) : Below w.heap.size w w1 :=
  ((Below.refl w.heap.size w).alloc (Nat.le_refl _) o).trans (h.mono (by simp))
theorem size_new (w : World) (o : Obj) : (w.alloc o).heap.size = w.heap.size + 1 := by simp
/-- Where the four parts lie. -/
def fixG (a b c d : Nat) (j : Nat) : Nat := if j = 0 then a else if j = 1 then b else if j = 2 then c else d

set_option maxHeartbeats 4000000 in
theorem lengths_any (w : World) : Calls Try.prog 31 #[] w fun e w' => ∃ g1 c1 g2, e = .returned (.tuple #[.slice (some ⟨g1, 0, none⟩) 288 c1, .slice (some ⟨g2, 0, none⟩) 32 32]) ∧ IRow w' (some ⟨g1, 0, none⟩) 288 fixL ∧ IRow w' (some ⟨g2, 0, none⟩) 32 (fun _ => 5) ∧ w.heap.size ≤ g1 ∧ w.heap.size ≤ g2 ∧ Below w.heap.size w w' := by
  go_enter Try.func31, Try.ntmps31
  go_wp2_with fail
  refine (repeat_row 8 144 (by decide) (by decide) _ _ (Blk.new _ _ _)).mono ?_
  rintro e w1 ⟨rfl, hR1, hb1⟩
  go_wp2_with fail
  refine (repeat_row 9 112 (by decide) (by decide) _ _ (Blk.new _ _ _)).mono ?_
  rintro e w2 ⟨rfl, hR2, hb2⟩
  go_wp2_with fail
  refine (repeat_row 7 24 (by decide) (by decide) _ _ (Blk.new _ _ _)).mono ?_
  rintro e w3 ⟨rfl, hR3, hb3⟩
  go_wp2_with fail
  refine (repeat_row 8 8 (by decide) (by decide) _ _ (Blk.new _ _ _)).mono ?_
  rintro e w4 ⟨rfl, hR4, hb4⟩
  go_wp2_with fail
  have b1 := below_new hb1
  have b2 := below_new hb2
  have b3 := below_new hb3
  have b4 := below_new hb4
  rw [size_new] at hR1 hR2 hR3 hR4
  have b5 : Below w4.heap.size w4 (w4.alloc (.cells #[.slice (some ⟨w.heap.size + 1, 0, none⟩) 144 144, .slice (some ⟨w1.heap.size + 1, 0, none⟩) 112 112, .slice (some ⟨w2.heap.size + 1, 0, none⟩) 24 24, .slice (some ⟨w3.heap.size + 1, 0, none⟩) 8 8] 22)) := (Below.refl w4.heap.size w4).alloc (Nat.le_refl _) _
  have hB5 := Blk.new w4 22 #[.slice (some ⟨w.heap.size + 1, 0, none⟩) 144 144, .slice (some ⟨w1.heap.size + 1, 0, none⟩) 112 112, .slice (some ⟨w2.heap.size + 1, 0, none⟩) 24 24, .slice (some ⟨w3.heap.size + 1, 0, none⟩) 8 8]
  obtain ⟨w5, HW5⟩ : ∃ W, Hid (w4.alloc (.cells #[.slice (some ⟨w.heap.size + 1, 0, none⟩) 144 144, .slice (some ⟨w1.heap.size + 1, 0, none⟩) 112 112, .slice (some ⟨w2.heap.size + 1, 0, none⟩) 24 24, .slice (some ⟨w3.heap.size + 1, 0, none⟩) 8 8] 22) = W) := ⟨_, Lib.hid (Eq.refl _)⟩
  rw [HW5.out] at b5 hB5 ⊢
  have r1 : IRow w5 (some ⟨w.heap.size + 1, 0, none⟩) 144 (fun _ => 8) := (((hR1.below b2).below b3).below b4).below b5
  have r2 : IRow w5 (some ⟨w1.heap.size + 1, 0, none⟩) 112 (fun _ => 9) := ((hR2.below b3).below b4).below b5
  have r3 : IRow w5 (some ⟨w2.heap.size + 1, 0, none⟩) 24 (fun _ => 7) := (hR3.below b4).below b5
  have r4 : IRow w5 (some ⟨w3.heap.size + 1, 0, none⟩) 8 (fun _ => 8) := hR4.below b5
  have CC := concat_any 4 (by decide) (by decide) fixN (fixG (w.heap.size + 1) (w1.heap.size + 1) (w2.heap.size + 1) (w3.heap.size + 1)) fixV fixL (by decide) fix_parts (by decide) w4.heap.size 0 4 w5 hB5.lt
    (by
      intro j hj
      rw [hB5.cell (0 + j)]
      rcases show j = 0 ∨ j = 1 ∨ j = 2 ∨ j = 3 by omega with rfl | rfl | rfl | rfl <;> rfl)
    (by
      intro j hj
      rcases show j = 0 ∨ j = 1 ∨ j = 2 ∨ j = 3 by omega with rfl | rfl | rfl | rfl
      · exact r1
      · exact r2
      · exact r3
      · exact r4)
  have et : totN fixN 4 = 288 := rfl
  rw [et] at CC
  have B5 : Below w.heap.size w w5 := bthen (bthen (bthen (bthen b1 b2) b3) b4) b5
  have HB5 := Lib.hid B5
  have HCC := Lib.hid CC
  clear r1 r2 r3 r4 hR1 hR2 hR3 hR4 hb1 hb2 hb3 hb4 b1 b2 b3 b4 b5 hB5 B5 CC et HW5
  refine HCC.out.mono ?_
  rintro e w6 ⟨g1, c1, rfl, ho6, hb6⟩
  have hg1 := (World.ownsRow.lt ho6 g1 (by simp [Value.ownBlock])).1
  have hg1b : w.heap.size ≤ g1 := Nat.le_trans HB5.out.size hg1
  have HI6 := Lib.hid (IRow.ofOwn ho6)
  have HB6 := Lib.hid (bthen HB5.out hb6)
  clear ho6 hb6 hg1 HCC HB5
  go_wp2_with fail
  refine (repeat_row 5 32 (by decide) (by decide) _ _ (Blk.new _ _ _)).mono ?_
  rintro e w7 ⟨rfl, hR7, hb7⟩
  have b7 := below_new hb7
  rw [size_new] at hR7
  have HB7 := Lib.hid (bthen HB6.out b7)
  have HI7 := Lib.hid (HI6.out.below b7)
  have HR7 := Lib.hid hR7
  have hg2 : w.heap.size ≤ w6.heap.size + 1 := Nat.le_succ_of_le HB6.out.size
  clear hb7 b7 hR7 HB6 HI6
  go_wp2_with fail
  go_ret2
  exact ⟨g1, c1, w6.heap.size + 1, rfl, HI7.out, HR7.out, hg1b, hg2, HB7.out⟩
theorem order_any (w : World) : Calls Try.prog 35 #[] w fun e w' => e = .returned (.slice (some ⟨w.heap.size, 0, none⟩) 19 19) ∧ Blk w' w.heap.size 3 #[.int .i64 16, .int .i64 17, .int .i64 18, .int .i64 0, .int .i64 8, .int .i64 7, .int .i64 9, .int .i64 6, .int .i64 10, .int .i64 5, .int .i64 11, .int .i64 4, .int .i64 12, .int .i64 3, .int .i64 13, .int .i64 2, .int .i64 14, .int .i64 1, .int .i64 15] ∧ Below w.heap.size w w' := by
  have hB := Blk.new w 3 #[.int .i64 16, .int .i64 17, .int .i64 18, .int .i64 0, .int .i64 8, .int .i64 7, .int .i64 9, .int .i64 6, .int .i64 10, .int .i64 5, .int .i64 11, .int .i64 4, .int .i64 12, .int .i64 3, .int .i64 13, .int .i64 2, .int .i64 14, .int .i64 1, .int .i64 15]
  have hb := (Below.refl w.heap.size w).alloc (Nat.le_refl _) (.cells #[.int .i64 16, .int .i64 17, .int .i64 18, .int .i64 0, .int .i64 8, .int .i64 7, .int .i64 9, .int .i64 6, .int .i64 10, .int .i64 5, .int .i64 11, .int .i64 4, .int .i64 12, .int .i64 3, .int .i64 13, .int .i64 2, .int .i64 14, .int .i64 1, .int .i64 15] 3)
  have HB := Lib.hid hB
  have Hb := Lib.hid hb
  clear hB hb
  go_enter Try.func35, Try.ntmps35
  go_wp2_with fail
  go_ret
  exact ⟨rfl, HB.out, Hb.out⟩
end Go.Proofs.Ytjnglahjngiofaa
