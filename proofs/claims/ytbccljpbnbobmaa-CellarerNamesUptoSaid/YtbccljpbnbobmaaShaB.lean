/- digest.Hash.block. Printed by gen_shab.py. Conditions: a block of 64 bytes. -/
import Derived.Test.YtbccljpbnbobmaaShaL
import Derived.BigQuiet
import Derived.Deep.CutBlock
namespace Go.Proofs.Ytbccljpbnbobmaa
open Go.RowKit
set_option maxRecDepth 100000

set_option maxHeartbeats 16000000 in
theorem block_gen (H : Nat) (f : Nat → Nat) (hf : ∀ j, j < 72 → f j < 4294967296) (rest : ByteArray) (n : Nat) (b : Bool) (p : ByteArray) (hp : p.size = 64) (S : Nat → Nat) (V : Nat → List Nat)
    (hS0 : ∀ i, i < 16 → S i = wordB p.data.toList i) (hS1 : ∀ k, k < 48 → S (k + 16) = (S k + sg0 (S (k + 1)) + S (k + 9) + sg1 (S (k + 14))) % 4294967296) (hSl : ∀ i, i < 64 → S i < 4294967296)
    (hV0 : V 0 = (List.range 8).map f) (hV1 : ∀ i, V (i + 1) = stV (f (8 + i)) (S i) (V i)) (hV2 : ∀ i, (V i).length = 8 ∧ ∀ y ∈ V i, y < 4294967296)
    (w : World) (hB : Blk w H 55 (hcells f rest n b)) :
    Calls Try.prog 45 #[.pointer (some ⟨H, 0, none⟩), .string p] w fun e w' => e = .returned (.tuple #[]) ∧ Blk w' H 55 (hcells (fun j => if j < 8 then (f j + (V 64).getD j 0) % 4294967296 else f j) rest n b) ∧ Onl H w w' := by
  have HS0 := Lib.hid hS0
  have HS1 := Lib.hid hS1
  have HSl := Lib.hid hSl
  have HV0 := Lib.hid hV0
  have HV1 := Lib.hid hV1
  have HV2 := Lib.hid hV2
  clear hS0 hS1 hSl hV0 hV1 hV2
  have hz := zero_w64
  have hHlt := hB.lt
  obtain ⟨WB, HWB⟩ : ∃ g, Hid (w.heap.size = g) := ⟨_, Lib.hid (Eq.refl _)⟩
  have HB := Lib.hid hB
  have Hf := Lib.hid hf
  have hb0 := (Below.refl w.heap.size w).alloc (Nat.le_refl _) (.cells (fcells 64 (wval fun _ => 0)) 53)
  have hW0 := Blk.new w 53 (fcells 64 (wval fun _ => 0))
  rw [HWB.out] at hHlt hW0
  have HB0 := Lib.hid hb0
  have HW0 := Lib.hid hW0
  clear hB hf hb0 hW0
  go_enter Try.func45, Try.ntmps45
  go_wp2_with fail
  try rw [HWB.out]
  clear hz
  go_loopw [18] (fun i_ wr => ∃ (i : Nat) (g : Nat → Nat), i ≤ 16 ∧ i_ = .int .i64 (i : Int) ∧ Hid (Blk wr WB 53 (fcells 64 (wval g))) ∧ Hid (∀ j, j < i → g j = S j) ∧ Hid (Below w.heap.size w wr)) (fun i _ => 16 - (intOf i).toNat)
  case atStart => exact ⟨0, fun _ => 0, by omega, rfl, HW0, (fun j hj => absurd hj (by omega)), HB0⟩
  case round =>
    clear HW0 HB0
    obtain ⟨i, g, hi, rfl, HWr, Hg, HBw⟩ := hrel
    by_cases hlt : i < 16
    · obtain ⟨j0, hj0⟩ : ∃ j, j = 4 * i := ⟨_, rfl⟩
      obtain ⟨j1, hj1⟩ : ∃ j, j = j0 + 1 := ⟨_, rfl⟩
      obtain ⟨j2, hj2⟩ : ∃ j, j = j0 + 2 := ⟨_, rfl⟩
      obtain ⟨j3, hj3⟩ : ∃ j, j = j0 + 3 := ⟨_, rfl⟩
      have h4 : 4 * (i : Int) = (j0 : Int) := by omega
      have h41 : (j0 : Int) + 1 = (j1 : Int) := by omega
      have h42 : (j0 : Int) + 2 = (j2 : Int) := by omega
      have h43 : (j0 : Int) + 3 = (j3 : Int) := by omega
      have hw1 : IntKind.i64.wrap ((j0 : Int) + 1) = (j1 : Int) := by rw [IntKind.wrap_i64]; omega
      have hw2 : IntKind.i64.wrap ((j0 : Int) + 2) = (j2 : Int) := by rw [IntKind.wrap_i64]; omega
      have hw3 : IntKind.i64.wrap ((j0 : Int) + 3) = (j3 : Int) := by rw [IntKind.wrap_i64]; omega
      have i0 : j0 < p.size := by omega
      have i1 : j1 < p.size := by omega
      have i2 : j2 < p.size := by omega
      have i3 : j3 < p.size := by omega
      have hS := HS0.out i hlt
      unfold wordB at hS
      rw [← hj0, ← hj1, ← hj2, ← hj3, get_at p j0 i0, get_at p j1 i1, get_at p j2 i2, get_at p j3 i3] at hS
      have hb0 := (p[j0]).toNat_lt
      have hb1 := (p[j1]).toNat_lt
      have hb2 := (p[j2]).toNat_lt
      have hb3 := (p[j3]).toNat_lt
      have HS := Lib.hid hS
      have hfz := HWr.out.frozen i
      have hci := HWr.out.cell i
      rw [wcells_at _ _ _ (by omega)] at hci
      have Hp := Lib.hid hp
      have hor := or4 _ _ _ _ hb0 hb1 hb2 hb3
      rw [← hS] at hor
      have Hp := Lib.hid hp
      have hSe : wval S i = .int .u32 ((S i : Nat) : Int) := rfl
      clear hS hj1 hj2 hj3 hj0 hp hHlt h41 h42 h43 hSe HS
      go_upto_region 4 with (fail)
      go_region
      all_goals
        go_wp2_with fail
        go_roundw
        case rel =>
          have h := HWr.out.set_ i (.int .u32 ((S i : Nat) : Int))
          rw [wcells_set] at h
          refine ⟨i + 1, _, by omega, by go_num, h, fun k hk => ?_, (HBw.out.setCell (p := ⟨WB, i, none⟩) (by rw [HWB.out]; exact Nat.le_refl _) _).drew⟩
          by_cases e : k = i
          · simp only [e, if_true]
          · simp only [e, if_false]
            exact Hg.out k (by omega)
        case measure => simp [intOf]; omega
    · have d1 : decide ((i : Int) < 16) = false := by rw [decide_eq_false_iff_not]; omega
      have Hg1 : Hid (∀ j, j < 16 → g j = S j) := Lib.hid (fun j hj => Hg.out j (by omega))
      have hrot := enters_rot
      have HC7 := Lib.hid (fun x hx W => rot_7 x hx W)
      have HC18 := Lib.hid (fun x hx W => rot_18 x hx W)
      have HC17 := Lib.hid (fun x hx W => rot_17 x hx W)
      have HC19 := Lib.hid (fun x hx W => rot_19 x hx W)
      go_wp2_with fail
      have HW1 := HWr
      have HB1 := HBw
      clear HWr Hg HBw hlt hi d1
      go_loopw [7] (fun i_ wq => ∃ (i : Nat) (g : Nat → Nat), 16 ≤ i ∧ i ≤ 64 ∧ i_ = .int .i64 (i : Int) ∧ Hid (Blk wq WB 53 (fcells 64 (wval g))) ∧ Hid (∀ j, j < i → g j = S j) ∧ Hid (Below w.heap.size w wq)) (fun i _ => 64 - (intOf i).toNat)
      case atStart => exact ⟨16, g, by omega, by omega, rfl, HW1, Hg1, HB1⟩
      case round =>
        clear HW1 Hg1 HB1
        obtain ⟨i, g, hi1, hi2, rfl, HWr, Hg, HBw⟩ := hrel
        by_cases hlt : i < 64
        · obtain ⟨k, hk⟩ : ∃ k, k + 16 = i := ⟨i - 16, by omega⟩
          obtain ⟨k1, hk1⟩ : ∃ j, j = k + 1 := ⟨_, rfl⟩
          obtain ⟨k9, hk9⟩ : ∃ j, j = k + 9 := ⟨_, rfl⟩
          obtain ⟨k14, hk14⟩ : ∃ j, j = k + 14 := ⟨_, rfl⟩
          have a1 : (i : Int) - 16 = (k : Int) := by omega
          have a2 : (i : Int) - 15 = (k1 : Int) := by omega
          have a3 : (i : Int) - 7 = (k9 : Int) := by omega
          have a4 : (i : Int) - 2 = (k14 : Int) := by omega
          have b1 : (k : Int) < 64 := by omega
          have b2 : (k1 : Int) < 64 := by omega
          have b3 : (k9 : Int) < 64 := by omega
          have b4 : (k14 : Int) < 64 := by omega
          have b5 : (i : Int) < 64 := by omega
          have n1 : (16 : Int) ≤ (i : Int) := by omega
          have n2 : (15 : Int) ≤ (i : Int) := by omega
          have n3 : (7 : Int) ≤ (i : Int) := by omega
          have n4 : (2 : Int) ≤ (i : Int) := by omega
          have n5 : IntKind.i64.wrap (k : Int) = (k : Int) := by rw [IntKind.wrap_i64]; omega
          have n6 : IntKind.i64.wrap (k9 : Int) = (k9 : Int) := by rw [IntKind.wrap_i64]; omega
          have c1 := HWr.out.cell k
          have c2 := HWr.out.cell k1
          have c3 := HWr.out.cell k9
          have c4 := HWr.out.cell k14
          rw [wcells_at _ _ _ (by omega), Hg.out _ (by omega)] at c1 c2 c3 c4
          have hfz := HWr.out.frozen i
          have hci := HWr.out.cell i
          rw [wcells_at _ _ _ (by omega)] at hci
          have hS := HS1.out k (by omega)
          rw [hk, ← hk1, ← hk9, ← hk14] at hS
          have l1 := HSl.out k (by omega)
          have l2 := HSl.out k1 (by omega)
          have l3 := HSl.out k9 (by omega)
          have l4 := HSl.out k14 (by omega)
          obtain ⟨s1, e1⟩ : ∃ q, S k = q := ⟨_, rfl⟩
          obtain ⟨s2, e2⟩ : ∃ q, S k1 = q := ⟨_, rfl⟩
          obtain ⟨s3, e3⟩ : ∃ q, S k9 = q := ⟨_, rfl⟩
          obtain ⟨s4, e4⟩ : ∃ q, S k14 = q := ⟨_, rfl⟩
          obtain ⟨si, ei⟩ : ∃ q, S i = q := ⟨_, rfl⟩
          rw [e1] at c1 l1
          rw [e2] at c2 l2
          rw [e3] at c3 l3
          rw [e4] at c4 l4
          rw [e1, e2, e3, e4, ei] at hS
          unfold sg0 sg1 at hS
          have C7 := HC7.out s2 l2
          have C18 := HC18.out s2 l2
          have C17 := HC17.out s4 l4
          have C19 := HC19.out s4 l4
          have r1 := rotr_lt s2 7 l2
          have r2 := rotr_lt s2 18 l2
          have r3 := rotr_lt s4 17 l4
          have r4 := rotr_lt s4 19 l4
          generalize rotr s2 7 = x1 at *
          generalize rotr s2 18 = x2 at *
          generalize rotr s4 17 = x3 at *
          generalize rotr s4 19 = x4 at *
          have o1 := u32_xor_nat x1 x2 r1 r2
          have o2 := u32_xor_nat (x1 ^^^ x2) (s2 / 8) (xor_lt32 r1 r2) (by omega)
          have o3 := u32_xor_nat x3 x4 r3 r4
          have o4 := u32_xor_nat (x3 ^^^ x4) (s4 / 1024) (xor_lt32 r3 r4) (by omega)
          have m2 := xor_lt32 (xor_lt32 r1 r2) (show s2 / 8 < 4294967296 by omega)
          have m4 := xor_lt32 (xor_lt32 r3 r4) (show s4 / 1024 < 4294967296 by omega)
          generalize x1 ^^^ x2 = y1 at *
          generalize y1 ^^^ s2 / 8 = y2 at *
          generalize x3 ^^^ x4 = y3 at *
          generalize y3 ^^^ s4 / 1024 = y4 at *
          have d2 : ((s2 / 8 : Nat) : Int) = (s2 : Int) / 8 := by omega
          have d4 : ((s4 / 1024 : Nat) : Int) = (s4 : Int) / 1024 := by omega
          rw [d2] at o2
          rw [d4] at o4
          obtain ⟨z1, hz1⟩ : ∃ q, q = (s1 + y2) % 4294967296 := ⟨_, rfl⟩
          obtain ⟨z2, hz2⟩ : ∃ q, q = (z1 + s3) % 4294967296 := ⟨_, rfl⟩
          have w1 : IntKind.u32.wrap ((s1 : Int) + (y2 : Int)) = (z1 : Int) := by rw [IntKind.wrap_u32]; omega
          have w2 : IntKind.u32.wrap ((z1 : Int) + (s3 : Int)) = (z2 : Int) := by rw [IntKind.wrap_u32]; omega
          have w3 : IntKind.u32.wrap ((z2 : Int) + (y4 : Int)) = (si : Int) := by rw [IntKind.wrap_u32]; omega
          have Hk := Lib.hid hk
          have Hei := Lib.hid ei
          have K7 := Lib.hid (fun W => calls_sym (C7 W))
          have K18 := Lib.hid (fun W => calls_sym (C18 W))
          have K17 := Lib.hid (fun W => calls_sym (C17 W))
          have K19 := Lib.hid (fun W => calls_sym (C19 W))
          clear hS hk hk1 hk9 hk14 e1 e2 e3 e4 ei hz1 hz2 d2 d4 m2 m4 r1 r2 r3 r4 C7 C18 C17 C19 l1 l2 l3 l4
          go_upto_region 10 with (fail)
          go_region
          all_goals
            go_upto_region 11 with (fail)
            refine wp_region_still_tail 33 (by kernel_rfl) (by kernel_rfl) ?_
            have C1 : wr.drew.drew.cell? ⟨WB, k, none⟩ = some (.int .u32 (s1 : Int)) := c1
            have C3 : wr.drew.drew.cell? ⟨WB, k9, none⟩ = some (.int .u32 (s3 : Int)) := c3
            have C5 : wr.drew.drew.cell? ⟨WB, i, none⟩ = some (.int .u32 (g i : Int)) := hci
            have C6 : wr.drew.drew.frozen? ⟨WB, i, none⟩ = false := hfz
            have C7 : Hid (Blk wr.drew.drew WB 53 (fcells 64 (wval g)) ∧ Below w.heap.size w wr.drew.drew) := ⟨HWr.out.drew.drew, HBw.out.drew.drew⟩
            change wpStill _ _ wr.drew.drew (fun a' => wpList _ _ _ _ a' wr.drew.drew) _ _
            generalize wr.drew.drew = wz at C1 C3 C5 C6 C7 ⊢
            clear c1 c2 c3 c4 hci hfz HWr HBw
            simp only [List.take_succ_cons, List.take_zero, List.drop_succ_cons, List.drop_zero]
            iterate 7 still_step
            still_call (K7.out _)
            iterate 2 still_step
            still_call (K18.out _)
            iterate 12 still_step
            still_call (K17.out _)
            iterate 2 still_step
            still_call (K19.out _)
            iterate 6 still_step
            refine wpStill_nil ?_
            change wpList _ _ _ _ _ wz
            go_wp2_with fail
            go_roundw
            case rel =>
              have h := (C7.out.1).set_ i (.int .u32 (si : Int))
              rw [wcells_set] at h
              refine ⟨i + 1, _, by omega, by omega, by go_num, h, fun q hq => ?_, (C7.out.2.setCell (p := ⟨WB, i, none⟩) (by rw [HWB.out]; exact Nat.le_refl _) _)⟩
              by_cases e : q = i
              · simp only [e, if_true]
                exact Hei.out.symm
              · simp only [e, if_false]
                exact Hg.out q (by omega)
            case measure => simp [intOf]; omega
        · have d1 : decide ((i : Int) < 64) = false := by rw [decide_eq_false_iff_not]; omega
          have Hg2 : Hid (∀ j, j < 64 → g j = S j) := Lib.hid (fun j hj => Hg.out j (by omega))
          have HBq := Lib.hid (HB.out.below HBw.out HB.out.lt)
          have hr8 : wr.rangeAt H 0 ((List.range 8).map (wval f)) := range_words HBq.out 8 (by decide)
          have hi8 := info_w8
          have hz8 := zero_w8
          have hbl := (Below.refl wr.heap.size wr).alloc (Nat.le_refl _) (.cells (fcells 8 (wval fun _ => 0)) 52)
          have hnew : (wr.alloc (.cells (fcells 8 (wval fun _ => 0)) 52)).heap[wr.heap.size]? = some (.cells (fcells 8 (wval fun _ => 0)) 52 (0, 0)) := Blk.new wr 52 (fcells 8 (wval fun _ => 0))
          have hsz8 : (fcells 8 (wval fun _ => 0)).size = ((List.range 8).map (wval f)).toArray.size := by simp [fcells_size]
          have hi8b : (Try.prog.info? 52).map (·.size) = some ((List.range 8).map (wval f)).length := by rw [hi8]; simp
          have hi8c : (Try.prog.info? 52).map (·.size) = some ((List.range 8).map (wval f)).toArray.size := by rw [hi8]; simp
          have h1c : ((List.range 8).map (wval f)).toArray.all (·.oneCell') = true := wcells_one 8 f
          clear hi8
          go_upto_region 12 with (fail)
          go_upto_region 13 with (first
            | (with_reducible refine wpList_load_mid rfl 52 _ rfl H 0 rfl ((List.range 8).map (wval f)) _ hr8 Try.underlying52 rfl hi8b ?_)
            | (with_reducible refine wpList_store_row rfl 52 _ _ rfl wr.heap.size ((List.range 8).map (wval f)).toArray rfl rfl 52 (fcells 8 (wval fun _ => 0)) hnew hi8c hsz8 h1c ?_)
            | fail)
          have hbs := below_setRow (Below.refl wr.heap.size (wr.alloc (.cells (fcells 8 (wval fun _ => 0)) 52))) (Nat.le_refl _) ((List.range 8).map (wval f)).toArray
          have hb3 := hbl.trans hbs
          have hV3 : Blk ((wr.alloc (.cells (fcells 8 (wval fun _ => 0)) 52)).setRow wr.heap.size ((List.range 8).map (wval f)).toArray) wr.heap.size 52 (fcells 8 (wval fun j => (V 0).getD j 0)) := by
            have h := setRow_heap (wr.alloc (.cells (fcells 8 (wval fun _ => 0)) 52)) wr.heap.size _ ((List.range 8).map (wval f)).toArray _ _ hnew
            have e : ((List.range 8).map (wval f)).toArray = fcells 8 (wval fun j => (V 0).getD j 0) := by
              rw [HV0.out]
              refine fcells_congr 8 _ _ fun j hj => ?_
              unfold wval
              simp [List.getD, hj]
            rw [e] at h ⊢
            exact h
          have HV3 := Lib.hid hV3
          have HW3 := Lib.hid (HWr.out.below hb3 HWr.out.lt)
          have HH3 := Lib.hid (HBq.out.below hb3 HBq.out.lt)
          have HB3 := Lib.hid (HBw.out.trans (hb3.mono HBw.out.size))
          have hWV : WB < wr.heap.size := HWr.out.lt
          have hHV : H < wr.heap.size := HBq.out.lt
          have hwV : w.heap.size ≤ wr.heap.size := HBw.out.size
          clear hr8 hz8 hbl hnew hsz8 hi8b hi8c h1c hbs hb3 hV3
          obtain ⟨W3, HW3e⟩ : ∃ W, Hid ((wr.alloc (.cells (fcells 8 (wval fun _ => 0)) 52)).setRow wr.heap.size ((List.range 8).map (wval f)).toArray = W) := ⟨_, Lib.hid (Eq.refl _)⟩
          rw [HW3e.out] at HV3 HW3 HH3 HB3 ⊢
          obtain ⟨VB, HVB⟩ : ∃ q, Hid (wr.heap.size = q) := ⟨_, Lib.hid (Eq.refl _)⟩
          rw [HVB.out] at HV3 hWV hHV hwV ⊢
          clear HW3e HWr HBq HBw Hg hlt hi1 hi2 d1
          go_wp2_with fail
          go_loopw [102] (fun i_ wq => ∃ i : Nat, i ≤ 64 ∧ i_ = .int .i64 (i : Int) ∧ Hid (Blk wq VB 52 (fcells 8 (wval fun j => (V i).getD j 0))) ∧ Hid (Onl VB W3 wq)) (fun i _ => 64 - (intOf i).toNat)
          case atStart => exact ⟨0, by omega, rfl, HV3, Onl.refl _⟩
          case round =>
            clear HV3
            obtain ⟨i, hi, rfl, HVr, HOn⟩ := hrel
            have HWq := Lib.hid (HOn.out.blk HW3.out (by omega))
            have HHq := Lib.hid (HOn.out.blk HH3.out (by omega))
            by_cases hlt : i < 64
            · have c0 := HVr.out.cell 0
              have c1 := HVr.out.cell 1
              have c2 := HVr.out.cell 2
              have c3 := HVr.out.cell 3
              have c4 := HVr.out.cell 4
              have c5 := HVr.out.cell 5
              have c6 := HVr.out.cell 6
              have c7 := HVr.out.cell 7
              rw [wcells_at _ _ _ (by decide)] at c0 c1 c2 c3 c4 c5 c6 c7
              have cS := HWq.out.cell i
              rw [wcells_at _ _ _ hlt, Hg2.out i hlt] at cS
              have cK := HHq.out.cell (8 + i)
              rw [hcells_word _ _ _ _ _ (by omega)] at cK
              have HcS : Hid (∀ wx, Onl VB W3 wx → wx.cell? ⟨WB, i, none⟩ = some (.int .u32 ((S i : Nat) : Int))) := fun wx h => by
                have h2 := (h.blk HW3.out (by omega)).cell i
                rw [wcells_at _ _ _ hlt, Hg2.out i hlt] at h2
                exact h2
              have HcK : Hid (∀ wx, Onl VB W3 wx → wx.cell? ⟨H, 8 + i, none⟩ = some (.int .u32 ((f (8 + i) : Nat) : Int))) := fun wx h => by
                have h2 := (h.blk HH3.out (by omega)).cell (8 + i)
                rw [hcells_word _ _ _ _ _ (by omega)] at h2
                exact h2
              have Hc0 : Hid (∀ wx, Blk wx VB 52 (fcells 8 (wval fun j => (V i).getD j 0)) → wx.cell? ⟨VB, 0, none⟩ = some (.int .u32 (((V i).getD 0 0 : Nat) : Int))) := fun wx h => by
                have h2 := h.cell 0
                rw [wcells_at _ _ _ (by decide)] at h2
                exact h2
              have Hc1 : Hid (∀ wx, Blk wx VB 52 (fcells 8 (wval fun j => (V i).getD j 0)) → wx.cell? ⟨VB, 1, none⟩ = some (.int .u32 (((V i).getD 1 0 : Nat) : Int))) := fun wx h => by
                have h2 := h.cell 1
                rw [wcells_at _ _ _ (by decide)] at h2
                exact h2
              have Hc2 : Hid (∀ wx, Blk wx VB 52 (fcells 8 (wval fun j => (V i).getD j 0)) → wx.cell? ⟨VB, 2, none⟩ = some (.int .u32 (((V i).getD 2 0 : Nat) : Int))) := fun wx h => by
                have h2 := h.cell 2
                rw [wcells_at _ _ _ (by decide)] at h2
                exact h2
              have Hc3 : Hid (∀ wx, Blk wx VB 52 (fcells 8 (wval fun j => (V i).getD j 0)) → wx.cell? ⟨VB, 3, none⟩ = some (.int .u32 (((V i).getD 3 0 : Nat) : Int))) := fun wx h => by
                have h2 := h.cell 3
                rw [wcells_at _ _ _ (by decide)] at h2
                exact h2
              have Hc4 : Hid (∀ wx, Blk wx VB 52 (fcells 8 (wval fun j => (V i).getD j 0)) → wx.cell? ⟨VB, 4, none⟩ = some (.int .u32 (((V i).getD 4 0 : Nat) : Int))) := fun wx h => by
                have h2 := h.cell 4
                rw [wcells_at _ _ _ (by decide)] at h2
                exact h2
              have Hc5 : Hid (∀ wx, Blk wx VB 52 (fcells 8 (wval fun j => (V i).getD j 0)) → wx.cell? ⟨VB, 5, none⟩ = some (.int .u32 (((V i).getD 5 0 : Nat) : Int))) := fun wx h => by
                have h2 := h.cell 5
                rw [wcells_at _ _ _ (by decide)] at h2
                exact h2
              have Hc6 : Hid (∀ wx, Blk wx VB 52 (fcells 8 (wval fun j => (V i).getD j 0)) → wx.cell? ⟨VB, 6, none⟩ = some (.int .u32 (((V i).getD 6 0 : Nat) : Int))) := fun wx h => by
                have h2 := h.cell 6
                rw [wcells_at _ _ _ (by decide)] at h2
                exact h2
              have Hc7 : Hid (∀ wx, Blk wx VB 52 (fcells 8 (wval fun j => (V i).getD j 0)) → wx.cell? ⟨VB, 7, none⟩ = some (.int .u32 (((V i).getD 7 0 : Nat) : Int))) := fun wx h => by
                have h2 := h.cell 7
                rw [wcells_at _ _ _ (by decide)] at h2
                exact h2
              have lS := HSl.out i hlt
              have lK := Hf.out (8 + i) (by omega)
              have hV := HV1.out i
              have hl := (HV2.out i).2
              have hlv : ∀ j, (V i).getD j 0 < 4294967296 := fun j => getD_lt (V i) j hl
              have hlT := getD_lt (V (i + 1)) 0 (HV2.out (i + 1)).2
              unfold stV stT stU at hV
              generalize f (8 + i) = K at *
              generalize S i = s at *
              obtain ⟨v0, e0⟩ : ∃ q, (V i).getD 0 0 = q := ⟨_, rfl⟩
              obtain ⟨v1, e1⟩ : ∃ q, (V i).getD 1 0 = q := ⟨_, rfl⟩
              obtain ⟨v2, e2⟩ : ∃ q, (V i).getD 2 0 = q := ⟨_, rfl⟩
              obtain ⟨v3, e3⟩ : ∃ q, (V i).getD 3 0 = q := ⟨_, rfl⟩
              obtain ⟨v4, e4⟩ : ∃ q, (V i).getD 4 0 = q := ⟨_, rfl⟩
              obtain ⟨v5, e5⟩ : ∃ q, (V i).getD 5 0 = q := ⟨_, rfl⟩
              obtain ⟨v6, e6⟩ : ∃ q, (V i).getD 6 0 = q := ⟨_, rfl⟩
              obtain ⟨v7, e7⟩ : ∃ q, (V i).getD 7 0 = q := ⟨_, rfl⟩
              have l0 := hlv 0
              have l1 := hlv 1
              have l2 := hlv 2
              have l3 := hlv 3
              have l4 := hlv 4
              have l5 := hlv 5
              have l6 := hlv 6
              have l7 := hlv 7
              rw [e0] at c0 l0 Hc0
              rw [e1] at c1 l1 Hc1
              rw [e2] at c2 l2 Hc2
              rw [e3] at c3 l3 Hc3
              rw [e4] at c4 l4 Hc4
              rw [e5] at c5 l5 Hc5
              rw [e6] at c6 l6 Hc6
              rw [e7] at c7 l7 Hc7
              rw [e0, e1, e2, e3, e4, e5, e6, e7] at hV
              clear e0 e1 e2 e3 e4 e5 e6 e7 hlv hl
              have K6 := Lib.hid (fun W => calls_sym (rot_6 v4 l4 W))
              have K11 := Lib.hid (fun W => calls_sym (rot_11 v4 l4 W))
              have K25 := Lib.hid (fun W => calls_sym (rot_25 v4 l4 W))
              have K2 := Lib.hid (fun W => calls_sym (rot_2 v0 l0 W))
              have K13 := Lib.hid (fun W => calls_sym (rot_13 v0 l0 W))
              have K22 := Lib.hid (fun W => calls_sym (rot_22 v0 l0 W))
              have r1 := rotr_lt v4 6 l4
              have r2 := rotr_lt v4 11 l4
              have r3 := rotr_lt v4 25 l4
              have r4 := rotr_lt v0 2 l0
              have r5 := rotr_lt v0 13 l0
              have r6 := rotr_lt v0 22 l0
              generalize rotr v4 6 = x1 at *
              generalize rotr v4 11 = x2 at *
              generalize rotr v4 25 = x3 at *
              generalize rotr v0 2 = x4 at *
              generalize rotr v0 13 = x5 at *
              generalize rotr v0 22 = x6 at *
              have o1 := u32_xor_nat x1 x2 r1 r2
              have o2 := u32_xor_nat (x1 ^^^ x2) x3 (xor_lt32 r1 r2) r3
              have o3 := u32_xor_nat x4 x5 r4 r5
              have o4 := u32_xor_nat (x4 ^^^ x5) x6 (xor_lt32 r4 r5) r6
              have o5 := u32_and_nat v4 v5 l4 l5
              have o6 := not32 v4 l4
              have ln : 4294967295 - v4 < 4294967296 := by omega
              generalize 4294967295 - v4 = nv4 at *
              have o7 := u32_and_nat nv4 v6 ln l6
              have o8 := u32_xor_nat (v4 &&& v5) (nv4 &&& v6) (and_lt32 l4) (and_lt32 ln)
              have o9 := u32_and_nat v0 v1 l0 l1
              have o10 := u32_and_nat v0 v2 l0 l2
              have o11 := u32_and_nat v1 v2 l1 l2
              have o12 := u32_xor_nat (v0 &&& v1) (v0 &&& v2) (and_lt32 l0) (and_lt32 l0)
              have o13 := u32_xor_nat ((v0 &&& v1) ^^^ (v0 &&& v2)) (v1 &&& v2) (xor_lt32 (and_lt32 l0) (and_lt32 l0)) (and_lt32 l1)
              have m1 := xor_lt32 (xor_lt32 r1 r2) r3
              have m2 := xor_lt32 (xor_lt32 r4 r5) r6
              have m3 := xor_lt32 (and_lt32 (b := v5) l4) (and_lt32 (b := v6) ln)
              have m4 := xor_lt32 (xor_lt32 (and_lt32 (b := v1) l0) (and_lt32 (b := v2) l0)) (and_lt32 (b := v2) l1)
              generalize x1 ^^^ x2 = y1 at *
              generalize y1 ^^^ x3 = y2 at *
              generalize x4 ^^^ x5 = y3 at *
              generalize y3 ^^^ x6 = y4 at *
              generalize v4 &&& v5 = a1 at *
              generalize nv4 &&& v6 = a2 at *
              generalize a1 ^^^ a2 = a3 at *
              generalize v0 &&& v1 = b1 at *
              generalize v0 &&& v2 = b2 at *
              generalize v1 &&& v2 = b3 at *
              generalize b1 ^^^ b2 = b4 at *
              generalize b4 ^^^ b3 = b5 at *
              obtain ⟨t1, ht1⟩ : ∃ q, q = (v7 + y2) % 4294967296 := ⟨_, rfl⟩
              obtain ⟨t2, ht2⟩ : ∃ q, q = (t1 + a3) % 4294967296 := ⟨_, rfl⟩
              obtain ⟨t3, ht3⟩ : ∃ q, q = (t2 + K) % 4294967296 := ⟨_, rfl⟩
              obtain ⟨T, hT⟩ : ∃ q, q = (v7 + y2 + a3 + K + s) % 4294967296 := ⟨_, rfl⟩
              obtain ⟨U, hU⟩ : ∃ q, q = (y4 + b5) % 4294967296 := ⟨_, rfl⟩
              obtain ⟨n0, hn0⟩ : ∃ q, q = (T + U) % 4294967296 := ⟨_, rfl⟩
              obtain ⟨n4, hn4⟩ : ∃ q, q = (v3 + T) % 4294967296 := ⟨_, rfl⟩
              rw [← hT, ← hU, ← hn0, ← hn4] at hV
              have w1 : IntKind.u32.wrap ((v7 : Int) + (y2 : Int)) = (t1 : Int) := by rw [IntKind.wrap_u32]; omega
              have w2 : IntKind.u32.wrap ((t1 : Int) + (a3 : Int)) = (t2 : Int) := by rw [IntKind.wrap_u32]; omega
              have w3 : IntKind.u32.wrap ((t2 : Int) + (K : Int)) = (t3 : Int) := by rw [IntKind.wrap_u32]; omega
              have w4 : IntKind.u32.wrap ((t3 : Int) + (s : Int)) = (T : Int) := by rw [IntKind.wrap_u32]; omega
              have w5 : IntKind.u32.wrap ((y4 : Int) + (b5 : Int)) = (U : Int) := by rw [IntKind.wrap_u32]; omega
              have w6 : IntKind.u32.wrap ((T : Int) + (U : Int)) = (n0 : Int) := by rw [IntKind.wrap_u32]; omega
              have w7 : IntKind.u32.wrap ((v3 : Int) + (T : Int)) = (n4 : Int) := by rw [IntKind.wrap_u32]; omega
              have HVn := Lib.hid hV
              have hsg : IntKind.u32.signed = false := rfl
              have hiI : (i : Int) < 64 := by omega
              have hiw : IntKind.i64.wrap (i : Int) = (i : Int) := by rw [IntKind.wrap_i64]; omega
              clear ht1 ht2 ht3 hT hU hn0 hn4 hV r1 r2 r3 r4 r5 r6 m1 m2 m3 m4 ln lS lK hlT l0 l1 l2 l3 l4 l5 l6 l7
              clear HWq HHq
              go_upto_region 16 with (fail)
              go_cut [12, 13] from 103 to 192 (fun a_ e_ wx => a_ = .int .u32 (v0 : Int) ∧ e_ = .int .u32 (v4 : Int) ∧ Hid (Blk wx VB 52 (fcells 8 (wval fun j => (V i).getD j 0))) ∧ Hid (Onl VB W3 wx))
              case first =>
                go_region
                all_goals
                  go_wp2_with fail
                  go_meet
                  exact ⟨rfl, rfl, HVr.out.drew, HOn.out.drewN 1⟩
              case rest =>
                obtain ⟨rfl, rfl, HVa, HOa⟩ := hcut
                clear c0 c1 c2 c3 c4 c5 c6 c7 cS cK HVr HOn
                go_upto_region 17 with (fail)
                go_cut [14] from 103 to 192 (fun a_ wx => a_ = .int .u32 (T : Int) ∧ Hid (Blk wx VB 52 (fcells 8 (wval fun j => (V i).getD j 0))) ∧ Hid (Onl VB W3 wx))
                case first =>
                  obtain ⟨wz, hz⟩ : ∃ W, W = wc.drew := ⟨_, rfl⟩
                  have HVz : Hid (Blk wz VB 52 (fcells 8 (wval fun j => (V i).getD j 0))) := by rw [hz]; exact HVa.out.drew
                  have HOz : Hid (Onl VB W3 wz) := by rw [hz]; exact HOa.out.drewN 1
                  have c0 := Hc0.out _ HVz.out
                  have c1 := Hc1.out _ HVz.out
                  have c2 := Hc2.out _ HVz.out
                  have c3 := Hc3.out _ HVz.out
                  have c4 := Hc4.out _ HVz.out
                  have c5 := Hc5.out _ HVz.out
                  have c6 := Hc6.out _ HVz.out
                  have c7 := Hc7.out _ HVz.out
                  have cS := HcS.out _ HOz.out
                  have cK := HcK.out _ HOz.out
                  refine region_still hz (by kernel_rfl) (by kernel_rfl) ?_
                  clear hz HVa HOa
                  iterate 4 still_step
                  still_call (K6.out _)
                  iterate 2 still_step
                  still_call (K11.out _)
                  iterate 3 still_step
                  still_call (K25.out _)
                  iterate 25 still_step
                  refine wpStill_nil ?_
                  go_wp2_with fail
                  go_meet
                  exact ⟨rfl, HVz, HOz⟩
                case rest =>
                obtain ⟨rfl, HVb, HOb⟩ := hcut
                clear HVa HOa K6 K11 K25 o1 o2 o5 o6 o7 o8 w1 w2 w3 w4
                go_upto_region 18 with (fail)
                go_cut [15] from 103 to 192 (fun a_ wx => a_ = .int .u32 (U : Int) ∧ Hid (Blk wx VB 52 (fcells 8 (wval fun j => (V i).getD j 0))) ∧ Hid (Onl VB W3 wx))
                case first =>
                  obtain ⟨wz, hz⟩ : ∃ W, W = wc.drew := ⟨_, rfl⟩
                  have HVz : Hid (Blk wz VB 52 (fcells 8 (wval fun j => (V i).getD j 0))) := by rw [hz]; exact HVb.out.drew
                  have HOz : Hid (Onl VB W3 wz) := by rw [hz]; exact HOb.out.drewN 1
                  have c0 := Hc0.out _ HVz.out
                  have c1 := Hc1.out _ HVz.out
                  have c2 := Hc2.out _ HVz.out
                  have c3 := Hc3.out _ HVz.out
                  have c4 := Hc4.out _ HVz.out
                  have c5 := Hc5.out _ HVz.out
                  have c6 := Hc6.out _ HVz.out
                  have c7 := Hc7.out _ HVz.out
                  refine region_still hz (by kernel_rfl) (by kernel_rfl) ?_
                  clear hz HVb HOb
                  iterate 2 still_step
                  still_call (K2.out _)
                  iterate 2 still_step
                  still_call (K13.out _)
                  iterate 3 still_step
                  still_call (K22.out _)
                  iterate 18 still_step
                  refine wpStill_nil ?_
                  go_wp2_with fail
                  go_meet
                  exact ⟨rfl, HVz, HOz⟩
                case rest =>
                obtain ⟨rfl, HVc, HOc⟩ := hcut
                clear HVb HOb K2 K13 K22 o3 o4 o9 o10 o11 o12 o13 w5
                have HVy : Hid (Blk wc VB 52 (fcells 8 (wval fun j => (V i).getD j 0)) ∧ Onl VB W3 wc) := ⟨HVc.out, HOc.out⟩
                have c0 := Hc0.out _ HVc.out
                have c1 := Hc1.out _ HVc.out
                have c2 := Hc2.out _ HVc.out
                have c3 := Hc3.out _ HVc.out
                have c4 := Hc4.out _ HVc.out
                have c5 := Hc5.out _ HVc.out
                have c6 := Hc6.out _ HVc.out
                have c7 := Hc7.out _ HVc.out
                have f0 := HVy.out.1.frozen 0
                have f1 := HVy.out.1.frozen 1
                have f2 := HVy.out.1.frozen 2
                have f3 := HVy.out.1.frozen 3
                have f4 := HVy.out.1.frozen 4
                have f5 := HVy.out.1.frozen 5
                have f6 := HVy.out.1.frozen 6
                have f7 := HVy.out.1.frozen 7
                go_wp2_with fail
                go_roundw
                case rel =>
                  have hb := HVy.out.1
                  have ho := HVy.out.2
                  have hb := hb.set_ 0 (.int .u32 (n0 : Int))
                  have ho := ho.set_ 0 (.int .u32 (n0 : Int))
                  have hb := hb.set_ 1 (.int .u32 (v0 : Int))
                  have ho := ho.set_ 1 (.int .u32 (v0 : Int))
                  have hb := hb.set_ 2 (.int .u32 (v1 : Int))
                  have ho := ho.set_ 2 (.int .u32 (v1 : Int))
                  have hb := hb.set_ 3 (.int .u32 (v2 : Int))
                  have ho := ho.set_ 3 (.int .u32 (v2 : Int))
                  have hb := hb.set_ 4 (.int .u32 (n4 : Int))
                  have ho := ho.set_ 4 (.int .u32 (n4 : Int))
                  have hb := hb.set_ 5 (.int .u32 (v4 : Int))
                  have ho := ho.set_ 5 (.int .u32 (v4 : Int))
                  have hb := hb.set_ 6 (.int .u32 (v5 : Int))
                  have ho := ho.set_ 6 (.int .u32 (v5 : Int))
                  have hb := hb.set_ 7 (.int .u32 (v6 : Int))
                  have ho := ho.set_ 7 (.int .u32 (v6 : Int))
                  refine ⟨i + 1, by omega, by go_num, ?_, ho⟩
                  show Blk _ _ _ _
                  rw [HVn.out]
                  have e : (fcells 8 (wval fun j => [n0, v0, v1, v2, n4, v4, v5, v6].getD j 0)) = _ := fcells8_set (V i) n0 v0 v1 v2 n4 v4 v5 v6
                  rw [e]
                  exact hb
                case measure => simp [intOf]; omega
            · have d1 : decide ((i : Int) < 64) = false := by rw [decide_eq_false_iff_not]; omega
              have hi64 : i = 64 := by omega
              have HD64 := Lib.hid hi64
              obtain ⟨D, HD⟩ : ∃ D : Nat → Nat, Hid ((fun j => (V i).getD j 0) = D) := ⟨_, Lib.hid (Eq.refl _)⟩
              have HVd : Hid (Blk wr VB 52 (fcells 8 (wval D))) := by rw [← HD.out]; exact HVr
              have hDl : ∀ j, D j < 4294967296 := fun j => by rw [← HD.out]; exact getD_lt (V i) j (HV2.out i).2
              have HDl := Lib.hid hDl
              obtain ⟨CL, HCL⟩ : ∃ c, Hid ((List.range 8).map (wval D) = c) := ⟨_, Lib.hid (Eq.refl _)⟩
              have hr8 : wr.rangeAt VB 0 CL := fun j v hv => by
                rw [← HCL.out] at hv
                have hj : j < 8 := by
                  have := (List.getElem?_eq_some_iff.1 hv).1
                  simpa using this
                have e : ((List.range 8).map (wval D))[j]? = some (.int .u32 (D j : Int)) := by simp [hj, wval]
                rw [e] at hv
                rw [Nat.zero_add, HVd.out.cell j, wcells_at _ _ _ hj, hv]
              have hCs : CL.length = 8 := by rw [← HCL.out]; simp
              have hi8b : (Try.prog.info? 52).map (·.size) = some CL.length := by rw [info_w8, hCs]
              have HCs := Lib.hid hCs
              clear hCs
              have HH0 := HHq
              have HO0 : Hid (Onl H w wr) := (Onl.refl w).below (HB3.out.trans ⟨HOn.out.1, HOn.out.2.1, HOn.out.2.2.1, HOn.out.2.2.2.1, fun k hk => HOn.out.2.2.2.2 k (Nat.lt_of_lt_of_le hk HB3.out.size) (by omega)⟩) (Nat.le_refl _)
              clear hi64 hDl HWq HHq HVr hlt hi
              go_upto_region 21 with (fail)
              go_upto_region 22 with (first
                | (with_reducible refine wpList_load_mid rfl 52 _ rfl VB 0 rfl CL _ hr8 Try.underlying52 rfl hi8b ?_)
                | fail)
              have HCi : Hid (∀ j : Nat, j < 8 → ∀ W, (Instr.index 52 (.agg CL.toArray) (.int .i64 (j : Int))).run Try.prog W = .ok (.int .u32 (D j : Int)) W) := fun j hj W => by rw [← HCL.out]; exact index_words D j hj W
              clear hr8 hi8b HVd HCL d1 HOn
              have Hw0 := HV0
              go_loopw [194] (fun i_ wq => ∃ j : Nat, j ≤ 8 ∧ i_ = .int .i64 (j : Int) ∧ Hid (Blk wq H 55 (hcells (fun q => if q < j then (f q + D q) % 4294967296 else f q) rest n b)) ∧ Hid (Onl H w wq)) (fun i _ => 8 - (intOf i).toNat)
              case atStart => exact ⟨0, by omega, rfl, HH0, HO0⟩
              case round =>
                clear HH0 HO0
                obtain ⟨j, hj, rfl, HHr, HOr⟩ := hrel
                by_cases hlt : j < 8
                · have hx := HCi.out j hlt
                  have hjI : (j : Int) < 8 := by omega
                  have hjw : IntKind.i64.wrap (j : Int) = (j : Int) := by rw [IntKind.wrap_i64]; omega
                  have cH := HHr.out.cell j
                  rw [hcells_word _ _ _ _ _ (by omega), if_neg (Nat.lt_irrefl j)] at cH
                  have fH := HHr.out.frozen j
                  have l1 := Hf.out j (by omega)
                  have l2 := HDl.out j
                  have hHr := HHr.out.set_ j (.int .u32 (((f j + D j) % 4294967296 : Nat) : Int))
                  rw [hcells_setw _ _ _ _ _ _ (by omega)] at hHr
                  have hFe : (fun i => if i = j then (f j + D j) % 4294967296 else if i < j then (f i + D i) % 4294967296 else f i) = (fun q => if q < j + 1 then (f q + D q) % 4294967296 else f q) := by
                    funext q
                    by_cases e : q = j
                    · subst e; rw [if_pos rfl, if_pos (by omega)]
                    · rw [if_neg e]
                      by_cases e2 : q < j
                      · rw [if_pos e2, if_pos (by omega)]
                      · rw [if_neg e2, if_neg (by omega)]
                  rw [hFe] at hHr
                  obtain ⟨N, hN⟩ : ∃ q, q = (f j + D j) % 4294967296 := ⟨_, rfl⟩
                  rw [← hN] at hHr
                  generalize f j = F at *
                  generalize D j = G at *
                  have w1 : IntKind.u32.wrap ((F : Int) + (G : Int)) = (N : Int) := by rw [IntKind.wrap_u32]; omega
                  have HHn := Lib.hid hHr
                  clear hHr hFe hN l1 l2 HHr
                  go_upto_region 24 with (fail)
                  go_region
                  all_goals
                    go_wp2_with fail
                    go_roundw
                    case rel => exact ⟨j + 1, by omega, by go_num, HHn.out.drew, (HOr.out.set_ j _).drewN 1⟩
                    case measure => simp [intOf]; omega
                · have dj : decide ((j : Int) < 8) = false := by rw [decide_eq_false_iff_not]; omega
                  have hj8 : j = 8 := by omega
                  have HJ := Lib.hid hj8
                  clear hj8 hlt hj
                  go_wp2_with fail
                  (try simp only [Exit.inBlock, Exit.then])
                  refine bodyPost_end (results_none rfl _ _ _) rfl ?_
                  refine ⟨rfl, ?_, HOr.out⟩
                  have h := HHr.out
                  rw [HJ.out, ← HD.out, HD64.out] at h
                  exact h

theorem block_any (H : Nat) (f : Nat → Nat) (hf : ∀ j, j < 72 → f j < 4294967296) (rest : ByteArray) (n : Nat) (b : Bool) (p : ByteArray) (hp : p.size = 64) (w : World) (hB : Blk w H 55 (hcells f rest n b)) :
    Calls Try.prog 45 #[.pointer (some ⟨H, 0, none⟩), .string p] w fun e w' => e = .returned (.tuple #[]) ∧ Blk w' H 55 (hcells (blkF f p.data.toList) rest n b) ∧ Onl H w w' := by
  have hl : ((List.range 8).map f).length = 8 := by simp
  have hy : ∀ y ∈ (List.range 8).map f, y < 4294967296 := fun y hy => by
    obtain ⟨i, hi, rfl⟩ := List.mem_map.1 hy
    exact hf i (by have := List.mem_range.1 hi; omega)
  obtain ⟨S, hS⟩ : ∃ S, S = sched p.data.toList := ⟨_, rfl⟩
  obtain ⟨V, hV⟩ : ∃ V, V = stepsL (fun i => f (8 + i)) S ((List.range 8).map f) := ⟨_, rfl⟩
  have h := block_gen H f hf rest n b p hp S V (fun i hi => by rw [hS]; exact sched_word _ i hi) (fun k hk => by rw [hS]; exact sched_next _ k hk) (fun i hi => by rw [hS]; exact sched_lt _ i hi)
    (by rw [hV, stepsL]) (fun i => by rw [hV, stepsL]) (fun i => by rw [hV]; exact stepsL_ok _ _ _ hl hy i) w hB
  have e : (fun j => if j < 8 then (f j + (V 64).getD j 0) % 4294967296 else f j) = blkF f p.data.toList := by
    funext j
    unfold blkF
    rw [hV, hS]
  rw [e] at h
  exact h
end Go.Proofs.Ytbccljpbnbobmaa
