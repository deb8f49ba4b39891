/- ZipfmtFull: files are taken just up to the limits. Conditions: numbers that Go can hold. -/
import Derived.Test.YthehocmfpoglgaaJebboal
import Derived.Test.YthehocmfpoglgaaJepaakj
import Derived.Deep.RegionHeld3
namespace Go.Proofs.Ythehocmfpoglgaa
open Go.RowKit
set_option maxRecDepth 100000
theorem full_out (n z : Int) (h : n < 0 \/ 210 < n \/ z < 0 \/ 65537 < z \/ 300000 < n * z) (w : World) :
 Calls Try.prog 6 #[.int .i64 n, .int .i64 z] w fun e w' => e = .returned (.bool true) /\ Below w.heap.size w w' := by
 have CA := Qf awake8_any
 by_cases c0 : n < 0
 . have d0 : decide (n < 0) = true := by rw [decide_eq_true_eq]; exact c0
   clear h c0
   go_enter Try.func6, Try.ntmps6
   go_wp2_with fail
   refine (CA.out _).mono ?_
   rintro e w1 ⟨rfl, hb⟩
   go_wp2_with fail
   go_ret
   exact ⟨rfl, hb⟩
 . have d0 : decide (n < 0) = false := by rw [decide_eq_false_iff_not]; exact c0
   by_cases c1 : 210 < n
   . have d1 : decide (210 < n) = true := by rw [decide_eq_true_eq]; exact c1
     clear h c0 c1
     go_enter Try.func6, Try.ntmps6
     go_wp2_with fail
     refine (CA.out _).mono ?_
     rintro e w1 ⟨rfl, hb⟩
     go_wp2_with fail
     go_ret
     exact ⟨rfl, hb⟩
   . have d1 : decide (210 < n) = false := by rw [decide_eq_false_iff_not]; exact c1
     by_cases c2 : z < 0
     . have d2 : decide (z < 0) = true := by rw [decide_eq_true_eq]; exact c2
       clear h c0 c1 c2
       go_enter Try.func6, Try.ntmps6
       go_wp2_with fail
       refine (CA.out _).mono ?_
       rintro e w1 ⟨rfl, hb⟩
       go_wp2_with fail
       go_ret
       exact ⟨rfl, hb⟩
     . have d2 : decide (z < 0) = false := by rw [decide_eq_false_iff_not]; exact c2
       by_cases c3 : 65537 < z
       . have d3 : decide (65537 < z) = true := by rw [decide_eq_true_eq]; exact c3
         clear h c0 c1 c2 c3
         go_enter Try.func6, Try.ntmps6
         go_wp2_with fail
         refine (CA.out _).mono ?_
         rintro e w1 ⟨rfl, hb⟩
         go_wp2_with fail
         go_ret
         exact ⟨rfl, hb⟩
       . have d3 : decide (65537 < z) = false := by rw [decide_eq_false_iff_not]; exact c3
         have h4 : 300000 < n * z := by omega
         obtain ⟨a, rfl⟩ : ∃ a : Nat, n = (a : Int) := ⟨n.toNat, by omega⟩
         obtain ⟨b, rfl⟩ : ∃ a : Nat, z = (a : Int) := ⟨z.toNat, by omega⟩
         have hm : a * b <= 210 * 65537 := Nat.mul_le_mul (by omega) (by omega)
         obtain ⟨m, Hm⟩ := Qi (a * b)
         rw [Hm.out] at hm
         have hmI : (a : Int) * (b : Int) = (m : Int) := by rw [<- Hm.out, Int.natCast_mul]
         rw [hmI] at h4
         have hw : IntKind.i64.wrap ((a : Int) * (b : Int)) = (m : Int) := by rw [hmI, IntKind.wrap_i64]; omega
         have d4 : decide ((300000 : Int) < (m : Int)) = true := by rw [decide_eq_true_eq]; exact h4
         have d4b : decide (300000 < m) = true := Qg (by omega)
         clear h c0 c1 c2 c3 hmI
         go_enter Try.func6, Try.ntmps6
         go_wp2_with fail
         refine (CA.out _).mono ?_
         rintro e w1 ⟨rfl, hb⟩
         go_wp2_with fail
         go_ret
         exact ⟨rfl, hb⟩
set_option maxHeartbeats 8000000 in
theorem full_in (n z : Nat) (hn : n <= 210) (hz : z <= 65537) (hnz : n * z <= 300000) (w : World) :
 Calls Try.prog 6 #[.int .i64 (n : Int), .int .i64 (z : Int)] w fun e w' => e = .returned (.bool true) /\ Below w.heap.size w w' := by
 have CA := Qf awake8_any
 have HW := Qf (full_write n z hn hnz)
 have HC := Qf (full_chkF n z hn)
 have CW : Hid (∀ W a cap, FRow W a (fullL n z) -> Calls Try.prog 20 #[.slice a n cap, .int .i64 1] W (WritePost W (writeF dzB (fullL n z)))) := fun W a cap h => by
  have := write_any dzB (fullL n z) a cap 1 (by decide) (by rw [fullL_len]; omega) (fun hc f hf W => by
   unfold fullL at hf
   rw [List.mem_map] at hf
   obtain ⟨i, hi, rfl⟩ := hf
   rw [List.mem_range] at hi
   rw [full_chkF n z hn] at hc
   have hz2 : z <= 65536 := by
    by_cases h : 200 < n \/ (0 < n /\ 65536 < z)
    . rw [if_pos h] at hc; cases hc
    . omega
   exact dz_any z hz2 W) W h
  rwa [fullL_len] at this
 have CK : Hid (∀ W a cap, FRow W a (fullL n z) -> Calls Try.prog 14 #[.slice a n cap] W fun e w' => e = .returned (.int .i64 (chkF (fullL n z) : Int)) /\ Below W.heap.size W w') := fun W a cap h => by
  have := check_any (fullL n z) a cap (by rw [fullL_len]; omega) W h
  rwa [fullL_len] at this
 obtain ⟨WF, HWF⟩ := Qi (writeF dzB (fullL n z))
 obtain ⟨CF, HCF⟩ := Qi (chkF (fullL n z))
 rw [HWF.out] at CW HW
 rw [HCF.out] at CK HC
 obtain ⟨m, Hm⟩ := Qi (n * z)
 rw [Hm.out] at hnz
 have hmI : (n : Int) * (z : Int) = (m : Int) := by rw [<- Hm.out, Int.natCast_mul]
 have hw : IntKind.i64.wrap ((n : Int) * (z : Int)) = (m : Int) := by rw [hmI, IntKind.wrap_i64]; omega
 have d0 : decide ((n : Int) < 0) = false := Qh (by omega)
 have d1 : decide ((210 : Int) < (n : Int)) = false := Qh (by omega)
 have d1b : decide (210 < n) = false := Qh (by omega)
 have d2 : decide ((z : Int) < 0) = false := Qh (by omega)
 have d3 : decide ((65537 : Int) < (z : Int)) = false := Qh (by omega)
 have d3b : decide (65537 < z) = false := Qh (by omega)
 have d4 : decide ((300000 : Int) < (m : Int)) = false := Qh (by omega)
 have d4b : decide (300000 < m) = false := Qh (by omega)
 have HO0 : Hid (OwnFl (w.alloc (.cells #[] 44)) w.heap.size (.slice (some ⟨w.heap.size, 0, none⟩) 0 0) (fullL 0 z)) := OwnFl.empty w _ (Qa _)
 have HBa := Qf ((Below.refl w.heap.size w).alloc (Qa _) (.cells #[] 44))
 obtain ⟨w1, HW1⟩ := Qi (w.alloc (.cells #[] 44))
 rw [HW1.out] at HO0 HBa
 have hmk := fun W => run_make_f (t := 31) (e := 5) Try.underlying31 info_u8 rfl z (z : Int) rfl (by omega) (by omega) W
 obtain ⟨ZC, HZC⟩ := Qi (fcells z (fun _ => Value.int .u8 0))
 have hcz : ∀ W g, Blk W g 5 ZC -> (convert 31 9 (.slice (some ⟨g, 0, none⟩) z z)).run Try.prog W = .ok (.string (runS z 0)) W := fun W g h => run_runS (c := 0) (by decide) z W g (by rw [<- HZC.out] at h; exact h)
 rw [HZC.out] at hmk
 have HCZ := Qf hcz
 have HMK := Qf hmk
 clear hmI HWF HCF HZC Hm hcz hmk
 go_enter Try.func6, Try.ntmps6
 go_wp2_with fail
 rw [HW1.out]
 clear hw d0 d1 d1b d2 d3 d3b d4 d4b HW1
 go_loopw [5, 6] (fun v_ j_ wq => ∃ (j : Nat), j <= n /\ j_ = .int .i64 (j : Int) /\ Hid (OwnFl wq w.heap.size v_ (fullL j z)) /\ Hid (Below w.heap.size w wq)) (fun _ j _ => n - (intOf j).toNat)
 case atStart => exact ⟨0, Nat.zero_le _, rfl, HO0, HBa⟩
 case round =>
  clear HO0 HBa
  obtain ⟨j, hj, rfl, HO, HB⟩ := hrel
  obtain ⟨oa, ocap, rfl, -⟩ := HO.out.view
  rw [fullL_len] at ⊢
  by_cases hlt : j < n
  . have dj : decide ((j : Int) < (n : Int)) = true := Qg (by omega)
    have djb : decide (j < n) = true := Qg (by omega)
    obtain ⟨qa, Hqa⟩ := Qi (97 + j / 26)
    obtain ⟨qb, Hqb⟩ := Qi (97 + j % 26)
    have b1 : qa < 106 := by have := Hqa.out; omega
    have b2 : qb < 123 := by have := Hqb.out; omega
    obtain ⟨ja, Hja⟩ := Qi (j / 26)
    obtain ⟨jb, Hjb⟩ := Qi (j % 26)
    have hjaI : (j : Int) / 26 = (ja : Int) := by have := Hja.out; omega
    have hjbI : (j : Int).tmod 26 = (jb : Int) := by
     have := Hjb.out
     rw [Int.tmod_eq_emod_of_nonneg (by omega)]; omega
    have e0 : IntKind.i64.wrap ((j : Int) / 26) = (ja : Int) := by rw [hjaI, IntKind.wrap_i64]; have := Hja.out; omega
    have e1 : IntKind.i64.wrap (97 + (ja : Int)) = (qa : Int) := by have := Hqa.out; have := Hja.out; rw [IntKind.wrap_i64]; omega
    have e2 : IntKind.i64.wrap (97 + (jb : Int)) = (qb : Int) := by have := Hqb.out; have := Hjb.out; rw [IntKind.wrap_i64]; omega
    have e3 : IntKind.u8.wrap (qa : Int) = (qa : Int) := by rw [IntKind.wrap_u8]; omega
    have e4 : IntKind.u8.wrap (qb : Int) = (qb : Int) := by rw [IntKind.wrap_u8]; omega
    clear hjaI
    have hos : wr.drew.ownsRow w.heap.size 44 2 (.slice oa j ocap) j (flcells (fullL j z)) := by
     have := HO.out
     unfold OwnFl at this
     rw [fullL_len] at this
     exact this.drew
    have HCA : Hid (∀ W g, Blk W g 5 #[.int .u8 (qa : Int), .int .u8 (qb : Int)] -> (convert 31 9 (.slice (some ⟨g, 0, none⟩) 2 2)).run Try.prog W = .ok (.string (nmI j)) W) := fun W g h => by
     have := run_two (x := qa) (y := qb) (by omega) (by omega) W g h
     rw [this]
     unfold nmI
     rw [Hqa.out, Hqb.out]
    obtain ⟨nm, Hnm⟩ := Qi (nmI j)
    rw [Hnm.out] at HCA
    obtain ⟨AB, HAB⟩ := Qi (Obj.cells #[.int .u8 (qa : Int), .int .u8 (qb : Int)] 5)
    have cv0 : (convert 31 9 (.slice (some ⟨wr.heap.size, 0, none⟩) 2 2)).run Try.prog (wr.drew.alloc (.cells #[.int .u8 (qa : Int), .int .u8 (qb : Int)] 5)) = .ok (.string nm) (wr.drew.alloc (.cells #[.int .u8 (qa : Int), .int .u8 (qb : Int)] 5)) := HCA.out _ _ (Blk.new wr.drew _ _)
    have cv1 : (convert 31 9 (.slice (some ⟨wr.heap.size, 0, none⟩) 2 2)).run Try.prog (wr.alloc (.cells #[.int .u8 (qa : Int), .int .u8 (qb : Int)] 5)).drew = .ok (.string nm) (wr.alloc (.cells #[.int .u8 (qa : Int), .int .u8 (qb : Int)] 5)).drew := HCA.out _ _ (Blk.new wr.drew _ _)
    have cv2 : (convert 31 9 (.slice (some ⟨wr.heap.size, 0, none⟩) 2 2)).run Try.prog ((wr.drew.alloc (.cells #[.int .u8 (qa : Int), .int .u8 (qb : Int)] 5)).alloc (.cells ZC 5)) = .ok (.string nm) ((wr.drew.alloc (.cells #[.int .u8 (qa : Int), .int .u8 (qb : Int)] 5)).alloc (.cells ZC 5)) := HCA.out _ _ (blk_al (Blk.new wr.drew _ _) _)
    have cv3 : (convert 31 9 (.slice (some ⟨wr.heap.size, 0, none⟩) 2 2)).run Try.prog ((wr.alloc (.cells #[.int .u8 (qa : Int), .int .u8 (qb : Int)] 5)).drew.alloc (.cells ZC 5)) = .ok (.string nm) ((wr.alloc (.cells #[.int .u8 (qa : Int), .int .u8 (qb : Int)] 5)).drew.alloc (.cells ZC 5)) := HCA.out _ _ (blk_al (Blk.new wr.drew _ _) _)
    have cv4 : (convert 31 9 (.slice (some ⟨wr.heap.size, 0, none⟩) 2 2)).run Try.prog ((wr.alloc (.cells #[.int .u8 (qa : Int), .int .u8 (qb : Int)] 5)).alloc (.cells ZC 5)).drew = .ok (.string nm) ((wr.alloc (.cells #[.int .u8 (qa : Int), .int .u8 (qb : Int)] 5)).alloc (.cells ZC 5)).drew := HCA.out _ _ (blk_al (Blk.new wr.drew _ _) _)
    have cv5 : (convert 31 9 (.slice (some ⟨wr.heap.size + 1, 0, none⟩) 2 2)).run Try.prog ((wr.drew.alloc (.cells ZC 5)).alloc (.cells #[.int .u8 (qa : Int), .int .u8 (qb : Int)] 5)) = .ok (.string nm) ((wr.drew.alloc (.cells ZC 5)).alloc (.cells #[.int .u8 (qa : Int), .int .u8 (qb : Int)] 5)) := HCA.out _ _ (heap_alloc2_new wr.drew _ _)
    have cv6 : (convert 31 9 (.slice (some ⟨wr.heap.size + 1, 0, none⟩) 2 2)).run Try.prog ((wr.alloc (.cells ZC 5)).drew.alloc (.cells #[.int .u8 (qa : Int), .int .u8 (qb : Int)] 5)) = .ok (.string nm) ((wr.alloc (.cells ZC 5)).drew.alloc (.cells #[.int .u8 (qa : Int), .int .u8 (qb : Int)] 5)) := HCA.out _ _ (heap_alloc2_new wr.drew _ _)
    have cv7 : (convert 31 9 (.slice (some ⟨wr.heap.size + 1, 0, none⟩) 2 2)).run Try.prog ((wr.alloc (.cells ZC 5)).alloc (.cells #[.int .u8 (qa : Int), .int .u8 (qb : Int)] 5)).drew = .ok (.string nm) ((wr.alloc (.cells ZC 5)).alloc (.cells #[.int .u8 (qa : Int), .int .u8 (qb : Int)] 5)).drew := HCA.out _ _ (heap_alloc2_new wr.drew _ _)
    have cv8 : (convert 31 9 (.slice (some ⟨wr.heap.size, 0, none⟩) z z)).run Try.prog (wr.drew.alloc (.cells ZC 5)) = .ok (.string (runS z 0)) (wr.drew.alloc (.cells ZC 5)) := HCZ.out _ _ (Blk.new wr.drew _ _)
    have cv9 : (convert 31 9 (.slice (some ⟨wr.heap.size, 0, none⟩) z z)).run Try.prog (wr.alloc (.cells ZC 5)).drew = .ok (.string (runS z 0)) (wr.alloc (.cells ZC 5)).drew := HCZ.out _ _ (Blk.new wr.drew _ _)
    have cv10 : (convert 31 9 (.slice (some ⟨wr.heap.size + 1, 0, none⟩) z z)).run Try.prog ((wr.drew.alloc (.cells #[.int .u8 (qa : Int), .int .u8 (qb : Int)] 5)).alloc (.cells ZC 5)) = .ok (.string (runS z 0)) ((wr.drew.alloc (.cells #[.int .u8 (qa : Int), .int .u8 (qb : Int)] 5)).alloc (.cells ZC 5)) := HCZ.out _ _ (heap_alloc2_new wr.drew _ _)
    have cv11 : (convert 31 9 (.slice (some ⟨wr.heap.size + 1, 0, none⟩) z z)).run Try.prog ((wr.alloc (.cells #[.int .u8 (qa : Int), .int .u8 (qb : Int)] 5)).drew.alloc (.cells ZC 5)) = .ok (.string (runS z 0)) ((wr.alloc (.cells #[.int .u8 (qa : Int), .int .u8 (qb : Int)] 5)).drew.alloc (.cells ZC 5)) := HCZ.out _ _ (heap_alloc2_new wr.drew _ _)
    have cv12 : (convert 31 9 (.slice (some ⟨wr.heap.size + 1, 0, none⟩) z z)).run Try.prog ((wr.alloc (.cells #[.int .u8 (qa : Int), .int .u8 (qb : Int)] 5)).alloc (.cells ZC 5)).drew = .ok (.string (runS z 0)) ((wr.alloc (.cells #[.int .u8 (qa : Int), .int .u8 (qb : Int)] 5)).alloc (.cells ZC 5)).drew := HCZ.out _ _ (heap_alloc2_new wr.drew _ _)
    have cv13 : (convert 31 9 (.slice (some ⟨wr.heap.size, 0, none⟩) z z)).run Try.prog ((wr.drew.alloc (.cells ZC 5)).alloc (.cells #[.int .u8 (qa : Int), .int .u8 (qb : Int)] 5)) = .ok (.string (runS z 0)) ((wr.drew.alloc (.cells ZC 5)).alloc (.cells #[.int .u8 (qa : Int), .int .u8 (qb : Int)] 5)) := HCZ.out _ _ (blk_al (Blk.new wr.drew _ _) _)
    have cv14 : (convert 31 9 (.slice (some ⟨wr.heap.size, 0, none⟩) z z)).run Try.prog ((wr.alloc (.cells ZC 5)).drew.alloc (.cells #[.int .u8 (qa : Int), .int .u8 (qb : Int)] 5)) = .ok (.string (runS z 0)) ((wr.alloc (.cells ZC 5)).drew.alloc (.cells #[.int .u8 (qa : Int), .int .u8 (qb : Int)] 5)) := HCZ.out _ _ (blk_al (Blk.new wr.drew _ _) _)
    have cv15 : (convert 31 9 (.slice (some ⟨wr.heap.size, 0, none⟩) z z)).run Try.prog ((wr.alloc (.cells ZC 5)).alloc (.cells #[.int .u8 (qa : Int), .int .u8 (qb : Int)] 5)).drew = .ok (.string (runS z 0)) ((wr.alloc (.cells ZC 5)).alloc (.cells #[.int .u8 (qa : Int), .int .u8 (qb : Int)] 5)).drew := HCZ.out _ _ (blk_al (Blk.new wr.drew _ _) _)
    have cv16 : (Instr.makeSlice 31 (.int .i64 (z : Int)) (.int .i64 (z : Int))).run Try.prog wr.drew = .ok (.slice (some ⟨wr.heap.size, 0, none⟩) z z) (wr.drew.alloc (.cells ZC 5)) := HMK.out wr.drew
    have cv17 : (Instr.makeSlice 31 (.int .i64 (z : Int)) (.int .i64 (z : Int))).run Try.prog wr = .ok (.slice (some ⟨wr.heap.size, 0, none⟩) z z) (wr.alloc (.cells ZC 5)) := HMK.out wr
    have cv18 : (Instr.makeSlice 31 (.int .i64 (z : Int)) (.int .i64 (z : Int))).run Try.prog (wr.drew.alloc (.cells #[.int .u8 (qa : Int), .int .u8 (qb : Int)] 5)) = .ok (.slice (some ⟨wr.heap.size + 1, 0, none⟩) z z) ((wr.drew.alloc (.cells #[.int .u8 (qa : Int), .int .u8 (qb : Int)] 5)).alloc (.cells ZC 5)) := by
     have := HMK.out (wr.drew.alloc (.cells #[.int .u8 (qa : Int), .int .u8 (qb : Int)] 5))
     simpa using this
    have cv19 : (Instr.makeSlice 31 (.int .i64 (z : Int)) (.int .i64 (z : Int))).run Try.prog (wr.alloc (.cells #[.int .u8 (qa : Int), .int .u8 (qb : Int)] 5)).drew = .ok (.slice (some ⟨wr.heap.size + 1, 0, none⟩) z z) ((wr.alloc (.cells #[.int .u8 (qa : Int), .int .u8 (qb : Int)] 5)).drew.alloc (.cells ZC 5)) := by
     have := HMK.out (wr.alloc (.cells #[.int .u8 (qa : Int), .int .u8 (qb : Int)] 5)).drew
     simpa using this
    have cv20 : (Instr.makeSlice 31 (.int .i64 (z : Int)) (.int .i64 (z : Int))).run Try.prog (wr.alloc (.cells #[.int .u8 (qa : Int), .int .u8 (qb : Int)] 5)) = .ok (.slice (some ⟨wr.heap.size + 1, 0, none⟩) z z) ((wr.alloc (.cells #[.int .u8 (qa : Int), .int .u8 (qb : Int)] 5)).alloc (.cells ZC 5)) := by
     have := HMK.out (wr.alloc (.cells #[.int .u8 (qa : Int), .int .u8 (qb : Int)] 5))
     simpa using this
    have hsn := fullL_snoc j z
    rw [Hnm.out] at hsn
    have HSn := Qf hsn
    obtain ⟨RZ, HRZ⟩ := Qi (runS z 0)
    rw [HRZ.out] at cv8 cv9 cv10 cv11 cv12 cv13 cv14 cv15 HSn
    have hone := fl_one nm RZ
    have h2a := ((Below.refl w.heap.size wr.drew).alloc HB.out.size (.cells #[.int .u8 (qa : Int), .int .u8 (qb : Int)] 5))
    have h2 := h2a.alloc (Qe HB.out.size h2a.size) (.cells ZC 5)
    have h3a := ((Below.refl w.heap.size wr.drew).alloc HB.out.size (.cells ZC 5))
    have h3 := h3a.alloc (Qe HB.out.size h3a.size) (.cells #[.int .u8 (qa : Int), .int .u8 (qb : Int)] 5)
    obtain ⟨XS, HXS⟩ := Qi (flcells (fullL j z))
    rw [HXS.out] at hos
    have HH2 := Qf h2
    have HH3 := Qf h3
    have hs2 : w.heap.size <= ((wr.drew.alloc (.cells #[.int .u8 (qa : Int), .int .u8 (qb : Int)] 5)).alloc (.cells ZC 5)).heap.size := by
     have := HB.out.size
     simp
     omega
    have hs3 : w.heap.size <= ((wr.drew.alloc (.cells ZC 5)).alloc (.cells #[.int .u8 (qa : Int), .int .u8 (qb : Int)] 5)).heap.size := by
     have := HB.out.size
     simp
     omega
    clear HCA HCZ HMK hsn h2a h3a h2 h3 Hqa Hqb Hnm HRZ Hja Hjb HAB
    go_upto_region 7 with fail
    go_region_law
     (first
      | (refine step_append_lit ((wr.drew.alloc (.cells #[.int .u8 (qa : Int), .int .u8 (qb : Int)] 5)).alloc (.cells ZC 5)) rfl (.tmp 37) (.tmp 52) rfl Try.underlying38 info_file rfl (by decide) w.heap.size (.slice oa j ocap) j XS [.string nm, .string RZ] 1 ((World.ownsRow.alloc (World.ownsRow.alloc hos _) _)) rfl hone rfl (sz := wr.heap.size + 1 + 1) rfl (by simp) ?_ ?_ hs2 rfl ?_; (unfold maxLen; omega); omega; intro v8 w8 hown8 hg8; have HO8 := Qf hown8; have HB8 : Hid (Below w.heap.size w w8) := Qf ((HB.out.drew.trans HH2.out).trans (below_grown (World.ownsRow.alloc (World.ownsRow.alloc hos _) _) hg8 hs2)); clear hown8 hg8)
      | (refine step_append_lit ((wr.drew.alloc (.cells ZC 5)).alloc (.cells #[.int .u8 (qa : Int), .int .u8 (qb : Int)] 5)) rfl (.tmp 37) (.tmp 52) rfl Try.underlying38 info_file rfl (by decide) w.heap.size (.slice oa j ocap) j XS [.string nm, .string RZ] 1 ((World.ownsRow.alloc (World.ownsRow.alloc hos _) _)) rfl hone rfl (sz := wr.heap.size + 1 + 1) rfl (by simp) ?_ ?_ hs3 rfl ?_; (unfold maxLen; omega); omega; intro v8 w8 hown8 hg8; have HO8 := Qf hown8; have HB8 : Hid (Below w.heap.size w w8) := Qf ((HB.out.drew.trans HH3.out).trans (below_grown (World.ownsRow.alloc (World.ownsRow.alloc hos _) _) hg8 hs3)); clear hown8 hg8))
    all_goals
     go_wp2_with fail
     go_roundw
     case rel => exact ⟨j + 1, by omega, by go_num, (by show OwnFl _ _ _ _; rw [HSn.out]; exact OwnFl.snoc (by rw [fullL_len, HXS.out]; exact HO8.out)), HB8⟩
     case measure => simp [intOf]; omega
  . obtain rfl : j = n := by omega
    have dj : decide ((j : Int) < (j : Int)) = false := Qh (by omega)
    have hrow : FRow wr oa (fullL j z) := by
     obtain ⟨a2, c2, h1, h2⟩ := HO.out.view
     injection h1 with e1 _ _
     rw [e1]; exact h2
    have HRw := Qf hrow
    clear hrow HO HCZ HMK
    by_cases hwant : 200 < j \/ (0 < j /\ 65536 < z)
    . have hWF : WF = .error 2 := by have := HW.out; rwa [if_pos hwant] at this
      have hCF : CF = 2 := by have := HC.out; rwa [if_pos hwant] at this
      subst hWF
      subst hCF
      have hc2 : (decide ((200 : Int) < (j : Int)) = true /\ decide (200 < j) = true) \/ ((decide ((200 : Int) < (j : Int)) = false /\ decide (200 < j) = false) /\ (decide ((0 : Int) < (j : Int)) = true /\ decide (0 < j) = true) /\ (decide ((65536 : Int) < (z : Int)) = true /\ decide (65536 < z) = true)) := by
       by_cases h : 200 < j
       . exact .inl ⟨Qg (by omega), Qg (by omega)⟩
       . exact .inr ⟨⟨Qh (by omega), Qh (by omega)⟩, ⟨Qg (by omega), Qg (by omega)⟩, ⟨Qg (by omega), Qg (by omega)⟩⟩
      clear hwant HW HC
      rcases hc2 with ⟨d1, d1b⟩ | ⟨⟨d1, d1b⟩, ⟨d2, d2b⟩, d3, d3b⟩
      all_goals
       go_wp2_with fail
       refine (CW.out _ _ _ HRw.out).mono ?_
       rintro e w2 ⟨hb2, ⟨er, he, _, rfl⟩ | ⟨s, hs, _⟩⟩
       . injection he with he
         subst he
         have HB2 := Qf (bthen HB.out hb2)
         have HR2 := Qf (HRw.out.below hb2 (Qa _))
         clear hb2 CW HRw
         go_wp2_with fail
         refine (CA.out _).mono ?_
         rintro e w3 ⟨rfl, hb3⟩
         have HB3 := Qf (bthen HB2.out hb3)
         have HR3 := Qf (HR2.out.below hb3 (Qa _))
         clear hb3 HR2
         go_wp2_with fail
         refine (CK.out _ _ _ HR3.out).mono ?_
         rintro e w4 ⟨rfl, hb4⟩
         have HB4 := Qf (bthen HB3.out hb4)
         clear hb4 HR3
         go_wp2_with fail
         go_ret
         exact ⟨rfl, HB4.out⟩
       . cases hs
    . have hWF : ∃ s, WF = .ok s /\ s.size ≠ 0 := by have := HW.out; rwa [if_neg hwant] at this
      have hCF : CF = 0 := by have := HC.out; rwa [if_neg hwant] at this
      obtain ⟨s0, rfl, hs0⟩ := hWF
      subst hCF
      have hne2 : s0.toList.isEmpty = false := by
       rw [ByteArray.toList_eq]
       cases hh : s0.data.toList with
       | nil => exact absurd (show s0.size = 0 by
        have : s0.data.toList.length = s0.size := by simp
        rw [<- this, hh]; rfl) hs0
       | cons _ _ => rfl
      have hne1 : ¬ s0.toList = [] := fun h => by rw [h] at hne2; cases hne2
      have d1 : decide ((200 : Int) < (j : Int)) = false := Qh (by omega)
      have d1b : decide (200 < j) = false := Qh (by omega)
      have hc2 : (decide ((0 : Int) < (j : Int)) = false /\ decide (0 < j) = false) \/ ((decide ((0 : Int) < (j : Int)) = true /\ decide (0 < j) = true) /\ (decide ((65536 : Int) < (z : Int)) = false /\ decide (65536 < z) = false)) := by
       by_cases h : 0 < j
       . exact .inr ⟨⟨Qg (by omega), Qg (by omega)⟩, ⟨Qh (by omega), Qh (by omega)⟩⟩
       . exact .inl ⟨Qh (by omega), Qh (by omega)⟩
      clear hwant HW HC
      rcases hc2 with ⟨d2, d2b⟩ | ⟨⟨d2, d2b⟩, d3, d3b⟩
      all_goals
       go_wp2_with fail
       refine (CW.out _ _ _ HRw.out).mono ?_
       rintro e w2 ⟨hb2, ⟨er, he, _, _⟩ | ⟨s, hs, rfl⟩⟩
       . cases he
       . injection hs with hs
         subst hs
         have HB2 := Qf (bthen HB.out hb2)
         have HR2 := Qf (HRw.out.below hb2 (Qa _))
         clear hb2 CW HRw
         go_wp2_with fail
         refine (CA.out _).mono ?_
         rintro e w3 ⟨rfl, hb3⟩
         have HB3 := Qf (bthen HB2.out hb3)
         have HR3 := Qf (HR2.out.below hb3 (Qa _))
         clear hb3 HR2
         go_wp2_with fail
         refine (CK.out _ _ _ HR3.out).mono ?_
         rintro e w4 ⟨rfl, hb4⟩
         have HB4 := Qf (bthen HB3.out hb4)
         clear hb4 HR3
         go_wp2_with fail
         go_ret
         exact ⟨rfl, HB4.out⟩
theorem full_any (n z : Int) (w : World) : Calls Try.prog 6 #[.int .i64 n, .int .i64 z] w fun e w' => e = .returned (.bool true) /\ Below w.heap.size w w' := by
 by_cases h : n < 0 \/ 210 < n \/ z < 0 \/ 65537 < z \/ 300000 < n * z
 . exact full_out n z h w
 . obtain ⟨a, rfl⟩ : ∃ a : Nat, n = (a : Int) := ⟨n.toNat, by omega⟩
   obtain ⟨b, rfl⟩ : ∃ a : Nat, z = (a : Int) := ⟨z.toNat, by omega⟩
   refine full_in a b (by omega) (by omega) ?_ w
   have h2 : (a : Int) * (b : Int) <= 300000 := by omega
   rw [<- Int.natCast_mul] at h2
   omega
end Go.Proofs.Ythehocmfpoglgaa
