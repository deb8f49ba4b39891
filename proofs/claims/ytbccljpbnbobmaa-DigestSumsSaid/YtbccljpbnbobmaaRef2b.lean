/- The document's add. Conditions: at most ten words. -/
import Derived.Test.YtbccljpbnbobmaaRef2a
namespace Go.Proofs.Ytbccljpbnbobmaa
open Go.RowKit
set_option maxRecDepth 100000

/-- Words behind a. -/
def WRow (w : World) (a : Option Addr) (n : Nat) (v : Nat → Nat) : Prop :=
  n = 0 ∨ ∃ b off, a = some ⟨b, off, none⟩ ∧ b < w.heap.size ∧ ∀ j, j < n → w.rangeAt b (off + j * 32) ((List.range 32).map (tval (wbit (v j))))
def sumV (v : Nat → Nat) : Nat → Nat
  | 0 => 0
  | k + 1 => (sumV v k + v k) % 4294967296
theorem sumV_succ (v : Nat → Nat) (k : Nat) : sumV v (k + 1) = (sumV v k + v k) % 4294967296 := by rw [sumV]
theorem wbit_zero : fcells 32 (tval fun _ => false) = fcells 32 (tval (wbit 0)) := by
  refine fcells_congr _ _ _ fun i hi => ?_
  unfold tval wbit
  simp

set_option maxHeartbeats 4000000 in
theorem add_any (a : Option Addr) (n cap : Nat) (v : Nat → Nat) (hn : n ≤ 10) (w : World) (hr : WRow w a n v) :
    Calls Try.prog 49 #[.slice a n cap] w fun e w' => e = .returned (wordV (sumV v n)) ∧ Below w.heap.size w w' := by
  have hz := zero_word
  obtain ⟨Z, HZ⟩ : ∃ z, Hid (fcells 32 (tval fun _ => false) = z) := ⟨_, Lib.hid (Eq.refl _)⟩
  have hZs : Z.size = 32 := by rw [← HZ.out, fcells_size]
  have hZ1 : Z.all (·.oneCell') = true := by rw [← HZ.out]; exact tcells2_one _ _
  have hiZ : (Try.prog.info? 69).map (·.size) = some Z.size := by rw [info_word, hZs]
  rw [HZ.out] at hz
  have hsc := run_storeCells_new (P := Try.prog) (w.alloc (.cells Z 69)) 69 Z Z hiZ rfl hZ1
  have hsz : (w.alloc (.cells Z 69)).heap.size = w.heap.size + 1 := by simp
  rw [hsz] at hsc
  have hb0 := ((Below.refl w.heap.size w).alloc (Nat.le_refl _) (.cells Z 69)).alloc (by simp) (.cells Z 69)
  have hB := Blk.new (w.alloc (.cells Z 69)) 69 Z
  have hR := (Blk.new w 69 Z).alloc (.cells Z 69)
  rw [hsz] at hB
  have HB := Lib.hid hb0
  have HW := Lib.hid hB
  have HR := Lib.hid hR
  have HZs := Lib.hid hZs
  have HZ1 := Lib.hid hZ1
  have HiZ := Lib.hid hiZ
  have Hr := Lib.hid hr
  clear hb0 hB hR hiZ hZ1 hr
  go_enter Try.func49, Try.ntmps49
  go_upto_region 2 with (fail)
  obtain ⟨w0, Hw0⟩ : ∃ W, Hid ((w.alloc (.cells Z 69)).alloc (.cells Z 69) = W) := ⟨_, Lib.hid (Eq.refl _)⟩
  rw [Hw0.out] at HB HW HR ⊢
  obtain ⟨A0, HA0⟩ : ∃ q, Hid (w.heap.size = q) := ⟨_, Lib.hid (Eq.refl _)⟩
  obtain ⟨B0, HB0⟩ : ∃ q, Hid (A0 + 1 = q) := ⟨_, Lib.hid (Eq.refl _)⟩
  have hAB : A0 < B0 := by have := HB0.out; omega
  have HwA : Hid (w.heap.size ≤ A0) := Nat.le_of_eq HA0.out
  rw [HA0.out] at HW HR ⊢
  rw [HB0.out] at HW ⊢
  have HW1 : Hid (Blk w0 B0 69 (fcells 32 (tval (wbit (sumV v 0))))) := by show Blk _ _ _ _; rw [sumV, ← wbit_zero, HZ.out]; exact HW.out
  clear hsc hsz Hw0 HB0 HA0 HW hZs
  go_upto_region 3 with (fail)
  go_loopw [13] (fun i_ wr => ∃ j : Nat, j ≤ n ∧ i_ = .int .i64 (j : Int) ∧ Hid (Blk wr B0 69 (fcells 32 (tval (wbit (sumV v j))))) ∧ Hid (Blk wr A0 69 Z) ∧ Hid (Below w.heap.size w wr)) (fun i _ => n - (intOf i).toNat)
  case atStart => exact ⟨0, by omega, rfl, HW1, HR, HB⟩
  case round =>
    clear HW1 HR HB
    obtain ⟨j, hj, rfl, HWr, HRr, HBr⟩ := hrel
    by_cases hlt : j < n
    · rcases Hr.out with h0 | ⟨b, off, rfl, hb, hrow⟩
      · omega
      have dj : decide ((j : Int) < (n : Int)) = true := by rw [decide_eq_true_eq]; omega
      have djn : decide (j < n) = true := by rw [decide_eq_true_eq]; omega
      have hjI : (j : Int) < (n : Int) := by omega
      obtain ⟨CL, HCL⟩ : ∃ c, Hid ((List.range 32).map (tval (wbit (v j))) = c) := ⟨_, Lib.hid (Eq.refl _)⟩
      have hra : wr.rangeAt b (off + j * 32) CL := fun q u hq => by
        rw [← HCL.out] at hq
        exact (HBr.out.cell (p := ⟨b, off + j * 32 + q, none⟩) hb).trans (hrow j hlt q u hq)
      have hCs : CL.length = 32 := by rw [← HCL.out]; simp
      have hi32 : (Try.prog.info? 69).map (·.size) = some CL.length := by rw [info_word, hCs]
      have hiA : (Try.prog.info? 69).map (·.size) = some CL.toArray.size := by rw [info_word]; simp [hCs]
      have hZC : Z.size = CL.toArray.size := by rw [HZs.out]; simp [hCs]
      have hC1 : CL.toArray.all (·.oneCell') = true := by rw [← HCL.out]; exact tcells2_one 32 _
      have hnw : (wr.alloc (.cells Z 69)).heap[wr.heap.size]? = some (.cells Z 69 (0, 0)) := Blk.new wr 69 Z
      clear hCs hrow
      go_upto_region 5 with (first
        | (with_reducible refine wpList_load_mid rfl 69 _ rfl b (off + j * 32) rfl CL _ hra Try.underlying69 rfl hi32 ?_)
        | (with_reducible refine wpList_store_row rfl 69 _ _ rfl wr.heap.size CL.toArray rfl rfl 69 Z hnw hiA hZC hC1 ?_)
        | fail)
      have hbl := (Below.refl wr.heap.size wr).alloc (Nat.le_refl _) (.cells Z 69)
      have hb3 := hbl.trans (below_setRow (Below.refl wr.heap.size (wr.alloc (.cells Z 69))) (Nat.le_refl _) CL.toArray)
      have hX := setRow_heap (wr.alloc (.cells Z 69)) wr.heap.size _ CL.toArray _ _ hnw
      have HX : Hid (Blk ((wr.alloc (.cells Z 69)).setRow wr.heap.size CL.toArray) wr.heap.size 69 (fcells 32 (tval (wbit (v j))))) := by
        show Blk _ _ _ _
        have e : CL.toArray = fcells 32 (tval (wbit (v j))) := by rw [← HCL.out]; rfl
        rw [e] at hX ⊢
        exact hX
      have HW3 := Lib.hid (HWr.out.below hb3 HWr.out.lt)
      have HR3 := Lib.hid (HRr.out.below hb3 HRr.out.lt)
      have HB3 := Lib.hid (HBr.out.trans (hb3.mono HBr.out.size))
      have hBC : B0 < wr.heap.size := HWr.out.lt
      clear hbl hb3 hX hra hi32 hiA hZC hC1 hnw HWr HRr HBr HCL
      obtain ⟨W3, HW3e⟩ : ∃ W, Hid ((wr.alloc (.cells Z 69)).setRow wr.heap.size CL.toArray = W) := ⟨_, Lib.hid (Eq.refl _)⟩
      rw [HW3e.out] at HX HW3 HR3 HB3 ⊢
      obtain ⟨CB, HCB⟩ : ∃ q, Hid (wr.heap.size = q) := ⟨_, Lib.hid (Eq.refl _)⟩
      rw [HCB.out] at HX hBC ⊢
      clear HW3e
      have HSs := Lib.hid (sumV_succ v j)
      obtain ⟨s, Hs⟩ : ∃ q, Hid (sumV v j = q) := ⟨_, Lib.hid (Eq.refl _)⟩
      obtain ⟨x, Hx⟩ : ∃ q, Hid (v j = q) := ⟨_, Lib.hid (Eq.refl _)⟩
      rw [Hs.out, Hx.out] at HSs
      rw [Hs.out] at HW3
      rw [Hx.out] at HX
      have HW4 : Hid (Blk W3 B0 69 (fcells 32 (tval (addBits s x 0)))) := by show Blk _ _ _ _; rw [← addBits_zero]; exact HW3.out
      clear HW3
      go_upto_region 7 with (fail)
      go_loopw [6, 7] (fun c_ i_ wq => ∃ (k : Nat) (I : Int) (c : Bool), k ≤ 32 ∧ c_ = .bool c ∧ Hid (c = cyB s x k) ∧ i_ = .int .i64 I ∧ Hid (I = 31 - (k : Int)) ∧ Hid (Blk wq B0 69 (fcells 32 (tval (addBits s x k)))) ∧ Hid (Onl B0 W3 wq)) (fun _ i _ => (intOf i + 1).toNat)
      case atStart => exact ⟨0, 31, false, by omega, rfl, (cyB_zero s x).symm, rfl, rfl, HW4, Onl.refl _⟩
      case round =>
        clear HW4
        obtain ⟨k, I, c, hk, rfl, Hc, rfl, HI, HWq, HOq⟩ := hrel
        by_cases hlk : k < 32
        · obtain ⟨J, HJ⟩ : ∃ j : Nat, Hid (31 - k = j) := ⟨_, Lib.hid (Eq.refl _)⟩
          have hIJ : I = (J : Int) := by have := HI.out; have := HJ.out; omega
          subst hIJ
          have hJ : J < 32 := by have := HJ.out; omega
          have hJI : (J : Int) < 32 := by omega
          have hJw : IntKind.i64.wrap (J : Int) = (J : Int) := by rw [IntKind.wrap_i64]; omega
          have hXq := HOq.out.blk HX.out (by omega)
          have hcx := hXq.cell J
          rw [tcells2_at _ _ _ hJ] at hcx
          have hfz := HWq.out.frozen J
          have hcs := HWq.out.cell J
          have haJ : addBits s x k J = wbit s J := by unfold addBits; rw [if_neg (by have := HJ.out; omega)]
          rw [tcells2_at _ _ _ hJ, haJ] at hcs
          have hk2 : 31 - J = k := by have := HJ.out; omega
          have hws : (s / 2 ^ k % 2 == 1) = wbit s J := by unfold wbit; rw [hk2]
          have hwx : (x / 2 ^ k % 2 == 1) = wbit x J := by unfold wbit; rw [hk2]
          have hcn := cyB_succ s x k
          rw [hws, hwx, ← Hc.out] at hcn
          have hs1 := HWq.out.set_ J (.bool ((wbit s J != wbit x J) != c))
          have hup := addBits_succ s x k hlk c Hc.out
          rw [HJ.out] at hup
          rw [tcells2_set, hup] at hs1
          have ho1 := HOq.out.set_ J (.bool ((wbit s J != wbit x J) != c))
          obtain ⟨D1, hD1⟩ : ∃ D, wbit s J = D := ⟨_, rfl⟩
          obtain ⟨D2, hD2⟩ : ∃ D, wbit x J = D := ⟨_, rfl⟩
          rw [hD1] at hcs hcn hs1 ho1
          rw [hD2] at hcx hcn hs1 ho1
          have HIn : Hid ((J : Int) - 1 = 31 - ((k + 1 : Nat) : Int)) := by show _ = _; have := HI.out; omega
          clear hXq hws hwx hup haJ hD1 hD2 Hc hk2 HWq HOq
          cases D1 <;> cases D2 <;> cases c
          all_goals
            have HS1 := Lib.hid hs1
            have HO1 := Lib.hid ho1
            have HCn := Lib.hid hcn.symm
            clear hs1 ho1 hcn
            go_upto_region 9 with (fail)
            go_region
            all_goals
              go_wp2_with fail
              go_roundw
              case rel => exact ⟨k + 1, (J : Int) - 1, _, by omega, rfl, HCn, by go_num, HIn, HS1.out, HO1.out⟩
              case measure => simp [intOf]
        · have hk32 : k = 32 := by omega
          have dI : decide ((0 : Int) ≤ I) = false := by rw [decide_eq_false_iff_not, HI.out]; omega
          rw [hk32, addBits_all, ← HSs.out] at HWq
          have HRq := Lib.hid (HOq.out.blk HR3.out (by omega))
          have HBq := Lib.hid (HOq.out.old HB3.out HB3.out.size (by have := HwA.out; omega))
          clear hk32 hlk hk
          go_wp2_with fail
          go_roundw
          case rel => exact ⟨j + 1, by omega, by go_num, HWq, HRq, HBq⟩
          case measure => simp [intOf]; omega
    · have hjn : j = n := by omega
      have dj : decide ((j : Int) < (n : Int)) = false := by rw [decide_eq_false_iff_not]; omega
      have djn : decide (j < n) = false := by rw [decide_eq_false_iff_not]; omega
      rw [hjn] at HWr
      obtain ⟨U, HU⟩ : ∃ u, Hid (fcells 32 (tval (wbit (sumV v n))) = u) := ⟨_, Lib.hid (Eq.refl _)⟩
      rw [HU.out] at HWr
      have hUs : U.size = 32 := by rw [← HU.out, fcells_size]
      have hT2 : wr.heap[B0]? = some (.cells U 69 (0, 0)) := HWr.out
      have hR2 : wr.heap[A0]? = some (.cells Z 69 (0, 0)) := HRr.out
      have hi : (Try.prog.info? 69).map (·.size) = some U.size := by rw [info_word, hUs]
      have hsz : Z.size = U.size := by rw [HZs.out, hUs]
      have h1c : U.all (·.oneCell') = true := by rw [← HU.out]; exact tcells2_one _ _
      clear hUs hjn hlt hj
      go_wp2_with (first
        | (with_reducible refine wpList_load_row rfl 69 _ rfl B0 rfl 69 U (0, 0) _ hT2 Try.underlying69 rfl hi ?_)
        | (with_reducible refine wpList_store_row rfl 69 _ _ rfl A0 U rfl rfl 69 Z hR2 hi hsz h1c ?_))
      (try simp only [Exit.inBlock, Exit.then])
      refine bodyPost_ret (v := .agg U) (results_cell_row rfl _ _ A0 69 U (0, 0) _ rfl (setRow_heap _ _ _ _ _ _ hR2) Try.underlying69 rfl hi) rfl ?_
      refine ⟨?_, below_setRow HBr.out HwA.out _⟩
      unfold wordV
      rw [HU.out]
end Go.Proofs.Ytbccljpbnbobmaa
