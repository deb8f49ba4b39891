/- BitioPuts. Conditions: none. -/
import Derived.Test.YtginjnpboggnbaaPutsP
import Derived.Deep.RegionHeld3
namespace Go.Proofs.Ytginjnpboggnbaa
open Go.RowKit
set_option maxRecDepth 100000

theorem clamp_ex (N : Int) : ∃ k, Clamp N k := by
  unfold Clamp
  by_cases h : N < 0
  · exact ⟨0, by omega⟩
  · by_cases h2 : 32 < N
    · exact ⟨32, by omega⟩
    · exact ⟨N.toNat, by omega⟩
theorem clamp_clampB {N : Int} {k : Nat} (h : Clamp N k) : ClampB 32 N k := by unfold Clamp at h; unfold ClampB; omega
theorem clamp_le {N : Int} {k : Nat} (h : Clamp N k) : k ≤ 32 := by unfold Clamp at h; omega

set_option maxHeartbeats 16000000 in
theorem puts_any (a : Option Addr) (cap0 : Nat) (S : List Ac) (hS : S.length ≤ 9223372036854775807) (w : World) (hr : AcRow w a S) (hok : AcOk S) :
    Calls Try.prog 4 #[.slice a S.length cap0] w fun e w' => e = .returned (.bool true) ∧ Below w.heap.size w w' := by
  have CA := Lib.hid (awake3_any)
  obtain ⟨L, HL⟩ : ∃ L, Hid (S.length = L) := ⟨_, Lib.hid (Eq.refl _)⟩
  obtain ⟨P, HP⟩ : ∃ L, Hid (w.heap.size = L) := ⟨_, Lib.hid (Eq.refl _)⟩
  have hwP : w.heap.size ≤ P := by rw [HP.out]; exact Nat.le_refl _
  have hK0 : SinkAt (w.alloc (.cells #[.slice none 0 0, .int .u64 0, .int .i64 0] 37)) w.heap.size (.slice none 0 0) 0 0 :=
    ⟨Blk.new w 37 _, World.ownsRow_nil _ _ _ _, by decide⟩
  have hB0 := (Below.refl w.heap.size w).alloc (Nat.le_refl _) (.cells #[.slice none 0 0, .int .u64 0, .int .i64 0] 37)
  rw [HP.out] at hK0
  rw [HL.out] at hS ⊢
  have Hr := Lib.hid hr
  have Hok := Lib.hid hok
  have HK0 := Lib.hid hK0
  have HB0 := Lib.hid hB0
  clear hr hok hK0 hB0
  go_enter Try.func4, Try.ntmps4
  go_wp2_with fail
  -- ROUNDS
  have HPK0 : Hid (PK w ((w.alloc (.cells #[.slice none 0 0, .int .u64 0, .int .i64 0] 37)).alloc (.cells #[] 4)) P (.slice none 0 0) 0 0 (P + 1)) := by
    have hb := (Below.refl (w.alloc (.cells #[.slice none 0 0, .int .u64 0, .int .i64 0] 37)).heap.size (w.alloc (.cells #[.slice none 0 0, .int .u64 0, .int .i64 0] 37))).alloc (Nat.le_refl _) (.cells #[] 4)
    refine ⟨HK0.out.below2 hb, .inl rfl, ?_, by omega, (fun e => by cases e), HB0.out.trans (hb.mono HB0.out.size)⟩
    have := hb.size
    rw [← HP.out]
    simp
  rw [HP.out]
  obtain ⟨w2, HW2⟩ : ∃ W, Hid ((w.alloc (.cells #[.slice none 0 0, .int .u64 0, .int .i64 0] 37)).alloc (.cells #[] 4) = W) := ⟨_, Lib.hid (Eq.refl _)⟩
  rw [HW2.out] at HPK0 ⊢
  obtain ⟨g0, Hg0⟩ : ∃ W, Hid (P + 1 = W) := ⟨_, Lib.hid (Eq.refl _)⟩
  rw [Hg0.out] at HPK0 ⊢
  clear HW2 Hg0 HK0 HB0 HP
  refine (CA.out _).mono ?_
  rintro e w3 ⟨rfl, hb3⟩
  have HT3 := Lib.hid (HPK0.out.below hb3)
  clear HPK0 hb3 CA
  go_wp2_with fail
  go_loopw [4, 5] (fun r_ i_ wr => ∃ (i c V g cap : Nat) (v : Value), i ≤ L ∧ i ≤ 60 ∧ i_ = .int .i64 (i : Int) ∧ r_ = .slice (some ⟨g, 0, none⟩) c cap ∧ c ≤ i * 400 ∧ Hid (PK w wr P v V c g)) (fun _ i _ => 60 - (intOf i).toNat)
  case atStart => exact ⟨0, 0, 0, g0, 0, _, by omega, by omega, rfl, rfl, by omega, HT3⟩
  case round =>
    clear HT3
    obtain ⟨i, c, V, g, cap, v, hiL, hi60, rfl, rfl, hc, HT⟩ := hrel
    by_cases hlt : i < L
    · have d1 : decide ((i : Int) < (L : Int)) = true := by rw [decide_eq_true_eq]; omega
      by_cases h60 : i < 60
      · have d2 : decide ((i : Int) < 60) = true := by rw [decide_eq_true_eq]; omega
        obtain ⟨b, off, rfl, _, c0, c1, c2, c3⟩ := (Hr.out.below HT.out.2.2.2.2.2 (Nat.le_refl _)).get i (by rw [HL.out]; exact hlt)
        have hoki := Hok.out i (by rw [HL.out]; exact hlt)
        obtain ⟨K, HK⟩ : ∃ K, Hid ((ac S i).kind = K) := ⟨_, Lib.hid (Eq.refl _)⟩
        obtain ⟨N, HN⟩ : ∃ K, Hid ((ac S i).n = K) := ⟨_, Lib.hid (Eq.refl _)⟩
        obtain ⟨x, Hx⟩ : ∃ K, Hid ((ac S i).x = K) := ⟨_, Lib.hid (Eq.refl _)⟩
        obtain ⟨u, Hu⟩ : ∃ K, Hid ((ac S i).s = K) := ⟨_, Lib.hid (Eq.refl _)⟩
        rw [HK.out] at c0
        rw [HN.out] at c1
        rw [Hx.out] at c2
        rw [Hu.out] at c3
        have hx : x < 4294967296 := by rw [← Hx.out]; exact hoki.1
        have HFw := Lib.hid (fun W => few_any u 40 (by decide) (by rw [← Hu.out]; exact hoki.2.1) W)
        obtain ⟨k, hk⟩ := clamp_ex N
        have hk32 := clamp_le hk
        have CW := Lib.hid (fun W => within_any 32 N k (by omega) (clamp_clampB hk) W)
        have HkC := Lib.hid hk
        obtain ⟨A, HA⟩ : ∃ L, Hid (wr.heap.size = L) := ⟨_, Lib.hid (Eq.refl _)⟩
        have hBA := Blk.new wr 40 #[.int .i64 K, .int .i64 N, .int .u32 (x : Int), .string u]
        have HTA := Lib.hid (HT.out.below ((Below.refl wr.heap.size wr).alloc (Nat.le_refl _) (.cells #[.int .i64 K, .int .i64 N, .int .u32 (x : Int), .string u] 40)))
        have hAP : A ≠ P := by have := HT.out.1.lt; have := HA.out; omega
        have hAv := HT.out.own
        rw [HA.out] at hAv
        have HAP := Lib.hid hAP
        have HAv := Lib.hid hAv
        have HVl := Lib.hid HT.out.1.2.2
        rw [HA.out] at hBA
        have HBA := Lib.hid hBA
        clear hk hBA hAP hAv hoki HK HN Hx Hu
        by_cases hK0 : K = 0
        · subst hK0
          go_wp2_with fail
          rw [HA.out]
          obtain ⟨w4, HW4⟩ : ∃ W, Hid (wr.alloc (.cells #[.int .i64 0, .int .i64 N, .int .u32 (x : Int), .string u] 40) = W) := ⟨_, Lib.hid (Eq.refl _)⟩
          rw [HW4.out] at HTA HBA ⊢
          clear HW4 HA HT c0 c1 c2 c3
          obtain ⟨V', HV'⟩ : ∃ R, Hid (V + pc x k false * 2 ^ c = R) := ⟨_, Lib.hid (Eq.refl _)⟩
          obtain ⟨c', Hc'⟩ : ∃ R, Hid (c + k = R) := ⟨_, Lib.hid (Eq.refl _)⟩
          have hcl : c' ≤ (i + 1) * 400 := by have := Hc'.out; omega
          have CP0 := sinkPut_any P v V c x k N hx HkC.out (by omega) w4 HTA.out.1
          rw [show x % 2 ^ k = pc x k false from rfl, HV'.out, Hc'.out] at CP0
          have CP := Lib.hid CP0
          have CPc0 := fun W h => pieces_any (some ⟨g, 0, none⟩) cap c V (by omega) HVl.out x k hx hk32 false W h (by intro h; cases h)
          rw [HV'.out, Hc'.out] at CPc0
          have CPc := Lib.hid CPc0
          clear CP0 CPc0
          refine CP.out.mono ?_
          rintro e w6 ⟨rfl, v6, hS6, hC6, -⟩
          have HPH := Lib.hid (HTA.out.sink hS6 hC6 hwP)
          have HB6 := Lib.hid (HBA.out.chg hC6 HAP.out HAv.out)
          have g1 := HB6.out.cell 1
          have g2 := HB6.out.cell 2
          simp at g1 g2
          have HRd : Hid (BRow w6.drew (some ⟨g, 0, none⟩) c V) := HPH.out.2.1
          have gd1 : w6.drew.cell? ⟨A, 1, none⟩ = some (.int .i64 N) := g1
          have gd2 : w6.drew.cell? ⟨A, 2, none⟩ = some (.int .u32 (x : Int)) := g2
          have hAd : A < w6.drew.heap.size := HB6.out.lt
          have hBd : Below w6.heap.size w6 w6.drew := (Below.refl _ _).drew
          clear hS6 hC6 CP HBA HTA g1 g2 HB6
          go_wp2_with fail
          go_region_held3 (fun W => W.cell? ⟨A, 1, none⟩ = some (.int .i64 N) ∧ W.cell? ⟨A, 2, none⟩ = some (.int .u32 (x : Int)) ∧ Below w6.heap.size w6 W)
            (first | go_keep | exact ⟨by assumption, by assumption, by assumption⟩)
            (first
              | (go_at_call 19; refine (CW.out _).mono ?_; rintro e w7 ⟨rfl, rfl⟩)
              | (go_at_call 18; refine (CPc.out _ HRd.out).mono ?_; rintro e w8 ⟨r, rfl, hO8, hb8⟩; have q1 : w8.cell? ⟨A, 1, none⟩ = some (.int .i64 N) := (hb8.cell (p := ⟨A, 1, none⟩) hAd).trans gd1; have q2 : w8.cell? ⟨A, 2, none⟩ = some (.int .u32 (x : Int)) := (hb8.cell (p := ⟨A, 2, none⟩) hAd).trans gd2; have q3 : Below w6.heap.size w6 w8 := hBd.trans hb8))
          rename_i hh
          obtain ⟨g8, cap8, rfl, hg8, hl8, hr8⟩ := hO8.lt
          have HT8 := Lib.hid (HPH.out.row hh.2.2 hr8 hg8 hl8)
          clear hO8 hb8 q1 q2 q3 hh hg8 hl8 hr8 HPH gd1 gd2 hAd hBd HRd CPc
          obtain ⟨T, HTx⟩ : ∃ T, Hid ((⟨(bytesN V' ((c' + 7) / 8)).toArray⟩ : ByteArray) = T) := ⟨_, Lib.hid (Eq.refl _)⟩
          have CC := Lib.hid (sinkCount_any P v6 V' c' (by omega) w8 HT8.out.1)
          go_wp2_with fail
          refine CC.out.mono ?_
          rintro e w9 ⟨rfl, nq, rfl⟩
          have HT9 := Lib.hid (HT8.out.below (below_drewN (Below.refl _ _) nq))
          have CAll := sinkAll_any P v6 V' c' (by omega) _ HT9.out.1
          rw [HTx.out] at CAll
          have HCAll := Lib.hid CAll
          clear CC CAll HT8
          go_wp2_with fail
          refine HCAll.out.mono ?_
          rintro e w10 ⟨rfl, hb10⟩
          have HT10 := Lib.hid (HT9.out.below hb10)
          have CT := rtext_any (some ⟨g8, 0, none⟩) cap8 c' V' (by omega) HT10.out.1.2.2 w10 HT10.out.2.1 (by intro h; cases h)
          rw [HTx.out] at CT
          have HCT := Lib.hid CT
          clear HCAll CT HT9 hb10
          go_wp2_with fail
          refine HCT.out.mono ?_
          rintro e w11 ⟨rfl, hb11⟩
          have HT11 := Lib.hid (HT10.out.below hb11)
          clear HCT HT10 hb11
          go_wp2_with fail
          go_roundw
          case rel => exact ⟨i + 1, c', V', g8, cap8, v6, by omega, by omega, by go_num, rfl, hcl, HT11⟩
          case measure => simp [intOf]; omega
        by_cases hK1 : K = 1
        · subst hK1
          go_wp2_with fail
          rw [HA.out]
          obtain ⟨w4, HW4⟩ : ∃ W, Hid (wr.alloc (.cells #[.int .i64 1, .int .i64 N, .int .u32 (x : Int), .string u] 40) = W) := ⟨_, Lib.hid (Eq.refl _)⟩
          rw [HW4.out] at HTA HBA ⊢
          clear HW4 HA HT c0 c1 c2 c3
          obtain ⟨V', HV'⟩ : ∃ R, Hid (V + pc x k true * 2 ^ c = R) := ⟨_, Lib.hid (Eq.refl _)⟩
          obtain ⟨c', Hc'⟩ : ∃ R, Hid (c + k = R) := ⟨_, Lib.hid (Eq.refl _)⟩
          have hcl : c' ≤ (i + 1) * 400 := by have := Hc'.out; omega
          have CP0 := sinkTurn_any P v V c x k N hx HkC.out (by omega) w4 HTA.out.1
          rw [show rev x k % 2 ^ k = pc x k true from Nat.mod_eq_of_lt (rev_lt x k), HV'.out, Hc'.out] at CP0
          have CP := Lib.hid CP0
          have CPc0 := fun W h => pieces_any (some ⟨g, 0, none⟩) cap c V (by omega) HVl.out x k hx hk32 true W h (by intro h; cases h)
          rw [HV'.out, Hc'.out] at CPc0
          have CPc := Lib.hid CPc0
          clear CP0 CPc0
          refine CP.out.mono ?_
          rintro e w6 ⟨rfl, v6, hS6, hC6, -⟩
          have HPH := Lib.hid (HTA.out.sink hS6 hC6 hwP)
          have HB6 := Lib.hid (HBA.out.chg hC6 HAP.out HAv.out)
          have g1 := HB6.out.cell 1
          have g2 := HB6.out.cell 2
          simp at g1 g2
          have HRd : Hid (BRow w6.drew (some ⟨g, 0, none⟩) c V) := HPH.out.2.1
          have gd1 : w6.drew.cell? ⟨A, 1, none⟩ = some (.int .i64 N) := g1
          have gd2 : w6.drew.cell? ⟨A, 2, none⟩ = some (.int .u32 (x : Int)) := g2
          have hAd : A < w6.drew.heap.size := HB6.out.lt
          have hBd : Below w6.heap.size w6 w6.drew := (Below.refl _ _).drew
          clear hS6 hC6 CP HBA HTA g1 g2 HB6
          go_wp2_with fail
          go_region_held3 (fun W => W.cell? ⟨A, 1, none⟩ = some (.int .i64 N) ∧ W.cell? ⟨A, 2, none⟩ = some (.int .u32 (x : Int)) ∧ Below w6.heap.size w6 W)
            (first | go_keep | exact ⟨by assumption, by assumption, by assumption⟩)
            (first
              | (go_at_call 19; refine (CW.out _).mono ?_; rintro e w7 ⟨rfl, rfl⟩)
              | (go_at_call 18; refine (CPc.out _ HRd.out).mono ?_; rintro e w8 ⟨r, rfl, hO8, hb8⟩; have q1 : w8.cell? ⟨A, 1, none⟩ = some (.int .i64 N) := (hb8.cell (p := ⟨A, 1, none⟩) hAd).trans gd1; have q2 : w8.cell? ⟨A, 2, none⟩ = some (.int .u32 (x : Int)) := (hb8.cell (p := ⟨A, 2, none⟩) hAd).trans gd2; have q3 : Below w6.heap.size w6 w8 := hBd.trans hb8))
          rename_i hh
          obtain ⟨g8, cap8, rfl, hg8, hl8, hr8⟩ := hO8.lt
          have HT8 := Lib.hid (HPH.out.row hh.2.2 hr8 hg8 hl8)
          clear hO8 hb8 q1 q2 q3 hh hg8 hl8 hr8 HPH gd1 gd2 hAd hBd HRd CPc
          obtain ⟨T, HTx⟩ : ∃ T, Hid ((⟨(bytesN V' ((c' + 7) / 8)).toArray⟩ : ByteArray) = T) := ⟨_, Lib.hid (Eq.refl _)⟩
          have CC := Lib.hid (sinkCount_any P v6 V' c' (by omega) w8 HT8.out.1)
          go_wp2_with fail
          refine CC.out.mono ?_
          rintro e w9 ⟨rfl, nq, rfl⟩
          have HT9 := Lib.hid (HT8.out.below (below_drewN (Below.refl _ _) nq))
          have CAll := sinkAll_any P v6 V' c' (by omega) _ HT9.out.1
          rw [HTx.out] at CAll
          have HCAll := Lib.hid CAll
          clear CC CAll HT8
          go_wp2_with fail
          refine HCAll.out.mono ?_
          rintro e w10 ⟨rfl, hb10⟩
          have HT10 := Lib.hid (HT9.out.below hb10)
          have CT := rtext_any (some ⟨g8, 0, none⟩) cap8 c' V' (by omega) HT10.out.1.2.2 w10 HT10.out.2.1 (by intro h; cases h)
          rw [HTx.out] at CT
          have HCT := Lib.hid CT
          clear HCAll CT HT9 hb10
          go_wp2_with fail
          refine HCT.out.mono ?_
          rintro e w11 ⟨rfl, hb11⟩
          have HT11 := Lib.hid (HT10.out.below hb11)
          clear HCT HT10 hb11
          go_wp2_with fail
          go_roundw
          case rel => exact ⟨i + 1, c', V', g8, cap8, v6, by omega, by omega, by go_num, rfl, hcl, HT11⟩
          case measure => simp [intOf]; omega
        by_cases hK2 : K = 2
        · subst hK2
          go_wp2_with fail
          rw [HA.out]
          obtain ⟨w4, HW4⟩ : ∃ W, Hid (wr.alloc (.cells #[.int .i64 2, .int .i64 N, .int .u32 (x : Int), .string u] 40) = W) := ⟨_, Lib.hid (Eq.refl _)⟩
          rw [HW4.out] at HTA HBA ⊢
          clear HW4 HA HT c0 c1 c2 c3
          obtain ⟨c', Hc'⟩ : ∃ R, Hid ((c + 7) / 8 * 8 = R) := ⟨_, Lib.hid (Eq.refl _)⟩
          have hcl : c' ≤ (i + 1) * 400 := by have := Hc'.out; omega
          have CP0 := sinkEven_any P v V c (by omega) w4 HTA.out.1
          rw [Hc'.out] at CP0
          have CP := Lib.hid CP0
          have CWh0 := fun W h => whole_any (some ⟨g, 0, none⟩) cap c V (by omega) HVl.out W h (by intro h; cases h)
          rw [Hc'.out] at CWh0
          have CWh := Lib.hid CWh0
          clear CP0 CWh0
          refine CP.out.mono ?_
          rintro e w6 ⟨rfl, v6, hS6, hC6, -⟩
          have HPH := Lib.hid (HTA.out.sink hS6 hC6 hwP)
          clear hS6 hC6 CP HBA HTA
          go_wp2_with fail
          refine (CWh.out _ HPH.out.2.1).mono ?_
          rintro e w8 ⟨r, rfl, hO8, hb8⟩
          obtain ⟨g8, cap8, rfl, hg8, hl8, hr8⟩ := hO8.lt
          have HT8 := Lib.hid (HPH.out.row hb8 hr8 hg8 hl8)
          clear hO8 hb8 hg8 hl8 hr8 HPH CWh
          obtain ⟨T, HTx⟩ : ∃ T, Hid ((⟨(bytesN V ((c' + 7) / 8)).toArray⟩ : ByteArray) = T) := ⟨_, Lib.hid (Eq.refl _)⟩
          have CC := Lib.hid (sinkCount_any P v6 V c' (by omega) w8 HT8.out.1)
          go_wp2_with fail
          refine CC.out.mono ?_
          rintro e w9 ⟨rfl, nq, rfl⟩
          have HT9 := Lib.hid (HT8.out.below (below_drewN (Below.refl _ _) nq))
          have CAll := sinkAll_any P v6 V c' (by omega) _ HT9.out.1
          rw [HTx.out] at CAll
          have HCAll := Lib.hid CAll
          clear CC CAll HT8
          go_wp2_with fail
          refine HCAll.out.mono ?_
          rintro e w10 ⟨rfl, hb10⟩
          have HT10 := Lib.hid (HT9.out.below hb10)
          have CT := rtext_any (some ⟨g8, 0, none⟩) cap8 c' V (by omega) HT10.out.1.2.2 w10 HT10.out.2.1 (by intro h; cases h)
          rw [HTx.out] at CT
          have HCT := Lib.hid CT
          clear HCAll CT HT9 hb10
          go_wp2_with fail
          refine HCT.out.mono ?_
          rintro e w11 ⟨rfl, hb11⟩
          have HT11 := Lib.hid (HT10.out.below hb11)
          clear HCT HT10 hb11
          go_wp2_with fail
          go_roundw
          case rel => exact ⟨i + 1, c', V, g8, cap8, v6, by omega, by omega, by go_num, rfl, hcl, HT11⟩
          case measure => simp [intOf]; omega
        by_cases hK3 : K = 3
        · subst hK3
          go_wp2_with fail
          rw [HA.out]
          obtain ⟨w4, HW4⟩ : ∃ W, Hid (wr.alloc (.cells #[.int .i64 3, .int .i64 N, .int .u32 (x : Int), .string u] 40) = W) := ⟨_, Lib.hid (Eq.refl _)⟩
          rw [HW4.out] at HTA HBA ⊢
          clear HW4 HA HT c0 c1 c2 c3
          obtain ⟨t, Ht⟩ : ∃ R, Hid (few u 40 = R) := ⟨_, Lib.hid (Eq.refl _)⟩
          have htl := few_size u 40
          rw [Ht.out] at htl HFw
          obtain ⟨c1, Hc1⟩ : ∃ R, Hid ((c + 7) / 8 * 8 = R) := ⟨_, Lib.hid (Eq.refl _)⟩
          obtain ⟨m, Hm⟩ : ∃ R, Hid (8 * t.size = R) := ⟨_, Lib.hid (Eq.refl _)⟩
          obtain ⟨U, HU⟩ : ∃ R, Hid (num t = R) := ⟨_, Lib.hid (Eq.refl _)⟩
          obtain ⟨V', HV'⟩ : ∃ R, Hid (V + U * 2 ^ c1 = R) := ⟨_, Lib.hid (Eq.refl _)⟩
          obtain ⟨c', Hc'⟩ : ∃ R, Hid (c1 + m = R) := ⟨_, Lib.hid (Eq.refl _)⟩
          have hcl : c' ≤ (i + 1) * 400 := by have := Hc'.out; have := Hc1.out; have := Hm.out; omega
          have hc1l : c1 ≤ 100000 := by have := Hc1.out; omega
          have hcm : c1 + m ≤ 1000000 := by have := Hc1.out; have := Hm.out; omega
          have HVl1 : Hid (V < 2 ^ c1) := Nat.lt_of_lt_of_le HVl.out (Nat.pow_le_pow_right (by decide) (by have := Hc1.out; omega))
          have CP0 := sinkText_any P v V c t (by omega) (by omega) w4 HTA.out.1
          rw [Hc1.out, Hm.out, show leN t.data.toList = U from HU.out, HV'.out, Hc'.out] at CP0
          have CP := Lib.hid CP0
          have CWh0 := fun W h => whole_any (some ⟨g, 0, none⟩) cap c V (by omega) HVl.out W h (by intro h; cases h)
          rw [Hc1.out] at CWh0
          have CWh := Lib.hid CWh0
          have CR0 := fun W => row_any t (by omega) W
          rw [Hm.out, HU.out] at CR0
          have CR := Lib.hid CR0
          clear CP0 CWh0 CR0
          refine (HFw.out _).mono ?_
          rintro e w5 ⟨rfl, rfl⟩
          go_wp2_with fail
          refine CP.out.mono ?_
          rintro e w6 ⟨rfl, v6, hS6, hC6, -⟩
          have HPH := Lib.hid (HTA.out.sink hS6 hC6 hwP)
          have HB6 := Lib.hid (HBA.out.chg hC6 HAP.out HAv.out)
          have g3 := HB6.out.cell 3
          simp at g3
          have HRd : Hid (BRow w6.drew (some ⟨g, 0, none⟩) c V) := HPH.out.2.1
          have gd3 : w6.drew.cell? ⟨A, 3, none⟩ = some (.string u) := g3
          have hAd : A < w6.drew.heap.size := HB6.out.lt
          have hBd : Below w6.heap.size w6 w6.drew := (Below.refl _ _).drew
          clear hS6 hC6 CP HBA HTA g3 HB6
          go_wp2_with fail
          go_region_held3 (fun W => W.cell? ⟨A, 3, none⟩ = some (.string u) ∧ Below w6.heap.size w6 W)
            (first | go_keep | exact ⟨by assumption, by assumption⟩)
            (first
              | (go_at_call 22; refine (CWh.out _ HRd.out).mono ?_; rintro e w7 ⟨r, rfl, hO7, hb7⟩; obtain ⟨g7, cap7, rfl, hO7⟩ := hO7; have q1 : w7.cell? ⟨A, 3, none⟩ = some (.string u) := (hb7.cell (p := ⟨A, 3, none⟩) hAd).trans gd3; have q2 : Below w6.heap.size w6 w7 := hBd.trans hb7; have hA7 : A < w7.heap.size := Nat.lt_of_lt_of_le hAd hb7.size)
              | (go_at_call 24; refine (HFw.out _).mono ?_; rintro e w5 ⟨rfl, rfl⟩)
              | (go_at_call 25; refine (CR.out _).mono ?_; rintro e w8 ⟨rfl, hR8, hb8⟩; have r1 : w8.cell? ⟨A, 3, none⟩ = some (.string u) := (hb8.cell (p := ⟨A, 3, none⟩) hA7).trans q1; have r2 : Below w6.heap.size w6 w8 := q2.trans (hb8.mono q2.size); have hO8 : OwnV w8 w6.drew.heap.size c1 V (.slice (some ⟨g7, 0, none⟩) c1 cap7) := OwnV.below ⟨g7, cap7, rfl, hO7⟩ hb8 (fun g' e => (World.ownsRow.lt hO7 g' e).2); have r3 : w6.drew.heap.size ≤ w8.heap.size := r2.size; have r4 : A < w8.heap.size := Nat.lt_of_lt_of_le hA7 hb8.size)
              | (refine step_append_bits _ rfl (.tmp 66) (.tmp 70) rfl w6.drew.heap.size _ c1 V HVl1.out hO8 rfl w7.heap.size 0 m m U rfl hR8 ?_ r3 ?_; omega; intro v9 w9 hO9 hb9; have s1 : w9.cell? ⟨A, 3, none⟩ = some (.string u) := (hb9.cell (p := ⟨A, 3, none⟩) hAd).trans r1; have s2 : Below w6.heap.size w6 w9 := r2.trans hb9))
          rename_i hh
          rw [HV'.out, Hc'.out] at hO9
          obtain ⟨g8, cap8, rfl, hg8, hl8, hr8⟩ := hO9.lt
          have HT8 := Lib.hid (HPH.out.row hh.2 hr8 hg8 hl8)
          clear hO9 hO8 hO7 hb7 hb8 hb9 q1 q2 r1 r2 r3 r4 s1 s2 hA7 hR8 hh hg8 hl8 hr8 HPH gd3 hAd hBd HRd CWh CR HVl1
          obtain ⟨T, HTx⟩ : ∃ T, Hid ((⟨(bytesN V' ((c' + 7) / 8)).toArray⟩ : ByteArray) = T) := ⟨_, Lib.hid (Eq.refl _)⟩
          have CC := Lib.hid (sinkCount_any P v6 V' c' (by omega) w9 HT8.out.1)
          go_wp2_with fail
          refine CC.out.mono ?_
          rintro e w9 ⟨rfl, nq, rfl⟩
          have HT9 := Lib.hid (HT8.out.below (below_drewN (Below.refl _ _) nq))
          have CAll := sinkAll_any P v6 V' c' (by omega) _ HT9.out.1
          rw [HTx.out] at CAll
          have HCAll := Lib.hid CAll
          clear CC CAll HT8
          go_wp2_with fail
          refine HCAll.out.mono ?_
          rintro e w10 ⟨rfl, hb10⟩
          have HT10 := Lib.hid (HT9.out.below hb10)
          have CT := rtext_any (some ⟨g8, 0, none⟩) cap8 c' V' (by omega) HT10.out.1.2.2 w10 HT10.out.2.1 (by intro h; cases h)
          rw [HTx.out] at CT
          have HCT := Lib.hid CT
          clear HCAll CT HT9 hb10
          go_wp2_with fail
          refine HCT.out.mono ?_
          rintro e w11 ⟨rfl, hb11⟩
          have HT11 := Lib.hid (HT10.out.below hb11)
          clear HCT HT10 hb11
          go_wp2_with fail
          go_roundw
          case rel => exact ⟨i + 1, c', V', g8, cap8, v6, by omega, by omega, by go_num, rfl, hcl, HT11⟩
          case measure => simp [intOf]; omega
        have k0 : (K == 0) = false := by simpa using hK0
        have k1 : (K == 1) = false := by simpa using hK1
        have k2 : (K == 2) = false := by simpa using hK2
        have k3 : (K == 3) = false := by simpa using hK3
        have hcl : c ≤ (i + 1) * 400 := Nat.le_trans hc (Nat.mul_le_mul_right _ (Nat.le_succ i))
        have hcs : c ≤ 24000 := by omega
        clear hK0 hK1 hK2 hK3
        go_wp2_with fail
        rw [HA.out]
        obtain ⟨w4, HW4⟩ : ∃ W, Hid (wr.alloc (.cells #[.int .i64 K, .int .i64 N, .int .u32 (x : Int), .string u] 40) = W) := ⟨_, Lib.hid (Eq.refl _)⟩
        rw [HW4.out] at HTA HBA ⊢
        clear HW4 HA HT c0 c1 c2 c3
        clear HBA
        obtain ⟨T, HTx⟩ : ∃ T, Hid ((⟨(bytesN V ((c + 7) / 8)).toArray⟩ : ByteArray) = T) := ⟨_, Lib.hid (Eq.refl _)⟩
        have CC := Lib.hid (sinkCount_any P v V c (by omega) w4 HTA.out.1)
        refine CC.out.mono ?_
        rintro e w9 ⟨rfl, nq, rfl⟩
        have HT9 := Lib.hid (HTA.out.below (below_drewN (Below.refl _ _) nq))
        have CAll := sinkAll_any P v V c (by omega) _ HT9.out.1
        rw [HTx.out] at CAll
        have HCAll := Lib.hid CAll
        clear CC CAll HTA
        go_wp2_with fail
        refine HCAll.out.mono ?_
        rintro e w10 ⟨rfl, hb10⟩
        have HT10 := Lib.hid (HT9.out.below hb10)
        have CT := rtext_any (some ⟨g, 0, none⟩) cap c V (by omega) HT10.out.1.2.2 w10 HT10.out.2.1 (by intro h; cases h)
        rw [HTx.out] at CT
        have HCT := Lib.hid CT
        clear HCAll CT HT9 hb10
        go_wp2_with fail
        refine HCT.out.mono ?_
        rintro e w11 ⟨rfl, hb11⟩
        have HT11 := Lib.hid (HT10.out.below hb11)
        clear HCT HT10 hb11
        go_wp2_with fail
        go_roundw
        case rel => exact ⟨i + 1, c, V, g, cap, v, by omega, by omega, by go_num, rfl, hcl, HT11⟩
        case measure => simp [intOf]; omega
      · obtain rfl : i = 60 := by omega
        have d2 : decide ((60 : Int) < 60) = false := by decide
        have hB := HT.out.2.2.2.2.2
        go_wp2_with fail
        go_ret
        exact ⟨rfl, hB⟩
    · obtain rfl : i = L := by omega
      have d1 : decide ((i : Int) < (i : Int)) = false := by rw [decide_eq_false_iff_not]; omega
      have hB := HT.out.2.2.2.2.2
      go_wp2_with fail
      go_ret
      exact ⟨rfl, hB⟩
end Go.Proofs.Ytginjnpboggnbaa
