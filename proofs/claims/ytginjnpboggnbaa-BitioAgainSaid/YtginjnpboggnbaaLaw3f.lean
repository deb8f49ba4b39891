/- BitioAgain. Conditions: none. -/
import Derived.Test.YtginjnpboggnbaaPut3
import Derived.Test.YtginjnpboggnbaaAwake3
namespace Go.Proofs.Ytginjnpboggnbaa
open Go.RowKit
set_option maxRecDepth 100000

theorem SinkAt.far {w w' : World} {P Q V c : Nat} {v : Value} (h : SinkAt w P v V c) (hg : w.grownBy w' (some Q)) (hQ : Q ≠ P) (hv : v.ownBlock ≠ some Q) : SinkAt w' P v V c :=
  ⟨h.1.grown hg (fun e => hQ (by injection e with e; exact e.symm)), World.ownsRow.kept h.2.1 hg (.inr hv), h.2.2⟩

/-- What a round of the reading holds. -/
def AK (w W : World) (P Q : Nat) (v : Value) (V c : Nat) (s : ByteArray) (p : Nat) : Prop := SrcAt W Q s p ∧ SinkAt W P v V c ∧ Below w.heap.size w W
theorem AK.below {w W W' : World} {P Q V c p : Nat} {v : Value} {s : ByteArray} (h : AK w W P Q v V c s p) (hb : Below W.heap.size W W') : AK w W' P Q v V c s p :=
  ⟨h.1.below hb h.1.lt, h.2.1.below2 hb, h.2.2.trans (hb.mono h.2.2.size)⟩
theorem AK.step {w W W' : World} {P Q V c p p' : Nat} {v : Value} {s : ByteArray} (h : AK w W P Q v V c s p) (hS : SrcAt W' Q s p') (hg : W.grownBy W' (some Q)) (hQ : Q ≠ P) (hv : v.ownBlock ≠ some Q) (hwQ : w.heap.size ≤ Q) : AK w W' P Q v V c s p' :=
  ⟨hS, h.2.1.far hg hQ hv, below_row h.2.2 hg hwQ⟩
theorem num_all (V n : Nat) (h : V < 2 ^ (8 * n)) : num ⟨(bytesN V n).toArray⟩ = V := by
  unfold num
  show leN (bytesN V n) = V
  rw [leN_bytesN, pow256, Nat.mod_eq_of_lt h]
theorem low_mod (k : Nat) (hk : k ≤ 32) : IntKind.u64.wrap ((2 : Int) ^ k) = ((2 ^ k : Nat) : Int) := by
  have h6 : 2 ^ k ≤ 2 ^ 32 := Nat.pow_le_pow_right (by decide) hk
  have h7 : (2 : Nat) ^ 32 = 4294967296 := by decide
  have : (2 : Int) ^ k = ((2 ^ k : Nat) : Int) := by simp
  rw [this, IntKind.wrap_u64]
  generalize 2 ^ k = z at *
  omega

set_option maxHeartbeats 16000000 in
theorem again_any (a : Option Addr) (cap0 : Nat) (S : List Ac) (hS : S.length ≤ 9223372036854775807) (w : World) (hr : AcRow w a S) (hok : AcOk S) :
    Calls Try.prog 8 #[.slice a S.length cap0] w fun e w' => e = .returned (.bool true) ∧ Below w.heap.size w w' := by
  have CA := Lib.hid (awake3_any)
  obtain ⟨L, HL⟩ : ∃ L, Hid (S.length = L) := ⟨_, Lib.hid (Eq.refl _)⟩
  obtain ⟨P, HP⟩ : ∃ L, Hid (w.heap.size = L) := ⟨_, Lib.hid (Eq.refl _)⟩
  have hwP : w.heap.size ≤ P := by rw [HP.out]; exact Nat.le_refl _
  have hK0 : SinkAt (w.alloc (.cells #[.slice none 0 0, .int .u64 0, .int .i64 0] 37)) w.heap.size (.slice none 0 0) 0 0 :=
    ⟨Blk.new w 37 _, World.ownsRow_nil _ _ _ _, by decide⟩
  have hB0 := (Below.refl w.heap.size w).alloc (Nat.le_refl _) (.cells #[.slice none 0 0, .int .u64 0, .int .i64 0] 37)
  rw [HP.out] at hK0
  rw [HL.out] at hS ⊢
  have Hr := Lib.hid hr
  have Hok := Lib.hid hok
  have HK0 := Lib.hid hK0
  have HB0 := Lib.hid hB0
  clear hr hok hK0 hB0
  go_enter Try.func8, Try.ntmps8
  go_wp2_with fail
  rw [HP.out]
  obtain ⟨w1, HW1⟩ : ∃ W, Hid (w.alloc (.cells #[.slice none 0 0, .int .u64 0, .int .i64 0] 37) = W) := ⟨_, Lib.hid (Eq.refl _)⟩
  rw [HW1.out] at HK0 HB0 ⊢
  clear HW1 HP
  go_loopw [4] (fun i_ wr => ∃ (i : Nat) (v : Value), i ≤ L ∧ i ≤ 60 ∧ i_ = .int .i64 (i : Int) ∧ Hid (SinkAt wr P v (valA S i) (posA S i)) ∧ Hid (Below w.heap.size w wr)) (fun i _ => 60 - (intOf i).toNat)
  case atStart => exact ⟨0, _, by omega, by omega, rfl, HK0, HB0⟩
  case round =>
    clear HK0 HB0
    obtain ⟨i, v, hiL, hi60, rfl, HK, HB⟩ := hrel
    have hpl := posA_le S i
    by_cases hlt : i < L
    · have d1 : decide ((i : Int) < (L : Int)) = true := by rw [decide_eq_true_eq]; omega
      by_cases h60 : i < 60
      · have d2 : decide ((i : Int) < 60) = true := by rw [decide_eq_true_eq]; omega
        obtain ⟨b, off, rfl, _, c0, c1, c2, c3⟩ := (Hr.out.below HB.out (Nat.le_refl _)).get i (by rw [HL.out]; exact hlt)
        have hoki := Hok.out i (by rw [HL.out]; exact hlt)
        obtain ⟨q, Hq⟩ : ∃ K, Hid (ac S i = K) := ⟨_, Lib.hid (Eq.refl _)⟩
        rw [Hq.out] at c0 c1 c2 c3 hoki
        have CP0 := put_any P v (valA S i) (posA S i) (by omega) q hoki.1 hoki.2.1 wr HK.out
        rw [show valA S i + acZ q * 2 ^ acSt q (posA S i) = valA S (i + 1) by rw [← Hq.out]; rfl, show acSt q (posA S i) + acLn q = posA S (i + 1) by rw [← Hq.out]; rfl] at CP0
        have CP := Lib.hid CP0
        have Hrow := Lib.hid HK.out.row
        clear CP0 hoki
        go_wp2_with fail
        refine CP.out.mono ?_
        rintro e w2 ⟨rfl, v2, hK2, hC2⟩
        have HK2 := Lib.hid hK2
        have HB2 := Lib.hid (hC2.below HB.out hwP (fun g e => by have := Hrow.out g e; omega))
        clear hK2 hC2 CP HK HB Hrow c0 c1 c2 c3
        go_wp2_with fail
        go_roundw
        case rel => exact ⟨i + 1, v2, by omega, by omega, by go_num, HK2, HB2⟩
        case measure => simp [intOf]; omega
      · obtain rfl : i = 60 := by omega
        have d2 : decide ((60 : Int) < 60) = false := by decide
        obtain ⟨V, HV⟩ : ∃ R, Hid (valA S 60 = R) := ⟨_, Lib.hid (Eq.refl _)⟩
        obtain ⟨c, Hc⟩ : ∃ R, Hid (posA S 60 = R) := ⟨_, Lib.hid (Eq.refl _)⟩
        rw [HV.out, Hc.out] at HK
        rw [Hc.out] at hpl
        have hcl : c ≤ 24000 := by omega
        have HVl : Hid (V < 2 ^ c) := HK.out.2.2
        have CAl := sinkAll_any P v V c (by omega) wr HK.out
        obtain ⟨s, Hs⟩ : ∃ R : ByteArray, Hid ((⟨(bytesN V ((c + 7) / 8)).toArray⟩ : ByteArray) = R) := ⟨_, Lib.hid (Eq.refl _)⟩
        have hssz : s.size = (c + 7) / 8 := by rw [← Hs.out]; show (bytesN V ((c + 7) / 8)).toArray.size = _; simp [bytesN_length]
        have Hnum : Hid (num s = V) := by
          show _ = _
          rw [← Hs.out]
          exact num_all V _ (Nat.lt_of_lt_of_le HVl.out (Nat.pow_le_pow_right (by decide) (by omega)))
        have hsl : s.size ≤ 100000000 := by omega
        have Hssz := Lib.hid hssz
        rw [Hs.out] at CAl
        have CAll := Lib.hid CAl
        have CO := Lib.hid (fun W => srcOf_any s W)
        clear hssz CAl hpl
        go_wp2_with fail
        refine CAll.out.mono ?_
        rintro e w2 ⟨rfl, hb2⟩
        have HK2 := Lib.hid (HK.out.below2 hb2)
        have HB2 := Lib.hid (HB.out.trans (hb2.mono HB.out.size))
        clear hb2 CAll HK HB
        go_wp2_with fail
        refine (CO.out _).mono ?_
        rintro e w3 ⟨rfl, hS3, hb3⟩
        have hPQ : w2.heap.size ≠ P := by have := HK2.out.lt; omega
        have hQv : v.ownBlock ≠ some w2.heap.size := fun e => by have := (World.ownsRow.lt HK2.out.2.1 _ e).2; omega
        have hwQ : w.heap.size ≤ w2.heap.size := HB2.out.size
        have hAK : AK w w3 P w2.heap.size v V c s 0 := ⟨hS3, HK2.out.below2 hb3, HB2.out.trans (hb3.mono HB2.out.size)⟩
        obtain ⟨Q, HQ⟩ : ∃ R, Hid (w2.heap.size = R) := ⟨_, Lib.hid (Eq.refl _)⟩
        rw [HQ.out] at hPQ hQv hwQ hAK ⊢
        have HAK := Lib.hid hAK
        have HPQ := Lib.hid hPQ
        have HQv := Lib.hid hQv
        have hAK0 : Hid (AK w w3 P Q v V c s (posA S 0)) := hAK
        clear hS3 hb3 hPQ hQv hAK CO HK2 HB2 HAK HQ
        go_wp2_with fail
        go_loopw [6] (fun i_ wr => ∃ i : Nat, i ≤ 60 ∧ i_ = .int .i64 (i : Int) ∧ Hid (AK w wr P Q v V c s (posA S i))) (fun i _ => 60 - (intOf i).toNat)
        case atStart => exact ⟨0, by omega, rfl, hAK0⟩
        case round =>
          clear hAK0 d1 d2
          obtain ⟨i, him, rfl, HT⟩ := hrel
          have hpl := posA_le S i
          obtain ⟨p, Hp⟩ : ∃ R, Hid (posA S i = R) := ⟨_, Lib.hid (Eq.refl _)⟩
          rw [Hp.out] at HT hpl
          by_cases hlt : i < 60
          · have d1 : decide ((i : Int) < (L : Int)) = true := by rw [decide_eq_true_eq]; omega
            have d2' : decide ((i : Int) < 60) = true := by rw [decide_eq_true_eq]; omega
            obtain ⟨b, off, rfl, _, c0, c1, c2, c3⟩ := (Hr.out.below HT.out.2.2 (Nat.le_refl _)).get i (by rw [HL.out]; omega)
            have hoki := Hok.out i (by rw [HL.out]; omega)
            have hval := valA_at S i 60 hlt
            obtain ⟨p', Hp'⟩ : ∃ R, Hid (posA S (i + 1) = R) := ⟨_, Lib.hid (Eq.refl _)⟩
            have hpos : acSt (ac S i) (posA S i) + acLn (ac S i) = p' := Hp'.out
            obtain ⟨⟨K, N, x, u⟩, Hq⟩ : ∃ K, Hid (ac S i = K) := ⟨_, Lib.hid (Eq.refl _)⟩
            rw [Hq.out, Hp.out] at hval hpos
            rw [HV.out] at hval
            have hp'c : p' ≤ c := by
              have := posA_mono S (i + 1) 60 (by omega)
              rw [Hp'.out, Hc.out] at this
              exact this
            rw [Hq.out] at c0 c1 c2 c3 hoki
            dsimp only at c0 c1 c2 c3 hoki
            obtain ⟨hx, hu, -⟩ := hoki
            have hk := kOf_clamp N
            have hk32 := kOf_le N
            obtain ⟨k, Hk⟩ : ∃ R, Hid (kOf N = R) := ⟨_, Lib.hid (Eq.refl _)⟩
            rw [Hk.out] at hk hk32
            obtain ⟨M1, hmin, hmax⟩ := clamp_run N k hk
            have hM := low_mod k hk32
            obtain ⟨lo, Hlo⟩ : ∃ R, Hid (x % 2 ^ k = R) := ⟨_, Lib.hid (Eq.refl _)⟩
            have hMp := pow_pos2 k
            obtain ⟨M, HM⟩ : ∃ R, Hid (2 ^ k = R) := ⟨_, Lib.hid (Eq.refl _)⟩
            rw [HM.out] at hM hMp Hlo
            have hlol : lo < 4294967296 := by rw [← Hlo.out]; exact Nat.lt_of_le_of_lt (Nat.mod_le _ _) hx
            have el1 : (x : Int) % (M : Int) = (lo : Int) := by rw [← Hlo.out]; omega
            have el2 : (x : Int).tmod (M : Int) = (lo : Int) := by rw [Int.tmod_eq_emod_of_nonneg (by omega)]; exact el1
            have wlo : IntKind.u32.wrap (lo : Int) = (lo : Int) := by rw [IntKind.wrap_u32]; omega
            have wx : IntKind.u64.wrap (x : Int) = (x : Int) := by rw [IntKind.wrap_u64]; omega
            have hM0 : ¬ (M : Int) = 0 := by omega
            have mk : min k 64 = k := by omega
            have HkC := Lib.hid hk
            have HFw := Lib.hid (fun W => few_any u 40 (by decide) hu W)
            obtain ⟨A, HA⟩ : ∃ L, Hid (wr.heap.size = L) := ⟨_, Lib.hid (Eq.refl _)⟩
            have hBA := Blk.new wr 40 #[.int .i64 K, .int .i64 N, .int .u32 (x : Int), .string u]
            have HTA := Lib.hid (HT.out.below ((Below.refl wr.heap.size wr).alloc (Nat.le_refl _) (.cells #[.int .i64 K, .int .i64 N, .int .u32 (x : Int), .string u] 40)))
            rw [HA.out] at hBA
            have HBA := Lib.hid hBA
            have Hval := Lib.hid hval
            have Hpos := Lib.hid hpos
            clear hk hBA hval hpos HT
            go_wp2_with fail
            clear hmin hmax
            rw [HA.out]
            obtain ⟨w4, HW4⟩ : ∃ W, Hid (wr.alloc (.cells #[.int .i64 K, .int .i64 N, .int .u32 (x : Int), .string u] 40) = W) := ⟨_, Lib.hid (Eq.refl _)⟩
            rw [HW4.out] at HTA HBA ⊢
            have hc0 := HBA.out.cell 0
            have hc1 := HBA.out.cell 1
            have hc2 := HBA.out.cell 2
            have hc3 := HBA.out.cell 3
            simp at hc0 hc1 hc2 hc3
            clear HW4 HA c0 c1 c2 c3 HBA
            go_quiet (fail)
            have HTd := Lib.hid (HTA.out.below (below_drewN (Below.refl _ _) nq))
            have hd0 : (w4.drewN nq).cell? ⟨A, 0, none⟩ = some (.int .i64 K) := hc0
            have hd1 : (w4.drewN nq).cell? ⟨A, 1, none⟩ = some (.int .i64 N) := hc1
            have hd3 : (w4.drewN nq).cell? ⟨A, 3, none⟩ = some (.string u) := hc3
            clear hc0 hc1 hc2 hc3 HTA hM el1 el2 wlo wx mk
            obtain ⟨w5, HW5⟩ : ∃ W, Hid (w4.drewN nq = W) := ⟨_, Lib.hid (Eq.refl _)⟩
            rw [HW5.out] at HTd hd0 hd1 hd3 ⊢
            clear HW5
            by_cases hK0 : K = 0
            · subst hK0
              have e1 : acSt ⟨0, N, x, u⟩ p = p := by simp [acSt]
              have e2 : acLn ⟨0, N, x, u⟩ = k := by rw [← Hk.out]; simp [acLn]
              have e3 : acZ ⟨0, N, x, u⟩ = x % 2 ^ k := by rw [← Hk.out]; simp [acZ]
              have h := Hval.out
              have hpp := Hpos.out
              rw [e1, e2, e3] at h
              rw [e1, e2] at hpp
              have hR : bitsAt s p k = lo := by
                have h' : bitsAt s p k = x % 2 ^ k := by unfold bitsAt; rw [Hnum.out]; exact h
                rw [h', HM.out]; exact Hlo.out
              have CT0 := srcTake_any Q s p k N HkC.out hsl (by omega) w5 HTd.out.1
              rw [hR, hpp] at CT0
              have CT := Lib.hid CT0
              clear CT0 e1 e2 e3 h hpp hR
              go_wp2_with fail
              refine CT.out.mono ?_
              rintro e w6 ⟨rfl, hS6, hg6, -⟩
              have HT6 := Lib.hid (HTd.out.step hS6 hg6 HPQ.out HQv.out hwQ)
              clear hS6 hg6 CT HTd hd0 hd1 hd3
              go_wp2_with fail
              go_roundw
              case rel => exact ⟨i + 1, by omega, by go_num, by rw [Hp'.out]; exact HT6⟩
              case measure => simp [intOf]; omega
            by_cases hK1 : K = 1
            · subst hK1
              have e1 : acSt ⟨1, N, x, u⟩ p = p := by simp [acSt]
              have e2 : acLn ⟨1, N, x, u⟩ = k := by rw [← Hk.out]; simp [acLn]
              have e3 : acZ ⟨1, N, x, u⟩ = rev x (k) := by rw [← Hk.out]; simp [acZ]
              have h := Hval.out
              have hpp := Hpos.out
              rw [e1, e2, e3] at h
              rw [e1, e2] at hpp
              have hR : rev (bitsAt s p k) k = lo := by
                have h' : bitsAt s p k = rev x (k) := by unfold bitsAt; rw [Hnum.out]; exact h
                rw [h', rev_rev, HM.out]; exact Hlo.out
              have CT0 := srcTurned_any Q s p k N HkC.out hsl (by omega) w5 HTd.out.1
              rw [hR, hpp] at CT0
              have CT := Lib.hid CT0
              clear CT0 e1 e2 e3 h hpp hR
              go_wp2_with fail
              refine CT.out.mono ?_
              rintro e w6 ⟨rfl, hS6, hg6, -⟩
              have HT6 := Lib.hid (HTd.out.step hS6 hg6 HPQ.out HQv.out hwQ)
              clear hS6 hg6 CT HTd hd0 hd1 hd3
              go_wp2_with fail
              go_roundw
              case rel => exact ⟨i + 1, by omega, by go_num, by rw [Hp'.out]; exact HT6⟩
              case measure => simp [intOf]; omega
            by_cases hK2 : K = 2
            · subst hK2
              have e1 : acSt ⟨2, N, x, u⟩ p = (p + 7) / 8 * 8 := by simp [acSt]
              have e2 : acLn ⟨2, N, x, u⟩ = 0 := by simp [acLn]
              have hpp := Hpos.out
              rw [e1, e2, Nat.add_zero] at hpp
              have CT0 := srcEven_any Q s p (by omega) w5 HTd.out.1
              rw [hpp] at CT0
              have CT := Lib.hid CT0
              clear CT0 e1 e2 hpp
              go_wp2_with fail
              refine CT.out.mono ?_
              rintro e w6 ⟨rfl, hS6, hg6, -⟩
              have HT6 := Lib.hid (HTd.out.step hS6 hg6 HPQ.out HQv.out hwQ)
              clear hS6 hg6 CT HTd hd0 hd1 hd3
              go_wp2_with fail
              go_roundw
              case rel => exact ⟨i + 1, by omega, by go_num, by rw [Hp'.out]; exact HT6⟩
              case measure => simp [intOf]; omega
            by_cases hK3 : K = 3
            · subst hK3
              obtain ⟨t, Ht⟩ : ∃ R, Hid (few u 40 = R) := ⟨_, Lib.hid (Eq.refl _)⟩
              have htl := few_size u 40
              have e1 : acSt ⟨3, N, x, u⟩ p = (p + 7) / 8 * 8 := by simp [acSt]
              have e2 : acLn ⟨3, N, x, u⟩ = 8 * t.size := by rw [← Ht.out]; simp [acLn]
              have e3 : acZ ⟨3, N, x, u⟩ = num t := by rw [← Ht.out]; simp [acZ]
              rw [Ht.out] at htl HFw
              have h := Hval.out
              have hpp := Hpos.out
              rw [e1, e2, e3] at h
              rw [e1, e2] at hpp
              obtain ⟨q, Hqq⟩ : ∃ R, Hid ((p + 7) / 8 = R) := ⟨_, Lib.hid (Eq.refl _)⟩
              rw [Hqq.out] at h hpp
              have hqs : q + t.size ≤ s.size := by have := Hssz.out; omega
              have hT : s.extract (min q s.size) (min (min q s.size + t.size) s.size) = t := by
                rw [Nat.min_eq_left (show q ≤ s.size by omega), Nat.min_eq_left hqs]
                exact extract_num s t q hqs (by rw [Hnum.out, Nat.mul_comm 8 q]; exact h)
              have CT0 := srcText_any Q s p t.size (t.size : Int) (.inr (.inl ⟨rfl, by omega⟩)) hsl (by omega) w5 HTd.out.1
              rw [Hqq.out, hT, hpp] at CT0
              have CT := Lib.hid CT0
              clear CT0 e1 e2 e3 h hpp hT hqs
              go_wp2_with fail
              refine (HFw.out _).mono ?_
              rintro e w7 ⟨rfl, rfl⟩
              go_wp2_with fail
              refine CT.out.mono ?_
              rintro e w6 ⟨rfl, hS6, hg6, -⟩
              have HT6 := Lib.hid (HTd.out.step hS6 hg6 HPQ.out HQv.out hwQ)
              clear hS6 hg6 CT HTd hd0 hd1 hd3
              go_wp2_with fail
              go_roundw
              case rel => exact ⟨i + 1, by omega, by go_num, by rw [Hp'.out]; exact HT6⟩
              case measure => simp [intOf]; omega
            have e1 : acSt ⟨K, N, x, u⟩ p = p := by simp [acSt, hK2, hK3]
            have e2 : acLn ⟨K, N, x, u⟩ = 0 := by simp [acLn, hK0, hK1, hK3]
            have hpp := Hpos.out
            rw [e1, e2, Nat.add_zero] at hpp
            have HT6 : Hid (AK w w5 P Q v V c s p') := by rw [← hpp]; exact HTd
            have k0 : (K == 0) = false := by simpa using hK0
            have k1 : (K == 1) = false := by simpa using hK1
            have k2 : (K == 2) = false := by simpa using hK2
            have k3 : (K == 3) = false := by simpa using hK3
            clear e1 e2 hpp hK0 hK1 hK2 hK3 HTd
            go_wp2_with fail
            go_roundw
            case rel => exact ⟨i + 1, by omega, by go_num, by rw [Hp'.out]; exact HT6⟩
            case measure => simp [intOf]; omega
          · obtain rfl : i = 60 := by omega
            have d1 : decide ((60 : Int) < (L : Int)) = true := by rw [decide_eq_true_eq]; omega
            have d2' : decide ((60 : Int) < 60) = false := by decide
            rw [Hp.out] at Hc
            obtain rfl : p = c := Hc.out
            clear Hc
            have hlt2 : decide (8 * s.size < p) = false := by rw [decide_eq_false_iff_not]; have := Hssz.out; omega
            go_wp2_with fail
            refine (CA.out _).mono ?_
            rintro e w4 ⟨rfl, hb4⟩
            have HT4 := Lib.hid (HT.out.below hb4)
            have CP := Lib.hid (srcPlace_any Q s p w4 HT4.out.1)
            have CC := Lib.hid (sinkCount_any P v V p (by omega) w4 HT4.out.2.1)
            clear hb4 HT
            go_wp2_with fail
            refine CP.out.mono ?_
            rintro e w5 ⟨rfl, rfl⟩
            go_wp2_with fail
            refine CC.out.mono ?_
            rintro e w6 ⟨rfl, nq, rfl⟩
            have HT5 := Lib.hid (HT4.out.below (below_drewN (Below.refl _ _) nq))
            have CS := srcShort_any Q s p hsl _ HT5.out.1
            rw [hlt2] at CS
            have CSh := Lib.hid CS
            clear CS CC CP hlt2
            go_wp2_with fail
            refine CSh.out.mono ?_
            rintro e w7 ⟨rfl, nr, rfl⟩
            have hB : Below w.heap.size w (w4.drewN (nq + nr)) := below_drewN HT4.out.2.2 _
            go_wp2_with fail
            go_ret
            exact ⟨rfl, hB⟩
    · obtain rfl : i = L := by omega
      have d1 : decide ((i : Int) < (i : Int)) = false := by rw [decide_eq_false_iff_not]; omega
      obtain ⟨V, HV⟩ : ∃ R, Hid (valA S i = R) := ⟨_, Lib.hid (Eq.refl _)⟩
      obtain ⟨c, Hc⟩ : ∃ R, Hid (posA S i = R) := ⟨_, Lib.hid (Eq.refl _)⟩
      rw [HV.out, Hc.out] at HK
      rw [Hc.out] at hpl
      have hcl : c ≤ 24000 := by omega
      have HVl : Hid (V < 2 ^ c) := HK.out.2.2
      have CAl := sinkAll_any P v V c (by omega) wr HK.out
      obtain ⟨s, Hs⟩ : ∃ R : ByteArray, Hid ((⟨(bytesN V ((c + 7) / 8)).toArray⟩ : ByteArray) = R) := ⟨_, Lib.hid (Eq.refl _)⟩
      have hssz : s.size = (c + 7) / 8 := by rw [← Hs.out]; show (bytesN V ((c + 7) / 8)).toArray.size = _; simp [bytesN_length]
      have Hnum : Hid (num s = V) := by
        show _ = _
        rw [← Hs.out]
        exact num_all V _ (Nat.lt_of_lt_of_le HVl.out (Nat.pow_le_pow_right (by decide) (by omega)))
      have hsl : s.size ≤ 100000000 := by omega
      have Hssz := Lib.hid hssz
      rw [Hs.out] at CAl
      have CAll := Lib.hid CAl
      have CO := Lib.hid (fun W => srcOf_any s W)
      clear hssz CAl hpl
      obtain ⟨m, rfl⟩ : ∃ m, m = i := ⟨i, rfl⟩
      go_wp2_with fail
      refine CAll.out.mono ?_
      rintro e w2 ⟨rfl, hb2⟩
      have HK2 := Lib.hid (HK.out.below2 hb2)
      have HB2 := Lib.hid (HB.out.trans (hb2.mono HB.out.size))
      clear hb2 CAll HK HB
      go_wp2_with fail
      refine (CO.out _).mono ?_
      rintro e w3 ⟨rfl, hS3, hb3⟩
      have hPQ : w2.heap.size ≠ P := by have := HK2.out.lt; omega
      have hQv : v.ownBlock ≠ some w2.heap.size := fun e => by have := (World.ownsRow.lt HK2.out.2.1 _ e).2; omega
      have hwQ : w.heap.size ≤ w2.heap.size := HB2.out.size
      have hAK : AK w w3 P w2.heap.size v V c s 0 := ⟨hS3, HK2.out.below2 hb3, HB2.out.trans (hb3.mono HB2.out.size)⟩
      obtain ⟨Q, HQ⟩ : ∃ R, Hid (w2.heap.size = R) := ⟨_, Lib.hid (Eq.refl _)⟩
      rw [HQ.out] at hPQ hQv hwQ hAK ⊢
      have HAK := Lib.hid hAK
      have HPQ := Lib.hid hPQ
      have HQv := Lib.hid hQv
      have hAK0 : Hid (AK w w3 P Q v V c s (posA S 0)) := hAK
      clear hS3 hb3 hPQ hQv hAK CO HK2 HB2 HAK HQ
      go_wp2_with fail
      go_loopw [6] (fun i_ wr => ∃ i : Nat, i ≤ m ∧ i_ = .int .i64 (i : Int) ∧ Hid (AK w wr P Q v V c s (posA S i))) (fun i _ => m - (intOf i).toNat)
      case atStart => exact ⟨0, by omega, rfl, hAK0⟩
      case round =>
        clear hAK0 d1
        obtain ⟨i, him, rfl, HT⟩ := hrel
        have hpl := posA_le S i
        obtain ⟨p, Hp⟩ : ∃ R, Hid (posA S i = R) := ⟨_, Lib.hid (Eq.refl _)⟩
        rw [Hp.out] at HT hpl
        by_cases hlt : i < m
        · have d1 : decide ((i : Int) < (m : Int)) = true := by rw [decide_eq_true_eq]; omega
          have d2' : decide ((i : Int) < 60) = true := by rw [decide_eq_true_eq]; omega
          obtain ⟨b, off, rfl, _, c0, c1, c2, c3⟩ := (Hr.out.below HT.out.2.2 (Nat.le_refl _)).get i (by rw [HL.out]; omega)
          have hoki := Hok.out i (by rw [HL.out]; omega)
          have hval := valA_at S i m hlt
          obtain ⟨p', Hp'⟩ : ∃ R, Hid (posA S (i + 1) = R) := ⟨_, Lib.hid (Eq.refl _)⟩
          have hpos : acSt (ac S i) (posA S i) + acLn (ac S i) = p' := Hp'.out
          obtain ⟨⟨K, N, x, u⟩, Hq⟩ : ∃ K, Hid (ac S i = K) := ⟨_, Lib.hid (Eq.refl _)⟩
          rw [Hq.out, Hp.out] at hval hpos
          rw [HV.out] at hval
          have hp'c : p' ≤ c := by
            have := posA_mono S (i + 1) m (by omega)
            rw [Hp'.out, Hc.out] at this
            exact this
          rw [Hq.out] at c0 c1 c2 c3 hoki
          dsimp only at c0 c1 c2 c3 hoki
          obtain ⟨hx, hu, -⟩ := hoki
          have hk := kOf_clamp N
          have hk32 := kOf_le N
          obtain ⟨k, Hk⟩ : ∃ R, Hid (kOf N = R) := ⟨_, Lib.hid (Eq.refl _)⟩
          rw [Hk.out] at hk hk32
          obtain ⟨M1, hmin, hmax⟩ := clamp_run N k hk
          have hM := low_mod k hk32
          obtain ⟨lo, Hlo⟩ : ∃ R, Hid (x % 2 ^ k = R) := ⟨_, Lib.hid (Eq.refl _)⟩
          have hMp := pow_pos2 k
          obtain ⟨M, HM⟩ : ∃ R, Hid (2 ^ k = R) := ⟨_, Lib.hid (Eq.refl _)⟩
          rw [HM.out] at hM hMp Hlo
          have hlol : lo < 4294967296 := by rw [← Hlo.out]; exact Nat.lt_of_le_of_lt (Nat.mod_le _ _) hx
          have el1 : (x : Int) % (M : Int) = (lo : Int) := by rw [← Hlo.out]; omega
          have el2 : (x : Int).tmod (M : Int) = (lo : Int) := by rw [Int.tmod_eq_emod_of_nonneg (by omega)]; exact el1
          have wlo : IntKind.u32.wrap (lo : Int) = (lo : Int) := by rw [IntKind.wrap_u32]; omega
          have wx : IntKind.u64.wrap (x : Int) = (x : Int) := by rw [IntKind.wrap_u64]; omega
          have hM0 : ¬ (M : Int) = 0 := by omega
          have mk : min k 64 = k := by omega
          have HkC := Lib.hid hk
          have HFw := Lib.hid (fun W => few_any u 40 (by decide) hu W)
          obtain ⟨A, HA⟩ : ∃ L, Hid (wr.heap.size = L) := ⟨_, Lib.hid (Eq.refl _)⟩
          have hBA := Blk.new wr 40 #[.int .i64 K, .int .i64 N, .int .u32 (x : Int), .string u]
          have HTA := Lib.hid (HT.out.below ((Below.refl wr.heap.size wr).alloc (Nat.le_refl _) (.cells #[.int .i64 K, .int .i64 N, .int .u32 (x : Int), .string u] 40)))
          rw [HA.out] at hBA
          have HBA := Lib.hid hBA
          have Hval := Lib.hid hval
          have Hpos := Lib.hid hpos
          clear hk hBA hval hpos HT
          go_wp2_with fail
          clear hmin hmax
          rw [HA.out]
          obtain ⟨w4, HW4⟩ : ∃ W, Hid (wr.alloc (.cells #[.int .i64 K, .int .i64 N, .int .u32 (x : Int), .string u] 40) = W) := ⟨_, Lib.hid (Eq.refl _)⟩
          rw [HW4.out] at HTA HBA ⊢
          have hc0 := HBA.out.cell 0
          have hc1 := HBA.out.cell 1
          have hc2 := HBA.out.cell 2
          have hc3 := HBA.out.cell 3
          simp at hc0 hc1 hc2 hc3
          clear HW4 HA c0 c1 c2 c3 HBA
          go_quiet (fail)
          have HTd := Lib.hid (HTA.out.below (below_drewN (Below.refl _ _) nq))
          have hd0 : (w4.drewN nq).cell? ⟨A, 0, none⟩ = some (.int .i64 K) := hc0
          have hd1 : (w4.drewN nq).cell? ⟨A, 1, none⟩ = some (.int .i64 N) := hc1
          have hd3 : (w4.drewN nq).cell? ⟨A, 3, none⟩ = some (.string u) := hc3
          clear hc0 hc1 hc2 hc3 HTA hM el1 el2 wlo wx mk
          obtain ⟨w5, HW5⟩ : ∃ W, Hid (w4.drewN nq = W) := ⟨_, Lib.hid (Eq.refl _)⟩
          rw [HW5.out] at HTd hd0 hd1 hd3 ⊢
          clear HW5
          by_cases hK0 : K = 0
          · subst hK0
            have e1 : acSt ⟨0, N, x, u⟩ p = p := by simp [acSt]
            have e2 : acLn ⟨0, N, x, u⟩ = k := by rw [← Hk.out]; simp [acLn]
            have e3 : acZ ⟨0, N, x, u⟩ = x % 2 ^ k := by rw [← Hk.out]; simp [acZ]
            have h := Hval.out
            have hpp := Hpos.out
            rw [e1, e2, e3] at h
            rw [e1, e2] at hpp
            have hR : bitsAt s p k = lo := by
              have h' : bitsAt s p k = x % 2 ^ k := by unfold bitsAt; rw [Hnum.out]; exact h
              rw [h', HM.out]; exact Hlo.out
            have CT0 := srcTake_any Q s p k N HkC.out hsl (by omega) w5 HTd.out.1
            rw [hR, hpp] at CT0
            have CT := Lib.hid CT0
            clear CT0 e1 e2 e3 h hpp hR
            go_wp2_with fail
            refine CT.out.mono ?_
            rintro e w6 ⟨rfl, hS6, hg6, -⟩
            have HT6 := Lib.hid (HTd.out.step hS6 hg6 HPQ.out HQv.out hwQ)
            clear hS6 hg6 CT HTd hd0 hd1 hd3
            go_wp2_with fail
            go_roundw
            case rel => exact ⟨i + 1, by omega, by go_num, by rw [Hp'.out]; exact HT6⟩
            case measure => simp [intOf]; omega
          by_cases hK1 : K = 1
          · subst hK1
            have e1 : acSt ⟨1, N, x, u⟩ p = p := by simp [acSt]
            have e2 : acLn ⟨1, N, x, u⟩ = k := by rw [← Hk.out]; simp [acLn]
            have e3 : acZ ⟨1, N, x, u⟩ = rev x (k) := by rw [← Hk.out]; simp [acZ]
            have h := Hval.out
            have hpp := Hpos.out
            rw [e1, e2, e3] at h
            rw [e1, e2] at hpp
            have hR : rev (bitsAt s p k) k = lo := by
              have h' : bitsAt s p k = rev x (k) := by unfold bitsAt; rw [Hnum.out]; exact h
              rw [h', rev_rev, HM.out]; exact Hlo.out
            have CT0 := srcTurned_any Q s p k N HkC.out hsl (by omega) w5 HTd.out.1
            rw [hR, hpp] at CT0
            have CT := Lib.hid CT0
            clear CT0 e1 e2 e3 h hpp hR
            go_wp2_with fail
            refine CT.out.mono ?_
            rintro e w6 ⟨rfl, hS6, hg6, -⟩
            have HT6 := Lib.hid (HTd.out.step hS6 hg6 HPQ.out HQv.out hwQ)
            clear hS6 hg6 CT HTd hd0 hd1 hd3
            go_wp2_with fail
            go_roundw
            case rel => exact ⟨i + 1, by omega, by go_num, by rw [Hp'.out]; exact HT6⟩
            case measure => simp [intOf]; omega
          by_cases hK2 : K = 2
          · subst hK2
            have e1 : acSt ⟨2, N, x, u⟩ p = (p + 7) / 8 * 8 := by simp [acSt]
            have e2 : acLn ⟨2, N, x, u⟩ = 0 := by simp [acLn]
            have hpp := Hpos.out
            rw [e1, e2, Nat.add_zero] at hpp
            have CT0 := srcEven_any Q s p (by omega) w5 HTd.out.1
            rw [hpp] at CT0
            have CT := Lib.hid CT0
            clear CT0 e1 e2 hpp
            go_wp2_with fail
            refine CT.out.mono ?_
            rintro e w6 ⟨rfl, hS6, hg6, -⟩
            have HT6 := Lib.hid (HTd.out.step hS6 hg6 HPQ.out HQv.out hwQ)
            clear hS6 hg6 CT HTd hd0 hd1 hd3
            go_wp2_with fail
            go_roundw
            case rel => exact ⟨i + 1, by omega, by go_num, by rw [Hp'.out]; exact HT6⟩
            case measure => simp [intOf]; omega
          by_cases hK3 : K = 3
          · subst hK3
            obtain ⟨t, Ht⟩ : ∃ R, Hid (few u 40 = R) := ⟨_, Lib.hid (Eq.refl _)⟩
            have htl := few_size u 40
            have e1 : acSt ⟨3, N, x, u⟩ p = (p + 7) / 8 * 8 := by simp [acSt]
            have e2 : acLn ⟨3, N, x, u⟩ = 8 * t.size := by rw [← Ht.out]; simp [acLn]
            have e3 : acZ ⟨3, N, x, u⟩ = num t := by rw [← Ht.out]; simp [acZ]
            rw [Ht.out] at htl HFw
            have h := Hval.out
            have hpp := Hpos.out
            rw [e1, e2, e3] at h
            rw [e1, e2] at hpp
            obtain ⟨q, Hqq⟩ : ∃ R, Hid ((p + 7) / 8 = R) := ⟨_, Lib.hid (Eq.refl _)⟩
            rw [Hqq.out] at h hpp
            have hqs : q + t.size ≤ s.size := by have := Hssz.out; omega
            have hT : s.extract (min q s.size) (min (min q s.size + t.size) s.size) = t := by
              rw [Nat.min_eq_left (show q ≤ s.size by omega), Nat.min_eq_left hqs]
              exact extract_num s t q hqs (by rw [Hnum.out, Nat.mul_comm 8 q]; exact h)
            have CT0 := srcText_any Q s p t.size (t.size : Int) (.inr (.inl ⟨rfl, by omega⟩)) hsl (by omega) w5 HTd.out.1
            rw [Hqq.out, hT, hpp] at CT0
            have CT := Lib.hid CT0
            clear CT0 e1 e2 e3 h hpp hT hqs
            go_wp2_with fail
            refine (HFw.out _).mono ?_
            rintro e w7 ⟨rfl, rfl⟩
            go_wp2_with fail
            refine CT.out.mono ?_
            rintro e w6 ⟨rfl, hS6, hg6, -⟩
            have HT6 := Lib.hid (HTd.out.step hS6 hg6 HPQ.out HQv.out hwQ)
            clear hS6 hg6 CT HTd hd0 hd1 hd3
            go_wp2_with fail
            go_roundw
            case rel => exact ⟨i + 1, by omega, by go_num, by rw [Hp'.out]; exact HT6⟩
            case measure => simp [intOf]; omega
          have e1 : acSt ⟨K, N, x, u⟩ p = p := by simp [acSt, hK2, hK3]
          have e2 : acLn ⟨K, N, x, u⟩ = 0 := by simp [acLn, hK0, hK1, hK3]
          have hpp := Hpos.out
          rw [e1, e2, Nat.add_zero] at hpp
          have HT6 : Hid (AK w w5 P Q v V c s p') := by rw [← hpp]; exact HTd
          have k0 : (K == 0) = false := by simpa using hK0
          have k1 : (K == 1) = false := by simpa using hK1
          have k2 : (K == 2) = false := by simpa using hK2
          have k3 : (K == 3) = false := by simpa using hK3
          clear e1 e2 hpp hK0 hK1 hK2 hK3 HTd
          go_wp2_with fail
          go_roundw
          case rel => exact ⟨i + 1, by omega, by go_num, by rw [Hp'.out]; exact HT6⟩
          case measure => simp [intOf]; omega
        · obtain rfl : i = m := by omega
          have d1 : decide ((i : Int) < (i : Int)) = false := by rw [decide_eq_false_iff_not]; omega
          rw [Hp.out] at Hc
          obtain rfl : p = c := Hc.out
          clear Hc
          have hlt2 : decide (8 * s.size < p) = false := by rw [decide_eq_false_iff_not]; have := Hssz.out; omega
          go_wp2_with fail
          refine (CA.out _).mono ?_
          rintro e w4 ⟨rfl, hb4⟩
          have HT4 := Lib.hid (HT.out.below hb4)
          have CP := Lib.hid (srcPlace_any Q s p w4 HT4.out.1)
          have CC := Lib.hid (sinkCount_any P v V p (by omega) w4 HT4.out.2.1)
          clear hb4 HT
          go_wp2_with fail
          refine CP.out.mono ?_
          rintro e w5 ⟨rfl, rfl⟩
          go_wp2_with fail
          refine CC.out.mono ?_
          rintro e w6 ⟨rfl, nq, rfl⟩
          have HT5 := Lib.hid (HT4.out.below (below_drewN (Below.refl _ _) nq))
          have CS := srcShort_any Q s p hsl _ HT5.out.1
          rw [hlt2] at CS
          have CSh := Lib.hid CS
          clear CS CC CP hlt2
          go_wp2_with fail
          refine CSh.out.mono ?_
          rintro e w7 ⟨rfl, nr, rfl⟩
          have hB : Below w.heap.size w (w4.drewN (nq + nr)) := below_drewN HT4.out.2.2 _
          go_wp2_with fail
          go_ret
          exact ⟨rfl, hB⟩
end Go.Proofs.Ytginjnpboggnbaa
