/- huff.Codes, walked. Conditions: none. -/
import Derived.Test.YtahgeeklenojjaaCodes
namespace Go.Proofs.Ytahgeeklenojjaa
open Go.RowKit
set_option maxRecDepth 100000

theorem parts_succ (L : Nat → Nat) (k : Nat) : parts L (k + 1) = parts L k + pt (L k) := rfl
theorem some_succ (L : Nat → Nat) (k : Nat) : someOf L (k + 1) = someOf L k + if 0 < L k then 1 else 0 := by
  unfold someOf
  simp only [cntTo, decide_eq_true_eq]
theorem pow_min (c : Nat) (hc : c ≤ 15) : (2 : Int) ^ min (15 - (c : Int)).toNat 64 = ((2 ^ (15 - c) : Nat) : Int) := by
  have e : min (15 - (c : Int)).toNat 64 = 15 - c := by omega
  rw [e]; simp
theorem pow_min32 (c : Nat) (hc : c ≤ 15) : (2 : Int) ^ min (15 - (c : Int)).toNat 32 = ((2 ^ (15 - c) : Nat) : Int) := by
  have e : min (15 - (c : Int)).toNat 32 = 15 - c := by omega
  rw [e]; simp
theorem pow_le15 (c : Nat) : 0 < 2 ^ (15 - c) ∧ 2 ^ (15 - c) ≤ 32768 := ⟨Nat.pow_pos (by decide), Nat.pow_le_pow_right (n := 2) (i := 15 - c) (j := 15) (by decide) (by omega)⟩

set_option maxHeartbeats 2000000 in
theorem codes_any (a : Option Addr) (n cap : Nat) (m : Nat → Int) (hn : n ≤ 1000000) (w : World) (hr : IRow w a n m) :
    Calls Try.prog 7 #[.slice a n cap] w (CodesPost w n m) := by
  have Hr := Lib.hid hr
  clear hr
  by_cases h320 : 320 < n
  · go_enter Try.func7, Try.ntmps7
    go_wp2_with fail
    go_ret2
    exact ⟨Below.refl _ _, .inl ⟨h320, rfl⟩⟩
  · go_enter Try.func7, Try.ntmps7
    go_wp2_with fail
    go_loop [4, 5, 7, 18] (fun room some _ i => ∃ k : Nat, k ≤ n ∧ i = .int .i64 (k : Int) ∧ room = .int .i64 (32768 - (parts (lens m) k : Int)) ∧ some = .int .i64 (someOf (lens m) k : Int) ∧ ∀ j, j < k → 0 ≤ m j ∧ m j ≤ 15)
      (fun _ _ _ i => n - (intOf i).toNat)
    case atStart => exact ⟨0, by omega, rfl, rfl, rfl, fun j hj => by omega⟩
    case round =>
      obtain ⟨k, hk, rfl, rfl, rfl, hok⟩ := hrel
      have Hok := Lib.hid hok
      clear hok
      by_cases hlt : k < n
      · obtain ⟨b, off, rfl, hbl, hc⟩ := Hr.out.get k hlt
        by_cases h0 : m k < 0
        · go_wp2_with fail
          go_ret2
          exact ⟨Below.refl _ _, .inr (.inl ⟨by omega, ⟨k, hlt, by omega⟩, rfl⟩)⟩
        · by_cases h15 : 15 < m k
          · go_wp2_with fail
            go_ret2
            exact ⟨Below.refl _ _, .inr (.inl ⟨by omega, ⟨k, hlt, by omega⟩, rfl⟩)⟩
          · obtain ⟨c, hcm⟩ : ∃ c : Nat, m k = (c : Int) := ⟨(m k).toNat, by omega⟩
            have HL := Lib.hid (show lens m k = c by unfold lens; rw [hcm]; rfl)
            have Hp := Lib.hid (parts_succ (lens m) k)
            have Hs := Lib.hid (some_succ (lens m) k)
            have hp1 := parts_le (lens m) k
            have hs1 := cntTo_le (fun t => decide (0 < lens m t)) k
            have hs1 : someOf (lens m) k ≤ k := hs1
            have Hok2 : Hid (∀ j, j < k + 1 → 0 ≤ m j ∧ m j ≤ 15) := fun j hj => by
              by_cases e : j = k
              · subst e; omega
              · exact Hok.out j (by omega)
            rw [HL.out] at Hp Hs
            rw [hcm] at hc h0 h15
            clear hcm
            generalize parts (lens m) k = p at *
            generalize someOf (lens m) k = t at *
            by_cases hz : c = 0
            · subst hz
              go_wp2_with fail
              go_round
              case rel => exact ⟨k + 1, by omega, by go_num, by rw [Hp.out]; rfl, by rw [Hs.out]; rfl, Hok2.out⟩
              case measure => simp [intOf]; omega
            · have hpm : (2 : Int) ^ (15 - c) = ((2 ^ (15 - c) : Nat) : Int) := by simp
              have hq := pow_le15 c
              have Hpt : Hid (pt c = 2 ^ (15 - c)) := by show _ = _; unfold pt; rw [if_pos (by omega)]
              rw [Hpt.out] at Hp
              rw [if_pos (by omega)] at Hs
              generalize 2 ^ (15 - c) = q at *
              go_wp2_with fail
              go_round
              case rel => exact ⟨k + 1, by omega, by go_num, by rw [Hp.out]; go_num, by rw [Hs.out]; go_num, Hok2.out⟩
              case measure => simp [intOf]; omega
      · obtain rfl : k = n := by omega
        have hp1 := parts_le (lens m) k
        have hs1 := cntTo_le (fun t => decide (0 < lens m t)) k
        have hs1 : someOf (lens m) k ≤ k := hs1
        obtain ⟨p, Hp⟩ : ∃ p, Hid (parts (lens m) k = p) := ⟨_, rfl⟩
        obtain ⟨t, Ht⟩ : ∃ t, Hid (someOf (lens m) k = t) := ⟨_, rfl⟩
        rw [Hp.out, Ht.out]
        rw [Hp.out] at hp1
        rw [Ht.out] at hs1
        by_cases hf : Fits p t
        · obtain ⟨r, hr, hf2⟩ : ∃ r : Nat, 32768 - (p : Int) = (r : Int) ∧ (r = 0 ∨ (0 < r ∧ t = 0) ∨ (t = 1 ∧ r = 16384)) := ⟨32768 - p, by unfold Fits at hf; omega, by unfold Fits at hf; omega⟩
          have Hf := Lib.hid hf
          clear hf
          have hp32 : p ≤ 32768 := by have := Hf.out; unfold Fits at this; omega
          have hmk := run_make_c k (by omega)
          have Hz := Lib.hid (nxt_zero (lens m) k)
          have Hcs := Lib.hid (cc_start (lens m) k)
          rw [hr]
          clear hr
          rcases hf2 with rfl | ⟨h1, rfl⟩ | ⟨rfl, rfl⟩
          all_goals
            go_wp2_with fail
            have hB0 := Blk.new w 39 (ccells k (fun _ => 0) (fun _ => 0))
            have hb0 := (Below.refl w.heap.size w).alloc (Nat.le_refl _) (.cells (ccells k (fun _ => 0) (fun _ => 0)) 39)
            generalize w.alloc (.cells (ccells k (fun _ => 0) (fun _ => 0)) 39) = w1 at *
            go_loopw [9, 10, 11, 12] (fun nx n _ _ wr => ∃ N : Nat, 1 ≤ N ∧ N ≤ 16 ∧ n = .int .i64 (N : Int) ∧ nx = .int .u32 (nxt (lens m) k N 0 : Int) ∧ Blk wr w.heap.size 39 (ccells k (cbitsAt (lens m) k N 0) (lenAt (lens m) N 0)) ∧ Below w.heap.size w wr)
              (fun _ n _ _ _ => 16 - (intOf n).toNat)
            case atStart => exact ⟨1, by omega, by omega, rfl, by rw [Hz.out]; rfl, by rw [← Hcs.out]; exact hB0, hb0⟩
            case round =>
              clear hB0 hb0 hmk
              obtain ⟨N, hN1, hN, rfl, rfl, hB, hb⟩ := hrel
              by_cases hltN : N ≤ 15
              · have hB0 := hB
                have hb0 := hb
                go_wp2_with fail
                clear hB hb
                go_loopw [9, 11, 12, 65] (fun nx _ _ i wr => ∃ s : Nat, s ≤ k ∧ i = .int .i64 (s : Int) ∧ nx = .int .u32 (nxt (lens m) k N s : Int) ∧ Blk wr w.heap.size 39 (ccells k (cbitsAt (lens m) k N s) (lenAt (lens m) N s)) ∧ Below w.heap.size w wr)
                  (fun _ _ _ i _ => k - (intOf i).toNat)
                case atStart => exact ⟨0, by omega, rfl, rfl, hB0, hb0⟩
                case round =>
                  clear hB0 hb0
                  obtain ⟨s, hs, rfl, rfl, hB, hb⟩ := hrel
                  by_cases hlts : s < k
                  · obtain ⟨b, off, rfl, hbl, hc⟩ := Hr.out.get s hlts
                    have hc2 := (hb.cell (p := ⟨b, off + s, none⟩) hbl).trans hc
                    have hms := Hok.out s hlts
                    obtain ⟨c, hcm⟩ : ∃ c : Nat, m s = (c : Int) := ⟨(m s).toNat, by omega⟩
                    have HL := Lib.hid (show lens m s = c by unfold lens; rw [hcm]; rfl)
                    rw [hcm] at hc hc2 hms
                    by_cases hcN : c = N
                    · subst hcN
                      have hpm : (2 : Int) ^ (15 - c) = ((2 ^ (15 - c) : Nat) : Int) := by simp
                      have hq := pow_le15 c
                      have Hnx := Lib.hid (nxt_step (lens m) k c s hlts (by omega) HL.out)
                      have Hat := Lib.hid (at_next (lens m) k c s (by omega) HL.out)
                      have hxl := nxt_le (lens m) k c s
                      rw [Hp.out] at hxl
                      have hst := ccells_set k (cbitsAt (lens m) k c s) (lenAt (lens m) c s) s (nxt (lens m) k c s / 2 ^ (15 - c)) c
                      rw [Hat.out.1, Hat.out.2] at hst
                      have Hst := Lib.hid hst
                      clear hst Hat hcm
                      have hdv : ((nxt (lens m) k c s : Nat) : Int) / ((2 ^ (15 - c) : Nat) : Int) = ((nxt (lens m) k c s / 2 ^ (15 - c) : Nat) : Int) := by simp
                      have hy : nxt (lens m) k c s / 2 ^ (15 - c) ≤ nxt (lens m) k c s := Nat.div_le_self _ _
                      generalize nxt (lens m) k c s / 2 ^ (15 - c) = y at *
                      generalize nxt (lens m) k c s = x at *
                      generalize 2 ^ (15 - c) = q at *
                      rw [show 2 * s = s * 2 by omega] at Hst
                      have hf1 := hB.frozen (s * 2)
                      have hf2 := hB.frozen (s * 2 + 1)
                      have hc1 := hB.cell (s * 2)
                      have hc3 := hB.cell (s * 2 + 1)
                      unfold ccells at hc1 hc3
                      rw [fcells_at _ _ _ (by omega)] at hc1 hc3
                      unfold ccell at hc1 hc3
                      rw [if_pos (by omega)] at hc1
                      rw [if_neg (by omega)] at hc3
                      go_wp2_with fail
                      go_roundw
                      case rel =>
                        refine ⟨s + 1, by omega, by go_num, by rw [Hnx.out]; go_num, ?_, (hb.setCell (p := ⟨w.heap.size, s * 2, none⟩) (Nat.le_refl _) _).setCell (p := ⟨w.heap.size, s * 2 + 1, none⟩) (Nat.le_refl _) _⟩
                        have := (hB.set_ (s * 2) (.int .u32 (y : Int))).set_ (s * 2 + 1) (.int .i64 (c : Int))
                        rw [Hst.out] at this
                        exact this
                      case measure => simp [intOf]; omega
                    · have hcb : ((c : Int) == (N : Int)) = false := by simp; omega
                      have Hcn := Lib.hid (show lens m s ≠ N by rw [HL.out]; exact hcN)
                      clear hcN hcm
                      have Hsk := Lib.hid (at_skip (lens m) k N s Hcn.out)
                      have Hnk := Lib.hid (nxt_skip (lens m) k N s Hcn.out)
                      go_wp2_with fail
                      go_roundw
                      case rel => exact ⟨s + 1, by omega, by go_num, by rw [Hnk.out], by rw [Hsk.out.1, Hsk.out.2]; exact hB, hb⟩
                      case measure => simp [intOf]; omega
                  · obtain rfl : s = k := by omega
                    have Hrd := Lib.hid (cc_round (lens m) s N)
                    have Hnr := Lib.hid (nxt_round (lens m) s N)
                    go_wp2_with fail
                    go_roundw
                    case rel => exact ⟨N + 1, by omega, by omega, by go_num, by rw [Hnr.out], by rw [← Hrd.out]; exact hB, hb⟩
                    case measure => simp [intOf]; omega
              · obtain rfl : N = 16 := by omega
                have Hce := Lib.hid (cc_end (lens m) k (fun t ht => by have := Hok.out t ht; unfold lens; omega))
                go_wp2_with fail
                go_ret2
                exact ⟨hb, .inr (.inr (.inr ⟨by omega, Hok.out, by rw [Hp.out, Ht.out]; exact Hf.out, _, rfl, _, rfl, Nat.le_refl _, by rw [← Hce.out]; exact hB⟩))⟩
        · have hf2 : 32768 < p ∨ (p < 32768 ∧ t ≠ 0 ∧ t ≠ 1) ∨ (p < 32768 ∧ t = 1 ∧ p ≠ 16384) := by unfold Fits at hf; omega
          have Hf := Lib.hid hf
          clear hf
          rcases hf2 with hf2 | ⟨h1, h2, h3⟩ | ⟨h1, rfl, h3⟩
          · go_wp2_with fail
            go_ret2
            exact ⟨Below.refl _ _, .inr (.inr (.inl ⟨by omega, Hok.out, by rw [Hp.out, Ht.out]; exact Hf.out, rfl⟩))⟩
          · have e1 : ((t : Int) != 0) = true := by simp; omega
            have e2 : ((t : Int) != 1) = true := by simp; omega
            clear h2 h3
            obtain ⟨r, hr, hr0⟩ : ∃ r : Nat, 32768 - (p : Int) = (r : Int) ∧ 0 < r := ⟨32768 - p, by omega, by omega⟩
            rw [hr]
            clear hr h1
            go_wp2_with fail
            go_ret2
            exact ⟨Below.refl _ _, .inr (.inr (.inl ⟨by omega, Hok.out, by rw [Hp.out, Ht.out]; exact Hf.out, rfl⟩))⟩
          · obtain ⟨r, hr, hr0⟩ : ∃ r : Nat, 32768 - (p : Int) = (r : Int) ∧ 0 < r := ⟨32768 - p, by omega, by omega⟩
            have e1 : ((r : Int) != 16384) = true := by simp; omega
            rw [hr]
            clear hr h1 h3
            go_wp2_with fail
            go_ret2
            exact ⟨Below.refl _ _, .inr (.inr (.inl ⟨by omega, Hok.out, by rw [Hp.out, Ht.out]; exact Hf.out, rfl⟩))⟩
end Go.Proofs.Ytahgeeklenojjaa
