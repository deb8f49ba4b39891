/- The law HuffApart of layer 4, walked. Conditions: none. -/
import Derived.Test.YtginjnpboggnbaaLaw4a
namespace Go.Proofs.Ytginjnpboggnbaa
open Go.RowKit
set_option maxRecDepth 100000

set_option maxHeartbeats 2000000 in
theorem apart_any (a : Option Addr) (len cap : Nat) (m : Nat → Int) (hcap : len ≤ cap) (hlen : cap ≤ 9223372036854775807) (w : World) (hr : IRow w a len m) (hnil : a = none → len = 0 ∧ cap = 0) :
    Calls Try.prog 3 #[.slice a len cap] w fun e w' => e = .returned (.bool true) ∧ Below w.heap.size w w' := by
  have hbb := Below.refl w.heap.size w
  go_enter Try.func3, Try.ntmps3
  go_wp2_with fail
  refine (few4_any a len cap m hcap hlen _ hr hnil).mono ?_
  rintro e w1 ⟨v, rfl, ⟨g0, cap0, rfl, hown⟩, h⟩
  replace hbb := bthen hbb h
  clear h hr hnil hlen hcap
  have hn : min len 400 ≤ 1000000 := by omega
  generalize min len 400 = n at *
  go_wp2_with fail
  refine (codes_any _ n cap0 m hn _ (IRow.ofOwn hown)).mono ?_
  rintro e w2 ⟨hb, h⟩
  have hw1 := hbb.size
  replace hbb := bthen hbb hb
  clear hb hown
  rcases h with ⟨_, rfl⟩ | ⟨_, _, rfl⟩ | ⟨_, _, _, rfl⟩ | ⟨hn, hok, hf, v, rfl, g, rfl, hg, hB⟩
  · unfold bad
    go_wp2_with fail
    refine (awake4_any _).mono ?_
    rintro e w3 ⟨rfl, h⟩
    go_wp2_with fail
    go_ret
    exact ⟨rfl, bthen hbb h⟩
  · unfold bad
    go_wp2_with fail
    refine (awake4_any _).mono ?_
    rintro e w3 ⟨rfl, h⟩
    go_wp2_with fail
    go_ret
    exact ⟨rfl, bthen hbb h⟩
  · unfold bad
    go_wp2_with fail
    refine (awake4_any _).mono ?_
    rintro e w3 ⟨rfl, h⟩
    go_wp2_with fail
    go_ret
    exact ⟨rfl, bthen hbb h⟩
  · obtain ⟨L, rfl⟩ : ∃ L, L = lens m := ⟨_, rfl⟩
    have Hl : Hid (∀ i, i < n → lens m i ≤ 15) := fun i hi => by have := hok i hi; unfold lens; omega
    have Hf := Lib.hid hf
    have Hgl := Lib.hid hB.lt
    have Hpn := Lib.hid (show parts (lens m) n ≤ 32768 from hf.1)
    clear hok hf
    generalize lens m = L at *
    have hgw : w.heap.size ≤ g := by omega
    clear hg hw1
    go_wp2_with fail
    go_loopw [5, 6, 7, 8, 10, 11, 28] (fun parts1 some1 _ _ _ _ i wr => ∃ k : Nat, k ≤ n ∧ i = .int .i64 (k : Int) ∧ parts1 = .int .i64 (parts L k : Int) ∧ some1 = .int .i64 (someOf L k : Int) ∧ Blk wr g 31 (ccells n (bitsF L n) L) ∧ Below w.heap.size w wr)
      (fun _ _ _ _ _ _ i _ => n - (intOf i).toNat)
    case atStart => exact ⟨0, by omega, rfl, rfl, rfl, hB, hbb⟩
    case round =>
      clear hB hbb
      obtain ⟨k, hk, rfl, rfl, rfl, hB, hb⟩ := hrel
      by_cases hlt : k < n
      · have hc1 := hB.cell (k * 2)
        have hc2 := hB.cell (k * 2 + 1)
        rw [ccells_bits n _ _ k _ rfl hlt] at hc1
        rw [ccells_len n _ _ k _ rfl hlt] at hc2
        have Hlk := Lib.hid (Hl.out k hlt)
        obtain ⟨c, hc⟩ : ∃ c, L k = c := ⟨_, rfl⟩
        obtain ⟨x, hx⟩ : ∃ x, bitsF L n k = x := ⟨_, rfl⟩
        rw [hx] at hc1
        rw [hc] at hc2
        have hc15 : c ≤ 15 := by rw [← hc]; exact Hl.out k hlt
        have Hps := Lib.hid (parts_succ L k)
        have Hss := Lib.hid (some_succ L k)
        have hpl : parts L k ≤ 32768 := by
          refine Nat.le_trans ?_ Hpn.out
          have : ∀ j, k ≤ j → parts L k ≤ parts L j := by
            intro j hj
            induction hj with
            | refl => exact Nat.le_refl _
            | step _ ih => exact Nat.le_trans ih (Nat.le_add_right _ _)
          exact this n hk
        have hsl : someOf L k ≤ k := cntTo_le _ k
        rw [hc] at Hps Hss
        by_cases hz : c = 0
        · subst hz
          have Hbz : bitsF L n k = 0 := by unfold bitsF; rw [hc]; rfl
          obtain rfl : x = 0 := by rw [← hx, Hbz]
          have e0 : ((0 : Int) / 2 ^ (0 : Nat) != 0) = false := by decide
          clear hc hx Hbz
          go_wp2_with fail
          go_roundw
          case rel => exact ⟨k + 1, by omega, by go_num, by rw [Hps.out]; rfl, by rw [Hss.out]; rfl, hB.alloc _, hb.alloc hb.size _⟩
          case measure => simp [intOf]; omega
        · have hxc : x = codeOf L n k := by rw [← hx]; unfold bitsF; rw [hc, if_pos (by omega)]
          have hxl : x < 2 ^ c := by
            have := code_fits L n k hlt (by omega) (by omega) Hpn.out
            rw [hc] at this
            rw [hxc]; exact this
          have hdv : (x : Int) / (2 : Int) ^ c = 0 := by
            have e : (x : Int) / (2 : Int) ^ c = ((x / 2 ^ c : Nat) : Int) := by simp
            rw [e, Nat.div_eq_of_lt hxl]; rfl
          have hpm : (2 : Int) ^ (15 - c) = ((2 ^ (15 - c) : Nat) : Int) := by simp
          have hq := pow_le15 c
          have Hpt : Hid (pt c = 2 ^ (15 - c)) := by show _ = _; unfold pt; rw [if_pos (by omega)]
          rw [Hpt.out] at Hps
          rw [if_pos (by omega)] at Hss
          have Hcq : Hid (L k = c) := hc
          have Hxc := Lib.hid hxc
          clear hc hx hxc
          generalize 2 ^ (15 - c) = q at *
          obtain ⟨P, HP⟩ : ∃ P, Hid (parts L k = P) := ⟨_, rfl⟩
          obtain ⟨T, HT⟩ : ∃ T, Hid (someOf L k = T) := ⟨_, rfl⟩
          rw [HP.out, HT.out]
          rw [HP.out] at hpl
          rw [HT.out] at hsl
          go_wp2_with fail
          have hBx := Blk.new wr 31 #[.int .u32 (x : Int), .int .i64 (c : Int)]
          have hB1 := hB.alloc (.cells #[.int .u32 (x : Int), .int .i64 (c : Int)] 31)
          have hb1 := hb.alloc hb.size (.cells #[.int .u32 (x : Int), .int .i64 (c : Int)] 31)
          obtain ⟨G, hG⟩ : ∃ G, G = wr.heap.size := ⟨_, rfl⟩
          have Hgw : Hid (w.heap.size ≤ G) := by rw [hG]; exact hb.size
          rw [← hG] at hBx ⊢
          clear hG
          generalize wr.alloc (.cells #[.int .u32 (x : Int), .int .i64 (c : Int)] 31) = wx at *
          clear hB hb hc1 hc2
          go_loopw [10, 11, 64] (fun _ _ i wr => ∃ j : Nat, j ≤ k ∧ i = .int .i64 (j : Int) ∧ Blk wr G 31 #[.int .u32 (x : Int), .int .i64 (c : Int)] ∧ Blk wr g 31 (ccells n (bitsF L n) L) ∧ Below w.heap.size w wr)
            (fun _ _ i _ => k - (intOf i).toNat)
          case atStart => exact ⟨0, by omega, rfl, hBx, hB1, hb1⟩
          case round =>
            clear hBx hB1 hb1
            obtain ⟨j, hj, rfl, hBx, hB, hb⟩ := hrel
            by_cases hltj : j < k
            · have hc1 := hB.cell (j * 2)
              have hc2 := hB.cell (j * 2 + 1)
              rw [ccells_bits n _ _ j _ rfl (by omega)] at hc1
              rw [ccells_len n _ _ j _ rfl (by omega)] at hc2
              have hx1 := hBx.cell 0
              have hx2 := hBx.cell 1
              simp at hx1 hx2
              have hBxl := hBx.lt
              obtain ⟨d, hd⟩ : ∃ d, L j = d := ⟨_, rfl⟩
              have hd15 : d ≤ 15 := by rw [← hd]; exact Hl.out j (by omega)
              have hap := code_apart L n j k (by omega)
              have hap2 := code_apart L n k j (by omega)
              have hy : 0 < d → bitsF L n j = codeOf L n j := fun h => by unfold bitsF; rw [hd, if_pos h]
              have hyl : bitsF L n j < 32768 := by
                unfold bitsF
                split
                · exact Nat.lt_of_lt_of_le (code_fits L n j (by omega) (by omega) (Hl.out j (by omega)) Hpn.out) (Nat.pow_le_pow_right (n := 2) (j := 15) (by decide) (Hl.out j (by omega)))
                · decide
              have hw0 : IntKind.i64.wrap 0 = 0 := by rw [IntKind.wrap_i64]; omega
              rw [hd] at hc2 hap hap2
              rw [Hcq.out, ← Hxc.out] at hap hap2
              generalize bitsF L n j = y at *
              rcases show d = 0 ∨ (0 < d ∧ d < c) ∨ d = c ∨ c < d by omega with rfl | ⟨h1, h2⟩ | rfl | h1
              · clear hap hap2 hy hd
                go_wp2_with fail
                go_quiet (fail)
                go_wp2_with fail
                rename_i nq
                go_roundw
                case rel => exact ⟨j + 1, by omega, by go_num, (hBx.alloc _).drewN nq, (hB.alloc _).drewN nq, below_drewN (hb.alloc hb.size _) nq⟩
                case measure => simp [intOf]; omega
              · have hne := hap (by unfold ahead; rw [hd, Hcq.out]; simp; omega) hc15
                rw [← hy h1] at hne
                have hdv1 : (x : Int) / (2 : Int) ^ (c - d) = ((x / 2 ^ (c - d) : Nat) : Int) := by simp
                generalize x / 2 ^ (c - d) = z at *
                have hzy : ((z : Int) == (y : Int)) = false := by simp; omega
                have hwr : IntKind.i64.wrap ((c : Int) - (d : Int)) = (c : Int) - (d : Int) := by rw [IntKind.wrap_i64]; omega
                clear hap hap2 hy hd hne
                go_wp2_with fail
                go_quiet (fail)
                go_wp2_with fail
                rename_i nq
                go_roundw
                case rel => exact ⟨j + 1, by omega, by go_num, (hBx.alloc _).drewN nq, (hB.alloc _).drewN nq, below_drewN (hb.alloc hb.size _) nq⟩
                case measure => simp [intOf]; omega
              · have hne := hap (by unfold ahead; rw [hd, Hcq.out]; simp; omega) hc15
                rw [← hy (by omega), Nat.sub_self, Nat.pow_zero, Nat.div_one] at hne
                have hzy : ((x : Int) == (y : Int)) = false := by simp; omega
                have hd0 : 0 < d := by omega
                clear hap hap2 hy hd hne
                go_wp2_with fail
                go_quiet (fail)
                go_wp2_with fail
                rename_i nq
                go_roundw
                case rel => exact ⟨j + 1, by omega, by go_num, (hBx.alloc _).drewN nq, (hB.alloc _).drewN nq, below_drewN (hb.alloc hb.size _) nq⟩
                case measure => simp [intOf]; omega
              · have hne := hap2 (by unfold ahead; rw [hd, Hcq.out]; simp; omega) hd15
                rw [← hy (by omega)] at hne
                have hdv1 : (y : Int) / (2 : Int) ^ (d - c) = ((y / 2 ^ (d - c) : Nat) : Int) := by simp
                have hzl0 : y / 2 ^ (d - c) ≤ y := Nat.div_le_self _ _
                generalize y / 2 ^ (d - c) = z at *
                have hzy : ((x : Int) == (z : Int)) = false := by simp; omega
                have hwr : IntKind.i64.wrap ((d : Int) - (c : Int)) = (d : Int) - (c : Int) := by rw [IntKind.wrap_i64]; omega
                have hzl : z < 32768 := by omega
                have hc0 : 0 < c := by omega
                clear hap hap2 hy hd hne
                go_wp2_with fail
                go_quiet (fail)
                go_wp2_with fail
                rename_i nq
                go_roundw
                case rel => exact ⟨j + 1, by omega, by go_num, (hBx.alloc _).drewN nq, (hB.alloc _).drewN nq, below_drewN (hb.alloc hb.size _) nq⟩
                case measure => simp [intOf]; omega
            · obtain rfl : j = k := by omega
              go_wp2_with fail
              go_roundw
              case rel => exact ⟨j + 1, by omega, by go_num, by rw [Hps.out, HP.out]; go_num, by rw [Hss.out, HT.out]; go_num, hB, hb⟩
              case measure => simp [intOf]; omega
      · obtain rfl : k = n := by omega
        have hF := Hf.out
        have hpl := hF.1
        have hf2 := hF.2
        have hsl : someOf L k ≤ k := cntTo_le _ k
        have Hz : someOf L k = 0 ∨ 0 < someOf L k := by omega
        clear Hf hF Hpn
        generalize parts L k = P at *
        generalize someOf L k = T at *
        rcases hf2 with rfl | rfl | ⟨rfl, rfl⟩
        · rcases show T = 0 ∨ T = 1 ∨ (1 < T) by omega with rfl | rfl | h1
          all_goals
            try have e1 : ((T : Int) == 0) = false := by simp; omega
            try have e2 : ((T : Int) == 1) = false := by simp; omega
            go_wp2_with fail
            refine (awake4_any _).mono ?_
            rintro e w3 ⟨rfl, h⟩
            go_wp2_with fail
            go_ret
            exact ⟨rfl, bthen hb h⟩
        · go_wp2_with fail
          refine (awake4_any _).mono ?_
          rintro e w3 ⟨rfl, h⟩
          go_wp2_with fail
          go_ret
          exact ⟨rfl, bthen hb h⟩
        · go_wp2_with fail
          refine (awake4_any _).mono ?_
          rintro e w3 ⟨rfl, h⟩
          go_wp2_with fail
          go_ret
          exact ⟨rfl, bthen hb h⟩
end Go.Proofs.Ytginjnpboggnbaa
