/- huff.Plant. Conditions: none. -/
import Derived.Test.YtahgeeklenojjaaTreeM
import Derived.Deep.Cut
namespace Go.Proofs.Ytahgeeklenojjaa
open Go.RowKit
set_option maxRecDepth 100000

def badT (k : Nat) : Ending := .returned (.tuple #[.pointer none, .int .i64 (k : Int)])
/-- The symbols that have codes. -/
def InAll (L : Nat → Nat) (n : Nat) (s : Nat) : Prop := s < n ∧ 0 < L s
/-- What Plant hands back. -/
def PlantPost (w : World) (n : Nat) (m : Nat → Int) (e : Ending) (w' : World) : Prop :=
  Below w.heap.size w w' ∧
  ((320 < n ∧ e = badT 2) ∨ (n ≤ 320 ∧ (∃ i, i < n ∧ ¬ (0 ≤ m i ∧ m i ≤ 15)) ∧ e = badT 1) ∨
   (n ≤ 320 ∧ (∀ i, i < n → 0 ≤ m i ∧ m i ≤ 15) ∧ ¬ Fits (parts (lens m) n) (someOf (lens m) n) ∧ e = badT 4) ∨
   (n ≤ 320 ∧ (∀ i, i < n → 0 ≤ m i ∧ m i ≤ 15) ∧ Fits (parts (lens m) n) (someOf (lens m) n) ∧ ∃ (T g N cap : Nat) (B : Nat → Nat → Int) (pv pn : Nat → Nat), e = .returned (.tuple #[.pointer (some ⟨T, 0, none⟩), .int .i64 0]) ∧
      w.heap.size ≤ T ∧ w.heap.size ≤ g ∧ TreeAt w' T g N cap B ∧ N ≤ 10000 ∧ Grown (bitsF (lens m) n) (lens m) (InAll (lens m) n) B N pv pn))

theorem free_pre (L : Nat → Nat) (n σ : Nat) (hσ : σ < n) (h0 : 0 < L σ) (h15 : ∀ i, i < n → L i ≤ 15) : ∀ s, (s < σ ∧ 0 < L s) → ¬ Ext (bitsF L n) L (bitsF L n s) (L s) σ := by
  rintro s ⟨h1, h2⟩ ⟨h3, h4⟩
  have ha : ahead L s σ = true := by
    unfold ahead
    rw [decide_eq_true h2, Bool.true_and]
    by_cases e : L s < L σ
    · rw [decide_eq_true e]; rfl
    · rw [decide_eq_true (show L s = L σ by omega), decide_eq_true h1]; simp
  have := code_apart L n s σ (by omega) ha (h15 σ hσ)
  unfold bitsF at h4
  rw [if_pos h2, if_pos h0] at h4
  exact this h4
theorem in_next (L : Nat → Nat) (k s : Nat) (h0 : 0 < L k) : ((s < k ∧ 0 < L s) ∨ s = k) ↔ (s < k + 1 ∧ 0 < L s) := by
  constructor
  · rintro (⟨h1, h2⟩ | rfl)
    · exact ⟨by omega, h2⟩
    · exact ⟨by omega, h0⟩
  · rintro ⟨h1, h2⟩
    by_cases e : s = k
    · exact .inr e
    · exact .inl ⟨by omega, h2⟩
theorem in_same (L : Nat → Nat) (k s : Nat) (h0 : L k = 0) : (s < k ∧ 0 < L s) ↔ (s < k + 1 ∧ 0 < L s) := by
  constructor
  · rintro ⟨h1, h2⟩
    exact ⟨by omega, h2⟩
  · rintro ⟨h1, h2⟩
    refine ⟨?_, h2⟩
    by_cases e : s = k
    · subst e; omega
    · omega

set_option maxHeartbeats 16000000 in
theorem plant_any (a : Option Addr) (n cap : Nat) (m : Nat → Int) (hn : n ≤ 1000000) (w : World) (hr : IRow w a n m) :
    Calls Try.prog 8 #[.slice a n cap] w (PlantPost w n m) := by
  have CC := Lib.hid (codes_any a n cap m hn w hr)
  clear hr
  go_enter Try.func8, Try.ntmps8
  go_wp2_with fail
  refine CC.out.mono ?_
  intro e w1 h
  obtain ⟨hb, ⟨h1, rfl⟩ | ⟨h1, h2, rfl⟩ | ⟨h1, h2, h3, rfl⟩ | ⟨h1, h2, h3, v, rfl, gc, rfl, hgc, hB⟩⟩ := h
  · have HB := Lib.hid hb
    clear hb
    unfold bad
    go_wp2_with fail
    go_ret2
    exact ⟨HB.out, .inl ⟨h1, rfl⟩⟩
  · have HB := Lib.hid hb
    have H2 := Lib.hid h2
    clear hb h2
    unfold bad
    go_wp2_with fail
    go_ret2
    exact ⟨HB.out, .inr (.inl ⟨h1, H2.out, rfl⟩)⟩
  · have HB := Lib.hid hb
    have H2 := Lib.hid h2
    have H3 := Lib.hid h3
    clear hb h2 h3
    unfold bad
    go_wp2_with fail
    go_ret2
    exact ⟨HB.out, .inr (.inr (.inl ⟨h1, H2.out, H3.out, rfl⟩))⟩
  · have HB := Lib.hid hb
    have H2 := Lib.hid h2
    have H3 := Lib.hid h3
    have HBc := Lib.hid hB
    obtain ⟨L, HL⟩ : ∃ L, Hid (lens m = L) := ⟨_, Lib.hid (Eq.refl _)⟩
    rw [HL.out] at HBc H3
    have HL15 : Hid (∀ i, i < n → L i ≤ 15) := fun i hi => by
      have := H2.out i hi
      rw [← HL.out]
      unfold lens
      omega
    obtain ⟨F, HF⟩ : ∃ F, Hid (bitsF L n = F) := ⟨_, Lib.hid (Eq.refl _)⟩
    rw [HF.out] at HBc
    have HFit : Hid (∀ i, i < n → 0 < L i → F i < 2 ^ L i) := fun i hi h0 => by
      rw [← HF.out]
      unfold bitsF
      rw [if_pos h0]
      exact code_fits L n i hi h0 (HL15.out i hi) H3.out.1
    have HPF : Hid (∀ σ, σ < n → 0 < L σ → ∀ s, (s < σ ∧ 0 < L s) → ¬ Ext F L (F s) (L s) σ) := fun σ h1 h2 => by
      have := free_pre L n σ h1 h2 HL15.out
      rw [HF.out] at this
      exact this
    have hmk := run_make_t w1
    have HPT0 := Lib.hid (PT.start w1)
    have HG0 : Hid (Grown F L (fun s => s < 0 ∧ 0 < L s) (fun _ _ => 0) 1 (fun _ => 0) (fun _ => 0)) := Grown.none F L _ (fun s h => by omega)
    have hgl := HBc.out.lt
    obtain ⟨q, Hq⟩ : ∃ q, Hid (w1.heap.size = q) := ⟨_, Lib.hid (Eq.refl _)⟩
    rw [Hq.out] at hgl
    clear hb h2 h3 hB CC
    go_wp2_with fail
    clear hmk
    obtain ⟨w2, HW2⟩ : ∃ W, Hid ((w1.alloc (.cells #[.int .i64 0, .int .i64 0] 65)).alloc (.cells #[.slice (some ⟨w1.heap.size, 0, none⟩) 1 1] 63) = W) := ⟨_, Lib.hid (Eq.refl _)⟩
    rw [HW2.out] at HPT0 ⊢
    rw [Hq.out] at HPT0 ⊢
    obtain ⟨T, HT⟩ : ∃ T, Hid (q + 1 = T) := ⟨_, Lib.hid (Eq.refl _)⟩
    rw [HT.out] at HPT0 ⊢
    clear HW2 HT
    go_loopw [25] (fun k_ wr => ∃ (k g N cap : Nat) (B : Nat → Nat → Int) (pv pn : Nat → Nat), k ≤ n ∧ k_ = .int .i64 (k : Int) ∧ N ≤ 1 + 15 * k ∧ Hid (PT w1 wr T g N cap B) ∧ Hid (Grown F L (fun s => s < k ∧ 0 < L s) B N pv pn)) (fun k _ => n - (intOf k).toNat)
    case atStart => exact ⟨0, q, 1, 1, _, _, _, by omega, rfl, by omega, HPT0, HG0⟩
    case round =>
      clear HPT0 HG0
      obtain ⟨k, g, N, cap1, B, pv, pn, hk, rfl, hN, HT, HG⟩ := hrel
      by_cases hlt : k < n
      · have d1 : decide ((k : Int) < (n : Int)) = true := by rw [decide_eq_true_eq]; omega
        have hBk := HBc.out.below HT.out.2.2.1 (by rw [Hq.out]; exact hgl)
        have c0 := hBk.cell (k * 2)
        rw [ccells_bits n F L k (k * 2) rfl hlt] at c0
        have c1 := hBk.cell (k * 2 + 1)
        rw [ccells_len n F L k (k * 2 + 1) rfl hlt] at c1
        obtain ⟨l, Hl⟩ : ∃ R, Hid (L k = R) := ⟨_, Lib.hid (Eq.refl _)⟩
        obtain ⟨f, Hf⟩ : ∃ R, Hid (F k = R) := ⟨_, Lib.hid (Eq.refl _)⟩
        have hl15 : l ≤ 15 := by rw [← Hl.out]; exact HL15.out k hlt
        rw [Hf.out] at c0
        rw [Hl.out] at c1
        obtain ⟨A, HA⟩ : ∃ R, Hid (wr.heap.size = R) := ⟨_, Lib.hid (Eq.refl _)⟩
        have hba := (Below.refl wr.heap.size wr).alloc (Nat.le_refl _) (.cells #[.int .u32 (f : Int), .int .i64 (l : Int)] 39)
        have HTA := Lib.hid (HT.out.below hba)
        have hBA := Blk.new wr 39 #[.int .u32 (f : Int), .int .i64 (l : Int)]
        rw [HA.out] at hBA
        have HBA := Lib.hid hBA
        clear hBk hba hBA HT
        by_cases hl0 : l = 0
        · subst hl0
          go_wp2_with fail
          rw [HA.out]
          obtain ⟨w5, HW5⟩ : ∃ W, Hid (wr.alloc (.cells #[.int .u32 (f : Int), .int .i64 ((0 : Nat) : Int)] 39) = W) := ⟨_, Lib.hid (Eq.refl _)⟩
          have HW5' : Hid (wr.alloc (.cells #[.int .u32 (f : Int), .int .i64 0] 39) = w5) := HW5.out
          rw [HW5.out] at HTA HBA
          rw [HW5'.out]
          clear HW5 HW5' c0 c1 HA
          go_loopw [9, 10] (fun at_ i_ wr => i_ = .int .i64 (-1) ∧ Hid (wr = w5)) (fun _ _ _ => 0)
          case atStart => exact ⟨rfl, rfl⟩
          case round =>
            obtain ⟨rfl, HW⟩ := hrel
            have HT6 : Hid (PT w1 wr T g N cap1 B) := by show PT _ _ _ _ _ _ _; rw [HW.out]; exact HTA.out
            clear HW HTA HBA
            go_wp2_with fail
            go_roundw
            case rel => exact ⟨k + 1, g, N, cap1, B, pv, pn, by omega, by go_num, by omega, HT6, HG.out.congr (fun s => in_same L k s Hl.out)⟩
            case measure => simp [intOf]; omega
        · have HM0 := Lib.hid (HG.out.start (σ := k) (by rw [Hl.out]; omega) (HFit.out k hlt (by rw [Hl.out]; omega)))
          have HPFk := Lib.hid (HPF.out k hlt (by rw [Hl.out]; omega))
          obtain ⟨i0, Hi0⟩ : ∃ R, Hid (l - 1 = R) := ⟨_, Lib.hid (Eq.refl _)⟩
          have hi0 : (l : Int) - 1 = (i0 : Int) := by have := Hi0.out; omega
          clear HG
          go_wp2_with fail
          rw [HA.out]
          obtain ⟨w5, HW5⟩ : ∃ W, Hid (wr.alloc (.cells #[.int .u32 (f : Int), .int .i64 (l : Int)] 39) = W) := ⟨_, Lib.hid (Eq.refl _)⟩
          rw [HW5.out] at HTA HBA ⊢
          clear HW5 c0 c1 HA hi0
          go_loopw [9, 10] (fun at_ i_ wr => ∃ (d i at' g N cap : Nat) (B : Nat → Nat → Int) (pv pn : Nat → Nat), Hid (d + i + 1 = l) ∧ i_ = .int .i64 (i : Int) ∧ at_ = .int .i64 (at' : Int) ∧ N ≤ 1 + 15 * k + d ∧ d ≤ 15 ∧ i ≤ 15 ∧ Hid (PT w1 wr T g N cap B) ∧
              Hid (Mid F L (fun s => s < k ∧ 0 < L s) k B N pv pn d at') ∧ Hid (Blk wr A 39 #[.int .u32 (f : Int), .int .i64 (l : Int)])) (fun _ i _ => (intOf i).toNat)
          case atStart => exact ⟨0, i0, 0, g, N, cap1, B, pv, pn, by show _ = _; have := Hi0.out; omega, rfl, rfl, by omega, by omega, by have := Hi0.out; omega, HTA, HM0, HBA⟩
          case round =>
            clear HTA HM0 HBA hN
            obtain ⟨d, i, at', g, N, cap1, B, pv, pn, Hd, rfl, rfl, hN, hd15, hi15, HT, HM, HBA⟩ := hrel
            have hat := HM.out.lt
            obtain ⟨b, Hb⟩ : ∃ R, Hid (nb F L k d = R) := ⟨_, Lib.hid (Eq.refl _)⟩
            have hb2 : b < 2 := by rw [← Hb.out]; exact nb_lt _ _ _ _
            obtain ⟨y, Hy⟩ : ∃ R, Hid (f / 2 ^ i = R) := ⟨_, Lib.hid (Eq.refl _)⟩
            have hy : (f : Int) / 2 ^ i = (y : Int) := by rw [← Hy.out]; simp
            have hfl : f < 4294967296 := by
              have := HFit.out k hlt (by rw [Hl.out]; omega)
              rw [Hf.out, Hl.out] at this
              exact Nat.lt_of_lt_of_le this (Nat.le_trans (Nat.pow_le_pow_right (by decide) hl15) (by decide))
            have hyl : y < 4294967296 := by rw [← Hy.out]; exact Nat.lt_of_le_of_lt (Nat.div_le_self _ _) hfl
            have hand : bits .and .u32 (y : Int) 1 = (b : Int) := by
              have h := u32_and_nat y 1 hyl (by decide)
              rw [Nat.and_one_is_mod] at h
              have e : y % 2 = b := by
                rw [← Hb.out, ← Hy.out]
                unfold nb
                rw [Hf.out, Hl.out, show l - d - 1 = i by have := Hd.out; omega]
              rw [e] at h
              exact h
            have mi : min i 32 = i := by omega
            obtain ⟨v, Hv⟩ : ∃ R, Hid (B at' b = R) := ⟨_, Lib.hid (Eq.refl _)⟩
            have cV := HT.out.cell at' b hat hb2
            rw [Hv.out] at cV
            have fV := HT.out.frozen (at' * 2 + b)
            have cT := HT.out.1.cell 0
            have cA := HBA.out.cell 0
            simp at cT cA
            have hbI : (b : Int) < 2 := by omega
            have hatI : (at' : Int) < (N : Int) := by omega
            have d2 : decide (0 ≤ (i : Int)) = true := by rw [decide_eq_true_eq]; omega
            go_wp2_with fail
            go_quiet (fail)
            have cV2 : (wr.drewN nq).cell? ⟨g, at' * 2 + b, none⟩ = some (.int .i64 v) := cV
            have fV2 : (wr.drewN nq).frozen? ⟨g, at' * 2 + b, none⟩ = false := fV
            have cT2 : (wr.drewN nq).cell? ⟨T, 0, none⟩ = some (.slice (some ⟨g, 0, none⟩) N cap1) := cT
            have HT2 := Lib.hid (HT.out.below (below_drewN (Below.refl _ _) nq))
            have HB2 := Lib.hid (show Blk (wr.drewN nq) A 39 #[.int .u32 (f : Int), .int .i64 (l : Int)] from HBA.out)
            clear cV fV cT cA HT HBA hand hy mi
            obtain ⟨w6, HW6⟩ : ∃ W, Hid (wr.drewN nq = W) := ⟨_, Lib.hid (Eq.refl _)⟩
            rw [HW6.out] at cV2 fV2 cT2 HT2 HB2 ⊢
            clear HW6
            by_cases hi0 : i = 0
            · subst hi0
              have hdl : d + 1 = L k := by rw [Hl.out]; have := Hd.out; omega
              have HGn := Lib.hid ((HM.out.leaf hdl).congr (fun s => in_next L k s (by rw [Hl.out]; have := Hd.out; omega)))
              have HT7 := Lib.hid (HT2.out.store at' b (-1 - (k : Int)) hat hb2)
              rw [Hb.out] at HGn
              clear hdl HM cT2 HB2 HT2
              go_wp2_with fail
              go_roundw
              case rel => exact ⟨k + 1, g, N, cap1, _, pv, pn, by omega, by go_num, by omega, HT7, HGn⟩
              case measure => simp [intOf]; omega
            · have hdl : d + 1 < L k := by rw [Hl.out]; have := Hd.out; omega
              have hi1 : (i : Int) - 1 = ((i - 1 : Nat) : Int) := by omega
              have diI : ((i : Int) == 0) = false := by simpa using hi0
              obtain ⟨i1, Hi1⟩ : ∃ R, Hid (i - 1 = R) := ⟨_, Lib.hid (Eq.refl _)⟩
              rw [Hi1.out] at hi1
              have hd1 : Hid (d + 1 + i1 + 1 = l) := by show _ = _; have := Hd.out; have := Hi1.out; omega
              have hi1l : i1 < i := by have := Hi1.out; omega
              rcases HM.out.way HPFk.out with hw | ⟨j, hw, hj0, hjN, hjp, hjn, hjx⟩
              · have hMf := HM.out.fresh hdl (by rw [hw])
                rw [Hb.out] at hw hMf
                obtain rfl : v = 0 := by rw [← Hv.out]; exact hw
                have HMf := Lib.hid hMf
                have HT7 := Lib.hid (HT2.out.store at' b (N : Int) hat hb2)
                have HB7 := Lib.hid (HB2.out.far (p := ⟨g, at' * 2 + b, none⟩) (by
                  rcases trow_blk HT2.out.2.1 HB2.out (by decide) with e | e
                  · simp [Value.ownBlock] at e
                  · exact fun e2 => e (by simp [Value.ownBlock, e2])) (.int .i64 (N : Int)))
                clear hMf hw hdl HM
                go_upto_region 17 with (fail)
                obtain ⟨w7, HW7⟩ : ∃ W, Hid (w6.setCell ⟨g, at' * 2 + b, none⟩ (.int .i64 (N : Int)) = W) := ⟨_, Lib.hid (Eq.refl _)⟩
                rw [HW7.out] at HT7 HB7 ⊢
                clear HW7 cV2 fV2 cT2 HT2 HB2
                have cT7 := HT7.out.1.cell 0
                have fT7 := HT7.out.1.frozen 0
                simp at cT7
                have hos := HT7.out.2.1
                have hbsw : w1.heap.size ≤ w7.heap.size := HT7.out.2.2.1.size
                have hBT7 := Lib.hid HT7.out.1
                have hgTne := Lib.hid HT7.out.ne
                go_wp2_with (first
                  | (at_builtin; go_must (refine wpList_append_elem w7 rfl (.tmp 70) (.tmp 72) rfl Try.underlying61 info_pair2 rfl (by decide) w1.heap.size _ N (tcells N (setB B at' b (N : Int))) [.int .i64 0, .int .i64 0] hos rfl pair_one rfl rfl rfl ?_ ?_ hbsw ?_; (unfold maxLen; omega); omega; intro v2 w8 hown8 hg8; obtain ⟨g2, cap2, rfl, _⟩ := World.ownsRow.form hown8 (Nat.succ_pos _); have hT8 := hBT7.out.grown hg8 (fun e => hgTne.out (by simp [Value.ownBlock] at e; exact e.symm)); have cT8 := hT8.cell 0; have fT8 := hT8.frozen 0; simp at cT8; have HO8 := Lib.hid hown8; have HG8 := Lib.hid hg8; clear hown8 hg8 hT8))
                  | fail)
                have HT9 := Lib.hid (HT7.out.more HO8.out HG8.out)
                have HB9 := Lib.hid ((HB7.out.grown HG8.out (fun e => by
                  rcases trow_blk HT7.out.2.1 HB7.out (by decide) with e2 | e2
                  · simp [Value.ownBlock] at e2
                  · exact e2 e.symm)).far (p := ⟨T, 0, none⟩) (fun e => by
                    have e3 : A = T := e
                    have h1 := HB7.out
                    have h2 := HT7.out.1
                    rw [e3] at h1
                    unfold Blk at h1 h2
                    rw [h1] at h2
                    simp at h2) (.slice (some ⟨g2, 0, none⟩) (N + 1) cap2))
                go_roundw
                case rel => exact ⟨d + 1, i1, N, g2, N + 1, cap2, _, _, _, hd1, by go_num, by go_num, by omega, by have := hd1.out; omega, by omega, HT9, HMf, HB9⟩
                case measure => simp [intOf]; omega
              · rw [Hb.out] at hw
                have HMd := Lib.hid (HM.out.down hdl (by rw [Hb.out]; exact hw) hj0 hjN hjp hjn hjx)
                obtain rfl : v = (j : Int) := by rw [← Hv.out]; exact hw
                have dj : ((j : Int) == 0) = false := by simp; omega
                clear hw hjx hjp hjn hdl HM
                go_wp2_with fail
                go_roundw
                case rel => exact ⟨d + 1, i1, j, g, N, cap1, B, pv, pn, hd1, by go_num, by go_num, by omega, by have := hd1.out; omega, by omega, HT2, HMd, HB2⟩
                case measure => simp [intOf]; omega
      · obtain rfl : k = n := by omega
        have d1 : decide ((k : Int) < (k : Int)) = false := by rw [decide_eq_false_iff_not]; omega
        go_wp2_with fail
        go_ret2
        refine ⟨HB.out.trans (HT.out.2.2.1.mono HB.out.size), .inr (.inr (.inr ⟨h1, H2.out, by rw [HL.out]; exact H3.out, T, g, N, cap1, B, pv, pn, rfl, Nat.le_trans HB.out.size HT.out.2.2.2, Nat.le_trans HB.out.size HT.out.lt.1, HT.out.at, by omega, ?_⟩))⟩
        rw [HL.out, HF.out]
        exact HG.out
end Go.Proofs.Ytahgeeklenojjaa
