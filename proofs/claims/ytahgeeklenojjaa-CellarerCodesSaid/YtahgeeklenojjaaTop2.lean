/- CellarerCodes. Conditions: none. -/
import Derived.Test.YtahgeeklenojjaaLenX
import Derived.Test.YtahgeeklenojjaaPlant
import Derived.Test.YtahgeeklenojjaaNext4
import Derived.Test.YtahgeeklenojjaaHAgainP
import Derived.Test.YtahgeeklenojjaaCnt
import Derived.Test.YtahgeeklenojjaaKeepT
import Derived.Test.YtahgeeklenojjaaFew
import Derived.Deep.RegionHeld3
namespace Go.Proofs.Ytahgeeklenojjaa
open Go.RowKit
set_option maxRecDepth 100000

theorem clamp815_run (N : Int) : ∃ (M : Int) (k : Nat), 8 ≤ k ∧ k ≤ 15 ∧ (∀ W, Sem.run Try.prog (Builtin.min_ #[3, 3] 3 #[.int .i64 N, .int .i64 15]) W = .ok (.int .i64 M) W) ∧ ∀ W, Sem.run Try.prog (Builtin.max_ #[3, 3] 3 #[.int .i64 8, .int .i64 M]) W = .ok (.int .i64 (k : Int)) W := by
  refine ⟨if (15 : Int) < N then 15 else N, (if (if (15 : Int) < N then 15 else N) > 8 then (if (15 : Int) < N then 15 else N) else 8 : Int).toNat, by split <;> split <;> omega, by split <;> split <;> omega, fun W => rfl, fun W => ?_⟩
  have e : (((if (if (15 : Int) < N then 15 else N) > 8 then (if (15 : Int) < N then 15 else N) else 8 : Int).toNat : Nat) : Int) = (if (if (15 : Int) < N then 15 else N) > 8 then (if (15 : Int) < N then 15 else N) else 8 : Int) := by
    split <;> split <;> omega
  rw [e]
  rfl
def c4 (i : Nat) : Int := ([5, 1, 1, 0] : List Int).getD i 0
theorem c4_one : finL c4 4 15 0 = 1 := by
  have hl : (coinsB c4 4).length = 3 := by decide
  have h := fin_ok (cnt := c4) (n := 4) (most := 15) (by decide) (by decide) (by rw [hl]; decide)
  have h0 := h.pos 0 (by decide) (by decide)
  have h1 := h.mono 0 1 (by decide) (by decide) (by decide) (by decide)
  have h2 := h.mono 0 2 (by decide) (by decide) (by decide) (by decide)
  have h3 := h.zero 3 (by decide)
  have hp := h.parts
  rw [hl, if_neg (by decide), if_neg (by decide)] at hp
  have e : parts (finL c4 4 15) 4 = 0 + pt (finL c4 4 15 0) + pt (finL c4 4 15 1) + pt (finL c4 4 15 2) + pt (finL c4 4 15 3) := rfl
  rw [e, h3] at hp
  by_cases hc : finL c4 4 15 0 = 1
  · exact hc
  · exfalso
    have key : ∀ x, 2 ≤ x → pt x ≤ 8192 := fun x hx => by
      unfold pt
      rw [if_pos (by omega)]
      exact Nat.pow_le_pow_right (n := 2) (i := 15 - x) (j := 13) (by decide) (by omega)
    have a0 := key (finL c4 4 15 0) (by omega)
    have a1 := key (finL c4 4 15 1) (by omega)
    have a2 := key (finL c4 4 15 2) (by omega)
    have a3 : pt 0 = 0 := rfl
    omega
/-- Lengths of counts that fit. -/
theorem lens_fit (g0 n cap : Nat) (cnt : Nat → Int) (hn : n ≤ 320) (most : Nat) (h1 : 1 ≤ most) (h15 : most ≤ 15) (hc : CntOK cnt n) (hb : (coinsB cnt n).length ≤ 2 ^ most) (w : World) (hr : IRow w (some ⟨g0, 0, none⟩) n cnt) :
    Calls Try.prog 5 #[.slice (some ⟨g0, 0, none⟩) n cap, .int .i64 (most : Int)] w fun e w' => ∃ g, e = .returned (.tuple #[.slice (some ⟨g, 0, none⟩) n n, .int .i64 0]) ∧ w.heap.size ≤ g ∧ Blk w' g 3 (fcells n fun i => .int .i64 ((finL cnt n most i : Nat) : Int)) ∧ Below w.heap.size w w' := by
  refine (lens_any (some ⟨g0, 0, none⟩) n cap cnt (by omega) (most : Int) w hr).mono ?_
  rintro e w' ⟨hbl, ⟨h, _⟩ | ⟨_, h, _⟩ | ⟨_, _, _, h, _⟩ | ⟨_, _, _, _, h, _⟩ | ⟨_, _, _, _, _, g, rfl, hg, hB⟩⟩
  · omega
  · omega
  · exact absurd hc h
  · rw [Int.toNat_natCast] at h; omega
  · rw [Int.toNat_natCast] at hB
    exact ⟨g, rfl, hg, hB, hbl⟩
/-- A text's bytes as symbols. -/
def bJ (s : ByteArray) : List Nat := s.data.toList.map UInt8.toNat
theorem bJ_len (s : ByteArray) : (bJ s).length = s.size := by unfold bJ; simp
theorem bJ_get (s : ByteArray) (i : Nat) (h : i < s.size) : (bJ s).getD i 0 = (s[i]).toNat := by
  unfold bJ
  rw [List.getD_eq_getElem?_getD, List.getElem?_map]
  have : s.data.toList[i]? = some s[i] := by
    rw [Array.getElem?_toList]
    exact Array.getElem?_eq_getElem h
  rw [this]; rfl
theorem bJ_take (s : ByteArray) (i : Nat) (h : i < s.size) : (bJ s).take (i + 1) = (bJ s).take i ++ [(bJ s).getD i 0] := by
  have hl : i < (bJ s).length := by rw [bJ_len]; exact h
  rw [List.take_succ_eq_append_getElem hl, List.getD_eq_getElem?_getD, List.getElem?_eq_getElem hl]; rfl
theorem bJ_lt (s : ByteArray) (i : Nat) (h : i < s.size) : (bJ s).getD i 0 < 256 := by rw [bJ_get s i h]; exact (s[i]).toNat_lt
def jc (J : List Nat) (t : Nat) : Int := ((J.count t : Nat) : Int)
theorem posH_take (L : Nat → Nat) (J : List Nat) (i : Nat) : posH L (J.take i) (J.take i).length = posH L J i := by
  unfold posH
  rw [List.take_length]

theorem codes_len (g n : Nat) (L : Nat → Nat) (w : World) (h : Blk w g 3 (fcells n fun i => .int .i64 ((L i : Nat) : Int))) : IRow w (some ⟨g, 0, none⟩) n (fun i => ((L i : Nat) : Int)) :=
  .inr ⟨g, 0, rfl, h.lt, fun i hi => by rw [Nat.zero_add]; exact (Blk.cell h i).trans (fcells_at _ _ _ hi)⟩
set_option maxHeartbeats 64000000 in
theorem ccodes_any (s0 : ByteArray) (hs0 : s0.size ≤ maxLen) (lv0 : Int) (w : World) : Calls Try.prog 3 #[.string s0, .int .i64 lv0] w fun e w' => e = .returned (.bool true) ∧ Below w.heap.size w w' := by
  have CL4 : Hid (∀ W, IRow W (some ⟨w.heap.size, 0, none⟩) 4 c4 → Calls Try.prog 5 #[.slice (some ⟨w.heap.size, 0, none⟩) 4 4, .int .i64 15] W fun e w' => ∃ g, e = .returned (.tuple #[.slice (some ⟨g, 0, none⟩) 4 4, .int .i64 0]) ∧ W.heap.size ≤ g ∧ Hid (w'.cell? ⟨g, 0, none⟩ = some (.int .i64 1)) ∧ Below W.heap.size W w') := by
    intro W h
    refine (lens_fit w.heap.size 4 4 c4 (by decide) 15 (by decide) (by decide) (fun i hi => by rcases show i = 0 ∨ i = 1 ∨ i = 2 ∨ i = 3 by omega with rfl | rfl | rfl | rfl <;> decide) (by decide) W h).mono ?_
    rintro e w' ⟨g, h1, h2, h3, h4⟩
    refine ⟨g, h1, h2, ?_, h4⟩
    have := Blk.cell h3 0
    rw [fcells_at _ _ _ (by decide), c4_one] at this
    exact this
  have CF := Lib.hid (fun W => few_any s0 300 (by decide) hs0 W)
  have hsz := few_size s0 300
  obtain ⟨s, Hs⟩ : ∃ R, Hid (few s0 300 = R) := ⟨_, Lib.hid (Eq.refl _)⟩
  rw [Hs.out] at CF hsz
  obtain ⟨M15, most, hm8, hm15, hmin, hmax⟩ := clamp815_run lv0
  have hmk : ∀ W, (Instr.makeSlice 22 (.int .i64 256) (.int .i64 256)).run Try.prog W = .ok (.slice (some ⟨W.heap.size, 0, none⟩) 256 256) (W.alloc (.cells (fcells 256 (fun _ => .int .i64 0)) 3)) := fun W => made_ints 256 (by decide) W
  obtain ⟨J, HJ⟩ : ∃ R, Hid (bJ s = R) := ⟨_, Lib.hid (Eq.refl _)⟩
  obtain ⟨M, HM⟩ : ∃ R, Hid (s.size = R) := ⟨_, Lib.hid (Eq.refl _)⟩
  have hJl : J.length = M := by rw [← HJ.out, bJ_len, HM.out]
  have HJl := Lib.hid hJl
  have hJt : ∀ i, i < M → J.take (i + 1) = J.take i ++ [J.getD i 0] := fun i hi => by rw [← HJ.out]; exact bJ_take s i (by rw [HM.out]; exact hi)
  have HJt := Lib.hid hJt
  have hJ256 : ∀ i, i < M → J.getD i 0 < 256 := fun i hi => by rw [← HJ.out]; exact bJ_lt s i (by rw [HM.out]; exact hi)
  have HJ256 := Lib.hid hJ256
  have Hix : Hid (∀ i, i < M → ∀ W, (Instr.index 9 (.string s) (.int .i64 (i : Int))).run Try.prog W = .ok (.int .u8 ((J.getD i 0 : Nat) : Int)) W) := by
    intro i hi W
    have e : ((i : Int)).toNat = i := by omega
    have hi' : i < s.size := by rw [HM.out]; exact hi
    rw [run_index_string W 9 s .i64 (i : Int) Try.underlying9, dif_pos ⟨by omega, by omega⟩]
    simp only [e]
    rw [← HJ.out, bJ_get s i hi']
  have hM300 : M ≤ 300 := by rw [← HM.out]; exact hsz
  have hB0 := Blk.new w 3 #[.int .i64 5, .int .i64 1, .int .i64 1, .int .i64 0]
  have hr0 : IRow (w.alloc (.cells #[.int .i64 5, .int .i64 1, .int .i64 1, .int .i64 0] 3)) (some ⟨w.heap.size, 0, none⟩) 4 c4 := by
    refine .inr ⟨w.heap.size, 0, rfl, hB0.lt, fun i hi => ?_⟩
    rw [Nat.zero_add, hB0.cell]
    rcases show i = 0 ∨ i = 1 ∨ i = 2 ∨ i = 3 by omega with rfl | rfl | rfl | rfl <;> rfl
  have HR0 := Lib.hid hr0
  have HBw := Lib.hid ((Below.refl w.heap.size w).alloc (Nat.le_refl _) (.cells #[.int .i64 5, .int .i64 1, .int .i64 1, .int .i64 0] 3))
  clear hJl hJt hJ256 hsz hB0 hr0 hs0
  go_enter Try.func3, Try.ntmps3
  go_wp2_with fail
  refine (CL4.out _ HR0.out).mono ?_
  rintro e w1 ⟨g1, rfl, -, hc1, hb1⟩
  have HB1 := Lib.hid (below_new hb1)
  have hc1' := hc1.out
  clear hb1 hc1 HR0 HBw CL4
  go_wp2_with fail
  refine (CF.out _).mono ?_
  rintro e w2 ⟨rfl, rfl⟩
  have hK0 := Blk.new w1 3 (fcells 256 (fun _ => Value.int .i64 0))
  have hBk := (Below.refl w1.heap.size w1).alloc (Nat.le_refl _) (.cells (fcells 256 (fun _ => Value.int .i64 0)) 3)
  obtain ⟨K, HK⟩ : ∃ R, Hid (w1.heap.size = R) := ⟨_, Lib.hid (Eq.refl _)⟩
  have HK1 : Hid (Blk (w1.alloc (.cells (fcells 256 (fun _ => Value.int .i64 0)) 3)) K 3 (fcells 256 (cntC (J.take 0)))) := by
    show Blk _ _ _ _
    rw [fcells_congr 256 (cntC (J.take 0)) (fun _ => .int .i64 0) (fun i _ => by unfold cntC; rw [List.take_zero]; rfl), ← HK.out]
    exact hK0
  have HBk := Lib.hid hBk
  have hK1l : w1.heap.size ≤ K := by rw [HK.out]; exact Nat.le_refl _
  clear hK0 hBk
  go_wp2_with fail
  rw [HK.out]
  obtain ⟨w3, HW3⟩ : ∃ R, Hid (w1.alloc (.cells (fcells 256 (fun _ => Value.int .i64 0)) 3) = R) := ⟨_, Lib.hid (Eq.refl _)⟩
  rw [HW3.out] at HK1 HBk ⊢
  clear HW3 hmk hmin hmax
  go_loopw [8] (fun i_ wr => ∃ i : Nat, i ≤ M ∧ i_ = .int .i64 (i : Int) ∧ Hid (Blk wr K 3 (fcells 256 (cntC (J.take i)))) ∧ Hid (Below w1.heap.size w1 wr)) (fun i _ => M - (intOf i).toNat)
  case atStart => exact ⟨0, Nat.zero_le _, rfl, HK1, HBk⟩
  case round =>
    clear HK1 HBk
    obtain ⟨i, hi, rfl, HKc, HB⟩ := hrel
    by_cases hlt : i < M
    · have di : decide ((i : Int) < (M : Int)) = true := by rw [decide_eq_true_eq]; omega
      have dib : decide (i < M) = true := by rw [decide_eq_true_eq]; omega
      have ds1 : decide ((i : Int) < (s.size : Int)) = true := by rw [HM.out, decide_eq_true_eq]; omega
      have ds2 : decide (i < s.size) = true := by rw [HM.out, decide_eq_true_eq]; omega
      have hix := Hix.out i hlt
      have hy := HJ256.out i hlt
      have htk := HJt.out i hlt
      obtain ⟨y, Hy⟩ : ∃ R, Hid (J.getD i 0 = R) := ⟨_, Lib.hid (Eq.refl _)⟩
      rw [Hy.out] at hix hy htk
      have hyI : (y : Int) < 256 := by omega
      have hc2 : wr.cell? ⟨K, y, none⟩ = some (cntC (J.take i) y) := (Blk.cell HKc.out y).trans (fcells_at _ _ _ hy)
      have hf2 := Blk.frozen HKc.out y
      have hset := cntC_add 256 (J.take i) y
      rw [← htk] at hset
      have hcl : (J.take i).count y ≤ 300 := Nat.le_trans List.count_le_length (by rw [List.length_take]; omega)
      unfold cntC at hc2
      obtain ⟨c, Hc⟩ : ∃ R, Hid ((J.take i).count y = R) := ⟨_, Lib.hid (Eq.refl _)⟩
      rw [Hc.out] at hc2 hcl hset
      obtain ⟨c1, Hc1⟩ : ∃ R, Hid (c + 1 = R) := ⟨_, Lib.hid (Eq.refl _)⟩
      have hc1v := Hc1.out
      have w8 : IntKind.i64.wrap ((c : Int) + 1) = (c1 : Int) := by rw [IntKind.wrap_i64]; omega
      rw [hc1v] at hset
      have HKs : Hid (∀ m, Blk ((wr.setCell ⟨K, y, none⟩ (.int .i64 (c1 : Int))).drewN m) K 3 (fcells 256 (cntC (J.take (i + 1))))) := fun m => by
        rw [← hset]
        exact Blk.set_ HKc.out y _
      have HBs : Hid (∀ m, Below w1.heap.size w1 ((wr.setCell ⟨K, y, none⟩ (.int .i64 (c1 : Int))).drewN m)) := fun m => below_drewN (HB.out.setCell hK1l _) m
      clear hset hc1v htk HKc HB
      go_wp2_with fail
      go_roundw
      case rel => exact ⟨i + 1, by omega, by go_num, HKs.out 0, HBs.out 0⟩
      case measure => simp [intOf]; omega
    · obtain rfl : i = M := by omega
      have di : decide ((i : Int) < (i : Int)) = false := by rw [decide_eq_false_iff_not]; omega
      have ds1 : decide ((i : Int) < (s.size : Int)) = false := by rw [HM.out, decide_eq_false_iff_not]; omega
      have ds2 : decide (i < s.size) = false := by rw [HM.out, decide_eq_false_iff_not]; omega
      have hall : J.take i = J := List.take_of_length_le (by rw [HJl.out]; exact Nat.le_refl _)
      rw [hall] at HKc
      have hcOK : CntOK (jc J) 256 := fun t _ => by
        unfold jc
        have : J.count t ≤ 300 := Nat.le_trans List.count_le_length (by rw [HJl.out]; exact hM300)
        omega
      have hbig : (coinsB (jc J) 256).length ≤ 2 ^ most := Nat.le_trans (coinsB_le _ _) (Nat.pow_le_pow_right (n := 2) (i := 8) (j := most) (by decide) hm8)
      have hfok := fin_ok (cnt := jc J) (n := 256) (most := most) (by omega) hm15 hbig
      have CL := Lib.hid (lens_fit K 256 256 (jc J) (by decide) most (by omega) hm15 hcOK hbig wr (.inr ⟨K, 0, rfl, HKc.out.lt, fun t ht => by rw [Nat.zero_add]; exact (Blk.cell HKc.out t).trans (fcells_at _ _ _ ht)⟩))
      have hpos : ∀ q, q < i → 0 < finL (jc J) 256 most (J.getD q 0) := fun q hq => by
        refine hfok.pos _ (HJ256.out q hq) ?_
        unfold jc
        have hql : q < J.length := by rw [HJl.out]; exact hq
        have : 0 < J.count (J.getD q 0) := List.count_pos_iff.2 (by rw [List.getD_eq_getElem?_getD, List.getElem?_eq_getElem hql]; exact List.getElem_mem hql)
        omega
      have hfits := lenOK_fits hfok
      have hle := hfok.le
      obtain ⟨L, HL⟩ : ∃ R, Hid (finL (jc J) 256 most = R) := ⟨_, Lib.hid (Eq.refl _)⟩
      rw [HL.out] at CL hpos hfits hle
      have HL15 : Hid (∀ t, t < 256 → L t ≤ 15) := fun t _ => Nat.le_trans (hle t) hm15
      have Hle := Lib.hid hle
      have Hpos := Lib.hid hpos
      have Hfits := Lib.hid (show Fits (parts L 256) (someOf L 256) from hfits)
      clear hcOK hbig hfok hpos hfits hle hall HKc
      go_wp2_with fail
      refine CL.out.mono ?_
      rintro e w4 ⟨gL, rfl, hgL, hL4, hb4⟩
      have HB4 := Lib.hid (bthen HB1.out (bthen HB.out hb4))
      have HL4 := Lib.hid hL4
      have CC := Lib.hid (codes_any (some ⟨gL, 0, none⟩) 256 256 (fun t => ((L t : Nat) : Int)) (by decide) w4 (codes_len gL 256 L w4 hL4))
      have hlens : lens (fun t => ((L t : Nat) : Int)) = L := by funext t; unfold lens; simp
      clear hL4 hb4 CL HB HB1
      go_wp2_with fail
      refine CC.out.mono ?_
      rintro e w5 ⟨hb5, ⟨h1, _⟩ | ⟨_, ⟨q, h1, h2⟩, _⟩ | ⟨_, _, h1, _⟩ | ⟨_, _, _, v, rfl, gc, rfl, hgc, hBc⟩⟩
      · omega
      · exact absurd ⟨Int.natCast_nonneg _, by have h := HL15.out q h1; show ((L q : Nat) : Int) ≤ 15; omega⟩ h2
      · rw [hlens] at h1; exact absurd Hfits.out h1
      rw [hlens] at hBc
      have HB5 := Lib.hid (bthen HB4.out hb5)
      have HL5 := Lib.hid (Blk.below HL4.out hb5 HL4.out.lt)
      have HBc5 := Lib.hid hBc
      have CP := Lib.hid (plant_any (some ⟨gL, 0, none⟩) 256 256 (fun t => ((L t : Nat) : Int)) (by decide) w5 (codes_len gL 256 L w5 HL5.out))
      clear hb5 hBc hgc CC HB4 HL4
      go_wp2_with fail
      refine CP.out.mono ?_
      rintro e w6 ⟨hb6, ⟨h1, _⟩ | ⟨_, ⟨q, h1, h2⟩, _⟩ | ⟨_, _, h1, _⟩ | ⟨_, _, _, T, g, N, capT, B, pv, pn, rfl, hT1, hg1, hTr, hN, hGr⟩⟩
      · omega
      · exact absurd ⟨Int.natCast_nonneg _, by have h := HL15.out q h1; show ((L q : Nat) : Int) ≤ 15; omega⟩ h2
      · rw [hlens] at h1; exact absurd Hfits.out h1
      rw [hlens] at hGr
      obtain ⟨F, HF⟩ : ∃ R, Hid (bitsF L 256 = R) := ⟨_, Lib.hid (Eq.refl _)⟩
      have HFit : Hid (∀ t, t < 256 → 0 < L t → F t < 2 ^ L t) := fun t ht h0 => by
        rw [← HF.out]
        unfold bitsF
        rw [if_pos h0]
        exact code_fits L 256 t ht h0 (HL15.out t ht) Hfits.out.1
      have HPF : Hid (∀ a b, InAll L 256 a → InAll L 256 b → a ≠ b → ¬ Ext F L (F a) (L a) b) := by
        have := free_all L 256 HL15.out
        rw [HF.out] at this
        exact this
      rw [HF.out] at hGr HBc5
      have HGr := Lib.hid hGr
      have HTr := Lib.hid hTr
      have HB6 := Lib.hid (bthen HB5.out hb6)
      have HL6 := Lib.hid (Blk.below HL5.out hb6 HL5.out.lt)
      have HBc6 := Lib.hid (Blk.below HBc5.out hb6 HBc5.out.lt)
      have hTl : T < w6.heap.size := hTr.1.lt
      have hgl : g < w6.heap.size := hTr.2.1
      have hS0 : SinkAt (w6.alloc (.cells #[.slice none 0 0, .int .u64 0, .int .i64 0] 36)) w6.heap.size (.slice none 0 0) 0 0 := ⟨Blk.new w6 36 _, World.ownsRow_nil _ _ _ _, by decide⟩
      have hBb := (Below.refl w6.heap.size w6).alloc (Nat.le_refl _) (.cells #[.slice none 0 0, .int .u64 0, .int .i64 0] 36)
      obtain ⟨P, HP⟩ : ∃ R, Hid (w6.heap.size = R) := ⟨_, Lib.hid (Eq.refl _)⟩
      have hwP : w6.heap.size ≤ P := by rw [HP.out]; exact Nat.le_refl _
      rw [HP.out] at hS0
      have HS0 := Lib.hid hS0
      have HBb := Lib.hid hBb
      have HH0 : Hid (HeldH F L (InAll L 256) (J.take 0) 0) := fun q hq => by simp at hq
      clear hb6 hGr hTr hS0 hBb CP HB5 HL5 HBc5 hT1 hg1 HF
      go_wp2_with fail
      rw [HP.out]
      obtain ⟨w7, HW7⟩ : ∃ R, Hid (w6.alloc (.cells #[.slice none 0 0, .int .u64 0, .int .i64 0] 36) = R) := ⟨_, Lib.hid (Eq.refl _)⟩
      rw [HW7.out] at HS0 HBb ⊢
      clear HW7
      go_loopw [16, 17] (fun n_ i_ wr => ∃ (q n V : Nat) (v : Value), q ≤ i ∧ i_ = .int .i64 (q : Int) ∧ n_ = .int .i64 (n : Int) ∧ n ≤ 15 * q ∧ Hid (n = posH L J q) ∧ Hid (SinkAt wr P v V n) ∧ Hid (HeldH F L (InAll L 256) (J.take q) V) ∧ Hid (Below w6.heap.size w6 wr)) (fun _ z _ => i - (intOf z).toNat)
      case atStart => exact ⟨0, 0, 0, _, by omega, rfl, rfl, by omega, rfl, HS0, HH0, HBb⟩
      case round =>
        clear HS0 HBb HH0
        obtain ⟨j, n, V, v, hj, rfl, rfl, hn, Hn, HS, HH, HB⟩ := hrel
        by_cases hlt : j < i
        · have dj : decide ((j : Int) < (i : Int)) = true := by rw [decide_eq_true_eq]; omega
          have djb : decide (j < i) = true := by rw [decide_eq_true_eq]; omega
          have ds1 : decide ((j : Int) < (s.size : Int)) = true := by rw [HM.out, decide_eq_true_eq]; omega
          have ds2 : decide (j < s.size) = true := by rw [HM.out, decide_eq_true_eq]; omega
          have hix := Hix.out j hlt
          have hy := HJ256.out j hlt
          have htk := HJt.out j hlt
          have hyp := Hpos.out j hlt
          have hps := posH_succ L J j (by rw [HJl.out]; exact hlt)
          obtain ⟨y, Hy⟩ : ∃ R, Hid (J.getD j 0 = R) := ⟨_, Lib.hid (Eq.refl _)⟩
          rw [Hy.out] at hix hy htk hyp hps
          have hyI : (y : Int) < 256 := by omega
          have hBk := HBc6.out.below HB.out HBc6.out.lt
          have k0 := hBk.cell (y * 2)
          rw [ccells_bits 256 F L y (y * 2) rfl hy] at k0
          have k1 := hBk.cell (y * 2 + 1)
          rw [ccells_len 256 F L y (y * 2 + 1) rfl hy] at k1
          have hLb := HL6.out.below HB.out HL6.out.lt
          have k2 : wr.cell? ⟨gL, y, none⟩ = some (.int .i64 ((L y : Nat) : Int)) := (Blk.cell hLb y).trans (fcells_at _ _ _ hy)
          have hl15 := HL15.out y hy
          have hlm := Hle.out y
          have hfl2 := HFit.out y hy hyp
          have hmore := HH.out.more (s := y) (by rw [posH_take, ← Hn.out]; exact HS.out.2.2) ⟨hy, hyp⟩ hfl2
          rw [posH_take, ← htk, ← Hn.out] at hmore
          obtain ⟨f, Hf⟩ : ∃ R, Hid (F y = R) := ⟨_, Lib.hid (Eq.refl _)⟩
          obtain ⟨l, Hl⟩ : ∃ R, Hid (L y = R) := ⟨_, Lib.hid (Eq.refl _)⟩
          rw [Hf.out] at k0 hfl2 hmore
          rw [Hl.out] at k1 k2 hl15 hlm hfl2 hyp hps hmore
          have hf32 : f < 4294967296 := Nat.lt_of_lt_of_le hfl2 (Nat.le_trans (Nat.pow_le_pow_right (by decide) hl15) (by decide))
          have hBA := Blk.new wr 39 #[.int .u32 (f : Int), .int .i64 (l : Int)]
          have hal := (Below.refl wr.heap.size wr).alloc (Nat.le_refl _) (.cells #[.int .u32 (f : Int), .int .i64 (l : Int)] 39)
          have hTn := fun W hS => sinkTurn_any P v V n f l (l : Int) hf32 (.inr (.inl ⟨rfl, by omega⟩)) (by omega) W hS
          rw [Nat.mod_eq_of_lt (rev_lt f l)] at hTn
          obtain ⟨V2, HV2⟩ : ∃ R, Hid (V + rev f l * 2 ^ n = R) := ⟨_, Lib.hid (Eq.refl _)⟩
          obtain ⟨n2, Hn2⟩ : ∃ R, Hid (n + l = R) := ⟨_, Lib.hid (Eq.refl _)⟩
          rw [HV2.out] at hTn hmore
          rw [Hn2.out] at hTn
          have HTn := Lib.hid hTn
          have Hmore := Lib.hid hmore
          have HBA := Lib.hid hBA
          have HSa := Lib.hid (HS.out.below2 hal)
          have HBa := Lib.hid (HB.out.trans (hal.mono HB.out.size))
          have hn2v := Hn2.out
          have w9 : IntKind.i64.wrap ((n : Int) + (l : Int)) = (n2 : Int) := by rw [IntKind.wrap_i64]; omega
          have Hps : Hid (n2 = posH L J (j + 1)) := by show _ = _; rw [hps, ← Hn.out, ← hn2v]
          have hn215 : n2 ≤ 15 * (j + 1) := by omega
          have dl : ((l : Int) != (l : Int)) = false := by simp
          have dm : decide ((most : Int) < (l : Int)) = false := by rw [decide_eq_false_iff_not]; omega
          have dmb : decide (most < l) = false := by rw [decide_eq_false_iff_not]; omega
          have Hk2 := Lib.hid k2
          clear hBA hal hTn hmore hfl2 hps hn2v hBk hLb htk k2 HS HH
          go_wp2_with fail
          obtain ⟨Bx, HBx⟩ : ∃ R, Hid (wr.heap.size = R) := ⟨_, Lib.hid (Eq.refl _)⟩
          obtain ⟨W8, HW8⟩ : ∃ R, Hid (wr.alloc (.cells #[.int .u32 (f : Int), .int .i64 (l : Int)] 39) = R) := ⟨_, Lib.hid (Eq.refl _)⟩
          rw [HW8.out] at HBA HSa HBa ⊢
          rw [HBx.out] at HBA ⊢
          refine (HTn.out _ HSa.out).mono ?_
          rintro e w9 ⟨rfl, v9, hS9, hC9, -⟩
          have hkt := pk_keep HSa.out hC9
          have HB9 := Lib.hid (hC9.below HBa.out hwP (fun g' e => by have := SinkAt.row HSa.out g' e; omega))
          have b0 : w9.cell? ⟨Bx, 0, none⟩ = some (.int .u32 (f : Int)) := (hkt Bx 39 _ (by decide) (by decide) HBA.out).cell 0
          have b1 : w9.cell? ⟨Bx, 1, none⟩ = some (.int .i64 (l : Int)) := (hkt Bx 39 _ (by decide) (by decide) HBA.out).cell 1
          have k2 : w9.cell? ⟨gL, y, none⟩ = some (.int .i64 (l : Int)) := (Blk.cell (HL6.out.below HB9.out HL6.out.lt) y).trans ((fcells_at _ _ _ hy).trans (by rw [Hl.out]))
          have HS9 := Lib.hid (fun m => (show SinkAt (w9.drewN m) P v9 V2 n2 from hS9))
          have HB9d := Lib.hid (fun m => below_drewN HB9.out m)
          clear hS9 hC9 hkt HSa HBa HBA HTn HB9 HBx HW8
          go_wp2_with fail
          go_region
          all_goals
            go_wp2_with fail
            go_roundw
            case rel => exact ⟨j + 1, n2, V2, v9, by omega, by go_num, rfl, hn215, Hps, HS9.out 1, Hmore, HB9d.out 1⟩
            case measure => simp [intOf]; omega
        · obtain rfl : j = i := by omega
          have dj : decide ((j : Int) < (j : Int)) = false := by rw [decide_eq_false_iff_not]; omega
          have ds1 : decide ((j : Int) < (s.size : Int)) = false := by rw [HM.out, decide_eq_false_iff_not]; omega
          have ds2 : decide (j < s.size) = false := by rw [HM.out, decide_eq_false_iff_not]; omega
          have hall : J.take j = J := List.take_of_length_le (by rw [HJl.out]; exact Nat.le_refl _)
          rw [hall] at HH
          have CCt := Lib.hid (fun W hS => sinkCount_any P v V n (by omega) W hS)
          obtain ⟨U, HU⟩ : ∃ R : ByteArray, Hid ((⟨(bytesN V ((n + 7) / 8)).toArray⟩ : ByteArray) = R) := ⟨_, Lib.hid (Eq.refl _)⟩
          have hUs : U.size = (n + 7) / 8 := by rw [← HU.out]; show (bytesN V ((n + 7) / 8)).toArray.size = _; simp [bytesN_length]
          have Hnum : Hid (num U = V) := by
            show _ = _
            rw [← HU.out]
            unfold num
            show leN (bytesN V _) = V
            rw [leN_bytesN, pow256, Nat.mod_eq_of_lt (Nat.lt_of_lt_of_le HS.out.2.2 (Nat.pow_le_pow_right (by decide) (by omega)))]
          have CAl := fun W hS => sinkAll_any P v V n (by omega) W hS
          rw [HU.out] at CAl
          have HCAl := Lib.hid CAl
          obtain ⟨n8, Hn8⟩ : ∃ R, Hid ((n + 7) / 8 = R) := ⟨_, Lib.hid (Eq.refl _)⟩
          obtain ⟨n7, Hn7⟩ : ∃ R, Hid (n + 7 = R) := ⟨_, Lib.hid (Eq.refl _)⟩
          have hn7v := Hn7.out
          have hn8v := Hn8.out
          have w9 : IntKind.i64.wrap ((n : Int) + 7) = (n7 : Int) := by rw [IntKind.wrap_i64]; omega
          have w10 : (n7 : Int).tdiv 8 = (n8 : Int) := by rw [Int.tdiv_eq_ediv_of_nonneg (by omega)]; omega
          have w11 : IntKind.i64.wrap (n8 : Int) = (n8 : Int) := by rw [IntKind.wrap_i64]; omega
          rw [Hn8.out] at hUs
          have hUsI : (U.size : Int) = (n8 : Int) := by omega
          have hUl : U.size ≤ 100000 := by omega
          have HUn : Hid (n ≤ 8 * U.size) := by show _ ≤ _; omega
          have dd : ((n8 : Int) != (n8 : Int)) = false := by simp
          have dn : ((n : Int) != (n : Int)) = false := by simp
          clear CAl hall hn7v hn8v
          go_wp2_with fail
          refine (CCt.out _ HS.out).mono ?_
          rintro e wa ⟨rfl, nq, rfl⟩
          have HSa := Lib.hid (show SinkAt (wr.drewN nq) P v V n from HS.out)
          have HBa := Lib.hid (below_drewN HB.out nq)
          clear HS HB CCt
          go_wp2_with fail
          refine (HCAl.out _ HSa.out).mono ?_
          rintro e wb ⟨rfl, hbb⟩
          have HSb := Lib.hid (HSa.out.below2 hbb)
          have HBb := Lib.hid (HBa.out.trans (hbb.mono HBa.out.size))
          clear hbb HSa HBa
          go_wp2_with fail
          refine (HCAl.out _ HSb.out).mono ?_
          rintro e wc ⟨rfl, hbc⟩
          have HBc := Lib.hid (HBb.out.trans (hbc.mono HBb.out.size))
          have CQ := Lib.hid (srcOf_any U wc)
          clear hbc HSb HBb HCAl
          go_wp2_with fail
          refine CQ.out.mono ?_
          rintro e wd ⟨rfl, hS7, hb7⟩
          have hTQ : T ≠ wc.heap.size := by have := HBc.out.size; omega
          have hgQ : g ≠ wc.heap.size := by have := HBc.out.size; omega
          obtain ⟨Q, HQ⟩ : ∃ R, Hid (wc.heap.size = R) := ⟨_, Lib.hid (Eq.refl _)⟩
          have HS7 := Lib.hid (show SrcAt wd wc.heap.size U (posH L J 0) from hS7)
          have HB7 := Lib.hid hb7
          rw [HQ.out] at HS7 hTQ hgQ ⊢
          have HTQ := Lib.hid hTQ
          have HgQ := Lib.hid hgQ
          have hQ6 : wc.heap.size ≤ Q := by rw [HQ.out]; exact Nat.le_refl _
          clear hS7 hb7 hTQ hgQ CQ
          go_wp2_with fail
          go_loopw [20] (fun i_ wr => ∃ q : Nat, q ≤ j ∧ i_ = .int .i64 (q : Int) ∧ Hid (SrcAt wr Q U (posH L J q)) ∧ Hid (Below wc.heap.size wc wr)) (fun i _ => j - (intOf i).toNat)
          case atStart => exact ⟨0, by omega, rfl, HS7, HB7⟩
          case round =>
            clear HS7 HB7
            obtain ⟨q, hq, rfl, HS, HB⟩ := hrel
            by_cases hlt2 : q < j
            · have dq : decide ((q : Int) < (j : Int)) = true := by rw [decide_eq_true_eq]; omega
              have dqb : decide (q < j) = true := by rw [decide_eq_true_eq]; omega
              have ds1 : decide ((q : Int) < (s.size : Int)) = true := by rw [HM.out, decide_eq_true_eq]; omega
              have ds2 : decide (q < s.size) = true := by rw [HM.out, decide_eq_true_eq]; omega
              have hix := Hix.out q hlt2
              have hqJ : q < J.length := by rw [HJl.out]; exact hlt2
              have hHq := HH.out q hqJ
              have hps := posH_succ L J q hqJ
              have hpl := posH_le L J (q + 1)
              rw [HJl.out, ← Hn.out] at hpl
              obtain ⟨y, Hy⟩ : ∃ R, Hid (J.getD q 0 = R) := ⟨_, Lib.hid (Eq.refl _)⟩
              rw [Hy.out] at hix hHq hps
              obtain ⟨p, Hp⟩ : ∃ R, Hid (posH L J q = R) := ⟨_, Lib.hid (Eq.refl _)⟩
              obtain ⟨p', Hp'⟩ : ∃ R, Hid (posH L J (q + 1) = R) := ⟨_, Lib.hid (Eq.refl _)⟩
              rw [Hp.out] at HS hHq hps
              rw [Hp'.out] at hps hpl
              have CN := Lib.hid (next_any F L (InAll L 256) T g N capT B pv pn HGr.out (fun t ht => HL15.out t ht.1) (fun t ht => by have := ht.1; omega) Q U p hUl (by omega) HTQ.out HgQ.out wr ((HTr.out.below HBc.out hTl hgl).below HB.out (by have := HBc.out.size; omega) (by have := HBc.out.size; omega)) HS.out)
              have HHi := Lib.hid hHq
              have Hps2 := Lib.hid hps
              have dy : ((y : Int) != (y : Int)) = false := by simp
              have hy256 := HJ256.out q hlt2
              rw [Hy.out] at hy256
              have w20 : wrap64 (y : Int) = (y : Int) := by unfold wrap64; omega
              clear hHq hps
              go_wp2_with fail
              refine CN.out.mono ?_
              rintro e w8 ⟨sym, err, taken, rfl, hno, -, hS8, hg8, -⟩
              have hex := next_is HPF.out hno HHi.out.1 HHi.out.1.2 (by have := Hps2.out; have := HUn.out; omega) (by rw [Hnum.out]; exact HHi.out.2)
              obtain ⟨rfl, rfl, rfl⟩ := hex
              have HS8 : Hid (SrcAt w8 Q U p') := by
                show SrcAt _ _ _ _
                rw [Hps2.out]
                exact hS8
              have HB8 := Lib.hid (below_row HB.out hg8 hQ6)
              clear hno hS8 hg8 CN HS HB
              go_wp2_with fail
              go_roundw
              case rel => exact ⟨q + 1, by omega, by go_num, by rw [Hp'.out]; exact HS8, HB8⟩
              case measure => simp [intOf]; omega
            · obtain rfl : q = j := by omega
              have dq : decide ((q : Int) < (q : Int)) = false := by rw [decide_eq_false_iff_not]; omega
              have ds1 : decide ((q : Int) < (s.size : Int)) = false := by rw [HM.out, decide_eq_false_iff_not]; omega
              have ds2 : decide (q < s.size) = false := by rw [HM.out, decide_eq_false_iff_not]; omega
              rw [← Hn.out] at HS
              have CPl := Lib.hid (srcPlace_any Q U n wr HS.out)
              have CSh := Lib.hid (srcShort_any Q U n (by omega) wr HS.out)
              have dsh : decide (8 * U.size < n) = false := by rw [decide_eq_false_iff_not]; have := HUn.out; omega
              rw [dsh] at CSh
              have HBz := Lib.hid (bthen HB6.out (HBc.out.trans (HB.out.mono HBc.out.size)))
              clear HS HB
              go_wp2_with fail
              refine CPl.out.mono ?_
              rintro e w9 ⟨rfl, rfl⟩
              go_wp2_with fail
              refine CSh.out.mono ?_
              rintro e w10 ⟨rfl, nq2, rfl⟩
              have HBf := Lib.hid (below_drewN HBz.out nq2)
              go_wp2_with fail
              go_ret
              exact ⟨rfl, HBf.out⟩
end Go.Proofs.Ytahgeeklenojjaa
