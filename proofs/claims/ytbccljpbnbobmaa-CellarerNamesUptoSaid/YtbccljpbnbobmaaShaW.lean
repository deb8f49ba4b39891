/- digest.Hash.Write. Printed by gen_shaw.py. Conditions: texts of at most ten thousand bytes. -/
import Derived.Test.YtbccljpbnbobmaaShaB
import Derived.Test.YtbccljpbnbobmaaRoot
import Derived.Test.YtbccljpbnbobmaaPrimes
namespace Go.Proofs.Ytbccljpbnbobmaa
open Go.RowKit
set_option maxRecDepth 100000

/-- k blocks of t, from f on. -/
def runG (f : Nat → Nat) (t : List UInt8) : Nat → Nat → Nat
  | 0 => f
  | k + 1 => blkF (runG f t k) ((t.drop (64 * k)).take 64)
theorem runG_succ (f : Nat → Nat) (t : List UInt8) (k : Nat) : runG f t (k + 1) = blkF (runG f t k) ((t.drop (64 * k)).take 64) := by rw [runG]
theorem blkF_lt (f : Nat → Nat) (p : List UInt8) (hf : ∀ j, j < 72 → f j < 4294967296) (j : Nat) (hj : j < 72) : blkF f p j < 4294967296 := by
  unfold blkF
  split
  · exact Nat.mod_lt _ (by decide)
  · exact hf j hj
theorem runG_lt (f : Nat → Nat) (t : List UInt8) (hf : ∀ j, j < 72 → f j < 4294967296) (k : Nat) : ∀ j, j < 72 → runG f t k j < 4294967296 := by
  induction k with
  | zero => exact hf
  | succ k ih => intro j hj; rw [runG_succ]; exact blkF_lt _ _ ih j hj
theorem toList_ext (s : ByteArray) (a b : Nat) : (s.extract a b).data.toList = (s.data.toList.take b).drop a := by
  simp [ByteArray.data_extract, List.drop_take]
theorem app_list (a b : ByteArray) : (a ++ b).data.toList = a.data.toList ++ b.data.toList := by simp [ByteArray.data_append]
theorem hcells_congr (f g : Nat → Nat) (rest : ByteArray) (n : Nat) (b : Bool) (h : ∀ j, j < 72 → f j = g j) : hcells f rest n b = hcells g rest n b := by
  unfold hcells
  refine fcells_congr 75 _ _ fun i _ => ?_
  unfold hval
  by_cases hi : i < 72
  · rw [if_pos hi, if_pos hi, h i hi]
  · rw [if_neg hi, if_neg hi]
theorem region_still_tail {P : Program} {id : Nat} {Q : Exit → Act → World → Prop} {a : Act} {w wz : World} {l : List Oper} (n : Nat) (hz : wz = w.drew) (hm : P.follows .mixedOrders = true) (hB : Region.lexTailB .any l.toArray n = true)
    (h : wpStill P l.toArray wz (fun a' => wpList P l.toArray Q (l.drop n) a' wz) (l.take n) a) : (Code.region id l.toArray true).wp P Q a w := by
  subst hz
  exact wp_region_still_tail n hm hB h
def endR (w : World) (H : Nat) (f : Nat → Nat) (t : List UInt8) (n : Nat) (e : Ending) (w' : World) : Prop :=
  e = .returned (.tuple #[]) ∧ Onl H w w' ∧ ∃ R : ByteArray, R.data.toList = t.drop (64 * (t.length / 64)) ∧ Blk w' H 55 (hcells (runG f t (t.length / 64)) R n true)

set_option maxHeartbeats 8000000 in
theorem write_begun (H : Nat) (f : Nat → Nat) (hf : ∀ j, j < 72 → f j < 4294967296) (r s : ByteArray) (hr : r.size ≤ 10000) (hs : s.size ≤ 10000) (n : Nat) (hn : n ≤ 1000000) (w : World) (hB : Blk w H 55 (hcells f r n true)) :
    Calls Try.prog 36 #[.pointer (some ⟨H, 0, none⟩), .string s] w (endR w H f (r.data.toList ++ s.data.toList) (n + s.size)) := by
  obtain ⟨t, Ht⟩ : ∃ t, Hid (r.data.toList ++ s.data.toList = t) := ⟨_, Lib.hid (Eq.refl _)⟩
  rw [Ht.out]
  have Hf := Lib.hid hf
  have HH := Lib.hid hB
  have HO := Lib.hid (Onl.refl (H := H) w)
  have c74 := hB.cell 74
  rw [hcells_b] at c74
  clear hf hB
  go_enter Try.func36, Try.ntmps36
  go_upto_region 9 with (fail)
  clear c74
  have HSt : Hid (w.cell? ⟨H, 73, none⟩ = some (.int .u64 (n : Int))) := by
    show _ = _
    rw [HH.out.cell 73, hcells_n]
  have c73 := HSt.out
  have f73 := HH.out.frozen 73
  have hs1 := HH.out.set_ 73 (.int .u64 ((n + s.size : Nat) : Int))
  rw [hcells_setn] at hs1
  have hos1 := HO.out.set_ 73 (.int .u64 ((n + s.size : Nat) : Int))
  obtain ⟨m, hm⟩ : ∃ m, m = n + s.size := ⟨_, rfl⟩
  obtain ⟨N, hN⟩ : ∃ N, N = s.size := ⟨_, rfl⟩
  rw [← hm] at hs1 hos1
  have hwm : IntKind.u64.wrap ((n : Int) + (s.size : Int)) = (m : Int) := by rw [IntKind.wrap_u64]; omega
  have hww : IntKind.u64.wrap (s.size : Int) = (s.size : Int) := by rw [IntKind.wrap_u64]; omega
  have HM := Lib.hid hm
  have HH1 := Lib.hid hs1
  have HO1 := Lib.hid hos1
  clear hs1 hos1 hm hN HSt
  go_upto_region 10 with (fail)
  obtain ⟨w1, hw1⟩ : ∃ W, Hid (w.setCell ⟨H, 73, none⟩ (.int .u64 (m : Int)) = W) := ⟨_, Lib.hid (Eq.refl _)⟩
  rw [hw1.out] at HH1 HO1 ⊢
  have c72 := HH1.out.cell 72
  rw [hcells_rest] at c72
  clear c73 f73 hw1 HH HO hwm hww
  have hbig : ¬ 9223372036854775807 < r.size + s.size := by omega
  go_upto_region 11 with (fail)
  obtain ⟨S0, HS0⟩ : ∃ S, Hid (r ++ s = S) := ⟨_, Lib.hid (Eq.refl _)⟩
  rw [HS0.out]
  have hT0 : S0.data.toList = t := by rw [← HS0.out, app_list, Ht.out]
  have hT0s : t.length ≤ 20000 := by
    rw [← Ht.out, List.length_append]
    have e1 : r.data.toList.length = r.size := by simp
    have e2 : s.data.toList.length = s.size := by simp
    omega
  have HT0 := Lib.hid hT0
  clear hT0 c72 hbig
  go_loopw [1] (fun s_ wr => ∃ (k : Nat) (S : ByteArray), s_ = .string S ∧ 64 * k ≤ t.length ∧ Hid (S.data.toList = t.drop (64 * k)) ∧ Hid (Blk wr H 55 (hcells (runG f t k) r m true)) ∧ Hid (Onl H w wr)) (fun s_ _ => match s_ with | .string S => S.size | _ => 0)
  case atStart => exact ⟨0, S0, rfl, by omega, by show _ = _; rw [HT0.out]; rfl, by show Blk _ _ _ _; rw [runG]; exact HH1.out, HO1⟩
  case round =>
    clear HH1 HO1 HT0 HS0
    obtain ⟨k, S, rfl, hk, HS, HHr, HOr⟩ := hrel
    have hSs : S.size = t.length - 64 * k := by
      have e : S.data.toList.length = (t.drop (64 * k)).length := by rw [HS.out]
      rw [List.length_drop] at e
      simpa using e
    obtain ⟨P, HP⟩ : ∃ P, Hid (S.size = P) := ⟨_, Lib.hid (Eq.refl _)⟩
    by_cases h64 : 64 ≤ P
    · have hge : 64 ≤ S.size := by rw [HP.out]; exact h64
      have hgeI : (64 : Int) ≤ (S.size : Int) := by omega
      have hgeI2 : ¬ ((S.size : Int) < 64) := by omega
      have hsb : S.size ≤ 20000 := by omega
      have hx : (S.extract 0 64).size = 64 := by rw [ByteArray.size_extract]; omega
      have hxl : (S.extract 0 64).data.toList = (t.drop (64 * k)).take 64 := by rw [toList_ext, HS.out]; rfl
      have CB := fun W hB => block_any H (runG f t k) (runG_lt f t Hf.out k) r m true (S.extract 0 64) hx W hB
      rw [hxl, ← runG_succ] at CB
      have HCB := Lib.hid CB
      have hnx : (S.extract 64 S.size).data.toList = t.drop (64 * (k + 1)) := by
        rw [toList_ext, List.take_of_length_le (by simp), HS.out, List.drop_drop]
        congr 1
      have hns : (S.extract 64 S.size).size < P := by rw [ByteArray.size_extract, HP.out]; omega
      have hk1 : 64 * (k + 1) ≤ t.length := by rw [HP.out] at hSs; omega
      have HNx := Lib.hid hnx
      have HNs := Lib.hid hns
      have HSs := Lib.hid hSs
      have HPs := HP
      clear hx hxl CB hnx hns hSs hk
      go_wp2_with fail
      refine (HCB.out _ HHr.out).mono ?_
      rintro e w2 ⟨rfl, hB2, hO2⟩
      have HH2 := Lib.hid hB2
      have HO2 := Lib.hid (HOr.out.trans hO2)
      clear hB2 hO2 HHr HOr HCB
      go_wp2_with fail
      go_roundw
      case rel => exact ⟨k + 1, S.extract 64 S.size, rfl, hk1, HNx, HH2, HO2⟩
      case measure =>
        show (S.extract 64 S.size).size < S.size
        exact Nat.lt_of_lt_of_eq HNs.out HP.out.symm
    · have hlt : ¬ 64 ≤ S.size := by rw [HP.out]; exact h64
      have hltI : (S.size : Int) < 64 := by omega
      have hdd : decide ((64 : Int) ≤ (S.size : Int)) = false := by rw [decide_eq_false_iff_not]; omega
      have hkk : t.length / 64 = k := by omega
      have HK := Lib.hid hkk
      have f72 := HHr.out.frozen 72
      have c72 := HHr.out.cell 72
      rw [hcells_rest] at c72
      have hs2 := HHr.out.set_ 72 (.string S)
      rw [hcells_setr] at hs2
      have HH2 := Lib.hid hs2
      clear hkk hs2 hlt h64 hSs HP hk
      go_wp2_with fail
      (try simp only [Exit.inBlock, Exit.then])
      refine bodyPost_end (results_none rfl _ _ _) rfl ?_
      refine ⟨rfl, HOr.out.set_ 72 _, S, ?_, ?_⟩
      · rw [HK.out]; exact HS.out
      · rw [HK.out, HM.out.symm]; exact HH2.out

/-- The words at the beginning: eight, and the numbers of the steps. -/
def pr64 (i : Nat) : Nat := (prSt 310).getD i 0
def shaK (j : Nat) : Nat := if j < 8 then rootN (pr64 j) false 37 0 % 4294967296 else rootN (pr64 (j - 8)) true 37 0 % 4294967296
theorem shaK_lt (j : Nat) : shaK j < 4294967296 := by
  unfold shaK
  split <;> exact Nat.mod_lt _ (by decide)
/-- What has been laid when i primes have been taken. -/
def laid (K : Nat → Nat) (i : Nat) (j : Nat) : Nat := if j < 8 then (if j < i then K j else 0) else (if j < 8 + i then K j else 0)
theorem laid_step (K : Nat → Nat) (i : Nat) : (fun q => if q = 8 + i then K (8 + i) else laid K i q) = fun q => if q < 8 then laid K i q else laid K (i + 1) q := by
  funext q
  unfold laid
  by_cases h : q = 8 + i
  · subst h; rw [if_pos rfl, if_neg (by omega), if_neg (by omega), if_pos (by omega)]
  · rw [if_neg h]
    by_cases h8 : q < 8
    · rw [if_pos h8, if_pos h8]
    · rw [if_neg h8, if_neg h8, if_neg h8]
      by_cases h9 : q < 8 + i
      · rw [if_pos h9, if_pos (by omega)]
      · rw [if_neg h9, if_neg (by omega)]
theorem laid_low (K : Nat → Nat) (i : Nat) (hi : i < 8) : (fun q => if q = i then K i else if q < 8 then laid K i q else laid K (i + 1) q) = laid K (i + 1) := by
  funext q
  unfold laid
  by_cases h : q = i
  · subst h; rw [if_pos rfl, if_pos hi, if_pos (by omega)]
  · rw [if_neg h]
    by_cases h8 : q < 8
    · rw [if_pos h8, if_pos h8, if_pos h8]
      by_cases h9 : q < i
      · rw [if_pos h9, if_pos (by omega)]
      · rw [if_neg h9, if_neg (by omega)]
    · simp only [h8, if_false]
theorem laid_high (K : Nat → Nat) (i : Nat) (hi : 8 ≤ i) : (fun q => if q < 8 then laid K i q else laid K (i + 1) q) = laid K (i + 1) := by
  funext q
  unfold laid
  by_cases h8 : q < 8
  · rw [if_pos h8, if_pos h8, if_pos h8, if_pos (by omega), if_pos (by omega)]
  · simp only [h8, if_false]
theorem laid_all (K : Nat → Nat) (j : Nat) (hj : j < 72) : laid K 64 j = K j := by
  unfold laid
  by_cases h8 : j < 8
  · rw [if_pos h8, if_pos (by omega)]
  · rw [if_neg h8, if_pos (by omega)]
theorem prSt_small (k : Nat) (j : Nat) : (prSt k).getD j 0 ≤ k + 1 := by
  rcases Nat.lt_or_ge j (prSt k).length with h | h
  · have e : (prSt k).getD j 0 = (prSt k)[j] := by simp [List.getD, h]
    rw [e]
    exact (prSt_mem k _ (List.getElem_mem h)).2
  · have e : (prSt k).getD j 0 = 0 := by simp [List.getD, h]
    omega

set_option maxHeartbeats 16000000 in
theorem write_new_gen (H : Nat) (s : ByteArray) (hs : s.size ≤ 10000) (L : List Nat) (hL : L = prSt 310) (K : Nat → Nat) (hKl : ∀ j, K j < 4294967296) (hK1 : ∀ j, j < 8 → K j = rootN (L.getD j 0) false 37 0 % 4294967296) (hK2 : ∀ j, j < 64 → K (8 + j) = rootN (L.getD j 0) true 37 0 % 4294967296)
    (w : World) (hB : Blk w H 55 (hcells (fun _ => 0) ⟨#[]⟩ 0 false)) :
    Calls Try.prog 36 #[.pointer (some ⟨H, 0, none⟩), .string s] w (endR w H K s.data.toList s.size) := by
  have hLs : ∀ j, L.getD j 0 ≤ 311 := fun j => by rw [hL]; exact prSt_small 310 j
  have hLl : L.length = 64 := by rw [hL]; exact prSt_310
  have CP := primes_any w
  rw [← hL] at CP
  have HCP := Lib.hid CP
  clear CP hL
  obtain ⟨t, Hte⟩ : ∃ t, Hid (s.data.toList = t) := ⟨_, Lib.hid (Eq.refl _)⟩
  rw [Hte.out]
  have HKl := Lib.hid hKl
  have HK1 := Lib.hid hK1
  have HK2 := Lib.hid hK2
  have HLs := Lib.hid hLs
  have c74 := hB.cell 74
  rw [hcells_b] at c74
  have hHlt := hB.lt
  have hB0 := hB
  have e0 : hcells (fun _ => 0) ⟨#[]⟩ 0 false = hcells (laid K 0) ⟨#[]⟩ 0 false := hcells_congr _ _ _ _ _ (fun j _ => by unfold laid; by_cases h : j < 8 <;> simp [h])
  rw [e0] at hB0
  have HB := Lib.hid hB0
  have HLl := Lib.hid hLl
  clear hB hB0 e0 hKl hK1 hK2 hLs hLl
  go_enter Try.func36, Try.ntmps36
  go_wp2_with fail
  refine HCP.out.mono ?_
  rintro e w1 ⟨v, rfl, hU, hb1⟩
  obtain ⟨g, cap, rfl, hg1, hg2, hg3, hcell⟩ := OwnU.pos hU HLl.out (by decide)
  have HB1 := Lib.hid (HB.out.below hb1 HB.out.lt)
  have HO1 := Lib.hid ((Onl.refl (H := H) w).below hb1 (Nat.le_refl _))
  have Hcell := Lib.hid hcell
  have hgH : g ≠ H := by omega
  clear hcell hU hb1 HCP c74 HB
  go_wp2_with fail
  go_loopw [13] (fun i_ wr => ∃ i : Nat, i ≤ 64 ∧ i_ = .int .i64 (i : Int) ∧ Hid (Blk wr H 55 (hcells (laid K i) ⟨#[]⟩ 0 false)) ∧ Hid (Onl H w1 wr)) (fun i _ => 64 - (intOf i).toNat)
  case atStart => exact ⟨0, by omega, rfl, HB1, Onl.refl _⟩
  case round =>
    clear HB1
    obtain ⟨i, hi, rfl, HBr, HOr⟩ := hrel
    by_cases hlt : i < 64
    · have hc : wr.cell? ⟨g, i, none⟩ = some (.int .u64 ((L.getD i 0 : Nat) : Int)) := by
        have := Hcell.out i hlt
        rw [← this]
        exact World.cell?_of_block (HOr.out.2.2.2.2 g hg2 hgH)
      have hp := HLs.out i
      have hk2 := HK2.out i hlt
      have C2 := fun W => calls_sym (root_any (L.getD i 0) (by omega) true W)
      rw [← hk2] at C2
      have cS := HBr.out.cell (8 + i)
      rw [hcells_word _ _ _ _ _ (by omega)] at cS
      have fS := HBr.out.frozen (8 + i)
      have hs1 := HBr.out.set_ (8 + i) (.int .u32 ((K (8 + i) : Nat) : Int))
      rw [hcells_setw _ _ _ _ _ _ (by omega), laid_step] at hs1
      have HC2 := Lib.hid C2
      have HS1 := Lib.hid hs1
      have hiI : (i : Int) < 64 := by omega
      have hiw : IntKind.i64.wrap (i : Int) = (i : Int) := by rw [IntKind.wrap_i64]; omega
      clear C2 hs1 hk2
      by_cases h8 : i < 8
      · have hk1 := HK1.out i h8
        have C1 := fun W => calls_sym (root_any (L.getD i 0) (by omega) false W)
        rw [← hk1] at C1
        have HC1 := Lib.hid C1
        obtain ⟨q, Hq⟩ : ∃ q, Hid (L.getD i 0 = q) := ⟨_, Lib.hid (Eq.refl _)⟩
        rw [Hq.out] at hc HC1 HC2
        have hi8 : (i : Int) < 8 := by omega
        clear C1 hk1 hp
        go_upto_region 4 with (fail)
        obtain ⟨wz, hz⟩ : ∃ W, W = wr.drew := ⟨_, rfl⟩
        have zS : wz.cell? ⟨H, 8 + i, none⟩ = some (.int .u32 (laid K i (8 + i) : Int)) := by rw [hz]; exact cS
        have zF : wz.frozen? ⟨H, 8 + i, none⟩ = false := by rw [hz]; exact fS
        have HZ : Hid (Blk (wz.setCell ⟨H, 8 + i, none⟩ (.int .u32 ((K (8 + i) : Nat) : Int))) H 55 (hcells (fun q => if q < 8 then laid K i q else laid K (i + 1) q) ⟨#[]⟩ 0 false) ∧ Onl H w1 (wz.setCell ⟨H, 8 + i, none⟩ (.int .u32 ((K (8 + i) : Nat) : Int)))) := by
          rw [hz]; exact ⟨HS1.out.drew, (HOr.out.drewN 1).set_ _ _⟩
        refine region_still_tail 7 hz (by kernel_rfl) (by kernel_rfl) ?_
        clear hz cS fS HS1 HOr HBr hc
        simp only [List.take_succ_cons, List.take_zero, List.drop_succ_cons, List.drop_zero]
        iterate 3 still_step
        still_call (HC2.out _)
        iterate 3 still_step
        refine wpStill_nil ?_
        go_upto_region 6 with (fail)
        obtain ⟨wy, hy⟩ : ∃ W, Hid (wz.setCell ⟨H, 8 + i, none⟩ (.int .u32 ((K (8 + i) : Nat) : Int)) = W) := ⟨_, Lib.hid (Eq.refl _)⟩
        rw [hy.out] at HZ ⊢
        clear zS zF hy
        have cI := HZ.out.1.cell i
        rw [hcells_word _ _ _ _ _ (by omega)] at cI
        have fI := HZ.out.1.frozen i
        have hs2 := HZ.out.1.set_ i (.int .u32 ((K i : Nat) : Int))
        rw [hcells_setw _ _ _ _ _ _ (by omega), laid_low K i h8] at hs2
        have HS2 := Lib.hid hs2
        obtain ⟨wx, hx⟩ : ∃ W, W = wy.drew := ⟨_, rfl⟩
        have xS : wx.cell? ⟨H, i, none⟩ = wy.cell? ⟨H, i, none⟩ := by rw [hx]; rfl
        rw [cI] at xS
        have xF : wx.frozen? ⟨H, i, none⟩ = false := by rw [hx]; exact fI
        have HX : Hid (Blk (wx.setCell ⟨H, i, none⟩ (.int .u32 ((K i : Nat) : Int))) H 55 (hcells (laid K (i + 1)) ⟨#[]⟩ 0 false) ∧ Onl H w1 (wx.setCell ⟨H, i, none⟩ (.int .u32 ((K i : Nat) : Int)))) := by
          rw [hx]; exact ⟨HS2.out.drew, (HZ.out.2.drewN 1).set_ _ _⟩
        refine region_still_tail 7 hx (by kernel_rfl) (by kernel_rfl) ?_
        clear hx cI fI HS2 hs2 HZ
        simp only [List.take_succ_cons, List.take_zero, List.drop_succ_cons, List.drop_zero]
        iterate 3 still_step
        still_call (HC1.out _)
        iterate 3 still_step
        refine wpStill_nil ?_
        go_wp2_with fail
        go_roundw
        case rel => exact ⟨i + 1, by omega, by go_num, HX.out.1, HX.out.2⟩
        case measure => simp [intOf]; omega
      · obtain ⟨q, Hq⟩ : ∃ q, Hid (L.getD i 0 = q) := ⟨_, Lib.hid (Eq.refl _)⟩
        rw [Hq.out] at hc HC2
        have hd8 : decide ((i : Int) < 8) = false := by rw [decide_eq_false_iff_not]; omega
        have HS1b := HS1.out
        rw [laid_high K i (by omega)] at HS1b
        have HS2 := Lib.hid HS1b
        clear hp HS1b h8
        go_upto_region 4 with (fail)
        obtain ⟨wz, hz⟩ : ∃ W, W = wr.drew := ⟨_, rfl⟩
        have zS : wz.cell? ⟨H, 8 + i, none⟩ = some (.int .u32 (laid K i (8 + i) : Int)) := by rw [hz]; exact cS
        have zF : wz.frozen? ⟨H, 8 + i, none⟩ = false := by rw [hz]; exact fS
        have HZ : Hid (Blk (wz.setCell ⟨H, 8 + i, none⟩ (.int .u32 ((K (8 + i) : Nat) : Int))) H 55 (hcells (laid K (i + 1)) ⟨#[]⟩ 0 false) ∧ Onl H w1 (wz.setCell ⟨H, 8 + i, none⟩ (.int .u32 ((K (8 + i) : Nat) : Int)))) := by
          rw [hz]; exact ⟨HS2.out.drew, (HOr.out.drewN 1).set_ _ _⟩
        refine region_still_tail 7 hz (by kernel_rfl) (by kernel_rfl) ?_
        clear hz cS fS HS1 HS2 HOr HBr hc
        simp only [List.take_succ_cons, List.take_zero, List.drop_succ_cons, List.drop_zero]
        iterate 3 still_step
        still_call (HC2.out _)
        iterate 3 still_step
        refine wpStill_nil ?_
        go_wp2_with fail
        go_roundw
        case rel => exact ⟨i + 1, by omega, by go_num, HZ.out.1, HZ.out.2⟩
        case measure => simp [intOf]; omega
    · have hd : decide ((i : Int) < 64) = false := by rw [decide_eq_false_iff_not]; omega
      have hi64 : i = 64 := by omega
      have hBz := HBr.out
      rw [hi64, hcells_congr _ K _ _ _ (laid_all K)] at hBz
      have f74 := hBz.frozen 74
      have c74 := hBz.cell 74
      rw [hcells_b] at c74
      have hs1 := hBz.set_ 74 (.bool true)
      rw [hcells_setb] at hs1
      have HH := Lib.hid hs1
      have hO74 := (HO1.out.trans HOr.out).set_ 74 (.bool true)
      have HO := Lib.hid hO74
      clear hs1 hBz hi64 hlt hi hO74
      go_upto_region 9 with (fail)
      obtain ⟨w9, hw9⟩ : ∃ W, Hid (wr.setCell ⟨H, 74, none⟩ (.bool true) = W) := ⟨_, Lib.hid (Eq.refl _)⟩
      rw [hw9.out] at HH HO ⊢
      have Hf : Hid (∀ j, j < 72 → K j < 4294967296) := fun j _ => HKl.out j
      obtain ⟨r, hr0⟩ : ∃ r : ByteArray, Hid (⟨#[]⟩ = r) := ⟨_, Lib.hid (Eq.refl _)⟩
      rw [hr0.out] at HH
      have Ht : Hid (r.data.toList ++ s.data.toList = t) := by show _ = _; rw [← hr0.out]; exact Hte.out
      obtain ⟨n, hn0⟩ : ∃ n : Nat, Hid (0 = n) := ⟨_, Lib.hid (Eq.refl _)⟩
      have hr : r.size ≤ 10000 := by rw [← hr0.out]; decide
      have hn : n ≤ 1000000 := by rw [← hn0.out]; decide
      rw [hn0.out] at HH
      clear f74 c74 hw9 HBr HOr HO1 hd
      have HSt : Hid (w9.cell? ⟨H, 73, none⟩ = some (.int .u64 (n : Int))) := by
        show _ = _
        rw [HH.out.cell 73, hcells_n]
      have c73 := HSt.out
      have f73 := HH.out.frozen 73
      have hs1 := HH.out.set_ 73 (.int .u64 ((n + s.size : Nat) : Int))
      rw [hcells_setn] at hs1
      have hos1 := HO.out.set_ 73 (.int .u64 ((n + s.size : Nat) : Int))
      obtain ⟨m, hm⟩ : ∃ m, m = n + s.size := ⟨_, rfl⟩
      obtain ⟨N, hN⟩ : ∃ N, N = s.size := ⟨_, rfl⟩
      rw [← hm] at hs1 hos1
      have hwm : IntKind.u64.wrap ((n : Int) + (s.size : Int)) = (m : Int) := by rw [IntKind.wrap_u64]; omega
      have hww : IntKind.u64.wrap (s.size : Int) = (s.size : Int) := by rw [IntKind.wrap_u64]; omega
      have HM := Lib.hid hm
      have HH1 := Lib.hid hs1
      have HO1 := Lib.hid hos1
      clear hs1 hos1 hm hN HSt
      go_upto_region 10 with (fail)
      obtain ⟨w1, hw1⟩ : ∃ W, Hid (w9.setCell ⟨H, 73, none⟩ (.int .u64 (m : Int)) = W) := ⟨_, Lib.hid (Eq.refl _)⟩
      rw [hw1.out] at HH1 HO1 ⊢
      have c72 := HH1.out.cell 72
      rw [hcells_rest] at c72
      clear c73 f73 hw1 HH HO hwm hww
      have hbig : ¬ 9223372036854775807 < r.size + s.size := by omega
      go_upto_region 11 with (fail)
      obtain ⟨S0, HS0⟩ : ∃ S, Hid (r ++ s = S) := ⟨_, Lib.hid (Eq.refl _)⟩
      rw [HS0.out]
      have hT0 : S0.data.toList = t := by rw [← HS0.out, app_list, Ht.out]
      have hT0s : t.length ≤ 20000 := by
        rw [← Ht.out, List.length_append]
        have e1 : r.data.toList.length = r.size := by simp
        have e2 : s.data.toList.length = s.size := by simp
        omega
      have HT0 := Lib.hid hT0
      clear hT0 c72 hbig
      go_loopw [1] (fun s_ wr => ∃ (k : Nat) (S : ByteArray), s_ = .string S ∧ 64 * k ≤ t.length ∧ Hid (S.data.toList = t.drop (64 * k)) ∧ Hid (Blk wr H 55 (hcells (runG K t k) r m true)) ∧ Hid (Onl H w wr)) (fun s_ _ => match s_ with | .string S => S.size | _ => 0)
      case atStart => exact ⟨0, S0, rfl, by omega, by show _ = _; rw [HT0.out]; rfl, by show Blk _ _ _ _; rw [runG]; exact HH1.out, HO1⟩
      case round =>
        clear HH1 HO1 HT0 HS0
        obtain ⟨k, S, rfl, hk, HS, HHr, HOr⟩ := hrel
        have hSs : S.size = t.length - 64 * k := by
          have e : S.data.toList.length = (t.drop (64 * k)).length := by rw [HS.out]
          rw [List.length_drop] at e
          simpa using e
        obtain ⟨P, HP⟩ : ∃ P, Hid (S.size = P) := ⟨_, Lib.hid (Eq.refl _)⟩
        by_cases h64 : 64 ≤ P
        · have hge : 64 ≤ S.size := by rw [HP.out]; exact h64
          have hgeI : (64 : Int) ≤ (S.size : Int) := by omega
          have hgeI2 : ¬ ((S.size : Int) < 64) := by omega
          have hsb : S.size ≤ 20000 := by omega
          have hx : (S.extract 0 64).size = 64 := by rw [ByteArray.size_extract]; omega
          have hxl : (S.extract 0 64).data.toList = (t.drop (64 * k)).take 64 := by rw [toList_ext, HS.out]; rfl
          have CB := fun W hB => block_any H (runG K t k) (runG_lt K t Hf.out k) r m true (S.extract 0 64) hx W hB
          rw [hxl, ← runG_succ] at CB
          have HCB := Lib.hid CB
          have hnx : (S.extract 64 S.size).data.toList = t.drop (64 * (k + 1)) := by
            rw [toList_ext, List.take_of_length_le (by simp), HS.out, List.drop_drop]
            congr 1
          have hns : (S.extract 64 S.size).size < P := by rw [ByteArray.size_extract, HP.out]; omega
          have hk1 : 64 * (k + 1) ≤ t.length := by rw [HP.out] at hSs; omega
          have HNx := Lib.hid hnx
          have HNs := Lib.hid hns
          have HSs := Lib.hid hSs
          have HPs := HP
          clear hx hxl CB hnx hns hSs hk
          go_wp2_with fail
          refine (HCB.out _ HHr.out).mono ?_
          rintro e w2 ⟨rfl, hB2, hO2⟩
          have HH2 := Lib.hid hB2
          have HO2 := Lib.hid (HOr.out.trans hO2)
          clear hB2 hO2 HHr HOr HCB
          go_wp2_with fail
          go_roundw
          case rel => exact ⟨k + 1, S.extract 64 S.size, rfl, hk1, HNx, HH2, HO2⟩
          case measure =>
            show (S.extract 64 S.size).size < S.size
            exact Nat.lt_of_lt_of_eq HNs.out HP.out.symm
        · have hlt : ¬ 64 ≤ S.size := by rw [HP.out]; exact h64
          have hltI : (S.size : Int) < 64 := by omega
          have hdd : decide ((64 : Int) ≤ (S.size : Int)) = false := by rw [decide_eq_false_iff_not]; omega
          have hkk : t.length / 64 = k := by omega
          have HK := Lib.hid hkk
          have f72 := HHr.out.frozen 72
          have c72 := HHr.out.cell 72
          rw [hcells_rest] at c72
          have hs2 := HHr.out.set_ 72 (.string S)
          rw [hcells_setr] at hs2
          have HH2 := Lib.hid hs2
          clear hkk hs2 hlt h64 hSs HP hk
          go_wp2_with fail
          (try simp only [Exit.inBlock, Exit.then])
          refine bodyPost_end (results_none rfl _ _ _) rfl ?_
          refine ⟨rfl, HOr.out.set_ 72 _, S, ?_, ?_⟩
          · rw [HK.out]; exact HS.out
          · rw [HK.out, show s.size = m by rw [HM.out, ← hn0.out]; omega]; exact HH2.out

theorem write_new (H : Nat) (s : ByteArray) (hs : s.size ≤ 10000) (w : World) (hB : Blk w H 55 (hcells (fun _ => 0) ⟨#[]⟩ 0 false)) :
    Calls Try.prog 36 #[.pointer (some ⟨H, 0, none⟩), .string s] w (endR w H shaK s.data.toList s.size) :=
  write_new_gen H s hs (prSt 310) rfl shaK shaK_lt (fun j hj => by unfold shaK pr64; rw [if_pos hj]) (fun j hj => by
    unfold shaK pr64
    rw [if_neg (by omega)]
    have e : 8 + j - 8 = j := by omega
    rw [e]) w hB
end Go.Proofs.Ytbccljpbnbobmaa
