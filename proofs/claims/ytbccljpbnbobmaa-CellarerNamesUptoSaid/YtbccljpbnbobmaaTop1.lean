/- CellarerNames: the walk. Printed by gen_top1.py. Conditions: none. -/
import Derived.Test.YtbccljpbnbobmaaShaN
import Derived.Test.YtbccljpbnbobmaaLaw2a
import Derived.Test.YtbccljpbnbobmaaLaw1e
import Derived.Test.YtbccljpbnbobmaaLaw1d
import Derived.Test.YtbccljpbnbobmaaAwake1
import Derived.Test.YtbccljpbnbobmaaUnvar
import Derived.Deep.RegionHeld3
namespace Go.Proofs.Ytbccljpbnbobmaa
open Go.RowKit
set_option maxRecDepth 100000

def fewT (m : Nat → ByteArray) (i : Nat) : List UInt8 := (few (m i) 200).data.toList
def recT (l : List UInt8) : List UInt8 := varL l.length ++ l ++ shaL l ++ putL (crcOf 0 l) 4
def tailT (m : Nat → ByteArray) : Nat → Nat → List UInt8
  | _, 0 => []
  | j, k + 1 => recT (fewT m j) ++ tailT m (j + 1) k
theorem tailT_succ (m : Nat → ByteArray) (j k : Nat) : tailT m j (k + 1) = recT (fewT m j) ++ tailT m (j + 1) k := by rw [tailT]
theorem tailT_snoc (m : Nat → ByteArray) (k : Nat) : ∀ j, tailT m j (k + 1) = tailT m j k ++ recT (fewT m (j + k)) := by
  induction k with
  | zero => intro j; rw [tailT_succ, tailT, tailT]; simp
  | succ k ih =>
    intro j
    rw [tailT_succ, ih (j + 1), tailT_succ m j k, List.append_assoc]
    have e : j + 1 + k = j + (k + 1) := by omega
    rw [e]
theorem fewT_len (m : Nat → ByteArray) (i : Nat) : (fewT m i).length ≤ 200 := by
  have e : (fewT m i).length = (few (m i) 200).size := by simp [fewT]
  have := few200 (m i)
  omega
theorem recT_len (l : List UInt8) (h : l.length ≤ 200) : (recT l).length ≤ 246 ∧ (recT l).length = (varL l.length).length + l.length + 36 := by
  unfold recT
  have h1 := varL_ten l.length (by omega)
  rw [List.length_append, List.length_append, List.length_append, shaL_len, putL_length]
  omega
theorem tailT_len (m : Nat → ByteArray) (k : Nat) : ∀ j, (tailT m j k).length ≤ 246 * k := by
  induction k with
  | zero => intro j; rw [tailT]; exact Nat.le_refl _
  | succ k ih =>
    intro j
    rw [tailT_succ, List.length_append]
    have := (recT_len (fewT m j) (fewT_len m j)).1
    have := ih (j + 1)
    omega
theorem crcOf_lt (l : List UInt8) : crcOf 0 l < 4294967296 := by
  unfold crcOf
  omega
theorem is_name (l : List UInt8) (hl : l.length = 32) (w : World) : Calls Try.prog 35 #[.string ⟨(hexL l).toArray⟩] w fun e w' => e = .returned (.bool true) ∧ Below w.heap.size w w' := by
  have hs : (⟨(hexL l).toArray⟩ : ByteArray).size = 64 := by
    have e : (⟨(hexL l).toArray⟩ : ByteArray).size = (hexL l).length := rfl
    rw [e, hexL_length, hl]
  have C := unhex_some ⟨(hexL l).toArray⟩ l (rest_hex l) (by omega) w
  obtain ⟨NM, HNM⟩ : ∃ z : ByteArray, Hid (⟨(hexL l).toArray⟩ = z) := ⟨_, Lib.hid (Eq.refl _)⟩
  rw [HNM.out] at C hs ⊢
  have HC := Lib.hid C
  have hsI : (NM.size : Int) = 64 := by omega
  clear C
  go_enter Try.func35, Try.ntmps35
  go_wp2_with fail
  refine HC.out.mono ?_
  rintro e w1 ⟨rfl, hb1⟩
  have HB1 := Lib.hid hb1
  clear hb1 HC
  go_wp2_with fail
  go_ret
  exact ⟨rfl, HB1.out⟩
theorem ba_list {T U : ByteArray} (h : T.data.toList = U.data.toList) : T = U := by rw [ba_eq h]

set_option maxHeartbeats 16000000 in
theorem cellarerNames_any (a : Option Addr) (len cap : Nat) (m : Nat → ByteArray) (hl : len ≤ 9223372036854775807) (w : World) (hr : SRow w a len m) :
    Calls Try.prog 10 #[.slice a len cap] w fun e w' => e = .returned (.bool true) ∧ Below w.heap.size w w' := by
  have Hr := Lib.hid hr
  have CA := Lib.hid (name_abc w)
  have h3 := var_any 300 (by decide)
  rw [var_300] at h3
  have CV := Lib.hid h3
  clear hr h3
  go_enter Try.func10, Try.ntmps10
  go_wp2_with fail
  refine CA.out.mono ?_
  rintro e w1 ⟨rfl, hb1⟩
  have HB1 := Lib.hid hb1
  clear hb1 CA
  go_wp2_with fail
  refine (CV.out _).mono ?_
  rintro e w2 ⟨rfl, hb2⟩
  have HB2 := Lib.hid (bthen HB1.out hb2)
  clear hb2 CV HB1
  go_upto_region 5 with (fail)
  go_loopw [3, 4] (fun s_ i_ wr => ∃ (i : Nat) (S : ByteArray), i ≤ 12 ∧ i ≤ len ∧ i_ = .int .i64 (i : Int) ∧ s_ = .string S ∧ Hid (S.data.toList = tailT m 0 i) ∧ Hid (Below w.heap.size w wr)) (fun _ i _ => 12 - (intOf i).toNat)
  case atStart => exact ⟨0, ⟨#[]⟩, by omega, by omega, rfl, rfl, by show _ = _; rw [tailT], HB2⟩
  case round =>
    clear HB2
    obtain ⟨i, S, hi, hil, rfl, rfl, HS, HB⟩ := hrel
    have hSs : S.size ≤ 3000 := by
      have e : S.data.toList.length = S.size := by simp
      have := tailT_len m i 0
      rw [HS.out] at e
      omega
    by_cases hlt : i < len ∧ i < 12
    · obtain ⟨hlt1, hlt2⟩ := hlt
      have d1 : decide ((i : Int) < (len : Int)) = true := by rw [decide_eq_true_eq]; omega
      have d1n : decide (i < len) = true := by rw [decide_eq_true_eq]; omega
      have d2 : decide ((i : Int) < 12) = true := by rw [decide_eq_true_eq]; omega
      obtain ⟨b, off, rfl, hb, hcell, hms⟩ := Hr.out.get i hlt1
      have hc := (HB.out.cell (p := ⟨b, off + i, none⟩) hb).trans hcell
      have CF := Lib.hid (fun W => few_any (m i) 200 (by decide) hms W)
      have hf := few200 (m i)
      have Hsu : Hid (tailT m 0 (i + 1) = tailT m 0 i ++ recT (fewT m i)) := by show _ = _; rw [tailT_snoc, Nat.zero_add]
      obtain ⟨F, HF⟩ : ∃ x, Hid (few (m i) 200 = x) := ⟨_, Lib.hid (Eq.refl _)⟩
      have HFT : Hid (fewT m i = F.data.toList) := by show _ = _; rw [← HF.out]; rfl
      rw [HF.out] at CF hf
      rw [HFT.out] at Hsu
      obtain ⟨FL, HFL⟩ : ∃ l, Hid (F.data.toList = l) := ⟨_, Lib.hid (Eq.refl _)⟩
      have hFl : FL.length = F.size := by rw [← HFL.out]; simp
      have CN := fun W => name_any F (by omega) W
      have CS := fun W => sum_any F (by omega) W
      have CC := fun W => crc32_any F W (by unfold maxLen; omega)
      rw [HFL.out] at CN CS CC Hsu
      have hsl := shaL_len FL
      have CU := fun W => unhex_some ⟨(hexL (shaL FL)).toArray⟩ (shaL FL) (rest_hex _) (by
        have e : (⟨(hexL (shaL FL)).toArray⟩ : ByteArray).size = (hexL (shaL FL)).length := rfl
        rw [e, hexL_length, hsl]; decide) W
      have CI := fun W => is_name (shaL FL) hsl W
      have CVr := fun W => var_any F.size (by omega) W
      have CP := fun W => put_nat (crcOf 0 FL) 4 (by have := crcOf_lt FL; omega) (by decide) W
      have hcl := crcOf_lt FL
      have hvl := varL_ten F.size (by omega)
      have hrec : recT FL = varL F.size ++ FL ++ shaL FL ++ putL (crcOf 0 FL) 4 := by unfold recT; rw [hFl]
      obtain ⟨R, HR⟩ : ∃ z : ByteArray, Hid (⟨(shaL FL).toArray⟩ = z) := ⟨_, Lib.hid (Eq.refl _)⟩
      obtain ⟨NMx, HN⟩ : ∃ z : ByteArray, Hid (⟨(hexL (shaL FL)).toArray⟩ = z) := ⟨_, Lib.hid (Eq.refl _)⟩
      obtain ⟨V, HV⟩ : ∃ z : ByteArray, Hid (⟨(varL F.size).toArray⟩ = z) := ⟨_, Lib.hid (Eq.refl _)⟩
      obtain ⟨P, HP⟩ : ∃ z : ByteArray, Hid (⟨(putL (crcOf 0 FL) 4).toArray⟩ = z) := ⟨_, Lib.hid (Eq.refl _)⟩
      have hRs : R.size = 32 := by rw [← HR.out]; exact hsl
      have hVs : V.size ≤ 10 := by rw [← HV.out]; exact hvl
      have hPs : P.size = 4 := by rw [← HP.out]; exact putL_length _ _
      have hRl : R.data.toList = shaL FL := by rw [← HR.out]
      have hVl : V.data.toList = varL F.size := by rw [← HV.out]
      have hPl : P.data.toList = putL (crcOf 0 FL) 4 := by rw [← HP.out]
      have hNew : (S ++ (V ++ F ++ R ++ P)).data.toList = tailT m 0 (i + 1) := by
        rw [app_list, app_list, app_list, app_list, hRl, hVl, hPl, HS.out, HFL.out, Hsu.out, hrec]
      rw [HN.out] at CN CU CI
      rw [HR.out] at CS CU
      rw [HV.out] at CVr
      rw [HP.out] at CP
      obtain ⟨c, Hc⟩ : ∃ c, Hid (crcOf 0 FL = c) := ⟨_, Lib.hid (Eq.refl _)⟩
      rw [Hc.out] at CC CP hcl
      have K1 := Lib.hid CN
      have K2 := Lib.hid CU
      have K3 := Lib.hid CS
      have K4 := Lib.hid CI
      have K5 := Lib.hid CVr
      have K6 := Lib.hid CC
      have K7 := Lib.hid CP
      have HNew := Lib.hid hNew
      have n1 : ¬ 9223372036854775807 < V.size + F.size := by omega
      have n2 : ¬ 9223372036854775807 < (V ++ F).size + R.size := by rw [ByteArray.size_append]; omega
      have n3 : ¬ 9223372036854775807 < (V ++ F ++ R).size + P.size := by rw [ByteArray.size_append, ByteArray.size_append]; omega
      have n4 : ¬ 9223372036854775807 < S.size + (V ++ F ++ R ++ P).size := by rw [ByteArray.size_append, ByteArray.size_append, ByteArray.size_append]; omega
      have n2' : ¬ 9223372036854775807 < V.size + F.size + R.size := by omega
      have n3' : ¬ 9223372036854775807 < V.size + F.size + R.size + P.size := by omega
      have n4' : ¬ 9223372036854775807 < S.size + (V.size + F.size + R.size + P.size) := by omega
      have hFw : IntKind.u64.wrap (F.size : Int) = (F.size : Int) := by rw [IntKind.wrap_u64]; omega
      clear CN CU CS CI CVr CC CP hNew hRl hVl hPl hrec hRs hVs hPs hvl hsl hcell hms hFl
      go_wp2_with fail
      refine (CF.out _).mono ?_
      rintro e w3 ⟨rfl, rfl⟩
      go_wp2_with fail
      refine (K1.out _).mono ?_
      rintro e w3 ⟨rfl, hb3⟩
      replace HB := Lib.hid (bthen HB.out hb3)
      clear hb3
      go_wp2_with fail
      refine (K2.out _).mono ?_
      rintro e w3 ⟨rfl, hb3⟩
      replace HB := Lib.hid (bthen HB.out hb3)
      clear hb3
      go_wp2_with fail
      refine (K3.out _).mono ?_
      rintro e w3 ⟨rfl, hb3⟩
      replace HB := Lib.hid (bthen HB.out hb3)
      clear hb3
      go_wp2_with fail
      refine (K1.out _).mono ?_
      rintro e w3 ⟨rfl, hb3⟩
      replace HB := Lib.hid (bthen HB.out hb3)
      clear hb3
      go_wp2_with fail
      refine (K4.out _).mono ?_
      rintro e w3 ⟨rfl, hb3⟩
      replace HB := Lib.hid (bthen HB.out hb3)
      clear hb3
      go_wp2_with fail
      refine (K5.out _).mono ?_
      rintro e w3 ⟨rfl, hb3⟩
      replace HB := Lib.hid (bthen HB.out hb3)
      clear hb3
      go_wp2_with fail
      refine (K6.out _).mono ?_
      rintro e w3 ⟨rfl, hb3⟩
      replace HB := Lib.hid (bthen HB.out hb3)
      clear hb3
      go_wp2_with fail
      refine (K7.out _).mono ?_
      rintro e w3 ⟨rfl, hb3⟩
      replace HB := Lib.hid (bthen HB.out hb3)
      clear hb3
      go_wp2_with fail
      go_roundw
      case rel => exact ⟨i + 1, S ++ (V ++ F ++ R ++ P), by omega, by omega, by go_num, rfl, HNew, HB⟩
      case measure => simp [intOf]; omega
    · have HE : Hid ((decide (i < len) = true ∧ decide ((i : Int) < (len : Int)) = true ∧ decide ((i : Int) < 12) = false ∧ decide (i < 12) = false ∧ i = 12) ∨ (decide (i < len) = false ∧ decide ((i : Int) < (len : Int)) = false ∧ i = len)) := by
        show _ ∨ _
        rcases Nat.lt_or_ge i len with h | h
        · left
          rw [decide_eq_true_eq, decide_eq_true_eq, decide_eq_false_iff_not, decide_eq_false_iff_not]
          omega
        · right
          rw [decide_eq_false_iff_not, decide_eq_false_iff_not]
          omega
      have HN0 : Hid (∀ j, (j < len ∧ j < 12) ↔ j < i) := fun j => by
        rcases HE.out with ⟨_, _, _, _, h⟩ | ⟨_, _, h⟩ <;> omega
      have HN1 : Hid (i ≤ 12) := hi
      have HNl : Hid (i ≤ len) := hil
      have HW : ∀ (P : Prop), (((decide (i < len) = true ∧ decide ((i : Int) < (len : Int)) = true ∧ decide ((i : Int) < 12) = false ∧ decide (i < 12) = false)) → P) → ((decide (i < len) = false ∧ decide ((i : Int) < (len : Int)) = false) → P) → P := fun P h1 h2 => by
        rcases HE.out with ⟨a1, a2, a3, a4, _⟩ | ⟨a1, a2, _⟩
        · exact h1 ⟨a1, a2, a3, a4⟩
        · exact h2 ⟨a1, a2⟩
      obtain ⟨N, HNe⟩ : ∃ N, Hid (i = N) := ⟨_, Lib.hid (Eq.refl _)⟩
      have HSn : Hid (S.data.toList = tailT m 0 N) := by rw [← HNe.out]; exact HS
      rw [HNe.out] at HN0 HN1 HNl
      rcases HE.out with ⟨d0, d1, d2, d2n, -⟩ | ⟨d0, d1, -⟩
      all_goals
        clear HE HW hlt hi hil HS
        go_upto_region 13 with (fail)
        clear d0 d1
        (try clear d2 d2n)
        go_loopw [3, 8] (fun s_ j_ wr => ∃ (j k : Nat) (S : ByteArray), j + k ≤ 12 ∧ j_ = .int .i64 (j : Int) ∧ s_ = .string S ∧ Hid (j + k = N) ∧ Hid (S.data.toList = tailT m j k) ∧ Hid (Below w.heap.size w wr)) (fun _ j _ => 12 - (intOf j).toNat)
        case atStart => exact ⟨0, N, S, by have := HN1.out; omega, rfl, rfl, by show 0 + N = N; omega, HSn, HB⟩
        case round =>
          clear HSn HB
          obtain ⟨j, k, S, hjk, rfl, rfl, HJK, HS, HB⟩ := hrel
          have hSs : S.size ≤ 3000 := by
            have e : S.data.toList.length = S.size := by simp
            have := tailT_len m k j
            rw [HS.out] at e
            omega
          have hSl : S.data.toList.length = S.size := by simp
          rcases k with _ | k
          · have hjN : j = N := by have := HJK.out; omega
            have hS0 : S = ⟨#[]⟩ := by
              refine ba_list ?_
              rw [HS.out, tailT]
            have HE2 : Hid ((decide (j < len) = true ∧ decide ((j : Int) < (len : Int)) = true ∧ decide ((j : Int) < 12) = false ∧ decide (j < 12) = false) ∨ (decide (j < len) = false ∧ decide ((j : Int) < (len : Int)) = false)) := by
              have h := HN0.out j
              show _ ∨ _
              rcases Nat.lt_or_ge j len with h2 | h2
              · left
                rw [decide_eq_true_eq, decide_eq_true_eq, decide_eq_false_iff_not, decide_eq_false_iff_not]
                omega
              · right
                rw [decide_eq_false_iff_not, decide_eq_false_iff_not]
                omega
            subst hS0
            rcases HE2.out with ⟨d0, d1, d2, d2n⟩ | ⟨d0, d1⟩
            all_goals
              clear HE2 hjN HS hSs hSl hjk
              go_wp2_with fail
              go_ret
              exact ⟨rfl, HB.out⟩
          · have hj2 := (HN0.out j).2 (by have := HJK.out; omega)
            obtain ⟨hlt1, hlt2⟩ := hj2
            have d1 : decide ((j : Int) < (len : Int)) = true := by rw [decide_eq_true_eq]; omega
            have d1n : decide (j < len) = true := by rw [decide_eq_true_eq]; omega
            have d2 : decide ((j : Int) < 12) = true := by rw [decide_eq_true_eq]; omega
            have d2n : decide (j < 12) = true := by rw [decide_eq_true_eq]; omega
            obtain ⟨b, off, rfl, hb, hcell, hms⟩ := Hr.out.get j hlt1
            have hc := (HB.out.cell (p := ⟨b, off + j, none⟩) hb).trans hcell
            have CF := Lib.hid (fun W => few_any (m j) 200 (by decide) hms W)
            have hf := few200 (m j)
            obtain ⟨F, HF⟩ : ∃ x, Hid (few (m j) 200 = x) := ⟨_, Lib.hid (Eq.refl _)⟩
            have HFT : Hid (fewT m j = F.data.toList) := by show _ = _; rw [← HF.out]; rfl
            rw [HF.out] at CF hf
            have hSe : S.data.toList = recT F.data.toList ++ tailT m (j + 1) k := by rw [HS.out, tailT_succ, HFT.out]
            obtain ⟨FL, HFL⟩ : ∃ l, Hid (F.data.toList = l) := ⟨_, Lib.hid (Eq.refl _)⟩
            have hFl : FL.length = F.size := by rw [← HFL.out]; simp
            have CS := fun W => sum_any F (by omega) W
            have CC := fun W => crc32_any F W (by unfold maxLen; omega)
            rw [HFL.out] at CS CC hSe
            have hrec : recT FL = varL F.size ++ FL ++ shaL FL ++ putL (crcOf 0 FL) 4 := by unfold recT; rw [hFl]
            obtain ⟨TL, HTL⟩ : ∃ l, Hid (tailT m (j + 1) k = l) := ⟨_, Lib.hid (Eq.refl _)⟩
            rw [hrec, HTL.out] at hSe
            have hsl := shaL_len FL
            have hvl := varL_ten F.size (by omega)
            have hvp := varL_pos F.size
            have hpl := putL_length (crcOf 0 FL) 4
            have hcl := crcOf_lt FL
            have hget : getN ((putL (crcOf 0 FL) 4).take 8) = crcOf 0 FL := by
              rw [List.take_of_length_le (by omega), getN_putL]
              exact Nat.mod_eq_of_lt (by omega)
            have CUv : ∀ W, Calls Try.prog 25 #[.string S] W fun e w' => e = .returned (.tuple #[.int .u64 (F.size : Int), .int .i64 ((varL F.size).length : Int)]) ∧ Below W.heap.size W w' := fun W => by
              refine (unvar_any S W (by unfold maxLen; omega)).mono ?_
              intro e w' h
              obtain ⟨x, n, huv, he, hbl⟩ := h
              have h2 : UV S.data.toList F.size (varL F.size).length := by
                rw [hSe, List.append_assoc, List.append_assoc, List.append_assoc]
                exact UV.of_front F.size (by omega) _
              obtain ⟨h3, h4⟩ := huv.one h2
              subst h3
              subst h4
              exact ⟨he, hbl⟩
            obtain ⟨K, HK⟩ : ∃ q, Hid ((varL F.size).length = q) := ⟨_, Lib.hid (Eq.refl _)⟩
            have hKl := HK.out
            obtain ⟨E, hE⟩ : ∃ q, q = K + F.size := ⟨_, rfl⟩
            have hSsz : S.size = K + F.size + 36 + TL.length := by
              rw [← hSl, hSe, List.length_append, List.length_append, List.length_append, List.length_append, hKl, hFl, hsl, hpl]
            have x1 : S.extract K E = F := by
              refine ba_list ?_
              have hSe1 : S.data.toList = varL F.size ++ (FL ++ (shaL FL ++ (putL (crcOf 0 FL) 4 ++ TL))) := by rw [hSe]; simp only [List.append_assoc]
              rw [toList_ext, hSe1, HFL.out, List.drop_take, List.drop_left' hKl, List.take_left' (by rw [hFl, hE]; omega)]
            obtain ⟨S2, HS2⟩ : ∃ z, Hid (S.extract E S.size = z) := ⟨_, Lib.hid (Eq.refl _)⟩
            have x2 := HS2.out
            have hS2 : S2.data.toList = shaL FL ++ (putL (crcOf 0 FL) 4 ++ TL) := by
              rw [← x2, toList_ext, List.take_of_length_le (by rw [hSl]; exact Nat.le_refl _), hSe, hE, ← hKl, ← hFl, ← List.length_append, List.append_assoc, List.append_assoc, List.drop_left]
            have hS2s : S2.size = 36 + TL.length := by
              have e : S2.data.toList.length = S2.size := by simp
              rw [← e, hS2, List.length_append, List.length_append, hsl, hpl]
              omega
            obtain ⟨R, HR⟩ : ∃ z : ByteArray, Hid (⟨(shaL FL).toArray⟩ = z) := ⟨_, Lib.hid (Eq.refl _)⟩
            obtain ⟨P, HP⟩ : ∃ z : ByteArray, Hid (⟨(putL (crcOf 0 FL) 4).toArray⟩ = z) := ⟨_, Lib.hid (Eq.refl _)⟩
            have x3 : S2.extract 0 32 = R := by
              refine ba_list ?_
              rw [toList_ext, hS2, ← HR.out, ← hsl, List.take_left]
              rfl
            have x4 : S2.extract 32 36 = P := by
              refine ba_list ?_
              rw [toList_ext, hS2, ← HP.out, ← List.append_assoc, List.take_append_of_le_length (by rw [List.length_append, hsl, hpl]; omega), List.take_of_length_le (by rw [List.length_append, hsl, hpl]; omega), ← hsl, List.drop_left]
            obtain ⟨S3, HS3⟩ : ∃ z, Hid (S2.extract 36 S2.size = z) := ⟨_, Lib.hid (Eq.refl _)⟩
            have x5 := HS3.out
            have hS3 : S3.data.toList = tailT m (j + 1) k := by
              rw [← x5, toList_ext, List.take_of_length_le (by simp), hS2, HTL.out, ← List.append_assoc]
              have e : 36 = (shaL FL ++ putL (crcOf 0 FL) 4).length := by rw [List.length_append, hsl, hpl]
              rw [e, List.drop_left]
            have CG := fun W => get_any P W (by
              have e : P.size = (putL (crcOf 0 FL) 4).length := by rw [← HP.out]; rfl
              rw [e, hpl]; decide)
            have hPl : P.data.toList = putL (crcOf 0 FL) 4 := by rw [← HP.out]
            simp only [hPl, hget] at CG
            rw [HR.out] at CS
            obtain ⟨c, Hc⟩ : ∃ c, Hid (crcOf 0 FL = c) := ⟨_, Lib.hid (Eq.refl _)⟩
            rw [Hc.out] at CC CG hcl
            rw [hKl] at CUv hvl hvp
            have K1 := Lib.hid CUv
            have K2 := Lib.hid CS
            have K3 := Lib.hid CC
            have K4 := Lib.hid CG
            have HS3l := Lib.hid hS3
            have HE := Lib.hid hE
            have HSZ := Lib.hid hSsz
            have HS2Z := Lib.hid hS2s
            have t1 : (K : Int) + (F.size : Int) = (E : Int) := by omega
            have cw : IntKind.u64.wrap (c : Int) = (c : Int) := by rw [IntKind.wrap_u64]; omega
            have t2 : (K : Int) + (F.size : Int) + 36 ≤ (S.size : Int) := by omega
            have t2b : (E : Int) + 36 ≤ (S.size : Int) := by omega
            have t3 : ¬ ((K : Int) < 1) := by omega
            have t3b : (1 : Int) ≤ (K : Int) := by omega
            have t4 : ¬ ((200 : Int) < (F.size : Int)) := by omega
            have t4b : (F.size : Int) ≤ 200 := by omega
            have t5 : (K : Int) ≤ (E : Int) := by omega
            have t6 : (E : Int) ≤ (S.size : Int) := by omega
            have t7 : (36 : Int) ≤ (S2.size : Int) := by omega
            have t7b : (32 : Int) ≤ (S2.size : Int) := by omega
            have t8 : (E : Int) < 1000 ∧ (K : Int) < 100 := by omega
            have wE : IntKind.i64.wrap (E : Int) = (E : Int) := by rw [IntKind.wrap_i64]; omega
            have wF : IntKind.i64.wrap (F.size : Int) = (F.size : Int) := by rw [IntKind.wrap_i64]; omega
            have wE36 : IntKind.i64.wrap ((E : Int) + 36) = (E : Int) + 36 := by rw [IntKind.wrap_i64]; omega
            clear CUv CS CC CG hS3 hE hSsz hS2s hKl hrec hSe hS2 hget hPl hpl hvl hvp hsl hFl hSl hms hcell HS
            go_wp2_with fail
            refine (K1.out _).mono ?_
            rintro e w3 ⟨rfl, hb3⟩
            have hc3 := (hb3.cell (p := ⟨b, off + j, none⟩) (Nat.lt_of_lt_of_le hb HB.out.size)).trans hc
            replace HB := Lib.hid (bthen HB.out hb3)
            clear hb3 hc
            go_upto_region 20 with (fail)
            have H1 : w3.drew.cell? ⟨b, off + j, none⟩ = some (.string (m j)) := hc3
            have H2 : Below w.heap.size w w3.drew := HB.out.drew
            have H3 : b < w3.drew.heap.size := Nat.lt_of_lt_of_le (Nat.lt_of_lt_of_le hb (Nat.le_refl _)) HB.out.size
            go_region_held3 (fun W => W.cell? ⟨b, off + j, none⟩ = some (.string (m j)) ∧ Below w.heap.size w W ∧ b < W.heap.size) (first | assumption | exact ⟨by assumption, by assumption, by assumption⟩)
              (first
                | (go_at_call 34; refine (K2.out _).mono ?_; rintro e w4 ⟨rfl, hb4⟩; have G1 := (hb4.cell (p := ⟨b, off + j, none⟩) H3).trans H1; have G2 := H2.trans (hb4.mono H2.size); have G3 := Nat.lt_of_lt_of_le H3 hb4.size; clear hb4)
                | (go_at_call 15; refine (K3.out _).mono ?_; rintro e w5 ⟨rfl, hb5⟩; have J1 := (hb5.cell (p := ⟨b, off + j, none⟩) G3).trans G1; have J2 := G2.trans (hb5.mono G2.size); have J3 := Nat.lt_of_lt_of_le G3 hb5.size; clear hb5)
                | (go_at_call 22; refine (K4.out _).mono ?_; rintro e w6 ⟨rfl, rfl⟩)
                | (go_at_call 13; refine (CF.out _).mono ?_; rintro e w6 ⟨rfl, rfl⟩))
            all_goals
              go_wp2_with fail
              go_roundw
              case rel => exact ⟨j + 1, k, S3, by omega, by go_num, rfl, by show j + 1 + k = N; have := HJK.out; omega, HS3l, J2⟩
              case measure => simp [intOf]; omega
end Go.Proofs.Ytbccljpbnbobmaa
