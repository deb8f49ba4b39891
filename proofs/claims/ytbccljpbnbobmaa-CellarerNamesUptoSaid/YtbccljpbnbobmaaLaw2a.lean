/- DigestParts: the walk. Conditions: none. -/
import Derived.Test.YtbccljpbnbobmaaShaN
import Derived.Test.YtbccljpbnbobmaaFew
import Derived.Test.YtbccljpbnbobmaaSRow
namespace Go.Proofs.Ytbccljpbnbobmaa
open Go.RowKit
set_option maxRecDepth 100000

/-- Truths behind a. -/
def TRow (w : World) (a : Option Addr) (n : Nat) (m : Nat → Bool) : Prop := n = 0 ∨ ∃ b off, a = some ⟨b, off, none⟩ ∧ b < w.heap.size ∧ ∀ i, i < n → w.cell? ⟨b, off + i, none⟩ = some (.bool (m i))
theorem trow_of {w : World} {x : Addr} {len cap : Nat} {B : Nat → Bool} (hl : len ≤ cap) (hcell : ∀ i, i < cap → w.cell? (x.add i) = some (.bool (B i))) : TRow w (some x) len B := by
  by_cases h0 : len = 0
  · exact .inl h0
  · obtain ⟨b, off, spot⟩ := x
    have hc := hcell 0 (by omega)
    have hspot : spot = none := by simpa [Addr.add] using World.cell?_spot hc
    subst hspot
    refine .inr ⟨b, off, rfl, World.block_lt_of_cell? _ _ hc, fun i hi => ?_⟩
    have h := hcell i (by omega)
    by_cases hi0 : i = 0
    · subst hi0; simpa [Addr.add] using h
    · simpa [Addr.add, hi0] using h
def allT (m : Nat → ByteArray) : Nat → List UInt8
  | 0 => []
  | k + 1 => allT m k ++ (few (m k) 200).data.toList
theorem allT_succ (m : Nat → ByteArray) (k : Nat) : allT m (k + 1) = allT m k ++ (few (m k) 200).data.toList := by rw [allT]
theorem few200 (s : ByteArray) : (few s 200).size ≤ 200 := by
  unfold few
  split
  · rw [ByteArray.size_extract]; omega
  · omega
theorem allT_len (m : Nat → ByteArray) (k : Nat) : (allT m k).length ≤ 200 * k := by
  induction k with
  | zero => exact Nat.le_refl _
  | succ k ih =>
    rw [allT_succ, List.length_append]
    have e : (few (m k) 200).data.toList.length = (few (m k) 200).size := by simp
    have := few200 (m k)
    omega
theorem str_eta (S : ByteArray) (l : List UInt8) (h : S.data.toList = l) : S = ⟨l.toArray⟩ := by
  subst h
  simp

set_option maxHeartbeats 8000000 in
theorem digestParts_any (a : Option Addr) (len cap : Nat) (m : Nat → ByteArray) (hl : len ≤ 9223372036854775807) (ab : Option Addr) (lenb capb : Nat) (mb : Nat → Bool) (_hlb : lenb ≤ 9223372036854775807) (w : World) (hr : SRow w a len m) (hrb : TRow w ab lenb mb) :
    Calls Try.prog 11 #[.slice a len cap, .slice ab lenb capb] w fun e w' => e = .returned (.bool true) ∧ Below w.heap.size w w' := by
  have hz := zero_hash
  have hs1 := HSt.new w
  have hb1 := (Below.refl w.heap.size w).alloc (Nat.le_refl _) (.cells (hcells (fun _ => 0) ⟨#[]⟩ 0 false) 55)
  have hs2 := HSt.new (w.alloc (.cells (hcells (fun _ => 0) ⟨#[]⟩ 0 false) 55))
  have hb2 := hb1.alloc (by simp) (.cells (hcells (fun _ => 0) ⟨#[]⟩ 0 false) 55)
  have hs1' := hs1.below ((Below.refl (w.alloc (.cells (hcells (fun _ => 0) ⟨#[]⟩ 0 false) 55)).heap.size (w.alloc (.cells (hcells (fun _ => 0) ⟨#[]⟩ 0 false) 55))).alloc (Nat.le_refl _) (.cells (hcells (fun _ => 0) ⟨#[]⟩ 0 false) 55)) hs1.lt
  have hsz : (w.alloc (.cells (hcells (fun _ => 0) ⟨#[]⟩ 0 false) 55)).heap.size = w.heap.size + 1 := by simp
  rw [hsz] at hs2
  have Hr := Lib.hid hr
  have Hrb := Lib.hid hrb
  obtain ⟨w0, Hw0⟩ : ∃ W, Hid ((w.alloc (.cells (hcells (fun _ => 0) ⟨#[]⟩ 0 false) 55)).alloc (.cells (hcells (fun _ => 0) ⟨#[]⟩ 0 false) 55) = W) := ⟨_, Lib.hid (Eq.refl _)⟩
  have HS1 : Hid (HSt w0 w.heap.size []) := by rw [← Hw0.out]; exact hs1'
  have HS2 : Hid (HSt w0 (w.heap.size + 1) []) := by rw [← Hw0.out]; exact hs2
  have HB0 : Hid (Below w.heap.size w w0) := by rw [← Hw0.out]; exact hb2
  have Hsz := Lib.hid hsz
  clear hs1 hs2 hs1' hb1 hb2 hr hrb hsz
  obtain ⟨A0, HA0⟩ : ∃ q, Hid (w.heap.size = q) := ⟨_, Lib.hid (Eq.refl _)⟩
  obtain ⟨B0, HBB0⟩ : ∃ q, Hid (A0 + 1 = q) := ⟨_, Lib.hid (Eq.refl _)⟩
  have hAB : A0 ≠ B0 := by have := HBB0.out; omega
  have HwA : Hid (w.heap.size ≤ A0) := Nat.le_of_eq HA0.out
  have HwB : Hid (w.heap.size ≤ B0) := by show _ ≤ _; have := HBB0.out; have := HA0.out; omega
  rw [HA0.out] at HS1 HS2 Hsz
  rw [HBB0.out] at HS2 Hsz
  go_enter Try.func11, Try.ntmps11
  go_upto_region 2 with (fail)
  try rw [Hsz.out]
  try rw [Hw0.out]
  try rw [HA0.out]
  try rw [HBB0.out]
  clear hz Hw0 Hsz HBB0 HA0
  go_upto_region 4 with (fail)
  go_loopw [7, 8] (fun s_ i_ wr => ∃ (i : Nat) (S : ByteArray), i ≤ 20 ∧ i ≤ len ∧ i_ = .int .i64 (i : Int) ∧ s_ = .string S ∧ Hid (S.data.toList = allT m i) ∧ Hid (HSt wr A0 (allT m i)) ∧ Hid (HSt wr B0 (allT m i)) ∧ Hid (Below w.heap.size w wr)) (fun _ i _ => 20 - (intOf i).toNat)
  case atStart => exact ⟨0, ⟨#[]⟩, by omega, by omega, rfl, rfl, rfl, HS1, HS2, HB0⟩
  case round =>
    clear HS1 HS2 HB0
    obtain ⟨i, S, hi, hil, rfl, rfl, HS, HS1, HS2, HB⟩ := hrel
    have hSs : S.size ≤ 4000 := by
      have e : S.data.toList.length = S.size := by simp
      have := allT_len m i
      rw [HS.out] at e
      omega
    by_cases hlt : i < len ∧ i < 20
    · obtain ⟨hlt1, hlt2⟩ := hlt
      have d1 : decide ((i : Int) < (len : Int)) = true := by rw [decide_eq_true_eq]; omega
      have d1n : decide (i < len) = true := by rw [decide_eq_true_eq]; omega
      have d2 : decide ((i : Int) < 20) = true := by rw [decide_eq_true_eq]; omega
      obtain ⟨b, off, rfl, hb, hcell, hms⟩ := Hr.out.get i hlt1
      have hc := (HB.out.cell (p := ⟨b, off + i, none⟩) hb).trans hcell
      have CF := Lib.hid (fun W => few_any (m i) 200 (by decide) hms W)
      have hf := few200 (m i)
      have hfl : (few (m i) 200).data.toList.length = (few (m i) 200).size := by simp
      have hAl := allT_len m i
      have Hsu := Lib.hid (allT_succ m i)
      obtain ⟨x, Hx⟩ : ∃ x, Hid (few (m i) 200 = x) := ⟨_, Lib.hid (Eq.refl _)⟩
      rw [Hx.out] at CF hf hfl Hsu
      have CW := Lib.hid (fun H W hH => hst_write H (allT m i) (by omega) x (by omega) W hH)
      have hnb : ¬ 9223372036854775807 < S.size + x.size := by omega
      have Hfl := Lib.hid hfl
      have hii : (i : Int) < 9223372036854775807 := by omega
      clear hfl hcell hms
      go_wp2_with fail
      refine (CF.out _).mono ?_
      rintro e w1 ⟨rfl, rfl⟩
      go_wp2_with fail
      refine (CW.out _ _ HS1.out).mono ?_
      rintro e w1 ⟨rfl, hs1, ho1⟩
      have HT1 := Lib.hid hs1
      have HT2 := Lib.hid (HS2.out.same (ho1.2.2.2.2 B0 HS2.out.lt (fun e => hAB e.symm)))
      have HBa := Lib.hid (ho1.old HB.out HB.out.size HwA.out)
      clear hs1 ho1 HS1 HS2 hc CF
      go_wp2_with fail
      refine (CW.out _ _ HT2.out).mono ?_
      rintro e w2 ⟨rfl, hs2, ho2⟩
      have HU2 := Lib.hid hs2
      have HU1 := Lib.hid (HT1.out.same (ho2.2.2.2.2 A0 HT1.out.lt hAB))
      have HBb := Lib.hid (ho2.old HBa.out HBa.out.size HwB.out)
      rw [← Hsu.out] at HU1 HU2
      clear hs2 ho2 HT1 HT2 HBa HB CW
      have hSx : (S ++ x).data.toList = allT m (i + 1) := by rw [app_list, HS.out, Hsu.out]
      have hAl2 := allT_len m (i + 1)
      have hSxs : (S ++ x).size ≤ 9000 := by
        have e : (S ++ x).data.toList.length = (S ++ x).size := by simp
        rw [hSx] at e
        omega
      have CS := Lib.hid (fun W => sum_any (S ++ x) hSxs W)
      have CA := Lib.hid (fun W hH => hst_sum A0 (allT m (i + 1)) (by omega) W hH)
      rw [hSx] at CS
      have HSx := Lib.hid hSx
      obtain ⟨Z, HZ⟩ : ∃ Z : ByteArray, Hid (⟨(shaL (allT m (i + 1))).toArray⟩ = Z) := ⟨_, Lib.hid (Eq.refl _)⟩
      rw [HZ.out] at CS CA
      clear hSx hAl2 hSxs hAl
      by_cases hlb2 : i < lenb
      · rcases Hrb.out with h0 | ⟨bb, offb, rfl, hbb, hcb⟩
        · omega
        have hcb2 := (HBb.out.cell (p := ⟨bb, offb + i, none⟩) hbb).trans (hcb i hlb2)
        have d3 : decide ((i : Int) < (lenb : Int)) = true := by rw [decide_eq_true_eq]; omega
        have d3n : decide (i < lenb) = true := by rw [decide_eq_true_eq]; omega
        cases hm : mb i with
        | true =>
          rw [hm] at hcb2
          clear hcb hm
          go_wp2_with fail
          refine (CA.out _ HU1.out).mono ?_
          rintro e w3 ⟨rfl, hb3⟩
          have HV1 := Lib.hid (HU1.out.below hb3 HU1.out.lt)
          have HV2 := Lib.hid (HU2.out.below hb3 HU2.out.lt)
          have HBc := Lib.hid (bthen HBb.out hb3)
          clear hb3 HU1 HU2 HBb hcb2
          go_wp2_with fail
          refine (CS.out _).mono ?_
          rintro e w4 ⟨rfl, hb4⟩
          have HX1 := Lib.hid (HV1.out.below hb4 HV1.out.lt)
          have HX2 := Lib.hid (HV2.out.below hb4 HV2.out.lt)
          have HBd := Lib.hid (bthen HBc.out hb4)
          clear hb4 HV1 HV2 HBc
          go_wp2_with fail
          go_roundw
          case rel => exact ⟨i + 1, S ++ x, by omega, by omega, by go_num, rfl, HSx, HX1, HX2, HBd⟩
          case measure => simp [intOf]; omega
        | false =>
          rw [hm] at hcb2
          clear hcb hm
          go_wp2_with fail
          go_roundw
          case rel => exact ⟨i + 1, S ++ x, by omega, by omega, by go_num, rfl, HSx, HU1, HU2, HBb⟩
          case measure => simp [intOf]; omega
      · have d3 : decide ((i : Int) < (lenb : Int)) = false := by rw [decide_eq_false_iff_not]; omega
        have d3n : decide (i < lenb) = false := by rw [decide_eq_false_iff_not]; omega
        go_wp2_with fail
        go_roundw
        case rel => exact ⟨i + 1, S ++ x, by omega, by omega, by go_num, rfl, HSx, HU1, HU2, HBb⟩
        case measure => simp [intOf]; omega
    · have HE : Hid ((decide (i < len) = true ∧ decide ((i : Int) < (len : Int)) = true ∧ decide ((i : Int) < 20) = false ∧ decide (i < 20) = false) ∨ (decide (i < len) = false ∧ decide ((i : Int) < (len : Int)) = false)) := by
        show _ ∨ _
        rcases Nat.lt_or_ge i len with h | h
        · left
          rw [decide_eq_true_eq, decide_eq_true_eq, decide_eq_false_iff_not, decide_eq_false_iff_not]
          omega
        · right
          rw [decide_eq_false_iff_not, decide_eq_false_iff_not]
          omega
      have CS := Lib.hid (fun W => sum_any S (by omega) W)
      have hAl := allT_len m i
      have CA := Lib.hid (fun H W hH => hst_sum H (allT m i) (by omega) W hH)
      have CS2 : Hid (∀ W, Calls Try.prog 34 #[.string S] W fun e w' => e = .returned (.string ⟨(shaL (allT m i)).toArray⟩) ∧ Below W.heap.size W w') := by rw [← HS.out]; exact CS
      have CAw := Lib.hid awake2_any
      obtain ⟨Z, HZ⟩ : ∃ Z : ByteArray, Hid (⟨(shaL (allT m i)).toArray⟩ = Z) := ⟨_, Lib.hid (Eq.refl _)⟩
      rw [HZ.out] at CS2 CA
      clear CS hAl hlt
      rcases HE.out with ⟨d0, d1, d2, d2n⟩ | ⟨d0, d1⟩
      all_goals
        clear HE
        go_wp2_with fail
        refine (CAw.out _).mono ?_
        rintro e w1 ⟨rfl, hb1⟩
        have HT1 := Lib.hid (HS1.out.below hb1 HS1.out.lt)
        have HT2 := Lib.hid (HS2.out.below hb1 HS2.out.lt)
        have HBa := Lib.hid (bthen HB.out hb1)
        clear hb1 HS1 HS2 HB d0 d1
        (try clear d2 d2n)
        go_wp2_with fail
        refine (CA.out _ _ HT1.out).mono ?_
        rintro e w2 ⟨rfl, hb2⟩
        replace HT1 := Lib.hid (HT1.out.below hb2 HT1.out.lt)
        replace HT2 := Lib.hid (HT2.out.below hb2 HT2.out.lt)
        replace HBa := Lib.hid (bthen HBa.out hb2)
        clear hb2
        go_wp2_with fail
        refine (CS2.out _).mono ?_
        rintro e w2 ⟨rfl, hb2⟩
        replace HT1 := Lib.hid (HT1.out.below hb2 HT1.out.lt)
        replace HT2 := Lib.hid (HT2.out.below hb2 HT2.out.lt)
        replace HBa := Lib.hid (bthen HBa.out hb2)
        clear hb2
        go_wp2_with fail
        refine (CA.out _ _ HT2.out).mono ?_
        rintro e w2 ⟨rfl, hb2⟩
        replace HT1 := Lib.hid (HT1.out.below hb2 HT1.out.lt)
        replace HT2 := Lib.hid (HT2.out.below hb2 HT2.out.lt)
        replace HBa := Lib.hid (bthen HBa.out hb2)
        clear hb2
        go_wp2_with fail
        refine (CS2.out _).mono ?_
        rintro e w2 ⟨rfl, hb2⟩
        replace HT1 := Lib.hid (HT1.out.below hb2 HT1.out.lt)
        replace HT2 := Lib.hid (HT2.out.below hb2 HT2.out.lt)
        replace HBa := Lib.hid (bthen HBa.out hb2)
        clear hb2
        go_wp2_with fail
        refine (CA.out _ _ HT1.out).mono ?_
        rintro e w2 ⟨rfl, hb2⟩
        replace HT1 := Lib.hid (HT1.out.below hb2 HT1.out.lt)
        replace HT2 := Lib.hid (HT2.out.below hb2 HT2.out.lt)
        replace HBa := Lib.hid (bthen HBa.out hb2)
        clear hb2
        go_wp2_with fail
        refine (CA.out _ _ HT2.out).mono ?_
        rintro e w2 ⟨rfl, hb2⟩
        replace HT1 := Lib.hid (HT1.out.below hb2 HT1.out.lt)
        replace HT2 := Lib.hid (HT2.out.below hb2 HT2.out.lt)
        replace HBa := Lib.hid (bthen HBa.out hb2)
        clear hb2
        go_wp2_with fail
        go_ret
        exact ⟨rfl, HBa.out⟩
end Go.Proofs.Ytbccljpbnbobmaa
