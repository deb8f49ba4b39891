/- DigestSums: the walk. Conditions: texts that Go can hold. -/
import Derived.Test.YtbccljpbnbobmaaRef2m
import Derived.Test.YtbccljpbnbobmaaShaN
import Derived.Test.YtbccljpbnbobmaaRefHex
import Derived.Test.YtbccljpbnbobmaaFew
namespace Go.Proofs.Ytbccljpbnbobmaa
open Go.RowKit
set_option maxRecDepth 100000

theorem is_any (s : ByteArray) (hs : s.size ≤ 140737488351232) (w : World) : Calls Try.prog 35 #[.string s] w fun e w' => e = .returned (.bool ((rest 16 s.data.toList).isSome && decide (s.size = 64))) ∧ Below w.heap.size w w' := by
  have CU := Lib.hid (unhex_big s w hs)
  unfold UnhexPost at CU
  cases hr : rest 16 s.data.toList with
  | none =>
    rw [hr] at CU
    clear hr
    go_enter Try.func35, Try.ntmps35
    go_wp2_with fail
    refine CU.out.mono ?_
    rintro e w1 ⟨rfl, hb⟩
    have HB := Lib.hid hb
    clear hb CU
    go_wp2_with fail
    go_ret
    exact ⟨rfl, HB.out⟩
  | some m =>
    rw [hr] at CU
    clear hr
    by_cases h : s.size = 64
    · have h1 : ((s.size : Int) == 64) = true := by simp; omega
      have hd : decide (s.size = 64) = true := decide_eq_true h
      rw [hd]
      clear h hd
      go_enter Try.func35, Try.ntmps35
      go_wp2_with fail
      refine CU.out.mono ?_
      rintro e w1 ⟨rfl, hb⟩
      have HB := Lib.hid hb
      clear hb CU
      go_wp2_with fail
      go_ret
      exact ⟨by first | rfl | simp_all, HB.out⟩
    · have h1 : ((s.size : Int) == 64) = false := by simp; omega
      have hd : decide (s.size = 64) = false := decide_eq_false h
      rw [hd]
      clear h hd
      go_enter Try.func35, Try.ntmps35
      go_wp2_with fail
      refine CU.out.mono ?_
      rintro e w1 ⟨rfl, hb⟩
      have HB := Lib.hid hb
      clear hb CU
      go_wp2_with fail
      go_ret
      exact ⟨by first | rfl | simp_all, HB.out⟩
theorem rest_hex2 (l : List UInt8) : rest 16 (hexL l) = some l := by
  induction l with
  | nil => rfl
  | cons c r ih =>
    have h := byteV_pair c.toNat c.toNat_lt
    rw [pairS_list] at h
    rw [hexL, rest_two, h, if_pos (by omega), ih, Int.toNat_natCast]
    simp
set_option maxHeartbeats 4000000 in
theorem sums2_any (t s : ByteArray) (ht : t.size ≤ maxLen) (hs : s.size ≤ 140737488351232) (w : World) :
    Calls Try.prog 12 #[.string t, .string s] w fun e w' => e = .returned (.bool true) ∧ Below w.heap.size w w' := by
  have F1 := Lib.hid (fun W => few_any t 500 (by decide) ht W)
  have hz := few_size t 500
  obtain ⟨x, Hx⟩ : ∃ R, Hid (few t 500 = R) := ⟨_, Lib.hid (Eq.refl _)⟩
  rw [Hx.out] at F1 hz
  have C2 := Lib.hid (fun W => sum2_any x (by omega) W)
  have CS := Lib.hid (fun W => sum_any x (by omega) W)
  have CN := Lib.hid (fun W => name_any x (by omega) W)
  have CA := Lib.hid awake2_any
  have hwl : (shaL x.data.toList).length = 32 := shaL_len _
  obtain ⟨L, HL⟩ : ∃ R, Hid (shaL x.data.toList = R) := ⟨_, Lib.hid (Eq.refl _)⟩
  rw [HL.out] at C2 CS CN hwl
  have hnl : (⟨(hexL L).toArray⟩ : ByteArray).size = 64 := by
    show (hexL L).toArray.size = 64
    rw [List.size_toArray, hexL_length, hwl]
  have CI2 : Hid (∀ W, Calls Try.prog 35 #[.string ⟨(hexL L).toArray⟩] W fun e w' => e = .returned (.bool true) ∧ Below W.heap.size W w') := fun W => by
    have h := is_any ⟨(hexL L).toArray⟩ (by omega) W
    rw [show (⟨(hexL L).toArray⟩ : ByteArray).data.toList = hexL L from rfl, rest_hex2, hnl] at h
    exact h
  have CX : Hid (∀ W, Calls Try.prog 30 #[.string ⟨L.toArray⟩] W fun e w' => e = .returned (.string ⟨(hexL L).toArray⟩) ∧ Below W.heap.size W w') := fun W => by
    refine (refHex_any ⟨L.toArray⟩ W (by show L.toArray.size ≤ 3000; rw [List.size_toArray, hwl]; decide)).mono ?_
    rintro e w' ⟨⟨T, rfl, hT⟩, hb⟩
    refine ⟨?_, hb⟩
    have : T = ⟨(hexL L).toArray⟩ := ByteArray.ext (Array.ext' hT)
    rw [this]
  obtain ⟨nb, Hnb⟩ : ∃ R, Hid ((⟨(hexL L).toArray⟩ : ByteArray) = R) := ⟨_, Lib.hid (Eq.refl _)⟩
  obtain ⟨wb, Hwb⟩ : ∃ R, Hid ((⟨L.toArray⟩ : ByteArray) = R) := ⟨_, Lib.hid (Eq.refl _)⟩
  rw [Hnb.out] at CN CX CI2
  rw [Hwb.out] at C2 CS CX
  have CI := Lib.hid (fun W => is_any s hs W)
  have hw1 : (wb.toList == wb.toList) = true := by simp
  have hn1 : (nb.toList == nb.toList) = true := by simp
  have CHx := Lib.hid (fun (h : s.size = 64) W => hexed_any s W (by omega))
  unfold HexedPost at CHx
  obtain ⟨bb, Hbb⟩ : ∃ R, Hid ((rest 16 s.data.toList).isSome = R) := ⟨_, Lib.hid (Eq.refl _)⟩
  rw [Hbb.out] at CI CHx
  clear Hx HL hwl hnl Hnb Hwb Hbb hz ht hs
  by_cases h64 : s.size = 64
  · have hd : decide (s.size = 64) = true := decide_eq_true h64
    have h1 : ((s.size : Int) == 64) = true := by simp; omega
    rw [hd, Bool.and_true] at CI
    have CH2 := Lib.hid (CHx.out h64)
    have hbb : (bb == bb) = true := by simp
    clear hd h64 CHx
    go_enter Try.func12, Try.ntmps12
    go_wp2_with fail
    refine (F1.out _).mono ?_
    rintro e w1 ⟨rfl, rfl⟩
    go_wp2_with fail
    refine (C2.out _).mono ?_
    rintro e w2 ⟨rfl, hb2⟩
    have HB2 := Lib.hid hb2
    clear hb2
    go_wp2_with fail
    refine (CA.out _).mono ?_
    rintro e w3 ⟨rfl, hb3⟩
    have HB3 := Lib.hid (bthen HB2.out hb3)
    clear hb3
    go_wp2_with fail
    refine (CS.out _).mono ?_
    rintro e w4 ⟨rfl, hb4⟩
    have HB4 := Lib.hid (bthen HB3.out hb4)
    clear hb4
    go_wp2_with fail
    refine (CN.out _).mono ?_
    rintro e w5 ⟨rfl, hb5⟩
    have HB5 := Lib.hid (bthen HB4.out hb5)
    clear hb5
    go_wp2_with fail
    refine (CX.out _).mono ?_
    rintro e w6 ⟨rfl, hb6⟩
    have HB6 := Lib.hid (bthen HB5.out hb6)
    clear hb6
    go_wp2_with fail
    refine (CI.out _).mono ?_
    rintro e w7 ⟨rfl, hb7⟩
    have HB7 := Lib.hid (bthen HB6.out hb7)
    clear hb7
    go_wp2_with fail
    refine (CH2.out _).mono ?_
    rintro e w8 ⟨rfl, hb8⟩
    have HB8 := Lib.hid (bthen HB7.out hb8)
    clear hb8
    go_wp2_with fail
    refine (CN.out _).mono ?_
    rintro e w9 ⟨rfl, hb9⟩
    have HB9 := Lib.hid (bthen HB8.out hb9)
    clear hb9
    go_wp2_with fail
    refine (CI2.out _).mono ?_
    rintro e w10 ⟨rfl, hb10⟩
    have HB10 := Lib.hid (bthen HB9.out hb10)
    clear hb10
    go_wp2_with fail
    go_ret
    exact ⟨by first | rfl | simp_all, HB10.out⟩
  · have hd : decide (s.size = 64) = false := decide_eq_false h64
    have h1 : ((s.size : Int) == 64) = false := by simp; omega
    rw [hd, Bool.and_false] at CI
    clear hd h64 CHx
    go_enter Try.func12, Try.ntmps12
    go_wp2_with fail
    refine (F1.out _).mono ?_
    rintro e w1 ⟨rfl, rfl⟩
    go_wp2_with fail
    refine (C2.out _).mono ?_
    rintro e w2 ⟨rfl, hb2⟩
    have HB2 := Lib.hid hb2
    clear hb2
    go_wp2_with fail
    refine (CA.out _).mono ?_
    rintro e w3 ⟨rfl, hb3⟩
    have HB3 := Lib.hid (bthen HB2.out hb3)
    clear hb3
    go_wp2_with fail
    refine (CS.out _).mono ?_
    rintro e w4 ⟨rfl, hb4⟩
    have HB4 := Lib.hid (bthen HB3.out hb4)
    clear hb4
    go_wp2_with fail
    refine (CN.out _).mono ?_
    rintro e w5 ⟨rfl, hb5⟩
    have HB5 := Lib.hid (bthen HB4.out hb5)
    clear hb5
    go_wp2_with fail
    refine (CX.out _).mono ?_
    rintro e w6 ⟨rfl, hb6⟩
    have HB6 := Lib.hid (bthen HB5.out hb6)
    clear hb6
    go_wp2_with fail
    refine (CI.out _).mono ?_
    rintro e w7 ⟨rfl, hb7⟩
    have HB7 := Lib.hid (bthen HB6.out hb7)
    clear hb7
    go_wp2_with fail
    refine (CN.out _).mono ?_
    rintro e w9 ⟨rfl, hb9⟩
    have HB9 := Lib.hid (bthen HB7.out hb9)
    clear hb9
    go_wp2_with fail
    refine (CI2.out _).mono ?_
    rintro e w10 ⟨rfl, hb10⟩
    have HB10 := Lib.hid (bthen HB9.out hb10)
    clear hb10
    go_wp2_with fail
    go_ret
    exact ⟨by first | rfl | simp_all, HB10.out⟩
end Go.Proofs.Ytbccljpbnbobmaa
