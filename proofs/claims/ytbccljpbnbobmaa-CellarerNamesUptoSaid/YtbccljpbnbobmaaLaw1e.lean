/- The law BitsDigits of layer 1, walked. Conditions: none. -/
import Derived.Test.YtbccljpbnbobmaaRefHex
import Derived.Test.YtbccljpbnbobmaaAwake1
import Derived.Test.YtbccljpbnbobmaaFew
namespace Go.Proofs.Ytbccljpbnbobmaa
open Go.RowKit
set_option maxRecDepth 100000

theorem rest_hex (l : List UInt8) : rest 16 (hexL l) = some l := by
  induction l with
  | nil => rfl
  | cons c r ih =>
    have h := byteV_pair c.toNat c.toNat_lt
    rw [pairS_list] at h
    rw [hexL, rest_two, h, if_pos (by omega), ih, Int.toNat_natCast]
    simp
theorem ba_eq {T : ByteArray} {l : List UInt8} (h : T.data.toList = l) : T = ⟨l.toArray⟩ := by subst h; rfl
theorem ba_self (T : ByteArray) : (⟨T.data.toList.toArray⟩ : ByteArray) = T := rfl

theorem unhex_some (s : ByteArray) (m : List UInt8) (hm : rest 16 s.data.toList = some m) (hs : s.size ≤ 3000) (w : World) :
    Calls Try.prog 29 #[.string s] w fun e w' => e = .returned (.tuple #[.string ⟨m.toArray⟩, .bool true]) ∧ Below w.heap.size w w' := by
  refine (unhex_any s w hs).mono ?_
  intro e w' h
  unfold UnhexPost at h
  rw [hm] at h
  exact h
theorem unhex_none (s : ByteArray) (hm : rest 16 s.data.toList = none) (hs : s.size ≤ 3000) (w : World) :
    Calls Try.prog 29 #[.string s] w fun e w' => e = .returned (.tuple #[.string ⟨#[]⟩, .bool false]) ∧ Below w.heap.size w w' := by
  refine (unhex_any s w hs).mono ?_
  intro e w' h
  unfold UnhexPost at h
  rw [hm] at h
  exact h

set_option maxHeartbeats 1000000 in
theorem digits_any (t s : ByteArray) (ht : t.size ≤ maxLen) (hs : s.size ≤ maxLen) (w : World) :
    Calls Try.prog 9 #[.string t, .string s] w fun e w' => e = .returned (.bool true) ∧ Below w.heap.size w w' := by
  have st := few_size t 300
  have ss := few_size s 600
  go_enter Try.func9, Try.ntmps9
  go_wp2_with fail
  refine (few_any t 300 (by decide) ht _).mono ?_
  rintro e w1 ⟨rfl, rfl⟩
  go_wp2_with fail
  refine (few_any s 600 (by decide) hs _).mono ?_
  rintro e w1 ⟨rfl, rfl⟩
  generalize few t 300 = t at *
  generalize few s 600 = s at *
  have hbb := Below.refl w.heap.size w
  go_wp2_with fail
  refine (hex_any t _ (by omega)).mono ?_
  rintro e w1 ⟨rfl, h⟩
  replace hbb := bthen hbb h
  clear h
  have hhl : (hexL t.data.toList).length ≤ 600 := by rw [hexL_length]; simp; omega
  have hr : rest 16 (⟨(hexL t.data.toList).toArray⟩ : ByteArray).data.toList = some t.data.toList := rest_hex _
  have hsz : (⟨(hexL t.data.toList).toArray⟩ : ByteArray).size ≤ 3000 := by show (hexL t.data.toList).length ≤ _; omega
  obtain ⟨H, hH⟩ : ∃ H : ByteArray, H = ⟨(hexL t.data.toList).toArray⟩ := ⟨_, rfl⟩
  rw [← hH] at hr hsz ⊢
  have HH := Lib.hid hH
  have Hr := Lib.hid hr
  clear hH hr
  go_wp2_with fail
  refine (unhex_some H _ Hr.out hsz _).mono ?_
  rintro e w2 ⟨rfl, h⟩
  replace hbb := bthen hbb h
  clear h
  rw [ba_self]
  cases hm : rest 16 s.data.toList with
  | none =>
    have Hm := Lib.hid hm
    clear hm
    go_wp2_with fail
    refine (unhex_none s Hm.out (by omega) _).mono ?_
    rintro e w3 ⟨rfl, h⟩
    replace hbb := bthen hbb h
    clear h
    go_wp2_with fail
    refine (awake_any _).mono ?_
    rintro e w4 ⟨rfl, h⟩
    replace hbb := bthen hbb h
    clear h
    go_wp2_with fail
    refine (refHex_any t _ (by omega)).mono ?_
    rintro e w5 ⟨⟨T, rfl, hT⟩, h⟩
    replace hbb := bthen hbb h
    clear h
    obtain rfl : T = H := by rw [HH.out]; exact ba_eq hT
    clear hT
    go_wp2_with fail
    refine (hexed_any s _ (by omega)).mono ?_
    rintro e w6 ⟨rfl, h⟩
    replace hbb := bthen hbb h
    clear h
    rw [Hm.out]
    go_wp2_with fail
    go_ret
    exact ⟨rfl, hbb⟩
  | some m =>
    have Hm := Lib.hid hm
    clear hm
    go_wp2_with fail
    refine (unhex_some s m Hm.out (by omega) _).mono ?_
    rintro e w3 ⟨rfl, h⟩
    replace hbb := bthen hbb h
    clear h
    go_wp2_with fail
    refine (awake_any _).mono ?_
    rintro e w4 ⟨rfl, h⟩
    replace hbb := bthen hbb h
    clear h
    go_wp2_with fail
    refine (refHex_any t _ (by omega)).mono ?_
    rintro e w5 ⟨⟨T, rfl, hT⟩, h⟩
    replace hbb := bthen hbb h
    clear h
    obtain rfl : T = H := by rw [HH.out]; exact ba_eq hT
    clear hT
    go_wp2_with fail
    refine (hexed_any s _ (by omega)).mono ?_
    rintro e w6 ⟨rfl, h⟩
    replace hbb := bthen hbb h
    clear h
    rw [Hm.out]
    go_wp2_with fail
    refine (refUnhex_any s m _ (by omega) Hm.out).mono ?_
    rintro e w7 ⟨⟨U, rfl, hU⟩, h⟩
    replace hbb := bthen hbb h
    clear h
    obtain rfl : U = ⟨m.toArray⟩ := ba_eq hU
    clear hU
    go_wp2_with fail
    go_ret
    exact ⟨rfl, hbb⟩
end Go.Proofs.Ytbccljpbnbobmaa
