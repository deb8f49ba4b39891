/- digest.Name; the laws' awake of layer 2. Conditions: texts of at most nine thousand bytes. -/
import Derived.Test.YtbccljpbnbobmaaShaH
namespace Go.Proofs.Ytbccljpbnbobmaa
open Go.RowKit
set_option maxRecDepth 100000

theorem name_any (s : ByteArray) (hs : s.size ≤ 9000) (w : World) : Calls Try.prog 33 #[.string s] w fun e w' => e = .returned (.string ⟨(hexL (shaL s.data.toList)).toArray⟩) ∧ Below w.heap.size w w' := by
  have H1 := Lib.hid (sum_any s hs w)
  have hl : (⟨(shaL s.data.toList).toArray⟩ : ByteArray).size ≤ 1000 := by
    have e : (⟨(shaL s.data.toList).toArray⟩ : ByteArray).size = (shaL s.data.toList).length := rfl
    rw [e, shaL_len]; decide
  have H2 := Lib.hid (fun W => hex_any ⟨(shaL s.data.toList).toArray⟩ W hl)
  obtain ⟨L, HL⟩ : ∃ L, Hid (shaL s.data.toList = L) := ⟨_, Lib.hid (Eq.refl _)⟩
  rw [HL.out] at H1 H2 ⊢
  clear hl
  go_enter Try.func33, Try.ntmps33
  go_wp2_with fail
  refine H1.out.mono ?_
  rintro e w1 ⟨rfl, hb1⟩
  have HB1 := Lib.hid hb1
  clear hb1 H1
  go_wp2_with fail
  refine (H2.out _).mono ?_
  rintro e w2 ⟨rfl, hb2⟩
  have HB2 := Lib.hid (bthen HB1.out hb2)
  clear hb2 H2
  go_wp2_with fail
  go_ret
  exact ⟨rfl, HB2.out⟩
theorem sha_abc : hexL (shaL [97, 98, 99]) = [98, 97, 55, 56, 49, 54, 98, 102, 56, 102, 48, 49, 99, 102, 101, 97, 52, 49, 52, 49, 52, 48, 100, 101, 53, 100, 97, 101, 50, 50, 50, 51, 98, 48, 48, 51, 54, 49, 97, 51, 57, 54, 49, 55, 55, 97, 57, 99, 98, 52, 49, 48, 102, 102, 54, 49, 102, 50, 48, 48, 49, 53, 97, 100] := by decide +kernel
theorem name_abc (w : World) : Calls Try.prog 33 #[.string ⟨#[97, 98, 99]⟩] w fun e w' => e = .returned (.string ⟨#[98, 97, 55, 56, 49, 54, 98, 102, 56, 102, 48, 49, 99, 102, 101, 97, 52, 49, 52, 49, 52, 48, 100, 101, 53, 100, 97, 101, 50, 50, 50, 51, 98, 48, 48, 51, 54, 49, 97, 51, 57, 54, 49, 55, 55, 97, 57, 99, 98, 52, 49, 48, 102, 102, 54, 49, 102, 50, 48, 48, 49, 53, 97, 100]⟩) ∧ Below w.heap.size w w' := by
  have h := name_any ⟨#[97, 98, 99]⟩ (by decide) w
  have e : (⟨#[97, 98, 99]⟩ : ByteArray).data.toList = [97, 98, 99] := rfl
  rw [e, sha_abc] at h
  exact h
theorem awake2_any (w : World) : Calls Try.prog 38 #[] w fun e w' => e = .returned (.bool true) ∧ Below w.heap.size w w' := by
  have H1 := Lib.hid (name_abc w)
  go_enter Try.func38, Try.ntmps38
  go_wp2_with fail
  refine H1.out.mono ?_
  rintro e w1 ⟨rfl, hb1⟩
  have HB1 := Lib.hid hb1
  clear hb1 H1
  go_wp2_with fail
  go_ret
  exact ⟨rfl, HB1.out⟩
end Go.Proofs.Ytbccljpbnbobmaa
