/- The laws' Few: at most n bytes. Conditions: none. -/
import Derived.Test.YtbccljpbnbobmaaBase
namespace Go.Proofs.Ytbccljpbnbobmaa
open Go.RowKit

/-- At most n bytes. -/
def few (s : ByteArray) (n : Nat) : ByteArray := if n < s.size then s.extract 0 n else s

theorem few_list (s : ByteArray) (n : Nat) : (few s n).data.toList = s.data.toList.take n := by
  unfold few
  split
  · simp
  · rw [List.take_of_length_le (by simp; omega)]

theorem few_size (s : ByteArray) (n : Nat) : (few s n).size ≤ n := by
  unfold few
  split
  · simp; omega
  · omega

theorem few_any (s : ByteArray) (n : Nat) (hn : n ≤ 100000) (_hs : s.size ≤ maxLen) (w : World) :
    Calls Try.prog 13 #[.string s, .int .i64 (n : Int)] w fun e w' => e = .returned (.string (few s n)) ∧ w = w' := by
  by_cases h : n < s.size
  · have e := Lib.hid (show few s n = s.extract 0 n by unfold few; rw [if_pos h])
    go_enter Try.func13, Try.ntmps13
    go_wp2
    go_ret
    exact ⟨by rw [e.out]; rfl, rfl⟩
  · have e := Lib.hid (show few s n = s by unfold few; rw [if_neg h])
    go_enter Try.func13, Try.ntmps13
    go_wp2
    go_ret
    exact ⟨by rw [e.out]; rfl, rfl⟩
end Go.Proofs.Ytbccljpbnbobmaa
