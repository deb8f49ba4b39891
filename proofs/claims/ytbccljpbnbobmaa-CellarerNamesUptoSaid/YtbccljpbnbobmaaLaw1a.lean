/- The laws BitsNumbers and BitsVars of layer 1, walked. Conditions: none. -/
import Derived.Test.YtbccljpbnbobmaaAwake1
import Derived.Test.YtbccljpbnbobmaaFew
import Derived.Test.YtbccljpbnbobmaaGet
import Derived.Test.YtbccljpbnbobmaaRefUnvar
namespace Go.Proofs.Ytbccljpbnbobmaa
open Go.RowKit
set_option maxRecDepth 100000

theorem numbers_any (x : Nat) (n : Int) (s : ByteArray) (hx : x < 18446744073709551616) (hs : s.size ≤ maxLen) (w : World) :
    Calls Try.prog 6 #[.int .u64 (x : Int), .int .i64 n, .string s] w fun e w' => e = .returned (.bool true) ∧ Below w.heap.size w w' := by
  by_cases hn : 64 < n
  all_goals
    go_enter Try.func6, Try.ntmps6
    go_wp2_with (first
      | (go_at_call 14; refine (awake_any _).mono ?_; rintro e w1 ⟨rfl, hb1⟩)
      | (go_at_call 20; refine (put_any x _ hx ?_ _).mono ?_; omega; rintro e w2 ⟨rfl, hb2⟩)
      | (go_at_call 21; refine (refPut_any x _ hx ?_ _).mono ?_; omega; rintro e w3 ⟨rfl, hb3⟩)
      | (go_at_call 22; refine (get_any s _ hs).mono ?_; rintro e w4 ⟨rfl, rfl⟩)
      | (go_at_call 23; refine (refGet_any s _ hs).mono ?_; rintro e w5 ⟨rfl, rfl⟩))
    go_ret
    exact ⟨rfl, bthen (bthen hb1 hb2) hb3⟩

theorem vars_any (x : Nat) (s : ByteArray) (hx : x < 18446744073709551616) (hs : s.size ≤ 140737488351232) (w : World) :
    Calls Try.prog 7 #[.int .u64 (x : Int), .string s] w fun e w' => e = .returned (.bool true) ∧ Below w.heap.size w w' := by
  have hten := varL_ten x hx
  have hm : s.size ≤ maxLen := by unfold maxLen; omega
  have hfm : (few s 20).size ≤ maxLen := by have := few_size s 20; unfold maxLen; omega
  go_enter Try.func7, Try.ntmps7
  go_wp2_with (go_at_call 24; refine (var_any x hx _).mono ?_; rintro e w1 ⟨rfl, hb1⟩)
  refine (unvar_any s w1 hm).mono ?_
  rintro e w2 ⟨y, n, huv, rfl, hb2⟩
  go_wp2_with (go_at_call 13; refine (few_any s 20 (by decide) hm _).mono ?_; rintro e w3 ⟨rfl, rfl⟩)
  refine (refUnvar_any (few s 20) w2 hfm).mono ?_
  rintro e w3 ⟨z, m, huv2, rfl, hb3⟩
  rw [few_list] at huv2
  obtain ⟨rfl, rfl⟩ := UV.one huv (UV.take 20 (by decide) huv2)
  clear huv huv2
  go_wp2_with fail
  have hsz : (⟨(varL x).toArray⟩ ++ s : ByteArray).size ≤ maxLen := by
    rw [ByteArray.size_append]
    have : (ByteArray.mk (varL x).toArray).size = (varL x).length := by simp [ByteArray.size]
    unfold maxLen; omega
  refine (unvar_any _ w3 hsz).mono ?_
  rintro e w4 ⟨x', k, huv, rfl, hb4⟩
  have hl : (⟨(varL x).toArray⟩ ++ s : ByteArray).data.toList = varL x ++ s.data.toList := by simp [ByteArray.data_append]
  rw [hl] at huv
  obtain ⟨rfl, hk⟩ := UV.one huv (UV.of_front x hx _)
  have hkb : ((k : Int) == ((varL x').length : Int)) = true := by simp; omega
  clear huv hk hsz hl
  go_wp2_with (first
    | (go_at_call 14; refine (awake_any _).mono ?_; rintro e w5 ⟨rfl, hb5⟩)
    | (go_at_call 27; refine (refVar_any _ hx _).mono ?_; rintro e w6 ⟨rfl, hb6⟩))
  go_ret
  exact ⟨rfl, bthen (bthen (bthen (bthen (bthen hb1 hb2) hb3) hb4) hb5) hb6⟩
end Go.Proofs.Ytbccljpbnbobmaa
