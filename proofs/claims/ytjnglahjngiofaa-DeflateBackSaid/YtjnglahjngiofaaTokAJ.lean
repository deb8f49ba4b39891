/- awake of law05: Tokens of two bytes. Conditions: none. -/
import Derived.Test.YtjnglahjngiofaaJkaegfj
import Derived.Test.YtjnglahjngiofaaJglaifh
import Derived.Carry
namespace Go.Proofs.Ytjnglahjngiofaa
open Go.RowKit
set_option maxRecDepth 100000
theorem best_short (f : Nat) (s : ByteArray) (m p : Value) (far : Int) (i : Nat) (hi : s.size < i + 3) (hi2 : i <= 1000000) (w : World) (hB : Blk w f 93 #[.string s, m, p, .int .i64 far]) :
 Calls Try.prog 44 #[.pointer (some ⟨f, 0, none⟩), .int .i64 (i : Int)] w fun e w' => e = .returned (.tuple #[.int .i64 0, .int .i64 0]) /\ w = w' := by
 have c0 := hB.cell 0
 simp at c0
 have d0 : decide ((s.size : Int) < (i : Int) + 3) = true := by simp; omega
 clear hB hi
 go_enter Try.func44, Try.ntmps44
 go_wp2_with fail
 go_ret2
 exact ⟨rfl, rfl⟩
theorem note_short (f : Nat) (s : ByteArray) (m p : Value) (far : Int) (i : Nat) (hi : s.size < i + 3) (hi2 : i <= 1000000) (w : World) (hB : Blk w f 93 #[.string s, m, p, .int .i64 far]) :
 Calls Try.prog 45 #[.pointer (some ⟨f, 0, none⟩), .int .i64 (i : Int)] w fun e w' => e = .returned (.tuple #[]) /\ w = w' := by
 have c0 := hB.cell 0
 simp at c0
 have d0 : decide ((s.size : Int) < (i : Int) + 3) = true := by simp; omega
 clear hB hi
 go_enter Try.func45, Try.ntmps45
 go_wp2_with fail
 refine bodyPost_ret (results_none rfl _ _ _) rfl ?_
 exact ⟨rfl, rfl⟩
end Go.Proofs.Ytjnglahjngiofaa
