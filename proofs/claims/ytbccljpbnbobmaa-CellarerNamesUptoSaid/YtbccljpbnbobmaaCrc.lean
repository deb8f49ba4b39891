/- bits.Crc and bits.Crc32: the sum of a text behind what has the sum c. Conditions: none. -/
import Derived.Test.YtbccljpbnbobmaaTable
import Derived.Deep.WholeRow
namespace Go.Proofs.Ytbccljpbnbobmaa
open Go.RowKit
set_option maxRecDepth 100000

/-- One byte more. -/
def crcStep (c : Nat) (b : UInt8) : Nat := ent ((c % 256) ^^^ b.toNat) ^^^ (c / 256)
/-- All bytes. -/
def crcL (c : Nat) (l : List UInt8) : Nat := l.foldl crcStep c
/-- The sum of l behind what has the sum c. -/
def crcOf (c : Nat) (l : List UInt8) : Nat := 4294967295 - crcL (4294967295 - c) l

theorem xor_lt_256 (a b : Nat) (ha : a < 256) (hb : b < 256) : a ^^^ b < 256 := Nat.xor_lt_two_pow (n := 8) ha hb
theorem crcStep_lt (c : Nat) (b : UInt8) (hc : c < 4294967296) : crcStep c b < 4294967296 :=
  Nat.xor_lt_two_pow (n := 32) (ent_lt _ (xor_lt_256 _ _ (by omega) b.toNat_lt)) (by omega)
theorem crcL_lt (l : List UInt8) : ∀ c, c < 4294967296 → crcL c l < 4294967296 := by
  induction l with
  | nil => intro c hc; exact hc
  | cons b r ih => intro c hc; exact ih _ (crcStep_lt c b hc)
theorem crcL_take_succ (c : Nat) (l : List UInt8) (k : Nat) (hk : k < l.length) : crcL c (l.take (k + 1)) = crcStep (crcL c (l.take k)) l[k] := by
  unfold crcL
  rw [List.take_succ_eq_append_getElem hk, List.foldl_append]
  rfl

theorem not_nat (c : Nat) (hc : c < 4294967296) : 4294967295 ^^^ c = 4294967295 - c := by
  have h1 : (4294967295 : Nat) = 2 ^ 32 - 1 := by decide
  have h2 : 4294967295 - c = 2 ^ 32 - (c + 1) := by omega
  rw [h2, h1]
  apply Nat.eq_of_testBit_eq
  intro i
  rw [Nat.testBit_xor, Nat.testBit_two_pow_sub_one, Nat.testBit_two_pow_sub_succ (by omega)]
  by_cases hi : i < 32
  · simp [hi]
  · simp [hi]
    exact Nat.testBit_lt_two_pow (Nat.lt_of_lt_of_le (show c < 2 ^ 32 by omega) (Nat.pow_le_pow_right (by decide) (by omega)))
theorem not_int (c : Nat) (hc : c < 4294967296) : bits .xor .u32 IntKind.u32.max (c : Int) = ((4294967295 - c : Nat) : Int) := by
  have := u32_xor_nat 4294967295 c (by decide) hc
  rw [not_nat c hc] at this
  exact this

theorem crc_any (c : Nat) (hc : c < 4294967296) (s : ByteArray) (w : World) (hs : s.size ≤ maxLen) :
    Calls Try.prog 17 #[.int .u32 (c : Int), .string s] w fun e w' => e = .returned (.int .u32 (crcOf c s.data.toList : Int)) ∧ Below w.heap.size w w' := by
  unfold maxLen at hs
  have hz := zero_t
  have hsc := fun W => run_storeCells_new (P := Try.prog) W 28 (tcells fun _ => 0) (tcells ent) (info_t ent) (by rw [tcells_size, tcells_size]) (tcells_one _)
  have hsz := tcells_size ent
  have hsg : IntKind.u32.signed = false := rfl
  have hno := not_int c hc
  have hno2 := not_int _ (crcL_lt s.data.toList (4294967295 - c) (by omega))
  go_enter Try.func17, Try.ntmps17
  go_wp2_with (go_at_call 18; refine (table_any _).mono ?_; rintro e w1 ⟨rfl, hb1⟩)
  go_loop [0, 6, 12] (fun c' _ i => ∃ k : Nat, k ≤ s.size ∧ i = .int .i64 (k : Int) ∧ c' = .int .u32 (crcL (4294967295 - c) (s.data.toList.take k) : Int))
    (fun _ _ i => s.size - (intOf i).toNat)
  case atStart => exact ⟨0, Nat.zero_le _, rfl, rfl⟩
  case round =>
    clear hz hsc
    obtain ⟨k, hk, rfl, rfl⟩ := hrel
    have hB := Blk.new w1 28 (tcells ent)
    have hlt1 := crcL_lt (s.data.toList.take k) (4294967295 - c) (by omega)
    by_cases hlt : k < s.size
    · have Ht := Lib.hid (crcL_take_succ (4294967295 - c) s.data.toList k (by simpa using hlt))
      generalize crcL (4294967295 - c) (s.data.toList.take k) = q at *
      have hcb := s[k].toNat_lt
      obtain ⟨j, hj⟩ : ∃ j, j = q % 256 ^^^ s[k].toNat := ⟨_, rfl⟩
      have hjl : j < 256 := by rw [hj]; exact xor_lt_256 (q % 256) s[k].toNat (by omega) hcb
      have hx : bits .xor .u8 ((q : Int) % 256) (s[k].toNat : Int) = (j : Int) := by rw [hj]; exact u8_xor_nat (q % 256) s[k].toNat (by omega) hcb
      have hc1 := hB.cell j
      rw [tcells_at _ _ hjl] at hc1
      have hx2 : bits .xor .u32 (ent j : Int) ((q : Int) / 256) = ((crcStep q s[k] : Nat) : Int) := by
        unfold crcStep
        rw [← hj]
        exact u32_xor_nat (ent j) (q / 256) (ent_lt _ hjl) (by omega)
      have Hj := Lib.hid hj
      clear hj
      go_wp2
      go_round
      case rel => exact ⟨k + 1, by omega, by go_num, by rw [Ht.out]; rfl⟩
      case measure => simp [intOf]; omega
    · obtain rfl : k = s.size := by omega
      have e : s.data.toList.take s.size = s.data.toList := List.take_of_length_le (by simp)
      rw [e]
      go_wp2
      go_ret
      exact ⟨rfl, hb1.alloc hb1.size _⟩

theorem crc_zero (s : ByteArray) (w : World) (hs : s.size ≤ maxLen) :
    Calls Try.prog 17 #[.int .u32 0, .string s] w fun e w' => e = .returned (.int .u32 (crcOf 0 s.data.toList : Int)) ∧ Below w.heap.size w w' := crc_any 0 (by decide) s w hs

theorem crc32_any (s : ByteArray) (w : World) (hs : s.size ≤ maxLen) :
    Calls Try.prog 15 #[.string s] w fun e w' => e = .returned (.int .u32 (crcOf 0 s.data.toList : Int)) ∧ Below w.heap.size w w' := by
  go_enter Try.func15, Try.ntmps15
  go_wp2_with (go_at_call 17; refine (crc_any 0 (by decide) s _ hs).mono ?_; rintro e w1 ⟨rfl, hb1⟩)
  go_ret
  exact ⟨rfl, hb1⟩
end Go.Proofs.Ytbccljpbnbobmaa
