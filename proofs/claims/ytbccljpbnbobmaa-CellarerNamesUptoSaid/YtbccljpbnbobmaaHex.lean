/- bits.Hex: two digits a byte. Conditions: the text has at most 1000 bytes. -/
import Derived.Test.YtbccljpbnbobmaaBase
import Derived.Deep.RegionLaw
namespace Go.Proofs.Ytbccljpbnbobmaa
open Go.RowKit
set_option maxRecDepth 100000

/-- A digit's byte. -/
def dgt (n : Nat) : UInt8 := if n < 10 then UInt8.ofNat (48 + n) else UInt8.ofNat (87 + n)
/-- Two digits a byte. -/
def hexL : List UInt8 → List UInt8
  | [] => []
  | c :: r => dgt (c.toNat / 16) :: dgt (c.toNat % 16) :: hexL r
theorem hexL_length (l : List UInt8) : (hexL l).length = 2 * l.length := by
  induction l with
  | nil => rfl
  | cons c r ih => simp only [hexL, List.length_cons, ih]; omega
theorem hexL_append (l m : List UInt8) : hexL (l ++ m) = hexL l ++ hexL m := by
  induction l with
  | nil => rfl
  | cons c r ih => simp [hexL, ih]

theorem idx_dig (m : Nat) (hm : m < 16) (w : World) :
    (Instr.index 9 (.string ⟨#[48, 49, 50, 51, 52, 53, 54, 55, 56, 57, 97, 98, 99, 100, 101, 102]⟩) (.int .u8 (m : Int))).run Try.prog w = .ok (.int .u8 ((dgt m).toNat : Int)) w := by
  have h : m = 0 ∨ m = 1 ∨ m = 2 ∨ m = 3 ∨ m = 4 ∨ m = 5 ∨ m = 6 ∨ m = 7 ∨ m = 8 ∨ m = 9 ∨ m = 10 ∨ m = 11 ∨ m = 12 ∨ m = 13 ∨ m = 14 ∨ m = 15 := by omega
  rcases h with rfl | rfl | rfl | rfl | rfl | rfl | rfl | rfl | rfl | rfl | rfl | rfl | rfl | rfl | rfl | rfl <;> rfl

theorem hexL_snoc (l : List UInt8) (k : Nat) (hk : k < l.length) : hexL (l.take (k + 1)) = hexL (l.take k) ++ [dgt (l[k].toNat / 16), dgt (l[k].toNat % 16)] := by
  rw [List.take_succ_eq_append_getElem hk, hexL_append]
  rfl
theorem bcells_two (l : List UInt8) (a b : UInt8) : bcells (l ++ [a, b]) = bcells l ++ [.int .u8 (a.toNat : Int), .int .u8 (b.toNat : Int)] := by simp [bcells]

theorem hex_any (s : ByteArray) (w : World) (hs : s.size ≤ 1000) :
    Calls Try.prog 28 #[.string s] w fun e w' => e = .returned (.string ⟨(hexL s.data.toList).toArray⟩) ∧ Below w.heap.size w w' := by
  have hmk := run_bytes_of_string (P := Try.prog) (src := 9) (dst := 31) (e := 5)
  obtain ⟨i0, hi, hz0, hz1, hz2⟩ := info_parts info_u8
  go_enter Try.func28, Try.ntmps28
  go_wp2_with (first
    | (refine wpList_make_own _ rfl (.const (.int .i64 0)) (.tmp 8) 31 rfl w.heap.size 5 i0 _ 1 Try.underlying31 hi hz0 hz1 .i64 .i64 _ (2 * s.size) rfl rfl ?_ ?_ ?_ (Nat.le_refl _) ?_; omega; rw [hz2]; omega; unfold maxLen; omega; intro w1 hown1 hg1))
  clear hmk
  have hK0 := (KeepB.new w1 s (grownCap w1 s.size 0 5)).drew
  have hb0 := (((Below.refl w.heap.size w).grown hg1 (Nat.le_refl _) (fun k h => by cases h)).alloc hg1.size (.cells (bytesRow s (grownCap w1 s.size 0 5)) 5 ((bytesRow s (grownCap w1 s.size 0 5)).size, (bytesRow s (grownCap w1 s.size 0 5)).size + 1))).drew
  have ho0 : OwnB _ w.heap.size _ [] := (World.ownsRow.alloc hown1 (.cells (bytesRow s (grownCap w1 s.size 0 5)) 5 ((bytesRow s (grownCap w1 s.size 0 5)).size, (bytesRow s (grownCap w1 s.size 0 5)).size + 1))).drew
  generalize w1.heap.size = g at *
  generalize (w1.alloc (.cells (bytesRow s (grownCap w1 s.size 0 5)) 5 ((bytesRow s (grownCap w1 s.size 0 5)).size, (bytesRow s (grownCap w1 s.size 0 5)).size + 1))).drew = w2 at *
  clear hown1 hg1
  go_loopw [3, 5, 13] (fun v _ i wr => ∃ k : Nat, k ≤ s.size ∧ i = .int .i64 (k : Int) ∧ OwnB wr w.heap.size v (hexL (s.data.toList.take k)) ∧ KeepB wr g s ∧ Below w.heap.size w wr)
    (fun _ _ i _ => s.size - (intOf i).toNat)
  case atStart => exact ⟨0, Nat.zero_le _, rfl, ho0, hK0, hb0⟩
  case round =>
    clear ho0 hK0 hb0
    obtain ⟨k, hk, rfl, hown, hK, hb⟩ := hrel
    by_cases hlt : k < s.size
    · have hc := hK.cell k hlt
      have hcb := s[k].toNat_lt
      have hst := Lib.hid (hexL_snoc s.data.toList k (by simpa using hlt))
      have hll : (hexL (s.data.toList.take k)).length ≤ 2000 := by rw [hexL_length, List.length_take]; simp; omega
      have hbs := hb.size
      have i1 := fun w => idx_dig (s[k].toNat / 16) (by omega) w
      have i2 := fun w => idx_dig (s[k].toNat % 16) (by omega) w
      have ha : bits .and .u8 (s[k].toNat : Int) 15 = ((s[k].toNat % 16 : Nat) : Int) := u8_and15 _ (by omega) (by omega)
      rw [show ((s[k].toNat / 16 : Nat) : Int) = (s[k].toNat : Int) / 16 from rfl] at i1
      rw [show ((s[k].toNat % 16 : Nat) : Int) = (s[k].toNat : Int) % 16 from rfl] at i2 ha
      go_wp2_with fail
      go_region_law (refine step_append_lit wr.drew rfl (.tmp 17) (.tmp 24) rfl Try.underlying31 info_u8 rfl (by decide) w.heap.size u3 (hexL (s.data.toList.take k)).length (bcells (hexL (s.data.toList.take k))) [.int .u8 ((dgt (s[k].toNat / 16)).toNat : Int), .int .u8 ((dgt (s[k].toNat % 16)).toNat : Int)] 2 hown.drew rfl ?_ ?_ (sz := wr.heap.size) ?_ ?_ ?_ ?_ hbs ?_ ?_; intro y hy; simp at hy; rcases hy with rfl | rfl <;> rfl; rfl; rfl; rfl; unfold maxLen; omega; omega; rfl; intro v' w' hown1 hg1)
      all_goals
        go_wp2_with fail
        go_roundw
        case rel =>
          refine ⟨k + 1, by omega, by go_num, ?_, hK.drew.grown hown.drew hg1, hb.drew.trans (below_grown hown.drew hg1 hbs)⟩
          rw [hst.out]
          unfold OwnB
          rw [bcells_two, List.length_append]
          exact hown1
        case measure => simp [intOf]; omega
    · have hs1 := run_string_own wr _ _ _ hown
      go_wp2_with fail
      go_ret
      exact ⟨ret_str (by rw [List.take_of_length_le (by simp; omega)]), hb⟩
end Go.Proofs.Ytbccljpbnbobmaa
