/- The laws BitsSums and BitsTable of layer 1, walked. Conditions: none. -/
import Derived.Test.YtbccljpbnbobmaaAwake1
import Derived.Test.YtbccljpbnbobmaaFew
import Derived.Test.YtbccljpbnbobmaaRefCrc
import Derived.Deep.RegionWith
import Derived.Deep.RegionHeld
namespace Go.Proofs.Ytbccljpbnbobmaa
open Go.RowKit
set_option maxRecDepth 100000

theorem crcL_append (c : Nat) (l m : List UInt8) : crcL c (l ++ m) = crcL (crcL c l) m := List.foldl_append
theorem crcOf_append (c : Nat) (hc : c < 4294967296) (l m : List UInt8) : crcOf (crcOf c l) m = crcOf c (l ++ m) := by
  unfold crcOf
  have h := crcL_lt l (4294967295 - c) (by omega)
  rw [crcL_append]
  congr 2
  omega
theorem crcOf_lt (c : Nat) (l : List UInt8) : crcOf c l < 4294967296 := by unfold crcOf; omega
theorem append_list (s t : ByteArray) : (s ++ t).data.toList = s.data.toList ++ t.data.toList := by simp [ByteArray.data_append]

theorem sums_any (a b : ByteArray) (ha : a.size ≤ maxLen) (hb : b.size ≤ maxLen) (w : World) :
    Calls Try.prog 3 #[.string a, .string b] w fun e w' => e = .returned (.bool true) ∧ Below w.heap.size w w' := by
  have sa := few_size a 1000
  have sb := few_size b 1000
  have hap := crcOf_append 0 (by decide) (few a 1000).data.toList (few b 1000).data.toList
  rw [← append_list] at hap
  have hsz : (few a 1000 ++ few b 1000).size ≤ 4000 := by rw [ByteArray.size_append]; omega
  have hlt := crcOf_lt 0 (few a 1000).data.toList
  go_enter Try.func3, Try.ntmps3
  go_wp2_with fail
  refine (few_any a 1000 (by decide) ha _).mono ?_
  rintro e w1 ⟨rfl, rfl⟩
  go_wp2_with fail
  refine (few_any b 1000 (by decide) hb _).mono ?_
  rintro e w1 ⟨rfl, rfl⟩
  generalize few a 1000 = a at *
  generalize few b 1000 = b at *
  have ma : a.size ≤ maxLen := by unfold maxLen; omega
  have mb : b.size ≤ maxLen := by unfold maxLen; omega
  have hbb := Below.refl w.heap.size w
  have e0 := Lib.hid hap
  go_wp2_with (first
    | (go_at_call 14; refine (awake_any _).mono ?_; rintro e w2 ⟨rfl, h⟩; replace hbb := bthen hbb h; clear h)
    | (go_at_call 15; refine (crc32_any _ _ ma).mono ?_; rintro e w2 ⟨rfl, h⟩; replace hbb := bthen hbb h; clear h)
    | (go_at_call 16; refine (refCrc_any _ _ ?_).mono ?_; omega; rintro e w2 ⟨rfl, h⟩; replace hbb := bthen hbb h; clear h)
    | fail)
  refine (crc_any _ hlt b _ mb).mono ?_
  rintro e w3 ⟨rfl, h⟩
  replace hbb := bthen hbb h
  clear h
  go_wp2_with (first
    | (go_at_call 16; refine (refCrc_any _ _ ?_).mono ?_; omega; rintro e w2 ⟨rfl, h⟩; replace hbb := bthen hbb h; clear h)
    | (go_at_call 17; refine (crc_zero a _ ma).mono ?_; rintro e w2 ⟨rfl, h⟩; replace hbb := bthen hbb h; clear h))
  go_ret
  exact ⟨rfl, hbb⟩

theorem crc_one (c : Nat) (hc : c < 4294967296) (x : UInt8) (w : World) :
    Calls Try.prog 17 #[.int .u32 ((4294967295 - c : Nat) : Int), .string ⟨#[x]⟩] w fun e w' =>
      e = .returned (.int .u32 ((4294967295 - (ent (c % 256 ^^^ x.toNat) ^^^ c / 256) : Nat) : Int)) ∧ Below w.heap.size w w' := by
  refine (crc_any (4294967295 - c) (by omega) ⟨#[x]⟩ w (by show 1 ≤ maxLen; decide)).mono ?_
  rintro e w' ⟨rfl, h⟩
  refine ⟨ret_int ?_, h⟩
  have e1 : 4294967295 - (4294967295 - c) = c := by omega
  unfold crcOf crcL
  rw [e1]
  rfl

set_option maxHeartbeats 4000000 in
attribute [local go_sem] run_string_one in
theorem table_law (c x : Nat) (hc : c < 4294967296) (hx : x < 256) (w : World) :
    Calls Try.prog 4 #[.int .u32 (c : Int), .int .u8 (x : Int)] w fun e w' => e = .returned (.bool true) ∧ Below w.heap.size w w' := by
  have hz := zero_t
  have hsc := fun W => run_storeCells_new (P := Try.prog) W 28 (tcells fun _ => 0) (tcells ent) (info_t ent) (by rw [tcells_size, tcells_size]) (tcells_one _)
  have hsz := tcells_size ent
  go_enter Try.func4, Try.ntmps4
  go_wp2_with (go_at_call 18; refine (table_any _).mono ?_; rintro e w1 ⟨rfl, hb1⟩)
  clear hz hsc
  have hB0 := Blk.new w1 28 (tcells ent)
  have hb0 := hb1.alloc hb1.size (.cells (tcells ent) 28)
  have hg := hb1.size
  generalize w1.heap.size = g at *
  generalize w1.alloc (.cells (tcells ent) 28) = w2 at *
  go_loopw [6] (fun i wr => ∃ k : Nat, k ≤ 256 ∧ i = .int .i64 (k : Int) ∧ Blk wr g 28 (tcells ent) ∧ Below w.heap.size w wr)
    (fun i _ => 256 - (intOf i).toNat)
  case atStart => exact ⟨0, by omega, rfl, hB0, hb0⟩
  case round =>
    clear hB0 hb0 hb1
    obtain ⟨k, hk, rfl, hB, hb⟩ := hrel
    by_cases hlt : k < 256
    · have hck := hB.cell k
      rw [tcells_at _ _ hlt] at hck
      go_wp2_with fail
      go_region_with (go_at_call 19; refine (entry_any k hlt _).mono ?_; rintro e w' ⟨rfl, rfl⟩)
      all_goals go_wp2_with fail
      all_goals
        go_roundw
        case rel => exact ⟨k + 1, by omega, by go_num, hB, hb.drew⟩
        case measure => simp [intOf]; omega
    · obtain ⟨j, hj⟩ : ∃ j, j = c % 256 ^^^ x := ⟨_, rfl⟩
      have hjl : j < 256 := by rw [hj]; exact xor_lt_256 _ _ (by omega) hx
      have hx1 : bits .xor .u8 ((c : Int) % 256) (x : Int) = (j : Int) := by rw [hj]; exact u8_xor_nat (c % 256) x (by omega) hx
      have hcj := hB.cell j
      rw [tcells_at _ _ hjl] at hcj
      have hx2 := u32_xor_nat (ent j) (c / 256) (ent_lt _ hjl) (by omega)
      rw [show ((c / 256 : Nat) : Int) = (c : Int) / 256 from rfl] at hx2
      have hlt2 : ent j ^^^ c / 256 < 4294967296 := Nat.xor_lt_two_pow (n := 32) (ent_lt _ hjl) (by omega)
      have hn1 := not_int c hc
      have hn2 := not_int _ hlt2
      have hcr := crc_one c hc (UInt8.ofNat x)
      have hxe : (UInt8.ofNat x).toNat = x := by simp; omega
      rw [hxe, ← hj] at hcr
      have hgl := hB.lt
      have hcj0 := hcj
      have hb0 := hb
      have hsg : IntKind.u32.signed = false := rfl
      have hj0 : (0 : Int) ≤ (j : Int) := by omega
      have hw1 : IntKind.u8.wrap (c : Int) = (c : Int) % 256 := IntKind.wrap_u8 _
      have hj1 : (j : Int) < 256 := by omega
      clear hj hxe
      generalize ent j = e at *
      go_wp2_with fail
      clear hcj hB hb
      go_region_held (fun w' => w'.cell? ⟨g, j, none⟩ = some (.int .u32 (e : Int)) ∧ g < w'.heap.size) (first | exact ⟨hcj0, hgl⟩ | exact ⟨hc2, hs2⟩ | exact ⟨hc3, hs3⟩ | exact ⟨(World.cell?_alloc_lt _ _ _ hs2).trans hc2, by simp; omega⟩)
        (first
        | (go_at_call 14; refine (awake_any _).mono ?_; rintro e w2 ⟨rfl, h⟩; have hc2 := (h.cell (p := ⟨g, j, none⟩) (by simp; omega)).trans hcj0; have hs2 : g < w2.heap.size := by have := h.size; simp at this; omega)
        | (go_at_call 17; refine (hcr _).mono ?_; rintro e w3 ⟨rfl, h3⟩; have hc3 : w3.cell? ⟨g, j, none⟩ = some (.int .u32 (e : Int)) := (h3.cell (p := ⟨g, j, none⟩) (by simp; omega)).trans ((World.cell?_alloc_lt _ _ _ hs2).trans hc2); have hs3 : g < w3.heap.size := by have := h3.size; simp at this; omega))
      go_wp2_with fail
      go_ret
      have hx4 := bthen hb0.drew h
      exact ⟨rfl, bthen (hx4.alloc hx4.size _) h3⟩
end Go.Proofs.Ytbccljpbnbobmaa
