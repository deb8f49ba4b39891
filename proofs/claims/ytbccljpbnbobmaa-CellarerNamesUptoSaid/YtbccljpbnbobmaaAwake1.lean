/- The laws' awake of layer 1. Conditions: none. -/
import Derived.Test.YtbccljpbnbobmaaCrc
import Derived.Test.YtbccljpbnbobmaaPut
import Derived.Test.YtbccljpbnbobmaaVar
namespace Go.Proofs.Ytbccljpbnbobmaa
open Go.RowKit
set_option maxRecDepth 100000

theorem put_258 : putL 258 3 = [2, 1, 0] := by decide +kernel
theorem crc_nine : crcOf 0 [49, 50, 51, 52, 53, 54, 55, 56, 57] = 3421780262 := by decide +kernel
theorem var_300 : varL 300 = [172, 2] := by
  rw [varL_big 300 (by decide), varL_small (300 / 128) (by decide)]
  decide +kernel

theorem awake_any (w : World) : Calls Try.prog 14 #[] w fun e w' => e = .returned (.bool true) ∧ Below w.heap.size w w' := by
  have h1 := put_nat 258 3 (by decide) (by decide)
  rw [put_258] at h1
  have h2 := crc32_any ⟨#[49, 50, 51, 52, 53, 54, 55, 56, 57]⟩
  have h2' : ∀ w, Calls Try.prog 15 #[.string ⟨#[49, 50, 51, 52, 53, 54, 55, 56, 57]⟩] w fun e w' => e = .returned (.int .u32 3421780262) ∧ Below w.heap.size w w' := by
    intro w
    refine (h2 w (by decide)).mono ?_
    rintro e w' ⟨rfl, hb⟩
    have e : (ByteArray.mk #[49, 50, 51, 52, 53, 54, 55, 56, 57]).data.toList = [49, 50, 51, 52, 53, 54, 55, 56, 57] := rfl
    rw [e, crc_nine]
    exact ⟨rfl, hb⟩
  clear h2
  have h3 := var_any 300 (by decide)
  rw [var_300] at h3
  go_enter Try.func14, Try.ntmps14
  go_wp2_with (first
    | (go_at_call 20; refine (h1 _).mono ?_; rintro e w1 ⟨rfl, hb1⟩)
    | (go_at_call 15; refine (h2' _).mono ?_; rintro e w2 ⟨rfl, hb2⟩)
    | (go_at_call 24; refine (h3 _).mono ?_; rintro e w3 ⟨rfl, hb3⟩))
  go_ret
  exact ⟨rfl, bthen (bthen hb1 hb2) hb3⟩
end Go.Proofs.Ytbccljpbnbobmaa
