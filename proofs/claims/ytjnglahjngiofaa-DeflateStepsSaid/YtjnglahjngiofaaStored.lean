/- deflate.Stored of a text of one block. Conditions: at most sixty thousand bytes. -/
import Derived.Test.YtjnglahjngiofaaSink3
import Derived.Test.YtjnglahjngiofaaPutA
import Derived.Deep.RegionHeld3
namespace Go.Proofs.Ytjnglahjngiofaa
open Go.RowKit
set_option maxRecDepth 100000

theorem SinkAt.below {w0 w w' : World} {P : Nat} {v : Value} {V c : Nat} (h : SinkAt w P v V c ∧ w0.heap.size ≤ w.heap.size) (hb : Below w.heap.size w w') : SinkAt w' P v V c ∧ w0.heap.size ≤ w'.heap.size := by
  obtain ⟨⟨h1, h2, h3⟩, h4⟩ := h
  refine ⟨⟨h1.below hb h1.lt, ?_, h3⟩, Nat.le_trans h4 hb.size⟩
  have hlt := World.ownsRow.lt h2
  refine ⟨h2.1, ?_⟩
  rcases h2.2 with h2 | ⟨g, cap, cur, rfl, h3, h4, h5⟩
  · exact .inl h2
  · exact .inr ⟨g, cap, cur, rfl, h3, (hb.block g (hlt g rfl).2).trans h4, h5⟩

set_option maxHeartbeats 2000000 in
theorem stored_ab (w : World) : Calls Try.prog 43 #[.string ⟨#[97, 98]⟩] w fun e w' => e = .returned (.string ⟨#[1, 2, 0, 253, 255, 97, 98]⟩) ∧ Below w.heap.size w w' := by
  obtain ⟨s, Hs⟩ : ∃ s, Hid ((⟨#[97, 98]⟩ : ByteArray) = s) := ⟨_, Lib.hid (Eq.refl _)⟩
  have hs2 : s.size = 2 := by rw [← Hs.out]; rfl
  rw [Hs.out]
  have hS0 : SinkAt (w.alloc (.cells #[.slice none 0 0, .int .u64 0, .int .i64 0] 84)) w.heap.size (.slice none 0 0) 0 0 :=
    ⟨Blk.new w 84 _, World.ownsRow_nil _ _ _ _, by decide⟩
  have HS0 := Lib.hid hS0
  have HB0 := Lib.hid ((Below.refl w.heap.size w).alloc (Nat.le_refl _) (.cells #[.slice none 0 0, .int .u64 0, .int .i64 0] 84))
  obtain ⟨P, HP⟩ : ∃ P, Hid (w.heap.size = P) := ⟨_, Lib.hid (Eq.refl _)⟩
  rw [HP.out] at HS0
  clear hS0
  go_enter Try.func43, Try.ntmps43
  go_wp2_with fail
  rw [HP.out]
  generalize w.alloc (.cells #[.slice none 0 0, .int .u64 0, .int .i64 0] 84) = w1 at *
  go_loopw [0] (fun t wr => t = .string s ∧ Hid (SinkAt wr P (.slice none 0 0) 0 0) ∧ Hid (Below w.heap.size w wr)) (fun _ _ => 0)
  case atStart => exact ⟨rfl, HS0, HB0⟩
  case round =>
    clear HS0 HB0
    obtain ⟨rfl, HS, HB⟩ := hrel
    have hPw : w.heap.size ≤ P := by rw [HP.out]; exact Nat.le_refl _
    have C1 := Lib.hid (sinkPut_any P (.slice none 0 0) 0 0 1 3 3 (by decide) (.inr (.inl ⟨rfl, by decide⟩)) (by decide) _ HS.out)
    go_wp2_with fail
    refine C1.out.mono ?_
    rintro e w2 ⟨rfl, v2, hS2, hC2, _⟩
    have HB2 := Lib.hid (hC2.below HB.out hPw (fun g e => by cases e))
    have Hrow : Hid (∀ g, v2.ownBlock = some g → w.heap.size ≤ g) := fun g e => by have := (World.ownsRow.lt hS2.2.1 g e).1; omega
    clear hC2
    have e1 : 0 + 1 % 2 ^ 3 * 2 ^ 0 = 1 := by decide
    rw [e1] at hS2
    have hS2' : SinkAt w2 P v2 1 3 := hS2
    have hS3 : SinkAt w2.drew P v2 1 3 ∧ w2.heap.size ≤ w2.drew.heap.size := ⟨hS2', Nat.le_refl _⟩
    have CT := Lib.hid (fun (x : ByteArray) (hx : x.size ≤ 1000000) W hW => sinkText_any P v2 1 3 x hx (by decide) W hW)
    have CA := Lib.hid (fun W => put_nat 2 2 (by decide) (by decide) W)
    have CB := Lib.hid (fun W => put_nat 65533 2 (by decide) (by decide) W)
    clear hS2 hS2' C1 HS
    have hx : ((⟨(putL 2 2).toArray⟩ : ByteArray) ++ ⟨(putL 65533 2).toArray⟩ ++ s.extract 0 2).size ≤ 1000000 := by rw [← Hs.out]; decide +kernel
    have hov1 : ¬ 9223372036854775807 < (⟨(putL 2 2).toArray⟩ : ByteArray).size + (⟨(putL 65533 2).toArray⟩ : ByteArray).size := by decide +kernel
    have hov2 : ¬ 9223372036854775807 < ((⟨(putL 2 2).toArray⟩ : ByteArray) ++ ⟨(putL 65533 2).toArray⟩).size + (s.extract 0 2).size := by rw [← Hs.out]; decide +kernel
    obtain ⟨y1, Hy1⟩ : ∃ y, Hid ((⟨(putL 2 2).toArray⟩ : ByteArray) = y) := ⟨_, Lib.hid (Eq.refl _)⟩
    obtain ⟨y2, Hy2⟩ : ∃ y, Hid ((⟨(putL 65533 2).toArray⟩ : ByteArray) = y) := ⟨_, Lib.hid (Eq.refl _)⟩
    rw [Hy1.out] at hx hov1 hov2 CA
    rw [Hy2.out] at hx hov1 hov2 CB
    have hy1 : y1.size = 2 := by rw [← Hy1.out]; decide +kernel
    have hy2 : y2.size = 2 := by rw [← Hy2.out]; decide +kernel
    have CTx := Lib.hid (CT.out _ hx)
    simp only [show ((2 : Nat) : Int) = 2 from rfl, show ((65533 : Nat) : Int) = 65533 from rfl] at CA CB
    have hwA : IntKind.u64.wrap 2 = 2 := by decide
    have hxo : bits .xor .i64 2 65535 = 65533 := by decide +kernel
    have hwB : IntKind.u64.wrap 65533 = 65533 := by decide
    clear CT hov1 hov2
    go_wp2_with fail
    go_region_with (first
      | (go_at_call 67; (with_reducible refine (CA.out _).mono ?_); rintro e w3 ⟨rfl, hb3⟩)
      | (go_at_call 67; (with_reducible refine (CB.out _).mono ?_); rintro e w4 ⟨rfl, hb4⟩)
      | (go_at_call 66; refine (CTx.out _ (SinkAt.below (SinkAt.below hS3 hb3) hb4).1).mono ?_; rintro e w5 ⟨rfl, v5, hS5, hC5, hF5⟩))
    have HB5 := Lib.hid (hC5.below (bthen (bthen HB2.out.drew hb3) hb4) hPw Hrow.out)
    have HS5 := Lib.hid hS5
    clear hC5 hF5 hb3 hb4 hS3 hS5 CTx CA CB
    have CAll := Lib.hid (sinkAll_any P v5 _ _ (by omega) w5 HS5.out)
    have Hres : Hid ((⟨(bytesN (1 + leN (y1 ++ y2 ++ s.extract 0 2).data.toList * 2 ^ ((3 + 7) / 8 * 8)) (((3 + 7) / 8 * 8 + 8 * (y1 ++ y2 ++ s.extract 0 2).size + 7) / 8)).toArray⟩ : ByteArray) = ⟨#[1, 2, 0, 253, 255, 97, 98]⟩) := by
      show _ = _
      rw [← Hy1.out, ← Hy2.out, ← Hs.out]
      decide +kernel
    rw [Hres.out] at CAll
    go_wp2_with fail
    refine CAll.out.mono ?_
    rintro e w6 ⟨rfl, hb6⟩
    go_wp2_with fail
    go_ret
    exact ⟨rfl, bthen HB5.out hb6⟩
end Go.Proofs.Ytjnglahjngiofaa
