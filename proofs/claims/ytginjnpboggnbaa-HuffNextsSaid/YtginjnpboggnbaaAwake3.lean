/- The laws' awake of layer 3. Conditions: none. -/
import Derived.Test.YtginjnpboggnbaaSource3
namespace Go.Proofs.Ytginjnpboggnbaa
open Go.RowKit
set_option maxRecDepth 100000

/-- Take with its answer told. -/
theorem take_at (P : Nat) (s : ByteArray) (p k x p2 : Nat) (hk : k ≤ 32) (hx : bitsAt s p k = x) (hp2 : p + k = p2) (hs : s.size ≤ 100000000) (hp : p ≤ 1000000000) (w : World) (hS : SrcAt w P s p) :
    Calls Try.prog 30 #[.pointer (some ⟨P, 0, none⟩), .int .i64 (k : Int)] w fun e w' => e = .returned (.int .u32 (x : Int)) ∧ SrcAt w' P s p2 ∧ w.grownBy w' (some P) ∧ w'.heap.size = w.heap.size := by
  rw [← hx, ← hp2]
  exact srcTake_any P s p k (k : Int) (.inr (.inl ⟨rfl, hk⟩)) hs hp w hS
theorem turned_at (P : Nat) (s : ByteArray) (p k x p2 : Nat) (hk : k ≤ 32) (hx : rev (bitsAt s p k) k = x) (hp2 : p + k = p2) (hs : s.size ≤ 100000000) (hp : p ≤ 1000000000) (w : World) (hS : SrcAt w P s p) :
    Calls Try.prog 31 #[.pointer (some ⟨P, 0, none⟩), .int .i64 (k : Int)] w fun e w' => e = .returned (.int .u32 (x : Int)) ∧ SrcAt w' P s p2 ∧ w.grownBy w' (some P) ∧ w'.heap.size = w.heap.size := by
  rw [← hx, ← hp2]
  exact srcTurned_any P s p k (k : Int) (.inr (.inl ⟨rfl, hk⟩)) hs hp w hS
theorem below_row {w0 w w' : World} {P : Nat} (h : Below w0.heap.size w0 w) (hg : w.grownBy w' (some P)) (hP : w0.heap.size ≤ P) : Below w0.heap.size w0 w' :=
  ⟨hg.os.trans h.os, hg.tape.trans h.tape, hg.output.trans h.output, Nat.le_trans h.size hg.size, fun g hgl =>
    (hg.block g (Nat.lt_of_lt_of_le hgl h.size) (fun e => by injection e with e; omega)).trans (h.block g hgl)⟩

set_option maxHeartbeats 4000000 in
theorem awake3_any (w : World) : Calls Try.prog 16 #[] w fun e w' => e = .returned (.bool true) ∧ Below w.heap.size w w' := by
  obtain ⟨s, Hs⟩ : ∃ s, Hid ((⟨#[210, 1]⟩ : ByteArray) = s) := ⟨_, Lib.hid (Eq.refl _)⟩
  obtain ⟨u, Hu⟩ : ∃ u, Hid ((⟨#[97]⟩ : ByteArray) = u) := ⟨_, Lib.hid (Eq.refl _)⟩
  have hs2 : s.size ≤ 100000000 := by rw [← Hs.out]; decide
  have hu1 : u.size = 1 := by rw [← Hu.out]; rfl
  have CO := Lib.hid (srcOf_any s w)
  have hb1 : bitsAt s 0 4 = 2 := by rw [← Hs.out]; decide +kernel
  have hb2 : rev (bitsAt s 4 4) 4 = 11 := by rw [← Hs.out]; decide +kernel
  have hb3 : bitsAt s 8 8 = 1 := by rw [← Hs.out]; decide +kernel
  have hb4 : bitsAt s 16 9 = 0 := by rw [← Hs.out]; decide +kernel
  have hss : s.size = 2 := by rw [← Hs.out]; rfl
  obtain ⟨P, HP⟩ : ∃ P, Hid (w.heap.size = P) := ⟨_, Lib.hid (Eq.refl _)⟩
  have C1 := Lib.hid (fun W h => take_at P s 0 4 2 4 (by decide) hb1 rfl hs2 (by decide) W h)
  have C2 := Lib.hid (fun W h => turned_at P s 4 4 11 8 (by decide) hb2 rfl hs2 (by decide) W h)
  have C3 := Lib.hid (fun W h => take_at P s 8 8 1 16 (by decide) hb3 rfl hs2 (by decide) W h)
  have C4 := Lib.hid (fun W h => take_at P s 16 9 0 25 (by decide) hb4 rfl hs2 (by decide) W h)
  have S1 := Lib.hid (fun W h => srcShort_any P s 8 hs2 W h)
  have S2 := Lib.hid (fun W h => srcShort_any P s 25 hs2 W h)
  rw [hss] at S1 S2
  have e1 : decide (8 * 2 < 8) = false := by decide
  have e2 : decide (8 * 2 < 25) = true := by decide
  rw [e1] at S1
  rw [e2] at S2
  rw [HP.out] at CO
  clear hb1 hb2 hb3 hb4 hss hs2 e1 e2
  go_enter Try.func16, Try.ntmps16
  rw [Hs.out]
  rw [Hu.out]
  go_wp2_with fail
  refine CO.out.mono ?_
  rintro e w1 ⟨rfl, hS1, hB1⟩
  have HS1 := Lib.hid hS1
  have HB1 := Lib.hid hB1
  have hPl : P < w1.heap.size := hS1.lt
  have hPw : w.heap.size ≤ P := by rw [HP.out]; exact Nat.le_refl _
  clear hS1 hB1
  have hK0 : SinkAt (w1.alloc (.cells #[.slice none 0 0, .int .u64 0, .int .i64 0] 37)) w1.heap.size (.slice none 0 0) 0 0 :=
    ⟨Blk.new w1 37 _, World.ownsRow_nil _ _ _ _, by decide⟩
  have HB2 := Lib.hid ((Below.refl w1.heap.size w1).alloc (Nat.le_refl _) (.cells #[.slice none 0 0, .int .u64 0, .int .i64 0] 37))
  obtain ⟨Q, HQ⟩ : ∃ Q, Hid (w1.heap.size = Q) := ⟨_, Lib.hid (Eq.refl _)⟩
  have hK0' := hK0
  rw [HQ.out] at hK0'
  have HK0 := Lib.hid hK0'
  clear hK0 hK0'
  have hQ1 : w1.heap.size ≤ Q := by rw [HQ.out]; exact Nat.le_refl _
  have C5 := Lib.hid (sinkPut_any Q (.slice none 0 0) 0 0 5 3 3 (by decide) (.inr (.inl ⟨rfl, by decide⟩)) (by decide) _ HK0.out)
  go_wp2_with fail
  rw [HQ.out]
  refine C5.out.mono ?_
  rintro e w2 ⟨rfl, v2, hK2, hC2, -⟩
  have HB3 := Lib.hid (hC2.below HB2.out hQ1 (fun g e => by cases e))
  have e1 : 0 + 5 % 2 ^ 3 * 2 ^ 0 = 5 := by decide
  rw [e1] at hK2
  have hr2 : ∀ g, v2.ownBlock = some g → w1.heap.size ≤ g := fun g e => by have := hK2.row g e; omega
  have C6 := Lib.hid (sinkTurn_any Q v2 5 3 1 2 2 (by decide) (.inr (.inl ⟨rfl, by decide⟩)) (by decide) w2 hK2)
  have Hr2 := Lib.hid hr2
  clear hC2 hK2 hr2 C5 HK0 HB2 e1
  go_wp2_with fail
  refine C6.out.mono ?_
  rintro e w3 ⟨rfl, v3, hK3, hC3, -⟩
  have HB4 := Lib.hid (hC3.below HB3.out hQ1 Hr2.out)
  have e1 : 5 + rev 1 2 % 2 ^ 2 * 2 ^ 3 = 21 := by decide +kernel
  rw [e1] at hK3
  have Hr3 := Lib.hid (fun g e => show w1.heap.size ≤ g by have := hK3.row g e; omega)
  have C7 := Lib.hid (sinkText_any Q v3 21 (3 + 2) u (by rw [hu1]; decide) (by decide) w3 hK3)
  clear hC3 hK3 C6 HB3 Hr2 e1
  go_wp2_with fail
  refine C7.out.mono ?_
  rintro e w4 ⟨rfl, v4, hK4, hC4, -⟩
  have HB5 := Lib.hid (hC4.below HB4.out hQ1 Hr3.out)
  have e1 : 21 + leN u.data.toList * 2 ^ ((3 + 2 + 7) / 8 * 8) = 24853 := by rw [← Hu.out]; decide +kernel
  rw [e1, hu1] at hK4
  have HK4 : Hid (SinkAt w4 Q v4 24853 16) := hK4
  have hS4 := HS1.out.below HB5.out hPl
  have HB6 : Hid (Below P w w4) := HB1.out.trans (HB5.out.mono (by omega))
  have HS4 := Lib.hid hS4
  clear hS4 hK4 hC4 C7 HB4 HB5 HB1 HS1 Hr3 e1 hu1
  go_wp2_with fail
  refine (C1.out _ HS4.out).mono ?_
  rintro e w5 ⟨rfl, hS5, hg5, -⟩
  have HG5 := Lib.hid hg5
  clear hg5 C1
  go_wp2_with fail
  refine (C2.out _ hS5).mono ?_
  rintro e w6 ⟨rfl, hS6, hg6, -⟩
  have HG6 := Lib.hid (grownBy_trans HG5.out hg6)
  clear hg6 C2 hS5 HG5
  go_wp2_with fail
  refine (S1.out _ hS6).mono ?_
  rintro e w7 ⟨rfl, n7, rfl⟩
  have hS7 : SrcAt (w6.drewN n7) P s 8 := hS6
  go_wp2_with fail
  refine (C3.out _ hS7).mono ?_
  rintro e w8 ⟨rfl, hS8, hg8, -⟩
  have HG8 := Lib.hid (grownBy_trans (show w4.grownBy (w6.drewN n7) (some P) from ⟨HG6.out.os, HG6.out.tape, HG6.out.output, HG6.out.size, HG6.out.block⟩) hg8)
  clear hg8 C3 hS7 hS6 HG6
  go_wp2_with fail
  refine (C4.out _ hS8).mono ?_
  rintro e w9 ⟨rfl, hS9, hg9, -⟩
  have HG9 := Lib.hid (grownBy_trans HG8.out hg9)
  clear hg9 C4 hS8 HG8
  go_wp2_with fail
  refine (S2.out _ hS9).mono ?_
  rintro e w10 ⟨rfl, n10, rfl⟩
  have hg10 : w4.grownBy (w9.drewN n10) (some P) := ⟨HG9.out.os, HG9.out.tape, HG9.out.output, HG9.out.size, HG9.out.block⟩
  have HB10 := Lib.hid (below_row (w0 := w) (P := P) (by rw [HP.out]; exact HB6.out) hg10 hPw)
  have hK10 := HK4.out.grown hg10 (fun g e => by injection e with e; omega)
  have CA := Lib.hid (sinkAll_any Q v4 24853 16 (by decide) _ hK10)
  have hres : (⟨(bytesN 24853 ((16 + 7) / 8)).toArray⟩ : ByteArray) = ⟨#[21, 97]⟩ := by decide +kernel
  rw [hres] at CA
  clear hres hK10 hg10 hS9 HG9 HK4 HB6
  go_wp2_with fail
  refine CA.out.mono ?_
  rintro e w11 ⟨rfl, hb11⟩
  go_wp2_with fail
  go_ret
  have h := HB10.out.trans (hb11.mono HB10.out.size)
  first
    | exact ⟨rfl, h⟩
    | (rw [HP.out] at h; exact ⟨rfl, h⟩)
end Go.Proofs.Ytginjnpboggnbaa
