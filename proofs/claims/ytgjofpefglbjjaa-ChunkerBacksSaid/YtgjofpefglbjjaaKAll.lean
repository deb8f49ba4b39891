/- The chunker: Split. Conditions: a text of at most a hundred thousand bytes. -/
import Derived.Test.YtgjofpefglbjjaaKStrs
namespace Go.Proofs.Ytgjofpefglbjjaa
open Go.RowKit
set_option maxRecDepth 100000

theorem kerr_ok {mn b mx : Int} (h : kErr mn b mx = 0) : ∃ m b' x : Nat, mn = m ∧ b = b' ∧ mx = x ∧ 1 ≤ m ∧ m ≤ x ∧ b' ≤ 20 ∧ x ≤ 4096 := by
  unfold kErr at h
  split at h
  · cases h
  · split at h
    · cases h
    · exact ⟨mn.toNat, b.toNat, mx.toNat, by omega, by omega, by omega, by omega, by omega, by omega, by omega⟩
theorem KChg.below {w0 w w' : World} {P : Nat} {v : Value} (h : KChg w w' P v) (hb : Below w0.heap.size w0 w) (hP : w0.heap.size ≤ P) (hv : ∀ g, v.ownBlock = some g → w0.heap.size ≤ g) : Below w0.heap.size w0 w' :=
  ⟨h.1.1.trans hb.os, h.1.2.1.trans hb.tape, h.1.2.2.trans hb.output, Nat.le_trans hb.size h.2.1, fun g hg =>
    (h.2.2 g (Nat.lt_of_lt_of_le hg hb.size) (by omega) (fun e => by have := hv g e; omega)).trans (hb.block g hg)⟩
theorem grown_below {w0 w w' : World} {row : Option Nat} (hg : w.grownBy w' row) (hb : Below w0.heap.size w0 w) (hr : ∀ g, row = some g → w0.heap.size ≤ g) : Below w0.heap.size w0 w' :=
  ⟨hg.os.trans hb.os, hg.tape.trans hb.tape, hg.output.trans hb.output, Nat.le_trans hb.size hg.size, fun g hlt =>
    (hg.block g (Nat.lt_of_lt_of_le hlt hb.size) (fun e => by have := hr g e.symm; omega)).trans (hb.block g hlt)⟩
theorem ClosePost.form {P base mn b mx : Nat} {h g : List UInt8} {w w' : World} {e : Ending} (hc : ClosePost P base mn b mx h g w e w') :
    (∃ v', KAt w' P base mn b mx h [] v' true) ∧ w.grownBy w' (some P) ∧ ∃ vo, e = .returned vo ∧ OwnS w' w.heap.size vo (rest1 g) := by
  obtain ⟨h1, h2, h3⟩ := hc
  refine ⟨h1, h2, ?_⟩
  rcases h3 with ⟨rfl, rfl⟩ | ⟨hg, q, hq, rfl, hB⟩
  · exact ⟨_, rfl, OwnS.nil _ _⟩
  · refine ⟨_, rfl, ?_⟩
    unfold rest1
    rw [if_neg hg]
    exact OwnS.one hB hq

theorem split_no (s : ByteArray) (mn b mx : Int) (hn : kErr mn b mx ≠ 0) (w : World) :
    Calls Try.prog 30 #[.string s, .agg #[.int .i64 mn, .int .i64 b, .int .i64 mx]] w fun e w' => e = .returned (.tuple #[.slice none 0 0, .int .i64 (kErr mn b mx : Int)]) ∧ Below w.heap.size w w' := by
  have hb0 := (Below.refl w.heap.size w).alloc (Nat.le_refl _) (.cells #[.int .i64 mn, .int .i64 b, .int .i64 mx] 41)
  have C := Lib.hid (fun W => new_no mn b mx hn W)
  obtain ⟨e, he⟩ : ∃ e, kErr mn b mx = e := ⟨_, rfl⟩
  rw [he] at hn C ⊢
  have hne : ((e : Int) != 0) = true := by simp; omega
  clear he hn
  go_enter Try.func30, Try.ntmps30
  go_wp2_with fail
  refine (C.out _).mono ?_
  rintro e w1 ⟨rfl, hb1⟩
  go_wp2_with fail
  go_ret2
  exact ⟨rfl, bthen hb0 hb1⟩

set_option maxHeartbeats 2000000 in
theorem split_yes (s : ByteArray) (hs : s.size ≤ 100000) (mn b mx : Nat) (hb : b ≤ 20) (hx : mx ≤ 4096) (hn : kErr mn b mx = 0) (w : World) :
    Calls Try.prog 30 #[.string s, .agg #[.int .i64 (mn : Int), .int .i64 (b : Int), .int .i64 (mx : Int)]] w fun e w' => ∃ vo, e = .returned (.tuple #[vo, .int .i64 0]) ∧ OwnS w' w.heap.size vo (csplit mn b mx s.data.toList) ∧ Below w.heap.size w w' := by
  have hb0 := (Below.refl w.heap.size w).alloc (Nat.le_refl _) (.cells #[.int .i64 (mn : Int), .int .i64 (b : Int), .int .i64 (mx : Int)] 41)
  have C := Lib.hid (fun W => new_yes mn b mx hn W)
  have CW := Lib.hid (fun P base w1 => write_any P base mn b mx [] [] (.slice none 0 0) s hs (by simp) hb hx w1)
  obtain ⟨S, HS⟩ : ∃ S, Hid (crun mn b mx ⟨[], [], []⟩ s.data.toList = S) := ⟨_, Lib.hid (Eq.refl _)⟩
  have hS : Hid (csplit mn b mx s.data.toList = S.out ++ rest1 S.begun) := by show _ = _; rw [← HS.out]; rfl
  have hl1 : S.begun.length ≤ 1000000 := by
    have := crun_begun_le mn b mx ⟨[], [], []⟩ s.data.toList
    rw [HS.out] at this
    simp at this
    omega
  have hl2 : S.out.length + (rest1 S.begun).length ≤ 1000000 := by
    have := crun_out_le mn b mx ⟨[], [], []⟩ s.data.toList
    rw [HS.out] at this
    simp at this
    have : (rest1 S.begun).length ≤ 1 := by unfold rest1; split <;> simp
    omega
  rw [HS.out] at CW
  clear hn hb hx
  go_enter Try.func30, Try.ntmps30
  go_wp2_with fail
  refine (C.out _).mono ?_
  rintro e w1 ⟨P, rfl, hP, hB1, hb1⟩
  have hb01 := bthen hb0 hb1
  have hPw : w.heap.size ≤ P := by simp at hP; omega
  have hK : KAt w1 P w.heap.size mn b mx [] [] (.slice none 0 0) false := ⟨_, 0, by rw [fp_nil]; exact hB1, KRing.start, OwnB.nil _ _⟩
  have Hb01 := Lib.hid hb01
  have HK := Lib.hid hK
  clear hb0 hb1 hB1 hP hb01 hK
  go_wp2_with fail
  refine (CW.out P w.heap.size w1 HK.out Hb01.out.size).mono ?_
  rintro e w2 ⟨vo, v, rfl, hOs, hKA, hchg, hfr⟩
  have hsz2 := hchg.2.1
  have hb2 := hchg.below Hb01.out hPw (fun g e => by cases e)
  have Hb2 := Lib.hid hb2
  have HKA := Lib.hid hKA
  have HOs := Lib.hid hOs
  clear HK hOs hKA hchg hfr hb2
  go_wp2_with fail
  refine (close_any P w.heap.size mn b mx S.hist S.begun v false w2 HKA.out hl1).mono ?_
  rintro e w3 hcl
  obtain ⟨_, hg3, vo2, rfl, hO2⟩ := hcl.form
  obtain ⟨ring, t, hBA, _, _⟩ := HKA.out
  have hO1 : OwnS w3 w1.heap.size vo S.out := HOs.out.grown hg3 (row_blk HOs.out hBA (by decide))
  have hb3 := grown_below hg3 Hb2.out (fun g e => by injection e with e; omega)
  have hw13 : w1.heap.size ≤ w3.heap.size := Nat.le_trans hsz2 hg3.size
  have hv1 := World.ownsRow.lt hO1
  have Hb3 := Lib.hid hb3
  have Hb1s := Hb01.out.size
  clear hb3 hg3 hBA hcl HOs HKA
  go_wp2_with (first
    | (at_builtin; go_must (refine wpList_append_two rfl (.tmp 18) (.tmp 20) rfl w1.heap.size w2.heap.size vo vo2 S.out (rest1 S.begun) rfl hO1 rfl hO2 hl2 hw13 ?_; intro v4 w4 hO4 hg4))
    | fail)
  go_ret2
  refine ⟨v4, rfl, ?_, ?_⟩
  · rw [hS.out]
    exact hO4.low Hb1s
  · exact grown_below hg4 Hb3.out (fun g e => Nat.le_trans Hb1s (hv1 g e).1)
end Go.Proofs.Ytgjofpefglbjjaa
