/- huff's Tree.Next. Conditions: none. -/
import Derived.Test.YtahgeeklenojjaaPlant
import Derived.Test.YtahgeeklenojjaaSrcK
import Derived.Deep.RegionHeld3
namespace Go.Proofs.Ytahgeeklenojjaa
open Go.RowKit
set_option maxRecDepth 100000

/-- What is read at bit p of nb bits, behind which X stands: the symbol, the error's number, how many bits were taken. -/
def NextOut (F L : Nat → Nat) (In : Nat → Prop) (X nbits p sym err taken : Nat) : Prop :=
  1 ≤ taken ∧ (∀ m, 1 ≤ m → m < taken → p + m ≤ nbits ∧ ∃ s, In s ∧ Ext F L (rev X m) m s ∧ m < L s) ∧
  ((nbits < p + taken ∧ err = 6 ∧ sym = 0) ∨ (p + taken ≤ nbits ∧ (∀ s, In s → ¬ Ext F L (rev X taken) taken s) ∧ err = 3 ∧ sym = 0) ∨
   (p + taken ≤ nbits ∧ In sym ∧ L sym = taken ∧ F sym = rev X taken ∧ err = 0))
theorem one_bit (s : ByteArray) (p d : Nat) : bitsAt s (p + d) 1 = num s / 2 ^ p / 2 ^ d % 2 := by
  unfold bitsAt
  rw [Nat.div_div_eq_div_mul, ← Nat.pow_add]
theorem rev_next (X d : Nat) : rev X (d + 1) = 2 * rev X d + X / 2 ^ d % 2 := rfl

set_option maxHeartbeats 8000000 in
theorem next_any (F L : Nat → Nat) (In : Nat → Prop) (T g N cap : Nat) (B : Nat → Nat → Int) (pv pn : Nat → Nat) (hG : Grown F L In B N pv pn) (hL : ∀ s, In s → L s ≤ 15) (hIn : ∀ s, In s → s < 1000)
    (P : Nat) (s : ByteArray) (p : Nat) (hs : s.size ≤ 100000) (hp : p ≤ 1000000) (hPT : T ≠ P) (hPg : g ≠ P) (w : World) (hT : TreeAt w T g N cap B) (hS : SrcAt w P s p) :
    Calls Try.prog 13 #[.pointer (some ⟨T, 0, none⟩), .pointer (some ⟨P, 0, none⟩)] w fun e w' =>
      ∃ sym err taken : Nat, e = .returned (.tuple #[.int .i64 (sym : Int), .int .i64 (err : Int)]) ∧ NextOut F L In (num s / 2 ^ p) (8 * s.size) p sym err taken ∧ taken ≤ 16 ∧ SrcAt w' P s (p + taken) ∧ w.grownBy w' (some P) ∧ w'.heap.size = w.heap.size := by
  have HG := Lib.hid hG
  have HL := Lib.hid hL
  have HI := Lib.hid hIn
  have HS := Lib.hid hS
  have HT := Lib.hid hT
  have HPT := Lib.hid hPT
  have HPg := Lib.hid hPg
  have Hgr : Hid (w.grownBy w (some P)) := ⟨rfl, rfl, rfl, Nat.le_refl _, fun _ _ _ => rfl⟩
  obtain ⟨X, HX⟩ : ∃ X, Hid (num s / 2 ^ p = X) := ⟨_, Lib.hid (Eq.refl _)⟩
  rw [HX.out]
  clear hG hL hIn hS hT hPT hPg
  go_enter Try.func13, Try.ntmps13
  go_wp2_with fail
  go_loopw [6] (fun at_ wr => ∃ a d : Nat, a < N ∧ d ≤ 15 ∧ at_ = .int .i64 (a : Int) ∧ Hid (pn a = d) ∧ Hid (pv a = rev X d) ∧ Hid (∀ m, 1 ≤ m → m < d + 1 → p + m ≤ 8 * s.size ∧ ∃ σ, In σ ∧ Ext F L (rev X m) m σ ∧ m < L σ) ∧
      Hid (SrcAt wr P s (p + d)) ∧ Hid (TreeAt wr T g N cap B) ∧ Hid (w.grownBy wr (some P)) ∧ Hid (wr.heap.size = w.heap.size)) (fun _ wr => p + 16 - cellNat wr ⟨P, 1, none⟩)
  case atStart => exact ⟨0, 0, HG.out.pos, by omega, rfl, HG.out.root.2, HG.out.root.1, (fun m h1 h2 => by omega), HS, HT, Hgr, rfl⟩
  case round =>
    clear HS HT Hgr
    obtain ⟨a, d, ha, hd15, rfl, Hpn, Hpv, Hpre, HS, HT, Hgr, Hsz⟩ := hrel
    obtain ⟨b, Hb⟩ : ∃ b, Hid (bitsAt s (p + d) 1 = b) := ⟨_, Lib.hid (Eq.refl _)⟩
    have hb2 : b < 2 := by rw [← Hb.out, one_bit]; exact Nat.mod_lt _ (by decide)
    have Hnx : Hid (rev X (d + 1) = 2 * pv a + b) := by
      show _ = _
      rw [rev_next, ← Hpv.out, ← Hb.out, one_bit, HX.out]
    obtain ⟨v, Hv⟩ : ∃ v, Hid (B a b = v) := ⟨_, Lib.hid (Eq.refl _)⟩
    obtain ⟨p2, Hp2⟩ : ∃ v, Hid (p + d + 1 = v) := ⟨_, Lib.hid (Eq.refl _)⟩
    have hp2 : p2 ≤ 2000000 := by have := Hp2.out; omega
    have CT := Lib.hid (fun W h => take_at P s (p + d) 1 b p2 (by decide) Hb.out Hp2.out (by omega) (by omega) W h)
    have hSd : Hid (SrcAt wr.drew P s (p + d)) := HS.out
    have hTd : Hid (TreeAt wr.drew T g N cap B) := HT.out
    have hgd : Hid (w.grownBy wr.drew (some P)) := ⟨Hgr.out.os, Hgr.out.tape, Hgr.out.output, Hgr.out.size, Hgr.out.block⟩
    have cm := cellNat_of (n := p + d) (by simpa using Blk.cell HS.out 1)
    have Hcm := Lib.hid cm
    have ct := hTd.out.1.cell 0
    have cv := hTd.out.2.2 a b ha hb2
    rw [Hv.out] at cv
    simp at ct
    have haI : (a : Int) < (N : Int) := by omega
    have hbI : (b : Int) < 2 := by omega
    clear HS HT Hgr cm
    go_wp2_with fail
    go_region_held3 (fun W => W.cell? ⟨T, 0, none⟩ = some (.slice (some ⟨g, 0, none⟩) N cap) ∧ W.cell? ⟨g, a * 2 + b, none⟩ = some (.int .i64 v))
      (first | exact ⟨by assumption, by assumption⟩ | go_keep)
      (first
        | (go_at_call 28; refine (CT.out _ hSd.out).mono ?_; rintro e w6 ⟨rfl, hS6, hg6, hz6⟩; have hT6 := hTd.out.grown hg6 HPT.out HPg.out; have q1 := hT6.1.cell 0; have q2 := hT6.2.2 a b ha hb2; simp at q1; rw [Hv.out] at q2))
    have HS6 := Lib.hid hS6
    have HT6 := Lib.hid hT6
    have Hg6 := Lib.hid (grownBy_trans hgd.out hg6)
    have Hz6 : Hid (w6.heap.size = w.heap.size) := hz6.trans Hsz.out
    obtain ⟨S2, HS2⟩ : ∃ b, Hid (decide (8 * s.size < p2) = b) := ⟨_, Lib.hid (Eq.refl _)⟩
    have CS := srcShort_any P s p2 (by omega) w6 HS6.out
    rw [HS2.out] at CS
    have HCS := Lib.hid CS
    have hc := HG.out.cells a ha b hb2
    have Hc := Lib.hid hc
    have e1 : p + (d + 1) = p2 := Hp2.out
    have Hn := Hnx.out
    rename_i hh
    clear hh hS6 hT6 hg6 hz6 CS hc q1 q2 cv ct haI hbI hSd hTd hgd CT Hsz
    go_wp2_with fail
    refine HCS.out.mono ?_
    rintro e w7 ⟨rfl, nq, rfl⟩
    have HS7 : Hid (SrcAt (w6.drewN nq) P s p2) := HS6.out
    have HT7 : Hid (TreeAt (w6.drewN nq) T g N cap B) := HT6.out
    have Hg7 : Hid (w.grownBy (w6.drewN nq) (some P)) := ⟨Hg6.out.os, Hg6.out.tape, Hg6.out.output, Hg6.out.size, Hg6.out.block⟩
    have Hz7 : Hid ((w6.drewN nq).heap.size = w.heap.size) := Hz6.out
    have Hn1 := Lib.hid Hn
    have He1 := Lib.hid e1
    clear HCS HS6 HT6 Hg6 Hz6 Hn e1
    cases S2 with
    | true =>
      have hsh : 8 * s.size < p2 := by simpa using HS2.out
      go_wp2_with fail
      go_ret2
      exact ⟨0, 6, d + 1, rfl, ⟨by omega, Hpre.out, .inl ⟨by rw [He1.out]; exact hsh, rfl, rfl⟩⟩, by omega, by rw [He1.out]; exact HS7.out, Hg7.out, Hz7.out⟩
    | false =>
      have hsh : p2 ≤ 8 * s.size := by have := of_decide_eq_false HS2.out; omega
      rcases Hc.out with ⟨h1, h2⟩ | ⟨j, h1, h2, h3, h4, h5, h6⟩ | ⟨σ, h1, h2, h3, h4⟩
      · obtain rfl : v = 0 := by rw [← Hv.out]; exact h1
        have H2 := Lib.hid h2
        clear h1 h2
        go_wp2_with fail
        go_ret2
        refine ⟨0, 3, d + 1, rfl, ⟨by omega, Hpre.out, .inr (.inl ⟨by rw [He1.out]; exact hsh, ?_, rfl, rfl⟩)⟩, by omega, by rw [He1.out]; exact HS7.out, Hg7.out, Hz7.out⟩
        intro σ hσ
        have := H2.out σ hσ
        rw [Hpn.out, ← Hn1.out] at this
        exact this
      · obtain rfl : v = (j : Int) := by rw [← Hv.out]; exact h1
        have H6 := Lib.hid h6
        have H4 := Lib.hid h4
        have H5 := Lib.hid h5
        have dj : ((j : Int) == 0) = false := by simp; omega
        have dj2 : decide ((j : Int) < 0) = false := by rw [decide_eq_false_iff_not]; omega
        have hd14 : d + 1 ≤ 15 := by
          obtain ⟨σ, h7, h8, h9⟩ := h6
          have := HL.out σ h7
          rw [Hpn.out] at h9
          omega
        have Hpre2 : Hid (∀ m, 1 ≤ m → m < d + 1 + 1 → p + m ≤ 8 * s.size ∧ ∃ σ, In σ ∧ Ext F L (rev X m) m σ ∧ m < L σ) := by
          intro m h7 h8
          by_cases e : m = d + 1
          · subst e
            refine ⟨by rw [He1.out]; exact hsh, ?_⟩
            obtain ⟨σ, h9, h10, h11⟩ := H6.out
            rw [Hpn.out, ← Hn1.out] at h10
            rw [Hpn.out] at h11
            exact ⟨σ, h9, h10, h11⟩
          · exact Hpre.out m h7 (by omega)
        clear h1 h4 h5 h6
        go_wp2_with fail
        go_roundw
        case rel => exact ⟨j, d + 1, h3, hd14, rfl, (by show _ = _; rw [H5.out, Hpn.out]), (by show _ = _; rw [H4.out]; exact Hn1.out.symm), Hpre2, (by show SrcAt _ _ _ _; rw [He1.out]; exact HS7.out), HT7, Hg7, Hz7⟩
        case measure =>
          have cm : cellNat (w6.drewN nq) ⟨P, 1, none⟩ = p2 := cellNat_of ((Blk.cell HS7.out 1).trans rfl)
          rw [cm, Hcm.out]
          have := Hp2.out
          omega
      · obtain rfl : v = -1 - (σ : Int) := by rw [← Hv.out]; exact h1
        have hσ := HI.out σ h2
        have dj : ((-1 - (σ : Int)) == 0) = false := by simp; omega
        have dj2 : decide (-1 - (σ : Int) < 0) = true := by rw [decide_eq_true_eq]; omega
        have e2 : -1 - (-1 - (σ : Int)) = (σ : Int) := by omega
        have H2 := Lib.hid h2
        have H3 := Lib.hid h3
        have H4 := Lib.hid h4
        clear h1 h2 h3 h4
        go_wp2_with fail
        go_ret2
        exact ⟨σ, 0, d + 1, rfl, ⟨by omega, Hpre.out, .inr (.inr ⟨by rw [He1.out]; exact hsh, H2.out, by rw [H3.out, Hpn.out], by rw [H4.out]; exact Hn1.out.symm, rfl⟩)⟩, by omega, by rw [He1.out]; exact HS7.out, Hg7.out, Hz7.out⟩
end Go.Proofs.Ytahgeeklenojjaa
