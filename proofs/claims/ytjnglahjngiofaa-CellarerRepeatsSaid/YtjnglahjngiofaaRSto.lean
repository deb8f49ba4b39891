/- inflate's reader: stored. Conditions: texts of at most a hundred thousand bytes. -/
import Derived.Test.YtjnglahjngiofaaRdr
import Derived.Test.YtjnglahjngiofaaInfM
import Derived.Test.YtjnglahjngiofaaXor16
namespace Go.Proofs.Ytjnglahjngiofaa
open Go.RowKit
set_option maxRecDepth 100000

/-- The bytes that a stored block takes at p. -/
def stoF (s : ByteArray) (p : Nat) : Nat := min ((p + 7) / 8) s.size
def stoT (s : ByteArray) (p k : Nat) : Nat := min (stoF s p + k) s.size

set_option maxHeartbeats 8000000 in
theorem stored_raw (R P : Nat) (s : ByteArray) (p z most e p0 v1 e1 v2 e2 e3 : Nat) (hs : s.size ≤ 100000) (hp : p ≤ 900000) (hz : z ≤ 1000000) (hm : most ≤ 1000000)
    (hp0 : (p + 7) / 8 * 8 = p0) (hv1 : bitsAt s p0 16 = v1) (he1 : bitsE s p0 16 e = e1) (hv2 : bitsAt s (p0 + 16) 16 = v2) (he2 : bitsE s (p0 + 16) 16 e1 = e2) (he3 : (if v1 ^^^ v2 = 65535 then e2 else firstE e2 3) = e3)
    (w : World) (hR : RdAt w R P s p z most e) :
    Calls Try.prog 48 #[.pointer (some ⟨R, 0, none⟩)] w fun r w' => Rch R P w w' ∧
      ((e3 ≠ 0 ∧ r = .returned (.string ⟨#[]⟩) ∧ RdAt w' R P s (p0 + 16 + 16) z most e3) ∨
       (e3 = 0 ∧ r = .returned (.string (s.extract (stoF s (p0 + 16 + 16)) (stoT s (p0 + 16 + 16) v1))) ∧ RdAt w' R P s ((p0 + 16 + 16 + 7) / 8 * 8 + 8 * v1) (z + v1) most (growE most (z + v1) (if stoT s (p0 + 16 + 16) v1 - stoF s (p0 + 16 + 16) < v1 then 6 else 0)))) := by
  have hp0l : p0 ≤ 900007 := by omega
  have hv1l : v1 < 65536 := by rw [← hv1]; exact bitsAt_lt s p0 16 (by decide)
  have hv2l : v2 < 65536 := by rw [← hv2]; exact bitsAt_lt s (p0 + 16) 16 (by decide)
  have hx := i64_xor16 v1 v2 hv1l hv2l
  obtain ⟨x, Hx⟩ : ∃ x, Hid (v1 ^^^ v2 = x) := ⟨_, Lib.hid (Eq.refl _)⟩
  rw [Hx.out] at hx he3
  have c0 := hR.1.cell 0
  simp at c0
  have CE := srcEven_any P s p (by omega) w hR.2.1
  rw [hp0] at CE
  have HCE := Lib.hid CE
  have CB1 := fun W hR => bits_any R P s p0 z most e 16 (by decide) hs (by omega) W hR
  rw [hv1, he1] at CB1
  have CB2 := fun W hR => bits_any R P s (p0 + 16) z most e1 16 (by decide) hs (by omega) W hR
  rw [hv2, he2] at CB2
  have H1 := Lib.hid CB1
  have H2 := Lib.hid CB2
  have HR := Lib.hid hR
  have He3 := Lib.hid he3
  obtain ⟨f, Hf⟩ : ∃ f, Hid (stoF s (p0 + 16 + 16) = f) := ⟨_, Lib.hid (Eq.refl _)⟩
  obtain ⟨t, Ht⟩ : ∃ t, Hid (stoT s (p0 + 16 + 16) v1 = t) := ⟨_, Lib.hid (Eq.refl _)⟩
  obtain ⟨p3, Hp3⟩ : ∃ p3, Hid (p0 + 16 + 16 = p3) := ⟨_, Lib.hid (Eq.refl _)⟩
  have hp3 : p3 ≤ 900039 := by have := Hp3.out; omega
  have HT : Hid (∀ W, RdAt W R P s p3 z most 0 → Calls Try.prog 71 #[.pointer (some ⟨P, 0, none⟩), .int .i64 (v1 : Int)] W fun r w' => r = .returned (.string (s.extract f t)) ∧ RdAt w' R P s ((p3 + 7) / 8 * 8 + 8 * v1) z most 0 ∧ Rch R P W w') := by
    intro W hW
    have C := srcText_any P s p3 v1 (v1 : Int) (.inr (.inl ⟨rfl, by omega⟩)) (by omega) (by omega) W hW.2.1
    have ef : min ((p3 + 7) / 8) s.size = f := by rw [← Hf.out, Hp3.out]; rfl
    have et : min (f + v1) s.size = t := by rw [← Ht.out, Hp3.out]; unfold stoT; rw [show stoF s p3 = f by rw [← Hf.out, Hp3.out]]
    rw [ef, et] at C
    exact C.mono fun r w' ⟨a1, a2, a3, _⟩ => ⟨a1, hW.read a2 a3, Rch.row a3⟩
  have htf : t - f ≤ v1 ∧ (s.extract f t).size = t - f := by
    have ef : min ((p3 + 7) / 8) s.size = f := by rw [← Hf.out, Hp3.out]; rfl
    have et : min (f + v1) s.size = t := by rw [← Ht.out, Hp3.out]; unfold stoT; rw [show stoF s p3 = f by rw [← Hf.out, Hp3.out]]
    rw [ByteArray.size_extract]
    omega
  obtain ⟨tx, Htx⟩ : ∃ x, Hid (s.extract f t = x) := ⟨_, Lib.hid (Eq.refl _)⟩
  obtain ⟨nf, Hnf⟩ : ∃ x, Hid (t - f = x) := ⟨_, Lib.hid (Eq.refl _)⟩
  rw [Htx.out] at htf HT
  rw [Hnf.out] at htf
  obtain ⟨hnf, hsz⟩ := htf
  obtain ⟨E5, HE5⟩ : ∃ x, Hid (growE most (z + v1) (if nf < v1 then 6 else 0) = x) := ⟨_, Lib.hid (Eq.refl _)⟩
  obtain ⟨p5, Hp5⟩ : ∃ x, Hid ((p3 + 7) / 8 * 8 + 8 * v1 = x) := ⟨_, Lib.hid (Eq.refl _)⟩
  rw [Hp5.out] at HT
  rw [Hf.out, Ht.out, Hp3.out, Htx.out, Hnf.out, HE5.out, Hp5.out]
  rw [Hp3.out] at H2
  clear CE CB1 CB2 hR he3 hv1 hv2 he1 he2 hp0
  go_enter Try.func48, Try.ntmps48
  go_wp2_with fail
  refine HCE.out.mono ?_
  rintro r w1 ⟨rfl, hS1, hg1, _⟩
  have HR1 := Lib.hid (HR.out.read hS1 hg1)
  have HC1 : Hid (Rch R P w w1) := Rch.row hg1
  clear hS1 hg1 c0
  go_wp2_with fail
  refine (H1.out _ HR1.out).mono ?_
  rintro r w2 ⟨rfl, hR2, hC2⟩
  have HR2 := Lib.hid hR2
  have HC2 := Lib.hid (HC1.out.trans hC2)
  clear hR2 hC2 HR1 HC1
  go_wp2_with fail
  refine (H2.out _ HR2.out).mono ?_
  rintro r w3 ⟨rfl, hR3, hC3⟩
  have HR3 := Lib.hid hR3
  have HC3 := Lib.hid (HC2.out.trans hC3)
  clear hR3 hC3 HR2 HC2
  by_cases hX : x = 65535
  · have dx : ((x : Int) != 65535) = false := by simp; omega
    have e3e : e2 = e3 := by have := He3.out; rwa [if_pos hX] at this
    subst e3e
    have c3 := HR3.out.1.cell 3
    have c0 := HR3.out.1.cell 0
    simp at c3 c0
    by_cases h0 : e2 = 0
    · subst h0
      have dt : decide ((nf : Int) < (v1 : Int)) = decide (nf < v1) := by
        by_cases h : nf < v1
        · rw [decide_eq_true h, decide_eq_true (by omega)]
        · rw [decide_eq_false h, decide_eq_false (by omega)]
      go_wp2_with fail
      refine (HT.out _ HR3.out).mono ?_
      rintro r w4 ⟨rfl, hR4, hC4⟩
      have HR4 := Lib.hid hR4
      have HC4 := Lib.hid (HC3.out.trans hC4)
      clear hR4 hC4 HR3 HC3 c3 c0
      by_cases hl : nf < v1
      · have dl : decide ((nf : Int) < (v1 : Int)) = true := by rw [decide_eq_true_eq]; omega
        have dl2 : decide (nf < v1) = true := by rw [decide_eq_true_eq]; omega
        have E5e : growE most (z + v1) 6 = E5 := by have := HE5.out; rwa [if_pos hl] at this
        clear dt
        go_wp2_with fail
        refine (fail_any R P s p5 z most 0 6 w4 HR4.out).mono ?_
        rintro r w5 ⟨rfl, hR5, hC5⟩
        have HR5 : Hid (RdAt w5 R P s p5 z most 6) := hR5
        have HC5 := Lib.hid (HC4.out.trans hC5)
        clear hR5 hC5 HR4 HC4
        go_wp2_with fail
        refine (grow_any R P s p5 z most 6 v1 (by omega) hm (by omega) w5 HR5.out).mono ?_
        rintro r w6 ⟨rfl, hR6, hC6⟩
        rw [E5e] at hR6
        have HR6 := Lib.hid hR6
        have HC6 := Lib.hid (HC5.out.trans hC6)
        clear hR6 hC6 HR5 HC5
        go_wp2_with fail
        go_ret
        first | exact ⟨HC6.out, .inr ⟨rfl, rfl, HR6.out⟩⟩ | exact ⟨HC6.out, rfl, HR6.out⟩
      · have dl : decide ((nf : Int) < (v1 : Int)) = false := by rw [decide_eq_false_iff_not]; omega
        have dl2 : decide (nf < v1) = false := by rw [decide_eq_false_iff_not]; omega
        have E5e : growE most (z + v1) 0 = E5 := by have := HE5.out; rwa [if_neg hl] at this
        clear dt
        go_wp2_with fail
        refine (grow_any R P s p5 z most 0 v1 (by omega) hm (by omega) w4 HR4.out).mono ?_
        rintro r w6 ⟨rfl, hR6, hC6⟩
        rw [E5e] at hR6
        have HR6 := Lib.hid hR6
        have HC6 := Lib.hid (HC4.out.trans hC6)
        clear hR6 hC6 HR4 HC4
        go_wp2_with fail
        go_ret
        first | exact ⟨HC6.out, .inr ⟨rfl, rfl, HR6.out⟩⟩ | exact ⟨HC6.out, rfl, HR6.out⟩
    · have d0 : ((e2 : Int) != 0) = true := by simp; omega
      go_wp2_with fail
      go_ret
      exact ⟨HC3.out, .inl ⟨h0, rfl, HR3.out⟩⟩
  · have dx : ((x : Int) != 65535) = true := by simp; omega
    have e3e : firstE e2 3 = e3 := by have := He3.out; rwa [if_neg hX] at this
    have h0 : e3 ≠ 0 := by rw [← e3e]; unfold firstE; split <;> omega
    have d0 : ((e3 : Int) != 0) = true := by simp; omega
    go_wp2_with fail
    refine (fail_any R P s p3 z most e2 3 w3 HR3.out).mono ?_
    rintro r w4 ⟨rfl, hR4, hC4⟩
    rw [e3e] at hR4
    have c3 := hR4.1.cell 3
    simp at c3
    have HR4 := Lib.hid hR4
    have HC4 := Lib.hid (HC3.out.trans hC4)
    clear hR4 hC4 HR3 HC3
    go_wp2_with fail
    go_ret
    exact ⟨HC4.out, .inl ⟨h0, rfl, HR4.out⟩⟩
end Go.Proofs.Ytjnglahjngiofaa
