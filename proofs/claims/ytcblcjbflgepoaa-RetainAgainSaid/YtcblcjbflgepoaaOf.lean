/- The document's months: Of, Two, Date. Conditions: seconds up to the year 9999. -/
import Derived.Test.YtcblcjbflgepoaaDate
import Derived.Deep.Cut
namespace Go.Proofs.Ytcblcjbflgepoaa
open Go.RowKit
set_option maxRecDepth 100000

/-- The month that m is, in memory. -/
def MBlk (w : World) (g N : Nat) : Prop :=
  Blk w g 30 #[.int .i64 (N : Int), .int .i64 ((1970 + N / 12 : Nat) : Int), .int .i64 ((N % 12 + 1 : Nat) : Int), .int .i64 ((mo N - 719528 : Nat) : Int), .int .i64 ((lenM (1970 + N / 12) (N % 12) : Nat) : Int)]

theorem refLeap_any (y : Nat) (h : y < 1000000) (w : World) :
    Calls Try.prog 31 #[.int .i64 (y : Int)] w fun e w' => e = .returned (.bool (leapN y)) ∧ w = w' := by
  by_cases h4 : y % 4 = 0
  · by_cases h100 : y % 100 = 0
    · by_cases h400 : y % 400 = 0
      · have e4 : ((y : Int) % 4 == 0) = true := by simp; omega
        have e100 : ((y : Int) % 100 != 0) = false := by simp; omega
        have e400 : ((y : Int) % 400 == 0) = true := by simp; omega
        have H : Hid (leapN y = true) := by show _ = _; unfold leapN; simp [h4, h400]
        clear h4 h100 h400
        go_enter Try.func31, Try.ntmps31
        go_wp2
        go_ret
        exact ⟨ret_bool H.out.symm, rfl⟩
      · have e4 : ((y : Int) % 4 == 0) = true := by simp; omega
        have e100 : ((y : Int) % 100 != 0) = false := by simp; omega
        have e400 : ((y : Int) % 400 == 0) = false := by simp; omega
        have H : Hid (leapN y = false) := by show _ = _; unfold leapN; simp [h100, h400]
        clear h4 h100 h400
        go_enter Try.func31, Try.ntmps31
        go_wp2
        go_ret
        exact ⟨ret_bool H.out.symm, rfl⟩
    · have e4 : ((y : Int) % 4 == 0) = true := by simp; omega
      have e100 : ((y : Int) % 100 != 0) = true := by simp; omega
      have e400 : ((y : Int) % 400 == 0) = false := by simp; omega
      have H : Hid (leapN y = true) := by show _ = _; unfold leapN; simp [h4, h100]
      clear h4 h100
      go_enter Try.func31, Try.ntmps31
      go_wp2
      go_ret
      exact ⟨ret_bool H.out.symm, rfl⟩
  · have e4 : ((y : Int) % 4 == 0) = false := by simp; omega
    have e400 : ((y : Int) % 400 == 0) = false := by simp; omega
    have H : Hid (leapN y = false) := by show _ = _; unfold leapN; simp [h4]
    clear h4
    go_enter Try.func31, Try.ntmps31
    go_wp2
    go_ret
    exact ⟨ret_bool H.out.symm, rfl⟩

/-- What follows speaks of the world by these words alone. -/
theorem gen_code {P : Program} {c : Code} {Q : Exit → Act → World → Prop} {a : Act} {w : World} (R : World → Prop) (hR : R w) (h : ∀ w', R w' → Code.wp P c Q a w') : Code.wp P c Q a w := h w hR
def cellNat (w : World) (p : Addr) : Nat := (intOf ((w.cell? p).getD undef)).toNat
theorem cellNat_of {w : World} {p : Addr} {n : Nat} (h : w.cell? p = some (.int .i64 (n : Int))) : cellNat w p = n := by unfold cellNat; rw [h]; simp [intOf]
/-- What Of hands back. -/
def monthV (D : Nat) : Value := .agg #[.int .i64 (mon D : Int), .int .i64 ((1970 + mon D / 12 : Nat) : Int), .int .i64 ((mon D % 12 + 1 : Nat) : Int), .int .i64 ((mo (mon D) - 719528 : Nat) : Int), .int .i64 ((lenM (1970 + mon D / 12) (mon D % 12) : Nat) : Int)]

set_option maxHeartbeats 4000000 in
theorem of_any (D : Nat) (hD : D ≤ 2932896) (w : World) :
    Calls Try.prog 20 #[.int .i64 (D : Int)] w fun e w' => e = .returned (monthV D) ∧ Below w.heap.size w w' := by
  go_enter Try.func20, Try.ntmps20
  go_wp2_with fail
  go_loopw [36, 37, 43] (fun _ _ _ wr => ∃ N : Nat, Hid (mo N ≤ D + 719528) ∧ MBlk wr (w.heap.size + 1) N ∧ Blk wr w.heap.size 30 #[.int .i64 0, .int .i64 0, .int .i64 0, .int .i64 0, .int .i64 0] ∧ Below w.heap.size w wr)
    (fun _ _ _ wr => D + 719528 - mo (cellNat wr ⟨w.heap.size + 1, 0, none⟩))
  case atStart =>
    refine ⟨0, by show _ ≤ _; rw [mo_zero]; omega, ?_, (Blk.new _ _ _).alloc _, ((Below.refl _ _).alloc (Nat.le_refl _) _).alloc (by simp) _⟩
    have h := Blk.new (w.alloc (.cells #[.int .i64 0, .int .i64 0, .int .i64 0, .int .i64 0, .int .i64 0] 30)) 30 #[.int .i64 0, .int .i64 1970, .int .i64 1, .int .i64 0, .int .i64 31]
    simp only [World.size_alloc] at h
    exact h
  case round =>
    obtain ⟨N, HN, hM, hR, hb⟩ := hrel
    have hN := HN.out
    have hNl : N < 96360 := by
      rcases Nat.lt_or_ge N 96360 with h1 | h1
      · exact h1
      · have h2 := mo_mono h1
        have h3 : mo 96360 = 3652425 := by decide
        omega
    have hms := mo_succ N
    have hm0 := mo_mono (Nat.zero_le N)
    rw [mo_zero] at hm0
    have hlg := lenM_ge (1970 + N / 12) (N % 12)
    have hll := lenM_le (1970 + N / 12) (N % 12)
    obtain ⟨y, Hy, hy⟩ : ∃ y, Hid (1970 + N / 12 = y) ∧ y ≤ 10000 := ⟨_, rfl, by omega⟩
    obtain ⟨μ, Hμ, hμ⟩ : ∃ μ, Hid (N % 12 + 1 = μ) ∧ (1 ≤ μ ∧ μ ≤ 12) := ⟨_, rfl, by omega⟩
    obtain ⟨b, Hb, hbl⟩ : ∃ b, Hid (mo N = b + 719528) ∧ b ≤ 2932896 := ⟨mo N - 719528, by show _ = _; omega, by omega⟩
    obtain ⟨L, HL⟩ : ∃ L, Hid (lenM (1970 + N / 12) (N % 12) = L) := ⟨_, rfl⟩
    have HM := Lib.hid hM
    rw [HL.out] at hlg hll hms
    unfold MBlk at hM
    rw [Hy.out, Hμ.out, show mo N - 719528 = b by have := Hb.out; omega, ← Hy.out, HL.out, Hy.out] at hM
    have Hms := Lib.hid hms
    have hc0 := hM.cell 0
    have hc1 := hM.cell 1
    have hc2 := hM.cell 2
    have hc3 := hM.cell 3
    have hc4 := hM.cell 4
    simp at hc0 hc1 hc2 hc3 hc4
    have hf0 := hM.frozen 0
    have hf1 := hM.frozen 1
    have hf2 := hM.frozen 2
    have hf3 := hM.frozen 3
    have hf4 := hM.frozen 4
    have hcn : cellNat wr ⟨w.heap.size + 1, 0, none⟩ = N := cellNat_of hc0
    have Hcn := Lib.hid hcn
    have HMb := Lib.hid hM
    have HRb := Lib.hid hR
    clear hms hm0 hN hcn hM hR
    by_cases hlt : b + L ≤ D
    · have hbL : b + L ≤ 2932896 := by omega
      obtain ⟨B, HB, hBl⟩ : ∃ B, Hid (b + L = B) ∧ B ≤ 2932896 := ⟨_, rfl, hbL⟩
      have hstep : ∀ y' μ' L' : Nat, (1970 + (N + 1) / 12 = y') → ((N + 1) % 12 + 1 = μ') → lenM (1970 + (N + 1) / 12) ((N + 1) % 12) = L' → ∀ w' : World,
          Blk w' (w.heap.size + 1) 30 #[.int .i64 ((N : Int) + 1), .int .i64 (y' : Int), .int .i64 (μ' : Int), .int .i64 (B : Int), .int .i64 (L' : Int)] → MBlk w' (w.heap.size + 1) (N + 1) := by
        intro y' μ' L' h1 h2 h3 w' h
        unfold MBlk
        rw [h3, h1, h2, Hms.out, Hb.out, show b + 719528 + L - 719528 = B by have := HB.out; omega]
        exact h
      have Hstep := Lib.hid hstep
      clear hstep
      have hμ1 := hμ.1
      have hμ2 := hμ.2
      have hBB : (b : Int) + (L : Int) = (B : Int) := by have := HB.out; omega
      have hgen : ∃ y' μ' : Nat, Hid (1970 + (N + 1) / 12 = y') ∧ Hid ((N + 1) % 12 + 1 = μ') ∧ y' ≤ 10001 ∧ ((μ < 12 ∧ y' = y ∧ μ' = μ + 1) ∨ (μ = 12 ∧ y' = y + 1 ∧ μ' = 1)) :=
        ⟨_, _, rfl, rfl, by omega, by have := Hy.out; have := Hμ.out; omega⟩
      obtain ⟨y', μ', Hy', Hμ', hy', hcase⟩ := hgen
      have hμ'1 : 1 ≤ μ' ∧ μ' ≤ 12 := by omega
      rcases hcase with ⟨hlt12, ey, em⟩ | ⟨rfl, ey, em⟩
      all_goals
        have Hey := Lib.hid ey
        have Hem := Lib.hid em
        clear ey em
        go_upto_region 9 with (fail)
        refine gen_code (fun W => Blk W (w.heap.size + 1) 30 #[.int .i64 ((N : Int) + 1), .int .i64 (y' : Int), .int .i64 (μ' : Int), .int .i64 (B : Int), .int .i64 (L : Int)] ∧
            Blk W w.heap.size 30 #[.int .i64 0, .int .i64 0, .int .i64 0, .int .i64 0, .int .i64 0] ∧ Below w.heap.size w W) ⟨?_, ?_, ?_⟩ ?_
        · have h := HMb.out
          rw [Hey.out, Hem.out]
          unfold Blk at h ⊢
          simp [World.setCell, Array.getElem?_modify, h]
        · have h := HRb.out
          unfold Blk at h ⊢
          simp [World.setCell, Array.getElem?_modify, h]
        · repeat (first | with_reducible exact hb | with_reducible refine Below.setCell ?_ (by simp) _)
        · rintro W ⟨hM2, hR2, hb2⟩
          clear hc0 hc1 hc2 hc3 hc4 hf0 hf1 hf2 hf3 hf4
          have hc1 := hM2.cell 1
          have hc2 := hM2.cell 2
          have hc4 := hM2.cell 4
          simp at hc1 hc2 hc4
          have hf4 := hM2.frozen 4
          have HM2 := Lib.hid hM2
          have HR2 := Lib.hid hR2
          clear hM2 hR2
          have hm1 := hμ'1.1
          have hm2 := hμ'1.2
          rcases show μ' = 1 ∨ μ' = 2 ∨ μ' = 3 ∨ μ' = 4 ∨ μ' = 5 ∨ μ' = 6 ∨ μ' = 7 ∨ μ' = 8 ∨ μ' = 9 ∨ μ' = 10 ∨ μ' = 11 ∨ μ' = 12 by omega with rfl | rfl | rfl | rfl | rfl | rfl | rfl | rfl | rfl | rfl | rfl | rfl
          · go_wp2_with fail
            go_roundw
            case rel =>
              refine ⟨N + 1, by show _ ≤ _; rw [Hms.out, Hb.out]; have := HB.out; omega, Hstep.out _ _ 31 Hy'.out Hμ'.out (by rw [Hy'.out, show (N + 1) % 12 = 0 by have := Hμ'.out; omega]; rfl) _ ?_, ?_, ?_⟩
              · have h := HM2.out
                unfold Blk at h ⊢
                simp [World.setCell, Array.getElem?_modify, h]
              · have h := HR2.out
                unfold Blk at h ⊢
                simp [World.setCell, Array.getElem?_modify, h]
              · repeat (first | with_reducible exact hb2 | with_reducible refine Below.setCell ?_ (by simp) _)
            case measure =>
              rw [Hcn.out]
              refine Nat.lt_of_le_of_lt (Nat.le_of_eq (congrArg (fun z => D + 719528 - mo z) (cellNat_of (n := N + 1) ?_))) ?_
              · have h := HM2.out
                unfold Blk at h
                simp [World.cell?, World.setCell, Array.getElem?_modify, h]
              · have h1 := Hms.out
                have h2 := Hb.out
                show D + 719528 - mo (N + 1) < _
                have := HB.out
                omega
          · cases hl : leapN y'
            · have Hl := Lib.hid hl
              clear hl
              go_wp2_with (go_at_call 31; refine (refLeap_any y' (by omega) _).mono ?_; rw [Hl.out]; rintro e w' ⟨rfl, rfl⟩)
              go_roundw
              case rel =>
                refine ⟨N + 1, by show _ ≤ _; rw [Hms.out, Hb.out]; have := HB.out; omega, Hstep.out _ _ 28 Hy'.out Hμ'.out (by rw [Hy'.out, show (N + 1) % 12 = 1 by have := Hμ'.out; omega]; unfold lenM; rw [Hl.out]; rfl) _ ?_, ?_, ?_⟩
                · have h := HM2.out
                  unfold Blk at h ⊢
                  simp [World.setCell, Array.getElem?_modify, h]
                · have h := HR2.out
                  unfold Blk at h ⊢
                  simp [World.setCell, Array.getElem?_modify, h]
                · repeat (first | with_reducible exact hb2 | with_reducible refine Below.setCell ?_ (by simp) _)
              case measure =>
                rw [Hcn.out]
                refine Nat.lt_of_le_of_lt (Nat.le_of_eq (congrArg (fun z => D + 719528 - mo z) (cellNat_of (n := N + 1) ?_))) ?_
                · have h := HM2.out
                  unfold Blk at h
                  simp [World.cell?, World.setCell, Array.getElem?_modify, h]
                · have h1 := Hms.out
                  have h2 := Hb.out
                  show D + 719528 - mo (N + 1) < _
                  have := HB.out
                  omega
            · have Hl := Lib.hid hl
              clear hl
              go_wp2_with (go_at_call 31; refine (refLeap_any y' (by omega) _).mono ?_; rw [Hl.out]; rintro e w' ⟨rfl, rfl⟩)
              go_roundw
              case rel =>
                refine ⟨N + 1, by show _ ≤ _; rw [Hms.out, Hb.out]; have := HB.out; omega, Hstep.out _ _ 29 Hy'.out Hμ'.out (by rw [Hy'.out, show (N + 1) % 12 = 1 by have := Hμ'.out; omega]; unfold lenM; rw [Hl.out]; rfl) _ ?_, ?_, ?_⟩
                · have h := HM2.out
                  unfold Blk at h ⊢
                  simp [World.setCell, Array.getElem?_modify, h]
                · have h := HR2.out
                  unfold Blk at h ⊢
                  simp [World.setCell, Array.getElem?_modify, h]
                · repeat (first | with_reducible exact hb2 | with_reducible refine Below.setCell ?_ (by simp) _)
              case measure =>
                rw [Hcn.out]
                refine Nat.lt_of_le_of_lt (Nat.le_of_eq (congrArg (fun z => D + 719528 - mo z) (cellNat_of (n := N + 1) ?_))) ?_
                · have h := HM2.out
                  unfold Blk at h
                  simp [World.cell?, World.setCell, Array.getElem?_modify, h]
                · have h1 := Hms.out
                  have h2 := Hb.out
                  show D + 719528 - mo (N + 1) < _
                  have := HB.out
                  omega
          · go_wp2_with fail
            go_roundw
            case rel =>
              refine ⟨N + 1, by show _ ≤ _; rw [Hms.out, Hb.out]; have := HB.out; omega, Hstep.out _ _ 31 Hy'.out Hμ'.out (by rw [Hy'.out, show (N + 1) % 12 = 2 by have := Hμ'.out; omega]; rfl) _ ?_, ?_, ?_⟩
              · have h := HM2.out
                unfold Blk at h ⊢
                simp [World.setCell, Array.getElem?_modify, h]
              · have h := HR2.out
                unfold Blk at h ⊢
                simp [World.setCell, Array.getElem?_modify, h]
              · repeat (first | with_reducible exact hb2 | with_reducible refine Below.setCell ?_ (by simp) _)
            case measure =>
              rw [Hcn.out]
              refine Nat.lt_of_le_of_lt (Nat.le_of_eq (congrArg (fun z => D + 719528 - mo z) (cellNat_of (n := N + 1) ?_))) ?_
              · have h := HM2.out
                unfold Blk at h
                simp [World.cell?, World.setCell, Array.getElem?_modify, h]
              · have h1 := Hms.out
                have h2 := Hb.out
                show D + 719528 - mo (N + 1) < _
                have := HB.out
                omega
          · go_wp2_with fail
            go_roundw
            case rel =>
              refine ⟨N + 1, by show _ ≤ _; rw [Hms.out, Hb.out]; have := HB.out; omega, Hstep.out _ _ 30 Hy'.out Hμ'.out (by rw [Hy'.out, show (N + 1) % 12 = 3 by have := Hμ'.out; omega]; rfl) _ ?_, ?_, ?_⟩
              · have h := HM2.out
                unfold Blk at h ⊢
                simp [World.setCell, Array.getElem?_modify, h]
              · have h := HR2.out
                unfold Blk at h ⊢
                simp [World.setCell, Array.getElem?_modify, h]
              · repeat (first | with_reducible exact hb2 | with_reducible refine Below.setCell ?_ (by simp) _)
            case measure =>
              rw [Hcn.out]
              refine Nat.lt_of_le_of_lt (Nat.le_of_eq (congrArg (fun z => D + 719528 - mo z) (cellNat_of (n := N + 1) ?_))) ?_
              · have h := HM2.out
                unfold Blk at h
                simp [World.cell?, World.setCell, Array.getElem?_modify, h]
              · have h1 := Hms.out
                have h2 := Hb.out
                show D + 719528 - mo (N + 1) < _
                have := HB.out
                omega
          · go_wp2_with fail
            go_roundw
            case rel =>
              refine ⟨N + 1, by show _ ≤ _; rw [Hms.out, Hb.out]; have := HB.out; omega, Hstep.out _ _ 31 Hy'.out Hμ'.out (by rw [Hy'.out, show (N + 1) % 12 = 4 by have := Hμ'.out; omega]; rfl) _ ?_, ?_, ?_⟩
              · have h := HM2.out
                unfold Blk at h ⊢
                simp [World.setCell, Array.getElem?_modify, h]
              · have h := HR2.out
                unfold Blk at h ⊢
                simp [World.setCell, Array.getElem?_modify, h]
              · repeat (first | with_reducible exact hb2 | with_reducible refine Below.setCell ?_ (by simp) _)
            case measure =>
              rw [Hcn.out]
              refine Nat.lt_of_le_of_lt (Nat.le_of_eq (congrArg (fun z => D + 719528 - mo z) (cellNat_of (n := N + 1) ?_))) ?_
              · have h := HM2.out
                unfold Blk at h
                simp [World.cell?, World.setCell, Array.getElem?_modify, h]
              · have h1 := Hms.out
                have h2 := Hb.out
                show D + 719528 - mo (N + 1) < _
                have := HB.out
                omega
          · go_wp2_with fail
            go_roundw
            case rel =>
              refine ⟨N + 1, by show _ ≤ _; rw [Hms.out, Hb.out]; have := HB.out; omega, Hstep.out _ _ 30 Hy'.out Hμ'.out (by rw [Hy'.out, show (N + 1) % 12 = 5 by have := Hμ'.out; omega]; rfl) _ ?_, ?_, ?_⟩
              · have h := HM2.out
                unfold Blk at h ⊢
                simp [World.setCell, Array.getElem?_modify, h]
              · have h := HR2.out
                unfold Blk at h ⊢
                simp [World.setCell, Array.getElem?_modify, h]
              · repeat (first | with_reducible exact hb2 | with_reducible refine Below.setCell ?_ (by simp) _)
            case measure =>
              rw [Hcn.out]
              refine Nat.lt_of_le_of_lt (Nat.le_of_eq (congrArg (fun z => D + 719528 - mo z) (cellNat_of (n := N + 1) ?_))) ?_
              · have h := HM2.out
                unfold Blk at h
                simp [World.cell?, World.setCell, Array.getElem?_modify, h]
              · have h1 := Hms.out
                have h2 := Hb.out
                show D + 719528 - mo (N + 1) < _
                have := HB.out
                omega
          · go_wp2_with fail
            go_roundw
            case rel =>
              refine ⟨N + 1, by show _ ≤ _; rw [Hms.out, Hb.out]; have := HB.out; omega, Hstep.out _ _ 31 Hy'.out Hμ'.out (by rw [Hy'.out, show (N + 1) % 12 = 6 by have := Hμ'.out; omega]; rfl) _ ?_, ?_, ?_⟩
              · have h := HM2.out
                unfold Blk at h ⊢
                simp [World.setCell, Array.getElem?_modify, h]
              · have h := HR2.out
                unfold Blk at h ⊢
                simp [World.setCell, Array.getElem?_modify, h]
              · repeat (first | with_reducible exact hb2 | with_reducible refine Below.setCell ?_ (by simp) _)
            case measure =>
              rw [Hcn.out]
              refine Nat.lt_of_le_of_lt (Nat.le_of_eq (congrArg (fun z => D + 719528 - mo z) (cellNat_of (n := N + 1) ?_))) ?_
              · have h := HM2.out
                unfold Blk at h
                simp [World.cell?, World.setCell, Array.getElem?_modify, h]
              · have h1 := Hms.out
                have h2 := Hb.out
                show D + 719528 - mo (N + 1) < _
                have := HB.out
                omega
          · go_wp2_with fail
            go_roundw
            case rel =>
              refine ⟨N + 1, by show _ ≤ _; rw [Hms.out, Hb.out]; have := HB.out; omega, Hstep.out _ _ 31 Hy'.out Hμ'.out (by rw [Hy'.out, show (N + 1) % 12 = 7 by have := Hμ'.out; omega]; rfl) _ ?_, ?_, ?_⟩
              · have h := HM2.out
                unfold Blk at h ⊢
                simp [World.setCell, Array.getElem?_modify, h]
              · have h := HR2.out
                unfold Blk at h ⊢
                simp [World.setCell, Array.getElem?_modify, h]
              · repeat (first | with_reducible exact hb2 | with_reducible refine Below.setCell ?_ (by simp) _)
            case measure =>
              rw [Hcn.out]
              refine Nat.lt_of_le_of_lt (Nat.le_of_eq (congrArg (fun z => D + 719528 - mo z) (cellNat_of (n := N + 1) ?_))) ?_
              · have h := HM2.out
                unfold Blk at h
                simp [World.cell?, World.setCell, Array.getElem?_modify, h]
              · have h1 := Hms.out
                have h2 := Hb.out
                show D + 719528 - mo (N + 1) < _
                have := HB.out
                omega
          · go_wp2_with fail
            go_roundw
            case rel =>
              refine ⟨N + 1, by show _ ≤ _; rw [Hms.out, Hb.out]; have := HB.out; omega, Hstep.out _ _ 30 Hy'.out Hμ'.out (by rw [Hy'.out, show (N + 1) % 12 = 8 by have := Hμ'.out; omega]; rfl) _ ?_, ?_, ?_⟩
              · have h := HM2.out
                unfold Blk at h ⊢
                simp [World.setCell, Array.getElem?_modify, h]
              · have h := HR2.out
                unfold Blk at h ⊢
                simp [World.setCell, Array.getElem?_modify, h]
              · repeat (first | with_reducible exact hb2 | with_reducible refine Below.setCell ?_ (by simp) _)
            case measure =>
              rw [Hcn.out]
              refine Nat.lt_of_le_of_lt (Nat.le_of_eq (congrArg (fun z => D + 719528 - mo z) (cellNat_of (n := N + 1) ?_))) ?_
              · have h := HM2.out
                unfold Blk at h
                simp [World.cell?, World.setCell, Array.getElem?_modify, h]
              · have h1 := Hms.out
                have h2 := Hb.out
                show D + 719528 - mo (N + 1) < _
                have := HB.out
                omega
          · go_wp2_with fail
            go_roundw
            case rel =>
              refine ⟨N + 1, by show _ ≤ _; rw [Hms.out, Hb.out]; have := HB.out; omega, Hstep.out _ _ 31 Hy'.out Hμ'.out (by rw [Hy'.out, show (N + 1) % 12 = 9 by have := Hμ'.out; omega]; rfl) _ ?_, ?_, ?_⟩
              · have h := HM2.out
                unfold Blk at h ⊢
                simp [World.setCell, Array.getElem?_modify, h]
              · have h := HR2.out
                unfold Blk at h ⊢
                simp [World.setCell, Array.getElem?_modify, h]
              · repeat (first | with_reducible exact hb2 | with_reducible refine Below.setCell ?_ (by simp) _)
            case measure =>
              rw [Hcn.out]
              refine Nat.lt_of_le_of_lt (Nat.le_of_eq (congrArg (fun z => D + 719528 - mo z) (cellNat_of (n := N + 1) ?_))) ?_
              · have h := HM2.out
                unfold Blk at h
                simp [World.cell?, World.setCell, Array.getElem?_modify, h]
              · have h1 := Hms.out
                have h2 := Hb.out
                show D + 719528 - mo (N + 1) < _
                have := HB.out
                omega
          · go_wp2_with fail
            go_roundw
            case rel =>
              refine ⟨N + 1, by show _ ≤ _; rw [Hms.out, Hb.out]; have := HB.out; omega, Hstep.out _ _ 30 Hy'.out Hμ'.out (by rw [Hy'.out, show (N + 1) % 12 = 10 by have := Hμ'.out; omega]; rfl) _ ?_, ?_, ?_⟩
              · have h := HM2.out
                unfold Blk at h ⊢
                simp [World.setCell, Array.getElem?_modify, h]
              · have h := HR2.out
                unfold Blk at h ⊢
                simp [World.setCell, Array.getElem?_modify, h]
              · repeat (first | with_reducible exact hb2 | with_reducible refine Below.setCell ?_ (by simp) _)
            case measure =>
              rw [Hcn.out]
              refine Nat.lt_of_le_of_lt (Nat.le_of_eq (congrArg (fun z => D + 719528 - mo z) (cellNat_of (n := N + 1) ?_))) ?_
              · have h := HM2.out
                unfold Blk at h
                simp [World.cell?, World.setCell, Array.getElem?_modify, h]
              · have h1 := Hms.out
                have h2 := Hb.out
                show D + 719528 - mo (N + 1) < _
                have := HB.out
                omega
          · go_wp2_with fail
            go_roundw
            case rel =>
              refine ⟨N + 1, by show _ ≤ _; rw [Hms.out, Hb.out]; have := HB.out; omega, Hstep.out _ _ 31 Hy'.out Hμ'.out (by rw [Hy'.out, show (N + 1) % 12 = 11 by have := Hμ'.out; omega]; rfl) _ ?_, ?_, ?_⟩
              · have h := HM2.out
                unfold Blk at h ⊢
                simp [World.setCell, Array.getElem?_modify, h]
              · have h := HR2.out
                unfold Blk at h ⊢
                simp [World.setCell, Array.getElem?_modify, h]
              · repeat (first | with_reducible exact hb2 | with_reducible refine Below.setCell ?_ (by simp) _)
            case measure =>
              rw [Hcn.out]
              refine Nat.lt_of_le_of_lt (Nat.le_of_eq (congrArg (fun z => D + 719528 - mo z) (cellNat_of (n := N + 1) ?_))) ?_
              · have h := HM2.out
                unfold Blk at h
                simp [World.cell?, World.setCell, Array.getElem?_modify, h]
              · have h1 := Hms.out
                have h2 := Hb.out
                show D + 719528 - mo (N + 1) < _
                have := HB.out
                omega
    · have hR := HRb.out
      have r0 := hR.cell 0
      have r1 := hR.cell 1
      have r2 := hR.cell 2
      have r3 := hR.cell 3
      have r4 := hR.cell 4
      simp at r0 r1 r2 r3 r4
      have g0 := hR.frozen 0
      have g1 := hR.frozen 1
      have g2 := hR.frozen 2
      have g3 := hR.frozen 3
      have g4 := hR.frozen 4
      clear hR
      go_wp2_with fail
      have hmon : mon D = N := mon_is HN.out (by rw [Hms.out, Hb.out]; omega)
      refine bodyPost_ret (v := .agg #[.int .i64 (N : Int), .int .i64 (y : Int), .int .i64 (μ : Int), .int .i64 (b : Int), .int .i64 (L : Int)]) (by simp [results, Try.results20, go_sem, r0, r1, r2, r3, r4]) rfl ⟨?_, ?_⟩
      · unfold monthV
        rw [hmon, Hy.out, Hμ.out, show mo N - 719528 = b by have := Hb.out; omega, ← Hy.out, HL.out]
      · repeat (first | with_reducible exact hb | with_reducible refine Below.setCell ?_ (by simp) _)
end Go.Proofs.Ytcblcjbflgepoaa
