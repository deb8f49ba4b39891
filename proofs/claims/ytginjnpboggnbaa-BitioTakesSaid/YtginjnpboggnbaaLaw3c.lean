/- BitioTakes. Conditions: none. -/
import Derived.Test.YtginjnpboggnbaaRow3
import Derived.Test.YtginjnpboggnbaaAwake3
import Derived.Test.YtginjnpboggnbaaFew
import Derived.Test.YtginjnpboggnbaaAct
namespace Go.Proofs.Ytginjnpboggnbaa
open Go.RowKit
set_option maxRecDepth 100000

theorem BRow.grown {w w' : World} {b off n V P : Nat} (h : BRow w (some ⟨b, off, none⟩) n V) (hg : w.grownBy w' (some P)) (hne : b ≠ P) : BRow w' (some ⟨b, off, none⟩) n V := by
  rcases h with h | ⟨b', off', h1, h2, h3⟩
  · exact .inl h
  · injection h1 with h1
    injection h1 with e1 e2
    subst e1 e2
    have hb := hg.block b h2 (fun e => hne (by injection e))
    have e : ∀ o, w'.cell? ⟨b, o, none⟩ = w.cell? ⟨b, o, none⟩ := fun o => by unfold World.cell?; simp only [hb]
    exact .inr ⟨b, off, rfl, Nat.lt_of_lt_of_le h2 hg.size, fun i hi => (e _).trans (h3 i hi)⟩

/-- What a round of the law holds. -/
def TK (w W : World) (P : Nat) (s : ByteArray) (p G n X : Nat) : Prop := SrcAt W P s p ∧ BRow W (some ⟨G, 0, none⟩) n X ∧ Below w.heap.size w W
theorem TK.step {w W W' : World} {P p p' G n X : Nat} {s : ByteArray} (h : TK w W P s p G n X) (hS : SrcAt W' P s p') (hg : W.grownBy W' (some P)) (hGP : G ≠ P) (hwP : w.heap.size ≤ P) : TK w W' P s p' G n X :=
  ⟨hS, h.2.1.grown hg hGP, below_row h.2.2 hg hwP⟩
theorem TK.drewN {w W : World} {P p G n X : Nat} {s : ByteArray} (h : TK w W P s p G n X) (m : Nat) : TK w (W.drewN m) P s p G n X := ⟨h.1, h.2.1, below_drewN h.2.2 m⟩
theorem TK.alloc {w W : World} {P p G n X : Nat} {s : ByteArray} (h : TK w W P s p G n X) (o : Obj) : TK w (W.alloc o) P s p G n X := by
  have hb := (Below.refl W.heap.size W).alloc (Nat.le_refl _) o
  exact ⟨h.1.below hb h.1.lt, h.2.1.below hb (Nat.le_refl _), h.2.2.trans (hb.mono h.2.2.size)⟩
theorem ext_empty (s : ByteArray) (a : Nat) : s.extract a a = ⟨#[]⟩ := by
  have h : (s.extract a a).data = #[] := by rw [ByteArray.data_extract]; simp; omega
  cases h2 : s.extract a a with
  | mk d => rw [h2] at h; simp at h; subst h; rfl
theorem clamp_ex (N : Int) : ∃ k, Clamp N k := by
  unfold Clamp
  by_cases h : N < 0
  · exact ⟨0, by omega⟩
  · by_cases h2 : 32 < N
    · exact ⟨32, by omega⟩
    · exact ⟨N.toNat, by omega⟩
theorem clampB_ex (B N : Int) (hB : 0 ≤ B) : ∃ k, ClampB B N k := by
  unfold ClampB
  by_cases h : N < 0
  · exact ⟨0, by omega⟩
  · by_cases h2 : B < N
    · exact ⟨B.toNat, by omega⟩
    · exact ⟨N.toNat, by omega⟩
theorem clamp_clampB {N : Int} {k : Nat} (h : Clamp N k) : ClampB 32 N k := by unfold Clamp at h; unfold ClampB; omega
theorem clamp_le {N : Int} {k : Nat} (h : Clamp N k) : k ≤ 32 := by unfold Clamp at h; omega

set_option maxHeartbeats 16000000 in
theorem takes_any (s0 : ByteArray) (hs0 : s0.size ≤ maxLen) (a : Option Addr) (cap : Nat) (S : List Ac) (hS : S.length ≤ 9223372036854775807) (w : World) (hr : AcRow w a S) :
    Calls Try.prog 7 #[.string s0, .slice a S.length cap] w fun e w' => e = .returned (.bool true) ∧ Below w.heap.size w w' := by
  have CF := Lib.hid (few_any s0 100 (by decide) hs0 w)
  have hsz := few_size s0 100
  obtain ⟨s, Hs⟩ : ∃ s, Hid (few s0 100 = s) := ⟨_, Lib.hid (Eq.refl _)⟩
  rw [Hs.out] at CF hsz
  have hs : s.size ≤ 100000000 := by omega
  have CO := Lib.hid (srcOf_any s w)
  have CR := Lib.hid (fun W => row_any s (by omega) W)
  have CA := Lib.hid (awake3_any)
  obtain ⟨L, HL⟩ : ∃ L, Hid (S.length = L) := ⟨_, Lib.hid (Eq.refl _)⟩
  obtain ⟨n, Hn⟩ : ∃ L, Hid (8 * s.size = L) := ⟨_, Lib.hid (Eq.refl _)⟩
  obtain ⟨X, HX⟩ : ∃ L, Hid (num s = L) := ⟨_, Lib.hid (Eq.refl _)⟩
  obtain ⟨P, HP⟩ : ∃ L, Hid (w.heap.size = L) := ⟨_, Lib.hid (Eq.refl _)⟩
  have hXn : Hid (X < 2 ^ n) := by
    show _ < _
    rw [← HX.out, ← Hn.out, ← pow256]
    have := leN_lt s.data.toList
    rw [show s.data.toList.length = s.size by simp] at this
    exact this
  have hnl : n ≤ 800 := by have := Hn.out; omega
  have hwP : w.heap.size ≤ P := by rw [HP.out]; exact Nat.le_refl _
  rw [Hn.out, HX.out] at CR
  rw [HL.out] at hS ⊢
  have Hr := Lib.hid hr
  rw [HP.out] at CO
  clear hr hs0
  go_enter Try.func7, Try.ntmps7
  go_wp2_with fail
  refine CF.out.mono ?_
  rintro e w0 ⟨rfl, rfl⟩
  go_wp2_with fail
  refine CO.out.mono ?_
  rintro e w1 ⟨rfl, hS1, hB1⟩
  have hPl : P < w1.heap.size := hS1.lt
  have HS1 := Lib.hid hS1
  have HB1 : Hid (Below w.heap.size w w1) := by
    show Below _ _ _
    rw [HP.out]
    exact hB1
  clear hS1 hB1 CF CO
  go_wp2_with fail
  refine (CR.out _).mono ?_
  rintro e w2 ⟨rfl, hR2, hB2⟩
  obtain ⟨G, HG⟩ : ∃ L, Hid (w1.heap.size = L) := ⟨_, Lib.hid (Eq.refl _)⟩
  have HT2 : Hid (TK w w2 P s 0 G n X) := ⟨HS1.out.below hB2 hPl, by rw [← HG.out]; exact hR2, HB1.out.trans (hB2.mono HB1.out.size)⟩
  rw [HG.out] at hPl ⊢
  have hGl : G < w2.heap.size ∨ n = 0 := by
    rcases HT2.out.2.1 with h | ⟨b, off, h1, h2, _⟩
    · exact .inr h
    · injection h1 with h1
      injection h1 with e1
      exact .inl (by rw [e1]; exact h2)
  clear hR2 hB2 HS1 HB1 CR
  go_wp2_with fail
  refine (CA.out _).mono ?_
  rintro e w3 ⟨rfl, hB3⟩
  have HT3 : Hid (TK w w3 P s 0 G n X) := ⟨HT2.out.1.below hB3 HT2.out.1.lt, HT2.out.2.1.below hB3 (Nat.le_refl _), HT2.out.2.2.trans (hB3.mono HT2.out.2.2.size)⟩
  clear hB3 HT2 hGl CA
  go_wp2_with fail
  go_loopw [7, 8] (fun at_ i_ wr => ∃ i p : Nat, i ≤ L ∧ i ≤ 60 ∧ i_ = .int .i64 (i : Int) ∧ at_ = .int .i64 (p : Int) ∧ p ≤ i * 600000 ∧ Hid (TK w wr P s p G n X)) (fun _ i _ => 60 - (intOf i).toNat)
  case atStart => exact ⟨0, 0, by omega, by omega, rfl, rfl, by omega, HT3⟩
  case round =>
    clear HT3
    obtain ⟨i, p, hiL, hi60, rfl, rfl, hp, HT⟩ := hrel
    have hGP : G ≠ P := by omega
    have HGP := Lib.hid hGP
    clear hGP
    by_cases hlt : i < L
    · have d1 : decide ((i : Int) < (L : Int)) = true := by rw [decide_eq_true_eq]; omega
      by_cases h60 : i < 60
      · have d2 : decide ((i : Int) < 60) = true := by rw [decide_eq_true_eq]; omega
        obtain ⟨b, off, rfl, _, c0, c1, c2, c3⟩ := (Hr.out.below HT.out.2.2 (Nat.le_refl _)).get i (by rw [HL.out]; exact hlt)
        obtain ⟨K, HK⟩ : ∃ K, Hid ((ac S i).kind = K) := ⟨_, Lib.hid (Eq.refl _)⟩
        obtain ⟨N, HN⟩ : ∃ K, Hid ((ac S i).n = K) := ⟨_, Lib.hid (Eq.refl _)⟩
        obtain ⟨x, Hx⟩ : ∃ K, Hid ((ac S i).x = K) := ⟨_, Lib.hid (Eq.refl _)⟩
        obtain ⟨u, Hu⟩ : ∃ K, Hid ((ac S i).s = K) := ⟨_, Lib.hid (Eq.refl _)⟩
        rw [HK.out] at c0
        rw [HN.out] at c1
        rw [Hx.out] at c2
        rw [Hu.out] at c3
        obtain ⟨k, hk⟩ := clamp_ex N
        have hk32 := clamp_le hk
        have CW := Lib.hid (fun W => within_any 32 N k (by omega) (clamp_clampB hk) W)
        have HkC := Lib.hid hk
        obtain ⟨A, HA⟩ : ∃ L, Hid (wr.heap.size = L) := ⟨_, Lib.hid (Eq.refl _)⟩
        have hBA := Blk.new wr 40 #[.int .i64 K, .int .i64 N, .int .u32 (x : Int), .string u]
        have HTA := Lib.hid (HT.out.alloc (.cells #[.int .i64 K, .int .i64 N, .int .u32 (x : Int), .string u] 40))
        have hAP : A ≠ P := by have := HT.out.1.lt; have := HA.out; omega
        have HAP := Lib.hid hAP
        rw [HA.out] at hBA
        have HBA := Lib.hid hBA
        clear hk hBA hAP HK HN Hx Hu
        go_wp2_with fail
        rw [HA.out]
        obtain ⟨w4, HW4⟩ : ∃ W, Hid (wr.alloc (.cells #[.int .i64 K, .int .i64 N, .int .u32 (x : Int), .string u] 40) = W) := ⟨_, Lib.hid (Eq.refl _)⟩
        rw [HW4.out] at HTA HBA ⊢
        have hc0 := HBA.out.cell 0
        have hc1 := HBA.out.cell 1
        simp at hc0 hc1
        clear HW4 HA HT c0 c1 c2 c3
        refine (CW.out _).mono ?_
        rintro e w5 ⟨rfl, rfl⟩
        clear CW
        by_cases hK0 : K = 0
        · subst hK0
          obtain ⟨R, HR⟩ : ∃ R, Hid (bitsAt s p k = R) := ⟨_, Lib.hid (Eq.refl _)⟩
          obtain ⟨p', Hp'⟩ : ∃ R, Hid (p + k = R) := ⟨_, Lib.hid (Eq.refl _)⟩
          have hp' : (p : Int) + (k : Int) = (p' : Int) := by have := Hp'.out; omega
          have hpl : p' ≤ (i + 1) * 600000 := by have := Hp'.out; omega
          have CT := Lib.hid (srcTake_any P s p k N HkC.out hs (by omega) w4 HTA.out.1)
          rw [HR.out, Hp'.out] at CT
          have HRn : Hid (numAt X p k false = R) := by show _ = _; rw [numAt_false, ← HX.out]; exact HR.out
          have CN := Lib.hid (fun W h => number_any (some ⟨G, 0, none⟩) n n X (by omega) hXn.out p k (by omega) hk32 false W h)
          rw [HRn.out] at CN
          go_wp2_with fail
          refine CT.out.mono ?_
          rintro e w6 ⟨rfl, hS6, hg6, -⟩
          have HT6 := Lib.hid (HTA.out.step hS6 hg6 HGP.out hwP)
          have HB6 := Lib.hid (HBA.out.grown hg6 (fun e => HAP.out (by injection e)))
          have g0 := HB6.out.cell 0
          simp at g0
          clear hc0 hc1 hS6 hg6 CT HBA HTA
          go_wp2_with fail
          refine (CN.out _ HT6.out.2.1).mono ?_
          rintro e w7 ⟨rfl, rfl⟩
          clear CN g0 HB6
          obtain ⟨B, HBo⟩ : ∃ B, Hid (decide (8 * s.size < p') = B) := ⟨_, Lib.hid (Eq.refl _)⟩
          have dB : decide ((n : Int) < (p' : Int)) = B := by rw [← HBo.out]; exact decide_eq_decide.2 (by have := Hn.out; omega)
          have dB2 : decide (n < p') = B := by rw [← HBo.out]; exact decide_eq_decide.2 (by have := Hn.out; omega)
          have CP := Lib.hid (srcPlace_any P s p' w6 HT6.out.1)
          have CS := Lib.hid (srcShort_any P s p' hs w6 HT6.out.1)
          rw [HBo.out] at CS
          go_wp2_with fail
          refine CP.out.mono ?_
          rintro e w8 ⟨rfl, rfl⟩
          go_wp2_with fail
          refine CS.out.mono ?_
          rintro e w9 ⟨rfl, nq, rfl⟩
          have HT9 := Lib.hid (HT6.out.drewN nq)
          go_wp2_with fail
          go_roundw
          case rel => exact ⟨i + 1, p', by omega, by omega, by go_num, rfl, hpl, HT9⟩
          case measure => simp [intOf]; omega
        by_cases hK1 : K = 1
        · subst hK1
          obtain ⟨R, HR⟩ : ∃ R, Hid (rev (bitsAt s p k) k = R) := ⟨_, Lib.hid (Eq.refl _)⟩
          obtain ⟨p', Hp'⟩ : ∃ R, Hid (p + k = R) := ⟨_, Lib.hid (Eq.refl _)⟩
          have hp' : (p : Int) + (k : Int) = (p' : Int) := by have := Hp'.out; omega
          have hpl : p' ≤ (i + 1) * 600000 := by have := Hp'.out; omega
          have CT := Lib.hid (srcTurned_any P s p k N HkC.out hs (by omega) w4 HTA.out.1)
          rw [HR.out, Hp'.out] at CT
          have HRn : Hid (numAt X p k true = R) := by show _ = _; rw [numAt_true, ← HX.out]; exact HR.out
          have CN := Lib.hid (fun W h => number_any (some ⟨G, 0, none⟩) n n X (by omega) hXn.out p k (by omega) hk32 true W h)
          rw [HRn.out] at CN
          go_wp2_with fail
          refine CT.out.mono ?_
          rintro e w6 ⟨rfl, hS6, hg6, -⟩
          have HT6 := Lib.hid (HTA.out.step hS6 hg6 HGP.out hwP)
          have HB6 := Lib.hid (HBA.out.grown hg6 (fun e => HAP.out (by injection e)))
          have g0 := HB6.out.cell 0
          simp at g0
          clear hc0 hc1 hS6 hg6 CT HBA HTA
          go_wp2_with fail
          refine (CN.out _ HT6.out.2.1).mono ?_
          rintro e w7 ⟨rfl, rfl⟩
          clear CN g0 HB6
          obtain ⟨B, HBo⟩ : ∃ B, Hid (decide (8 * s.size < p') = B) := ⟨_, Lib.hid (Eq.refl _)⟩
          have dB : decide ((n : Int) < (p' : Int)) = B := by rw [← HBo.out]; exact decide_eq_decide.2 (by have := Hn.out; omega)
          have dB2 : decide (n < p') = B := by rw [← HBo.out]; exact decide_eq_decide.2 (by have := Hn.out; omega)
          have CP := Lib.hid (srcPlace_any P s p' w6 HT6.out.1)
          have CS := Lib.hid (srcShort_any P s p' hs w6 HT6.out.1)
          rw [HBo.out] at CS
          go_wp2_with fail
          refine CP.out.mono ?_
          rintro e w8 ⟨rfl, rfl⟩
          go_wp2_with fail
          refine CS.out.mono ?_
          rintro e w9 ⟨rfl, nq, rfl⟩
          have HT9 := Lib.hid (HT6.out.drewN nq)
          go_wp2_with fail
          go_roundw
          case rel => exact ⟨i + 1, p', by omega, by omega, by go_num, rfl, hpl, HT9⟩
          case measure => simp [intOf]; omega
        by_cases hK2 : K = 2
        · subst hK2
          obtain ⟨q, Hq⟩ : ∃ R, Hid ((p + 7) / 8 = R) := ⟨_, Lib.hid (Eq.refl _)⟩
          obtain ⟨p', Hp'⟩ : ∃ R, Hid (q * 8 = R) := ⟨_, Lib.hid (Eq.refl _)⟩
          have e1 : ((p : Int) + 7) / 8 = (q : Int) := by have := Hq.out; omega
          have e2 : ((p : Int) + 7).tdiv 8 = (q : Int) := by rw [Int.tdiv_eq_ediv_of_nonneg (by omega)]; exact e1
          have e3 : (q : Int) * 8 = (p' : Int) := by have := Hp'.out; omega
          have hpl : p' ≤ (i + 1) * 600000 := by have := Hp'.out; have := Hq.out; omega
          have hql : q ≤ 10000000 := by have := Hq.out; omega
          have CT := Lib.hid (srcEven_any P s p (by omega) w4 HTA.out.1)
          rw [Hq.out, Hp'.out] at CT
          go_wp2_with fail
          refine CT.out.mono ?_
          rintro e w6 ⟨rfl, hS6, hg6, -⟩
          have HT6 := Lib.hid (HTA.out.step hS6 hg6 HGP.out hwP)
          clear hc0 hc1 hS6 hg6 CT HBA HTA
          obtain ⟨B, HBo⟩ : ∃ B, Hid (decide (8 * s.size < p') = B) := ⟨_, Lib.hid (Eq.refl _)⟩
          have dB : decide ((n : Int) < (p' : Int)) = B := by rw [← HBo.out]; exact decide_eq_decide.2 (by have := Hn.out; omega)
          have dB2 : decide (n < p') = B := by rw [← HBo.out]; exact decide_eq_decide.2 (by have := Hn.out; omega)
          have CP := Lib.hid (srcPlace_any P s p' w6 HT6.out.1)
          have CS := Lib.hid (srcShort_any P s p' hs w6 HT6.out.1)
          rw [HBo.out] at CS
          go_wp2_with fail
          refine CP.out.mono ?_
          rintro e w8 ⟨rfl, rfl⟩
          go_wp2_with fail
          refine CS.out.mono ?_
          rintro e w9 ⟨rfl, nq, rfl⟩
          have HT9 := Lib.hid (HT6.out.drewN nq)
          go_wp2_with fail
          go_roundw
          case rel => exact ⟨i + 1, p', by omega, by omega, by go_num, rfl, hpl, HT9⟩
          case measure => simp [intOf]; omega
        by_cases hK3 : K = 3
        · subst hK3
          obtain ⟨q, Hq⟩ : ∃ R, Hid ((p + 7) / 8 = R) := ⟨_, Lib.hid (Eq.refl _)⟩
          obtain ⟨p1, Hp1⟩ : ∃ R, Hid (q * 8 = R) := ⟨_, Lib.hid (Eq.refl _)⟩
          have e1 : ((p : Int) + 7) / 8 = (q : Int) := by have := Hq.out; omega
          have e2 : ((p : Int) + 7).tdiv 8 = (q : Int) := by rw [Int.tdiv_eq_ediv_of_nonneg (by omega)]; exact e1
          have e3 : (q : Int) * 8 = (p1 : Int) := by have := Hp1.out; omega
          have e4 : (p1 : Int) / 8 = (q : Int) := by have := Hp1.out; omega
          have e5 : (p1 : Int).tdiv 8 = (q : Int) := by rw [Int.tdiv_eq_ediv_of_nonneg (by omega)]; exact e4
          have hql : q ≤ 10000000 := by have := Hq.out; omega
          have hp1l : p1 ≤ 100000000 := by have := Hp1.out; omega
          obtain ⟨k2, hk2⟩ := clampB_ex 65536 N (by omega)
          have hk2l : k2 ≤ 65536 := by unfold ClampB at hk2; omega
          have CW2 := Lib.hid (fun W => within_any 65536 N k2 (by omega) hk2 W)
          obtain ⟨p', Hp'⟩ : ∃ R, Hid (p1 + 8 * k2 = R) := ⟨_, Lib.hid (Eq.refl _)⟩
          have hp' : (p1 : Int) + 8 * (k2 : Int) = (p' : Int) := by have := Hp'.out; omega
          have hpl : p' ≤ (i + 1) * 600000 := by have := Hp'.out; have := Hp1.out; have := Hq.out; omega
          have CX := Lib.hid (srcText_any P s p k2 N hk2 hs (by omega) w4 HTA.out.1)
          rw [Hq.out, Hp1.out, Hp'.out] at CX
          clear hk2
          by_cases hin : q < s.size
          · have d3 : decide ((q : Int) < (s.size : Int)) = true := by rw [decide_eq_true_eq]; omega
            obtain ⟨d, Hd⟩ : ∃ R, Hid (s.size - q = R) := ⟨_, Lib.hid (Eq.refl _)⟩
            have hd : (s.size : Int) - (q : Int) = (d : Int) := by have := Hd.out; omega
            have hmin := min_run k2 d
            obtain ⟨m, Hm⟩ : ∃ R, Hid (min k2 d = R) := ⟨_, Lib.hid (Eq.refl _)⟩
            rw [Hm.out] at hmin
            obtain ⟨t, Ht⟩ : ∃ R, Hid (q + m = R) := ⟨_, Lib.hid (Eq.refl _)⟩
            have ht : (q : Int) + (m : Int) = (t : Int) := by have := Ht.out; omega
            have htl : t ≤ s.size := by have := Ht.out; have := Hm.out; have := Hd.out; omega
            have hqt : q ≤ t := by have := Ht.out; omega
            have hml : m ≤ 65536 := by have := Hm.out; omega
            have hT : s.extract (min q s.size) (min (min q s.size + k2) s.size) = s.extract q t := by
              rw [Nat.min_eq_left (Nat.le_of_lt hin)]
              congr 1
              have := Ht.out; have := Hm.out; have := Hd.out; omega
            rw [hT] at CX
            clear hT
            go_wp2_with fail
            refine (CW2.out _).mono ?_
            rintro e w7 ⟨rfl, rfl⟩
            go_wp2_with fail
            refine CX.out.mono ?_
            rintro e w6 ⟨rfl, hS6, hg6, -⟩
            have HT6 := Lib.hid (HTA.out.step hS6 hg6 HGP.out hwP)
            clear hc0 hc1 hS6 hg6 CX HBA HTA hmin
            obtain ⟨B, HBo⟩ : ∃ B, Hid (decide (8 * s.size < p') = B) := ⟨_, Lib.hid (Eq.refl _)⟩
            have dB : decide ((n : Int) < (p' : Int)) = B := by rw [← HBo.out]; exact decide_eq_decide.2 (by have := Hn.out; omega)
            have dB2 : decide (n < p') = B := by rw [← HBo.out]; exact decide_eq_decide.2 (by have := Hn.out; omega)
            have CP := Lib.hid (srcPlace_any P s p' w6 HT6.out.1)
            have CS := Lib.hid (srcShort_any P s p' hs w6 HT6.out.1)
            rw [HBo.out] at CS
            go_wp2_with fail
            refine CP.out.mono ?_
            rintro e w8 ⟨rfl, rfl⟩
            go_wp2_with fail
            refine CS.out.mono ?_
            rintro e w9 ⟨rfl, nq, rfl⟩
            have HT9 := Lib.hid (HT6.out.drewN nq)
            go_wp2_with fail
            go_roundw
            case rel => exact ⟨i + 1, p', by omega, by omega, by go_num, rfl, hpl, HT9⟩
            case measure => simp [intOf]; omega
          · have d3 : decide ((q : Int) < (s.size : Int)) = false := by rw [decide_eq_false_iff_not]; omega
            have hT : s.extract (min q s.size) (min (min q s.size + k2) s.size) = ⟨#[]⟩ := by
              rw [Nat.min_eq_right (by omega), Nat.min_eq_right (by omega)]
              exact ext_empty s s.size
            rw [hT] at CX
            clear hT
            go_wp2_with fail
            refine (CW2.out _).mono ?_
            rintro e w7 ⟨rfl, rfl⟩
            go_wp2_with fail
            refine CX.out.mono ?_
            rintro e w6 ⟨rfl, hS6, hg6, -⟩
            have HT6 := Lib.hid (HTA.out.step hS6 hg6 HGP.out hwP)
            clear hc0 hc1 hS6 hg6 CX HBA HTA
            obtain ⟨B, HBo⟩ : ∃ B, Hid (decide (8 * s.size < p') = B) := ⟨_, Lib.hid (Eq.refl _)⟩
            have dB : decide ((n : Int) < (p' : Int)) = B := by rw [← HBo.out]; exact decide_eq_decide.2 (by have := Hn.out; omega)
            have dB2 : decide (n < p') = B := by rw [← HBo.out]; exact decide_eq_decide.2 (by have := Hn.out; omega)
            have CP := Lib.hid (srcPlace_any P s p' w6 HT6.out.1)
            have CS := Lib.hid (srcShort_any P s p' hs w6 HT6.out.1)
            rw [HBo.out] at CS
            go_wp2_with fail
            refine CP.out.mono ?_
            rintro e w8 ⟨rfl, rfl⟩
            go_wp2_with fail
            refine CS.out.mono ?_
            rintro e w9 ⟨rfl, nq, rfl⟩
            have HT9 := Lib.hid (HT6.out.drewN nq)
            go_wp2_with fail
            go_roundw
            case rel => exact ⟨i + 1, p', by omega, by omega, by go_num, rfl, hpl, HT9⟩
            case measure => simp [intOf]; omega
        have k0 : (K == 0) = false := by simpa using hK0
        have k1 : (K == 1) = false := by simpa using hK1
        have k2 : (K == 2) = false := by simpa using hK2
        have k3 : (K == 3) = false := by simpa using hK3
        have hpl : p ≤ (i + 1) * 600000 := Nat.le_trans hp (Nat.mul_le_mul_right _ (Nat.le_succ i))
        clear hK0 hK1 hK2 hK3
        obtain ⟨B, HBo⟩ : ∃ B, Hid (decide (8 * s.size < p) = B) := ⟨_, Lib.hid (Eq.refl _)⟩
        have dB : decide ((n : Int) < (p : Int)) = B := by rw [← HBo.out]; exact decide_eq_decide.2 (by have := Hn.out; omega)
        have dB2 : decide (n < p) = B := by rw [← HBo.out]; exact decide_eq_decide.2 (by have := Hn.out; omega)
        have CP := Lib.hid (srcPlace_any P s p w4 HTA.out.1)
        have CS := Lib.hid (srcShort_any P s p hs w4 HTA.out.1)
        rw [HBo.out] at CS
        go_wp2_with fail
        refine CP.out.mono ?_
        rintro e w8 ⟨rfl, rfl⟩
        go_wp2_with fail
        refine CS.out.mono ?_
        rintro e w9 ⟨rfl, nq, rfl⟩
        have HT9 := Lib.hid (HTA.out.drewN nq)
        go_wp2_with fail
        go_roundw
        case rel => exact ⟨i + 1, p, by omega, by omega, by go_num, rfl, hpl, HT9⟩
        case measure => simp [intOf]; omega
      · obtain rfl : i = 60 := by omega
        have d2 : decide ((60 : Int) < 60) = false := by decide
        have hB := HT.out.2.2
        go_wp2_with fail
        go_ret
        exact ⟨rfl, hB⟩
    · obtain rfl : i = L := by omega
      have d1 : decide ((i : Int) < (i : Int)) = false := by rw [decide_eq_false_iff_not]; omega
      have hB := HT.out.2.2
      go_wp2_with fail
      go_ret
      exact ⟨rfl, hB⟩
end Go.Proofs.Ytginjnpboggnbaa
