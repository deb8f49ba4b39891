/- CellarerRepeats. Conditions: none. -/
import Derived.Test.YtjnglahjngiofaaPK
import Derived.Test.YtjnglahjngiofaaTokens
import Derived.Test.YtjnglahjngiofaaTokT
import Derived.Test.YtjnglahjngiofaaInfl
import Derived.Test.YtjnglahjngiofaaFew
import Derived.Test.YtjnglahjngiofaaFixed
import Derived.Test.YtjnglahjngiofaaCodesW
import Derived.Deep.RegionHeld3
namespace Go.Proofs.Ytjnglahjngiofaa
open Go.RowKit
set_option maxRecDepth 100000

theorem clamp9_run (N : Int) : ∃ (M : Int) (k : Nat), k ≤ 9 ∧ (∀ W, Sem.run Try.prog (Builtin.min_ #[3, 3] 3 #[.int .i64 N, .int .i64 9]) W = .ok (.int .i64 M) W) ∧ ∀ W, Sem.run Try.prog (Builtin.max_ #[3, 3] 3 #[.int .i64 0, .int .i64 M]) W = .ok (.int .i64 (k : Int)) W := by
  refine ⟨if (9 : Int) < N then 9 else N, (if (if (9 : Int) < N then 9 else N) > 0 then (if (9 : Int) < N then 9 else N) else 0 : Int).toNat, by split <;> split <;> omega, fun W => rfl, fun W => ?_⟩
  have e : (((if (if (9 : Int) < N then 9 else N) > 0 then (if (9 : Int) < N then 9 else N) else 0 : Int).toNat : Nat) : Int) = (if (if (9 : Int) < N then 9 else N) > 0 then (if (9 : Int) < N then 9 else N) else 0 : Int) := by
    split <;> split <;> omega
  rw [e]
  rfl
/-- The codes of a fixed block. -/
theorem codes_fixed (m : Nat → Int) (n : Nat) (hn : n ≤ 320) (h15 : ∀ i, i < n → 0 ≤ m i ∧ m i ≤ 15) (hf : Fits (parts (lens m) n) (someOf (lens m) n)) (a : Option Addr) (cap : Nat) (w : World) (hr : IRow w a n m) :
    Calls Try.prog 39 #[.slice a n cap] w fun e w' => ∃ g, e = .returned (.tuple #[.slice (some ⟨g, 0, none⟩) n n, .int .i64 0]) ∧ Blk w' g 88 (ccells n (bitsF (lens m) n) (lens m)) ∧ Below w.heap.size w w' := by
  refine (codes_any a n cap m (by omega) w hr).mono ?_
  rintro e w' ⟨hb, ⟨h1, _⟩ | ⟨_, ⟨i, h1, h2⟩, _⟩ | ⟨_, _, h1, _⟩ | ⟨_, _, _, v, rfl, g, rfl, hg, hB⟩⟩
  · omega
  · exact absurd (h15 i h1) h2
  · exact absurd hf h1
  · exact ⟨g, rfl, hB, hb⟩
theorem fixL_rng (i : Nat) : 0 ≤ fixL i ∧ fixL i ≤ 15 := by
  unfold fixL
  (repeat' split) <;> omega
theorem tok_upd (S : List Tok) (j : Nat) (hj : j < S.length) (L : Nat → Nat) (c : Nat) (D : Nat → Nat) (d : Nat) : toksE L c D d (S.take (j + 1)) = toksE L c D d (S.take j) ++ tokE L c D d (tk S j) := by
  rw [List.take_succ_eq_append_getElem hj, ← tk_get hj, toksE_app]
  congr 1
  show tokE L c D d (tk S j) ++ [] = _
  rw [List.append_nil]

set_option maxHeartbeats 32000000 in
theorem repeats_any (s0 : ByteArray) (hs0 : s0.size ≤ maxLen) (lv0 : Int) (w : World) : Calls Try.prog 16 #[.string s0, .int .i64 lv0] w fun e w' => e = .returned (.bool true) ∧ Below w.heap.size w w' := by
  have C1 : Hid (∀ W, Calls Try.prog 27 #[.string ⟨#[75, 4, 0]⟩, .int .i64 0, .int .i64 9] W fun r w' => r = .returned (.tuple #[.string ⟨#[97]⟩, .int .i64 3, .int .i64 0]) ∧ Below W.heap.size W w') :=
    Lib.hid fun W => inflate_is_ok (q := 0) (most := 9) (by decide) (by decide) (by decide) (by decide +kernel) infl_a W
  have CF := Lib.hid (fun W => few_any s0 600 (by decide) hs0 W)
  have hsz := few_size s0 600
  obtain ⟨s, Hs⟩ : ∃ R, Hid (few s0 600 = R) := ⟨_, Lib.hid (Eq.refl _)⟩
  rw [Hs.out] at CF hsz
  obtain ⟨M9, lv, hlv, hmin, hmax⟩ := clamp9_run lv0
  have CT := Lib.hid (fun W => tokens_any s lv hlv (by omega) W)
  have hexp := tokF_exp s lv s.size 0 (by omega) (by omega)
  have hlen := tokF_len s lv s.size 0
  obtain ⟨S, HS⟩ : ∃ R, Hid (tokF s lv s.size 0 = R) := ⟨_, Lib.hid (Eq.refl _)⟩
  rw [HS.out] at CT hexp hlen
  have hexp0 : texp (s.size : Int) [] S = (s.data.toList, 0) := hexp
  have Hexp := Lib.hid hexp0
  have Htoks := Lib.hid (texp_toks _ S [] _ hexp0)
  have hlS : S.length ≤ 600 := by omega
  have CL := Lib.hid lengths_any
  have CC1 := Lib.hid (codes_fixed fixL 288 (by decide) (fun i _ => fixL_rng i) (by decide +kernel))
  have CC2 := Lib.hid (codes_fixed (fun _ => 5) 32 (by decide) (fun i _ => by omega) (by decide +kernel))
  obtain ⟨L, HL⟩ : ∃ R, Hid (lens fixL = R) := ⟨_, Lib.hid (Eq.refl _)⟩
  obtain ⟨D, HD⟩ : ∃ R, Hid ((lens fun _ => 5) = R) := ⟨_, Lib.hid (Eq.refl _)⟩
  have HL15 : Hid (∀ i, L i ≤ 15) := by show ∀ i, L i ≤ 15; rw [← HL.out]; exact fun i => lens_15 fixL (i + 1) fixL_15 i (Nat.lt_succ_self i)
  have HD15 : Hid (∀ i, D i ≤ 15) := by show ∀ i, D i ≤ 15; rw [← HD.out]; exact fun i => by show 5 ≤ 15; decide
  obtain ⟨F, HF⟩ : ∃ R, Hid (bitsF L 288 = R) := ⟨_, Lib.hid (Eq.refl _)⟩
  obtain ⟨E, HE⟩ : ∃ R, Hid (bitsF D 32 = R) := ⟨_, Lib.hid (Eq.refl _)⟩
  have HF32 : Hid (∀ i, i < 288 → F i < 4294967296) := by
    show ∀ i, i < 288 → F i < 4294967296
    rw [← HF.out, ← HL.out]
    exact fun i hi => Nat.lt_of_lt_of_le (bitsF_lt _ _ i hi codes_fix.l15 codes_fix.lp) (Nat.le_trans (Nat.pow_le_pow_right (by decide) (codes_fix.l15 i hi)) (by decide))
  have HE32 : Hid (∀ i, i < 32 → E i < 4294967296) := by
    show ∀ i, i < 32 → E i < 4294967296
    rw [← HE.out, ← HD.out]
    exact fun i hi => Nat.lt_of_lt_of_le (bitsF_lt _ _ i hi codes_fix.d15 codes_fix.dp) (Nat.le_trans (Nat.pow_le_pow_right (by decide) (codes_fix.d15 i hi)) (by decide))
  have HsE : Hid (∀ i, symE L 288 i = (rev (F i) (L i), L i)) := by show ∀ i, _; rw [← HF.out]; exact fun i => rfl
  have HsD : Hid (∀ i, symE D 32 i = (rev (E i) (D i), D i)) := by show ∀ i, _; rw [← HE.out]; exact fun i => rfl
  have hinf := fix_infl S s.size s.data.toList hexp0
  have hjn := fix_join S s.size s.data.toList hexp0
  have HfE : Hid (fixE S = [(1, 1), (1, 2)] ++ toksE L 288 D 32 S ++ [symE L 288 256]) := by
    show _ = _
    rw [← HL.out, ← HD.out]
    rfl
  have CI0 := fun W h => inflate_is_ok (s := encB (fixE S)) (q := 0) (most := s.size) h (Nat.zero_le _) (by omega) (extract_all _) hinf W
  have CE := Lib.hid (fun a cap W hr => expand_any S (by omega) a cap (s.size : Int) (by omega) W hr)
  have e1 : expV (s.data.toList, 0) = .tuple #[.string s, .int .i64 0] := rfl
  rw [Hexp.out, e1] at CE
  have e2 : (⟨s.data.toList.toArray⟩ : ByteArray) = s := rfl
  rw [hjn, e2] at CI0
  have e3 : (8 * (encB (fixE S)).size - (8 * ((encN (fixE S) + 7) / 8) - encN (fixE S)) + 7) / 8 = (encB (fixE S)).size := by rw [encB_size]; omega
  dsimp only at CI0
  rw [e3] at CI0
  have HCI := Lib.hid CI0
  rw [HL.out, HF.out] at CC1
  rw [HD.out, HE.out] at CC2
  obtain ⟨M, HM⟩ : ∃ R, Hid (S.length = R) := ⟨_, Lib.hid (Eq.refl _)⟩
  rw [HM.out] at hlS
  clear hexp hexp0 hlen hs0 hlv hinf hjn CI0 e1 e2 e3 HL HD HF HE
  go_enter Try.func16, Try.ntmps16
  go_wp2_with fail
  refine (C1.out _).mono ?_
  rintro e w1 ⟨rfl, hb1⟩
  go_wp2_with fail
  refine (CF.out _).mono ?_
  rintro e w2 ⟨rfl, rfl⟩
  go_wp2_with fail
  refine (CT.out _).mono ?_
  rintro e w2 ⟨v, rfl, hO, hb2⟩
  obtain ⟨a, cap, rfl, hR⟩ := hO.view
  rw [HM.out] at hO ⊢
  have HR2 := Lib.hid hR
  have HB2 := Lib.hid (bthen hb1 hb2)
  clear hO hR hb1 hb2
  go_wp2_with fail
  refine (CL.out _).mono ?_
  rintro e w3 ⟨g1, c1, g2, rfl, hI1, hI2, -, -, hb3⟩
  have HI1 := Lib.hid hI1
  have HI2 := Lib.hid hI2
  have HR3 := Lib.hid (HR2.out.below hb3 (Nat.le_refl _))
  have HB3 := Lib.hid (bthen HB2.out hb3)
  clear hI1 hI2 hb3 HR2 HB2
  go_wp2_with fail
  refine (CC1.out _ _ _ HI1.out).mono ?_
  rintro e w4 ⟨G1, rfl, hk1, hb4⟩
  have HI2b := Lib.hid (HI2.out.below hb4)
  have HR4 := Lib.hid (HR3.out.below hb4 (Nat.le_refl _))
  have HB4 := Lib.hid (bthen HB3.out hb4)
  have HK1 := Lib.hid hk1
  clear hk1 hb4 HR3 HB3 HI1 HI2
  go_wp2_with fail
  refine (CC2.out _ _ _ HI2b.out).mono ?_
  rintro e w5 ⟨G2, rfl, hk2, hb5⟩
  have HR5 := Lib.hid (HR4.out.below hb5 (Nat.le_refl _))
  have HB5 := Lib.hid (bthen HB4.out hb5)
  have HK1b := Lib.hid (HK1.out.below hb5 HK1.out.lt)
  have HK2 := Lib.hid hk2
  have HP0 := Lib.hid (PK.new w5)
  clear hk2 hb5 HR4 HB4 HI2b HK1
  obtain ⟨P, HP⟩ : ∃ R, Hid (w5.heap.size = R) := ⟨_, Lib.hid (Eq.refl _)⟩
  rw [HP.out] at HP0
  have CP1 : Hid (∀ W v, PK w5 W P v [] → Calls Try.prog 40 #[.pointer (some ⟨P, 0, none⟩), .int .u32 1, .int .i64 1] W fun e W' => e = .returned (.tuple #[]) ∧ ∃ v', PK w5 W' P v' [(1, 1)] ∧ KeepT W W') :=
    fun W v h => put_pk w5 P v [] 1 1 1 (by decide) (.inr (.inl ⟨rfl, by decide⟩)) (by decide) W h
  have CP2 : Hid (∀ W v, PK w5 W P v [(1, 1)] → Calls Try.prog 40 #[.pointer (some ⟨P, 0, none⟩), .int .u32 1, .int .i64 2] W fun e W' => e = .returned (.tuple #[]) ∧ ∃ v', PK w5 W' P v' [(1, 1), (1, 2)] ∧ KeepT W W') :=
    fun W v h => put_pk w5 P v [(1, 1)] 1 2 2 (by decide) (.inr (.inl ⟨rfl, by decide⟩)) (by decide) W h
  go_wp2_with fail
  rw [HP.out]
  refine (CP1.out _ _ HP0.out).mono ?_
  rintro e w6 ⟨rfl, v6, hp6, -⟩
  have HP6 := Lib.hid hp6
  clear hp6
  go_wp2_with fail
  refine (CP2.out _ _ HP6.out).mono ?_
  rintro e w7 ⟨rfl, v7, hp7, -⟩
  have HP7 := Lib.hid hp7
  clear hp7 HP6 HP0 CP1 CP2
  go_wp2_with fail
  go_loopw [96] (fun j_ wr => ∃ (j : Nat) (v : Value) (l : List (Nat × Nat)), j ≤ M ∧ j_ = .int .i64 (j : Int) ∧ Hid (PK w5 wr P v l) ∧ Hid (l = [(1, 1), (1, 2)] ++ toksE L 288 D 32 (S.take j)) ∧ Hid (encN l ≤ 3 + 60 * j)) (fun j _ => M - (intOf j).toNat)
  case atStart => exact ⟨0, v7, [(1, 1), (1, 2)], by omega, rfl, HP7, rfl, by show 3 ≤ 3 + 60 * 0; omega⟩
  case round =>
    clear HP7
    obtain ⟨j, v, l, hj, rfl, HPl, Hl, Hle⟩ := hrel
    by_cases hlt : j < M
    · have dj : decide ((j : Int) < (M : Int)) = true := by rw [decide_eq_true_eq]; omega
      have hlI : (j : Int) < (M : Int) := by omega
      have hjS : j < S.length := by rw [HM.out]; exact hlt
      obtain ⟨b, off, rfl, _, c0, c1, c2⟩ := (HR5.out.below HPl.out.2.1 (Nat.le_refl _)).get j hjS
      have hmem : tk S j ∈ S := by rw [tk_get hjS]; exact List.getElem_mem _
      have htk := tok_upd S j hjS L 288 D 32
      have hok := Htoks.out _ hmem
      have hle60 := tokE_le L 288 D 32 (tk S j) HL15.out HD15.out hok
      obtain ⟨⟨tb, tl, td⟩, Ht⟩ : ∃ R, Hid (tk S j = R) := ⟨_, Lib.hid (Eq.refl _)⟩
      rw [Ht.out] at c0 c1 c2 htk hok hle60
      dsimp only at c0 c1 c2
      have Htk := Lib.hid htk
      have Hle60 := Lib.hid hle60
      have hBA := Blk.new wr 35 #[.int .u8 (tb.toNat : Int), .int .i64 tl, .int .i64 td]
      have HBA := Lib.hid hBA
      have hal := (Below.refl wr.heap.size wr).alloc (Nat.le_refl _) (.cells #[.int .u8 (tb.toNat : Int), .int .i64 tl, .int .i64 td] 35)
      have HPa := Lib.hid (HPl.out.below hal)
      have ht0 : (wr.alloc (.cells #[.int .u8 (tb.toNat : Int), .int .i64 tl, .int .i64 td] 35)).cell? ⟨wr.heap.size, 0, none⟩ = some (.int .u8 (tb.toNat : Int)) := hBA.cell 0
      have ht1 : (wr.alloc (.cells #[.int .u8 (tb.toNat : Int), .int .i64 tl, .int .i64 td] 35)).cell? ⟨wr.heap.size, 1, none⟩ = some (.int .i64 tl) := hBA.cell 1
      have ht2 : (wr.alloc (.cells #[.int .u8 (tb.toNat : Int), .int .i64 tl, .int .i64 td] 35)).cell? ⟨wr.heap.size, 2, none⟩ = some (.int .i64 td) := hBA.cell 2
      have hbyte := tb.toNat_lt
      clear htk hle60 hmem hBA hal
      by_cases hl0 : tl = 0
      · subst hl0
        have d1 : ((0 : Int) == 0) = true := rfl
        obtain ⟨σ, Hσ⟩ : ∃ R, Hid (tb.toNat = R) := ⟨_, Lib.hid (Eq.refl _)⟩
        have hσ : σ < 288 := by have := Hσ.out; omega
        rw [Hσ.out] at c0 HBA HPa ht0 ht1 ht2
        have hBk := HK1b.out.below HPa.out.2.1 HK1b.out.lt
        have k0 := hBk.cell (σ * 2)
        rw [ccells_bits 288 F L σ (σ * 2) rfl hσ] at k0
        have k1 := hBk.cell (σ * 2 + 1)
        rw [ccells_len 288 F L σ (σ * 2 + 1) rfl hσ] at k1
        obtain ⟨n, Hn⟩ : ∃ R, Hid (L σ = R) := ⟨_, Lib.hid (Eq.refl _)⟩
        obtain ⟨f, Hf⟩ : ∃ R, Hid (F σ = R) := ⟨_, Lib.hid (Eq.refl _)⟩
        have hn15 : n ≤ 15 := by rw [← Hn.out]; exact HL15.out σ
        have hf32 : f < 4294967296 := by rw [← Hf.out]; exact HF32.out σ hσ
        rw [Hf.out] at k0
        rw [Hn.out] at k1
        have HTn := Lib.hid (turn_pk w5 P v l f n (n : Int) hf32 (.inr (.inl ⟨rfl, by omega⟩)) (by have := Hle.out; omega) (wr.alloc (.cells #[.int .u8 (σ : Int), .int .i64 0, .int .i64 td] 35)).drew HPa.out.drew)
        have hll : Hid (l ++ [(rev f n, n)] = [(1, 1), (1, 2)] ++ toksE L 288 D 32 (S.take (j + 1))) := by
          show _ = _
          rw [Htk.out, Hl.out, List.append_assoc]
          congr 2
          show _ = [symE L 288 tb.toNat]
          rw [HsE.out, Hσ.out, Hf.out, Hn.out]
        have hlen2 : Hid (encN (l ++ [(rev f n, n)]) ≤ 3 + 60 * (j + 1)) := by
          show _ ≤ _
          rw [encN_snoc]
          have := Hle.out
          omega
        have k0d : (wr.alloc (.cells #[.int .u8 (σ : Int), .int .i64 0, .int .i64 td] 35)).drew.cell? ⟨G1, σ * 2, none⟩ = some (.int .u32 (f : Int)) := k0
        have k1d : (wr.alloc (.cells #[.int .u8 (σ : Int), .int .i64 0, .int .i64 td] 35)).drew.cell? ⟨G1, σ * 2 + 1, none⟩ = some (.int .i64 (n : Int)) := k1
        have t0d : (wr.alloc (.cells #[.int .u8 (σ : Int), .int .i64 0, .int .i64 td] 35)).drew.cell? ⟨wr.heap.size, 0, none⟩ = some (.int .u8 (σ : Int)) := ht0
        have hσI : (σ : Int) < 288 := by omega
        clear hBk
        go_wp2_with fail
        go_region_held3 (fun W => W.cell? ⟨G1, σ * 2, none⟩ = some (.int .u32 (f : Int)) ∧ W.cell? ⟨G1, σ * 2 + 1, none⟩ = some (.int .i64 (n : Int)) ∧ W.cell? ⟨wr.heap.size, 0, none⟩ = some (.int .u8 (σ : Int)))
          (first | exact ⟨by assumption, by assumption, by assumption⟩ | go_keep)
          (first
            | (go_at_call 41; refine HTn.out.mono ?_; rintro e w8 ⟨rfl, v8, hp8, hkt8⟩; have q3 := hp8; have hBk8 := HK1b.out.below hp8.2.1 HK1b.out.lt; have q0 := hBk8.cell (σ * 2); have q1 := hBk8.cell (σ * 2 + 1); rw [ccells_bits 288 F L σ (σ * 2) rfl hσ, Hf.out] at q0; rw [ccells_len 288 F L σ (σ * 2 + 1) rfl hσ, Hn.out] at q1; have q2 : w8.cell? ⟨wr.heap.size, 0, none⟩ = some (.int .u8 (σ : Int)) := (hkt8 wr.heap.size 35 _ (by decide) (by decide) HBA.out).cell 0))
        rename_i hh
        have HP8 := Lib.hid q3
        clear hh q0 q1 q2 q3 hBk8 hp8 hkt8 k0d k1d t0d k0 k1 HTn
        go_wp2_with fail
        go_roundw
        case rel => exact ⟨j + 1, v8, _, by omega, by go_num, HP8, hll, hlen2⟩
        case measure => simp [intOf]; omega
      · have d1 : (tl == 0) = false := by simp; exact hl0
        obtain ⟨htb, h3, h258, hd1, hd32⟩ := (hok.resolve_left fun h => hl0 h.1).2
        obtain ⟨n, rfl⟩ : ∃ n : Nat, tl = (n : Int) := ⟨tl.toNat, by dsimp only at h3; omega⟩
        obtain ⟨dd, rfl⟩ : ∃ n : Nat, td = (n : Int) := ⟨td.toNat, by dsimp only at hd1; omega⟩
        dsimp only at h3 h258 hd1 hd32
        have h3n : 3 ≤ n := by omega
        have h258n : n ≤ 258 := by omega
        have h1d : 1 ≤ dd := by omega
        have h32d : dd ≤ 32768 := by omega
        clear hok htb h3 h258 hd1 hd32 ht0 ht2
        go_wp2_with fail
        obtain ⟨B, HB⟩ : ∃ R, Hid (wr.heap.size = R) := ⟨_, Lib.hid (Eq.refl _)⟩
        obtain ⟨W9, HW9⟩ : ∃ R, Hid ((wr.alloc (.cells #[.int .u8 (tb.toNat : Int), .int .i64 (n : Int), .int .i64 (dd : Int)] 35)) = R) := ⟨_, Lib.hid (Eq.refl _)⟩
        rw [HW9.out] at HPa HBA ht1 ⊢
        rw [HB.out] at HBA ht1 ⊢
        clear HW9 HB
        go_loopw [19, 20, 21, 22] (fun i_ b_ m_ k_ wx => ∃ k i b m : Nat, k ≤ 29 ∧ k_ = .int .i64 (k : Int) ∧ i_ = .int .i64 (i : Int) ∧ b_ = .int .i64 (b : Int) ∧ m_ = .int .i64 (m : Int) ∧ Hid (symT (0, 0, 0) false n k = (i, b, m)) ∧ Hid (PK w5 wx P v l) ∧ Hid (Blk wx B 35 #[.int .u8 (tb.toNat : Int), .int .i64 (n : Int), .int .i64 (dd : Int)])) (fun _ _ _ k _ => 29 - (intOf k).toNat)
        case atStart => exact ⟨0, 0, 0, 0, by omega, rfl, rfl, rfl, rfl, rfl, HPa, HBA⟩
        case round =>
          clear HPa HBA
          obtain ⟨k, i, b, m, hk, rfl, rfl, rfl, rfl, Hst, HPx, HTx⟩ := hrel
          by_cases hk28 : k ≤ 28
          · have dk : decide ((k : Int) ≤ 28) = true := by rw [decide_eq_true_eq]; omega
            have dk2 : decide (k ≤ 28) = true := by rw [decide_eq_true_eq]; omega
            have CS := Lib.hid (size_near (k : Int))
            obtain ⟨⟨bk, mk⟩, Hsz⟩ : ∃ R, Hid (sizeS false (k : Int) = R) := ⟨_, Lib.hid (Eq.refl _)⟩
            rw [Hsz.out] at CS
            dsimp only at CS
            have hsl := size_lim false k (by omega)
            rw [Hsz.out] at hsl
            dsimp only at hsl
            have hmk : mk ≤ 14 := hsl.2
            clear hsl
            go_wp2_with fail
            refine (CS.out _).mono ?_
            rintro e w9 ⟨rfl, nq, rfl⟩
            have HP9 := Lib.hid (HPx.out.drewN nq)
            have HT9 := Lib.hid (HTx.out.drewN nq)
            have tc : (wr.drewN nq).cell? ⟨B, 1, none⟩ = some (.int .i64 (n : Int)) := HT9.out.cell 1
            clear HPx HTx
            by_cases hle : bk ≤ n
            · have de : decide ((bk : Int) ≤ (n : Int)) = true := by rw [decide_eq_true_eq]; omega
              have de2 : decide (bk ≤ n) = true := by rw [decide_eq_true_eq]; omega
              go_wp2_with fail
              go_roundw
              case rel =>
                refine ⟨k + 1, k, bk, mk, by omega, by go_num, rfl, rfl, rfl, ?_, HP9, HT9⟩
                show (if (sizeS false (k : Int)).1 ≤ n then _ else _) = _
                rw [Hsz.out, if_pos (by exact hle)]
              case measure => simp [intOf]; omega
            · have de : decide ((bk : Int) ≤ (n : Int)) = false := by rw [decide_eq_false_iff_not]; omega
              have de2 : decide (bk ≤ n) = false := by rw [decide_eq_false_iff_not]; omega
              go_wp2_with fail
              go_roundw
              case rel =>
                refine ⟨k + 1, i, b, m, by omega, by go_num, rfl, rfl, rfl, ?_, HP9, HT9⟩
                show (if (sizeS false (k : Int)).1 ≤ n then _ else _) = _
                rw [Hsz.out, if_neg (by exact hle)]
                exact Hst.out
              case measure => simp [intOf]; omega
          · obtain rfl : k = 29 := by omega
            have dk : decide (((29 : Nat) : Int) ≤ 28) = false := by decide
            have dk2 : decide ((29 : Int) ≤ 28) = false := by decide
            have dk3 : decide (29 ≤ 28) = false := by decide
            have hd2 := symT_len (0, 0, 0) ⟨tb, (n : Int), (dd : Int)⟩ (by show (3 : Int) ≤ (n : Int); omega)
            have hds := (len_size n (by omega) (by omega))
            have hd3 : symT (0, 0, 0) false n 29 = (lsym ⟨tb, (n : Int), (dd : Int)⟩, sizeS false (lsym ⟨tb, (n : Int), (dd : Int)⟩ : Nat)) := hd2
            rw [Hst.out] at hd3
            have hi2 : lsym ⟨tb, (n : Int), (dd : Int)⟩ = i := (congrArg Prod.fst hd3).symm
            have hb2 : sizeS false (i : Int) = (b, m) := by rw [← hi2]; exact (congrArg Prod.snd hd3).symm
            have hds2 : lsym ⟨tb, (n : Int), (dd : Int)⟩ ≤ 28 ∧ (sizeS false (lsym ⟨tb, (n : Int), (dd : Int)⟩ : Nat)).1 ≤ n ∧ n - (sizeS false (lsym ⟨tb, (n : Int), (dd : Int)⟩ : Nat)).1 < 2 ^ (sizeS false (lsym ⟨tb, (n : Int), (dd : Int)⟩ : Nat)).2 := hds
            rw [hi2, hb2] at hds2
            have hi28 : i ≤ 28 := hds2.1
            have hbn : b ≤ n := hds2.2.1
            have hmm := (size_lim false i (by omega)).2
            rw [hb2] at hmm
            have hm1 : m ≤ 14 := hmm
            have Hi1 := Lib.hid hi2
            have Hb1 := Lib.hid hb2
            clear hd2 hds hd3 hds2 hmm hi2 hb2
            obtain ⟨i1, Hi1v⟩ : ∃ R, Hid (i = R) := ⟨_, Lib.hid (Eq.refl _)⟩
            obtain ⟨b1, Hb1v⟩ : ∃ R, Hid (b = R) := ⟨_, Lib.hid (Eq.refl _)⟩
            obtain ⟨m1, Hm1v⟩ : ∃ R, Hid (m = R) := ⟨_, Lib.hid (Eq.refl _)⟩
            rw [Hi1v.out] at hi28 Hi1 Hb1 ⊢
            rw [Hb1v.out] at Hb1 hbn ⊢
            rw [Hm1v.out] at Hb1 hm1 ⊢
            obtain ⟨q, Hq⟩ : ∃ R, Hid (257 + i1 = R) := ⟨_, Lib.hid (Eq.refl _)⟩
            have hqv := Hq.out
            have hqI : (257 : Int) + (i1 : Int) = (q : Int) := by omega
            have hqJ : IntKind.i64.wrap ((257 : Int) + (i1 : Int)) = (q : Int) := by rw [hqI, IntKind.wrap_i64]; omega
            clear hqI
            clear Hst
            have hqq : q < 288 := by omega
            clear hqv
            have hBkq := HK1b.out.below HPx.out.2.1 HK1b.out.lt
            have k0 := hBkq.cell (q * 2)
            rw [ccells_bits 288 F L q (q * 2) rfl hqq] at k0
            have k1 := hBkq.cell (q * 2 + 1)
            rw [ccells_len 288 F L q (q * 2 + 1) rfl hqq] at k1
            obtain ⟨nq, Hnq⟩ : ∃ R, Hid (L q = R) := ⟨_, Lib.hid (Eq.refl _)⟩
            obtain ⟨fq, Hfq⟩ : ∃ R, Hid (F q = R) := ⟨_, Lib.hid (Eq.refl _)⟩
            have hn15q : nq ≤ 15 := by rw [← Hnq.out]; exact HL15.out q
            have hf32q : fq < 4294967296 := by rw [← Hfq.out]; exact HF32.out q hqq
            rw [Hfq.out] at k0
            rw [Hnq.out] at k1
            have HTnq := Lib.hid (turn_pk w5 P v l fq nq (nq : Int) hf32q (.inr (.inl ⟨rfl, by omega⟩)) (by have := Hle.out; omega) wr.drew HPx.out.drew)
            obtain ⟨lq, Hlq⟩ : ∃ R, Hid (l ++ [(rev fq nq, nq)] = R) := ⟨_, Lib.hid (Eq.refl _)⟩
            rw [Hlq.out] at HTnq
            have hleq : Hid (encN lq ≤ encN l + 15) := by show _ ≤ _; rw [← Hlq.out, encN_snoc]; omega
            have k0d : wr.drew.cell? ⟨G1, q * 2, none⟩ = some (.int .u32 (fq : Int)) := k0
            have k1d : wr.drew.cell? ⟨G1, q * 2 + 1, none⟩ = some (.int .i64 (nq : Int)) := k1
            have hqqI : (q : Int) < 288 := by omega
            clear hBkq k0 k1
            go_wp2_with fail
            go_region_held3 (fun W => W.cell? ⟨G1, q * 2, none⟩ = some (.int .u32 (fq : Int)) ∧ W.cell? ⟨G1, q * 2 + 1, none⟩ = some (.int .i64 (nq : Int)))
              (first | exact ⟨by assumption, by assumption⟩ | go_keep)
              (first
                | (go_at_call 41; refine HTnq.out.mono ?_; rintro e wwq ⟨rfl, vvq, hp8, hkt8⟩; have q3 := hp8; have hBk8 := HK1b.out.below hp8.2.1 HK1b.out.lt; have q0 := hBk8.cell (q * 2); have q1 := hBk8.cell (q * 2 + 1); rw [ccells_bits 288 F L q (q * 2) rfl hqq, Hfq.out] at q0; rw [ccells_len 288 F L q (q * 2 + 1) rfl hqq, Hnq.out] at q1; have q2 := hkt8 B 35 _ (by decide) (by decide) HTx.out.drew))
            rename_i hh
            have HPq := Lib.hid q3
            have HTq := Lib.hid q2
            clear hh q0 q1 q2 q3 hBk8 hp8 hkt8 k0d k1d HTnq HPx HTx
            obtain ⟨y, hy, Hy⟩ : ∃ y : Nat, y < 40000 ∧ Hid (n - b1 = y) := ⟨_, by omega, Lib.hid (Eq.refl _)⟩
            have hxIx1 : (n : Int) - (b1 : Int) = (y : Int) := by have := Hy.out; omega
            have hxJx1 : IntKind.i64.wrap ((n : Int) - (b1 : Int)) = (y : Int) := by rw [hxIx1, IntKind.wrap_i64]; omega
            have tc : wwq.cell? ⟨B, 1, none⟩ = some (.int .i64 (n : Int)) := HTq.out.cell 1
            have HPtx1 := Lib.hid (put_pk w5 P vvq lq y m1 (m1 : Int) (by omega) (.inr (.inl ⟨rfl, by omega⟩)) (by have := Hle.out; have := hleq.out; omega))
            obtain ⟨lx1, Hlx1⟩ : ∃ R, Hid (lq ++ [(y, m1)] = R) := ⟨_, Lib.hid (Eq.refl _)⟩
            rw [Hlx1.out] at HPtx1
            have hlex1 : Hid (encN lx1 ≤ encN lq + 14) := by show _ ≤ _; rw [← Hlx1.out, encN_snoc]; omega
            go_wp2_with fail
            refine (HPtx1.out _ HPq.out).mono ?_
            rintro e wwx1 ⟨rfl, vvx1, hp8, hkt8⟩
            have HTx1 := Lib.hid (hkt8 B 35 _ (by decide) (by decide) HTq.out)
            have HPx1 := Lib.hid hp8
            clear hp8 hkt8 tc HPtx1 HPq HTq
            go_wp2_with fail
            go_loopw [19, 20, 21, 25] (fun i_ b_ m_ k_ wx => ∃ k i b m : Nat, k ≤ 30 ∧ k_ = .int .i64 (k : Int) ∧ i_ = .int .i64 (i : Int) ∧ b_ = .int .i64 (b : Int) ∧ m_ = .int .i64 (m : Int) ∧ Hid (symT (i1, b1, m1) true dd k = (i, b, m)) ∧ Hid (PK w5 wx P vvx1 lx1) ∧ Hid (Blk wx B 35 #[.int .u8 (tb.toNat : Int), .int .i64 (n : Int), .int .i64 (dd : Int)])) (fun _ _ _ k _ => 30 - (intOf k).toNat)
            case atStart => exact ⟨0, i1, b1, m1, by omega, rfl, rfl, rfl, rfl, rfl, HPx1, HTx1⟩
            case round =>
              clear HPx1 HTx1
              obtain ⟨k, i, b, m, hk, rfl, rfl, rfl, rfl, Hst, HPx, HTx⟩ := hrel
              by_cases hk28 : k ≤ 29
              · have dk : decide ((k : Int) ≤ 29) = true := by rw [decide_eq_true_eq]; omega
                have dk2 : decide (k ≤ 29) = true := by rw [decide_eq_true_eq]; omega
                have CS := Lib.hid (size_far (k : Int))
                obtain ⟨⟨bk, mk⟩, Hsz⟩ : ∃ R, Hid (sizeS true (k : Int) = R) := ⟨_, Lib.hid (Eq.refl _)⟩
                rw [Hsz.out] at CS
                dsimp only at CS
                have hsl := size_lim true k (by omega)
                rw [Hsz.out] at hsl
                dsimp only at hsl
                have hmk : mk ≤ 14 := hsl.2
                clear hsl
                go_wp2_with fail
                refine (CS.out _).mono ?_
                rintro e w9 ⟨rfl, nq, rfl⟩
                have HP9 := Lib.hid (HPx.out.drewN nq)
                have HT9 := Lib.hid (HTx.out.drewN nq)
                have tc : (wr.drewN nq).cell? ⟨B, 2, none⟩ = some (.int .i64 (dd : Int)) := HT9.out.cell 2
                clear HPx HTx
                by_cases hle : bk ≤ dd
                · have de : decide ((bk : Int) ≤ (dd : Int)) = true := by rw [decide_eq_true_eq]; omega
                  have de2 : decide (bk ≤ dd) = true := by rw [decide_eq_true_eq]; omega
                  go_wp2_with fail
                  go_roundw
                  case rel =>
                    refine ⟨k + 1, k, bk, mk, by omega, by go_num, rfl, rfl, rfl, ?_, HP9, HT9⟩
                    show (if (sizeS true (k : Int)).1 ≤ dd then _ else _) = _
                    rw [Hsz.out, if_pos (by exact hle)]
                  case measure => simp [intOf]; omega
                · have de : decide ((bk : Int) ≤ (dd : Int)) = false := by rw [decide_eq_false_iff_not]; omega
                  have de2 : decide (bk ≤ dd) = false := by rw [decide_eq_false_iff_not]; omega
                  go_wp2_with fail
                  go_roundw
                  case rel =>
                    refine ⟨k + 1, i, b, m, by omega, by go_num, rfl, rfl, rfl, ?_, HP9, HT9⟩
                    show (if (sizeS true (k : Int)).1 ≤ dd then _ else _) = _
                    rw [Hsz.out, if_neg (by exact hle)]
                    exact Hst.out
                  case measure => simp [intOf]; omega
              · obtain rfl : k = 30 := by omega
                have dk : decide (((30 : Nat) : Int) ≤ 29) = false := by decide
                have dk2 : decide ((30 : Int) ≤ 29) = false := by decide
                have dk3 : decide (30 ≤ 29) = false := by decide
                have hd2 := symT_dist (i1, b1, m1) ⟨tb, (n : Int), (dd : Int)⟩ (by show (1 : Int) ≤ (dd : Int); omega)
                have hds := (dist_size dd (by omega) (by omega))
                have hd3 : symT (i1, b1, m1) true dd 30 = (dsym ⟨tb, (n : Int), (dd : Int)⟩, sizeS true (dsym ⟨tb, (n : Int), (dd : Int)⟩ : Nat)) := hd2
                rw [Hst.out] at hd3
                have hi2 : dsym ⟨tb, (n : Int), (dd : Int)⟩ = i := (congrArg Prod.fst hd3).symm
                have hb2 : sizeS true (i : Int) = (b, m) := by rw [← hi2]; exact (congrArg Prod.snd hd3).symm
                have hds2 : dsym ⟨tb, (n : Int), (dd : Int)⟩ ≤ 29 ∧ (sizeS true (dsym ⟨tb, (n : Int), (dd : Int)⟩ : Nat)).1 ≤ dd ∧ dd - (sizeS true (dsym ⟨tb, (n : Int), (dd : Int)⟩ : Nat)).1 < 2 ^ (sizeS true (dsym ⟨tb, (n : Int), (dd : Int)⟩ : Nat)).2 := hds
                rw [hi2, hb2] at hds2
                have hi29 : i ≤ 29 := hds2.1
                have hbd : b ≤ dd := hds2.2.1
                have hmm := (size_lim true i hi29).2
                rw [hb2] at hmm
                have hm2 : m ≤ 14 := hmm
                have Hi2 := Lib.hid hi2
                have Hb2 := Lib.hid hb2
                clear hd2 hds hd3 hds2 hmm hi2 hb2
                obtain ⟨p, Hp⟩ : ∃ R, Hid (i = R) := ⟨_, Lib.hid (Eq.refl _)⟩
                rw [Hp.out] at hi29 Hi2 Hb2 ⊢
                obtain ⟨b2, Hb2v⟩ : ∃ R, Hid (b = R) := ⟨_, Lib.hid (Eq.refl _)⟩
                obtain ⟨m2, Hm2v⟩ : ∃ R, Hid (m = R) := ⟨_, Lib.hid (Eq.refl _)⟩
                rw [Hb2v.out] at Hb2 hbd ⊢
                rw [Hm2v.out] at Hb2 hm2 ⊢
                clear Hst
                have hqp : p < 32 := by omega
                have hBkp := HK2.out.below HPx.out.2.1 HK2.out.lt
                have k0 := hBkp.cell (p * 2)
                rw [ccells_bits 32 E D p (p * 2) rfl hqp] at k0
                have k1 := hBkp.cell (p * 2 + 1)
                rw [ccells_len 32 E D p (p * 2 + 1) rfl hqp] at k1
                obtain ⟨np, Hnp⟩ : ∃ R, Hid (D p = R) := ⟨_, Lib.hid (Eq.refl _)⟩
                obtain ⟨fp, Hfp⟩ : ∃ R, Hid (E p = R) := ⟨_, Lib.hid (Eq.refl _)⟩
                have hn15p : np ≤ 15 := by rw [← Hnp.out]; exact HD15.out p
                have hf32p : fp < 4294967296 := by rw [← Hfp.out]; exact HE32.out p hqp
                rw [Hfp.out] at k0
                rw [Hnp.out] at k1
                have HTnp := Lib.hid (turn_pk w5 P vvx1 lx1 fp np (np : Int) hf32p (.inr (.inl ⟨rfl, by omega⟩)) (by have := Hle.out; have := hleq.out; have := hlex1.out; omega) wr.drew HPx.out.drew)
                obtain ⟨lp, Hlp⟩ : ∃ R, Hid (lx1 ++ [(rev fp np, np)] = R) := ⟨_, Lib.hid (Eq.refl _)⟩
                rw [Hlp.out] at HTnp
                have hlep : Hid (encN lp ≤ encN lx1 + 15) := by show _ ≤ _; rw [← Hlp.out, encN_snoc]; omega
                have k0d : wr.drew.cell? ⟨G2, p * 2, none⟩ = some (.int .u32 (fp : Int)) := k0
                have k1d : wr.drew.cell? ⟨G2, p * 2 + 1, none⟩ = some (.int .i64 (np : Int)) := k1
                have hqpI : (p : Int) < 32 := by omega
                clear hBkp k0 k1
                go_wp2_with fail
                go_region_held3 (fun W => W.cell? ⟨G2, p * 2, none⟩ = some (.int .u32 (fp : Int)) ∧ W.cell? ⟨G2, p * 2 + 1, none⟩ = some (.int .i64 (np : Int)))
                  (first | exact ⟨by assumption, by assumption⟩ | go_keep)
                  (first
                    | (go_at_call 41; refine HTnp.out.mono ?_; rintro e wwp ⟨rfl, vvp, hp8, hkt8⟩; have q3 := hp8; have hBk8 := HK2.out.below hp8.2.1 HK2.out.lt; have q0 := hBk8.cell (p * 2); have q1 := hBk8.cell (p * 2 + 1); rw [ccells_bits 32 E D p (p * 2) rfl hqp, Hfp.out] at q0; rw [ccells_len 32 E D p (p * 2 + 1) rfl hqp, Hnp.out] at q1; have q2 := hkt8 B 35 _ (by decide) (by decide) HTx.out.drew))
                rename_i hh
                have HPp := Lib.hid q3
                have HTp := Lib.hid q2
                clear hh q0 q1 q2 q3 hBk8 hp8 hkt8 k0d k1d HTnp HPx HTx
                obtain ⟨x, hx, Hx⟩ : ∃ x : Nat, x < 40000 ∧ Hid (dd - b2 = x) := ⟨_, by omega, Lib.hid (Eq.refl _)⟩
                have hxIx2 : (dd : Int) - (b2 : Int) = (x : Int) := by have := Hx.out; omega
                have hxJx2 : IntKind.i64.wrap ((dd : Int) - (b2 : Int)) = (x : Int) := by rw [hxIx2, IntKind.wrap_i64]; omega
                have tc : wwp.cell? ⟨B, 2, none⟩ = some (.int .i64 (dd : Int)) := HTp.out.cell 2
                have HPtx2 := Lib.hid (put_pk w5 P vvp lp x m2 (m2 : Int) (by omega) (.inr (.inl ⟨rfl, by omega⟩)) (by have := Hle.out; have := hleq.out; have := hlex1.out; have := hlep.out; omega))
                obtain ⟨lx2, Hlx2⟩ : ∃ R, Hid (lp ++ [(x, m2)] = R) := ⟨_, Lib.hid (Eq.refl _)⟩
                rw [Hlx2.out] at HPtx2
                have hlex2 : Hid (encN lx2 ≤ encN lp + 14) := by show _ ≤ _; rw [← Hlx2.out, encN_snoc]; omega
                go_wp2_with fail
                refine (HPtx2.out _ HPp.out).mono ?_
                rintro e wwx2 ⟨rfl, vvx2, hp8, hkt8⟩
                have HTx2 := Lib.hid (hkt8 B 35 _ (by decide) (by decide) HTp.out)
                have HPx2 := Lib.hid hp8
                clear hp8 hkt8 tc HPtx2 HPp HTp
                have hll : Hid (lx2 = [(1, 1), (1, 2)] ++ toksE L 288 D 32 (S.take (j + 1))) := by
                  show _ = _
                  have ht : tokE L 288 D 32 ⟨tb, (n : Int), (dd : Int)⟩ = [symE L 288 (257 + lsym ⟨tb, (n : Int), (dd : Int)⟩), (n - (sizeS false (lsym ⟨tb, (n : Int), (dd : Int)⟩ : Nat)).1, (sizeS false (lsym ⟨tb, (n : Int), (dd : Int)⟩ : Nat)).2), symE D 32 (dsym ⟨tb, (n : Int), (dd : Int)⟩), (dd - (sizeS true (dsym ⟨tb, (n : Int), (dd : Int)⟩ : Nat)).1, (sizeS true (dsym ⟨tb, (n : Int), (dd : Int)⟩ : Nat)).2)] := if_neg (by show ¬ (n : Int) = 0; omega)
                  rw [Htk.out, ← Hlx2.out, ← Hlp.out, ← Hlx1.out, ← Hlq.out, Hl.out, ht, HsE.out, HsD.out, Hi1.out, Hi2.out, Hb1.out, Hb2.out, Hq.out, Hfq.out, Hnq.out, Hfp.out, Hnp.out]
                  dsimp only
                  rw [Hx.out, Hy.out]
                  simp only [List.append_assoc, List.cons_append, List.nil_append]
                have hlen2 : Hid (encN lx2 ≤ 3 + 60 * (j + 1)) := by
                  show _ ≤ _
                  have h1 := Hle.out
                  have h2 := hleq.out
                  have h3 := hlex1.out
                  have h4 := hlep.out
                  have h5 := hlex2.out
                  omega
                go_wp2_with fail
                go_roundw
                case rel => exact ⟨j + 1, vvx2, lx2, by omega, by go_num, HPx2, hll, hlen2⟩
                case measure => simp [intOf]; omega
    · obtain rfl : j = M := by omega
      have dj : decide ((j : Int) < (j : Int)) = false := by rw [decide_eq_false_iff_not]; omega
      have hfull : S.take j = S := by rw [List.take_of_length_le (by rw [HM.out]; exact Nat.le_refl _)]
      have hBk := HK1b.out.below HPl.out.2.1 HK1b.out.lt
      have k0 := hBk.cell (256 * 2)
      rw [ccells_bits 288 F L 256 (256 * 2) rfl (by decide)] at k0
      have k1 := hBk.cell (256 * 2 + 1)
      rw [ccells_len 288 F L 256 (256 * 2 + 1) rfl (by decide)] at k1
      obtain ⟨n, Hn⟩ : ∃ R, Hid (L 256 = R) := ⟨_, Lib.hid (Eq.refl _)⟩
      obtain ⟨f, Hf⟩ : ∃ R, Hid (F 256 = R) := ⟨_, Lib.hid (Eq.refl _)⟩
      have hn15 : n ≤ 15 := by rw [← Hn.out]; exact HL15.out 256
      have hf32 : f < 4294967296 := by rw [← Hf.out]; exact HF32.out 256 (by decide)
      rw [Hf.out] at k0
      rw [Hn.out] at k1
      have hTn := turn_pk w5 P v l f n (n : Int) hf32 (.inr (.inl ⟨rfl, by omega⟩)) (by have := Hle.out; omega) wr.drew HPl.out.drew
      have hlE : l ++ [(rev f n, n)] = fixE S := by
        rw [HfE.out, Hl.out, hfull, HsE.out, Hf.out, Hn.out]
      rw [hlE] at hTn
      have HTn := Lib.hid hTn
      have hEn : encN (fixE S) ≤ 40000 := by
        rw [← hlE, encN_snoc]
        have := Hle.out
        omega
      obtain ⟨FE, HFE⟩ : ∃ R, Hid (fixE S = R) := ⟨_, Lib.hid (Eq.refl _)⟩
      rw [HFE.out] at HTn hEn HCI
      have hUs := encB_size FE
      obtain ⟨U, HU⟩ : ∃ R, Hid (encB FE = R) := ⟨_, Lib.hid (Eq.refl _)⟩
      rw [HU.out] at HCI hUs
      have hUl : U.size ≤ 100000 := by omega
      have k0d : wr.drew.cell? ⟨G1, 512, none⟩ = some (.int .u32 (f : Int)) := k0
      have k1d : wr.drew.cell? ⟨G1, 513, none⟩ = some (.int .i64 (n : Int)) := k1
      clear hBk hTn hlE hUs k0 k1 hfull
      go_wp2_with fail
      go_region_held3 (fun W => W.cell? ⟨G1, 512, none⟩ = some (.int .u32 (f : Int)) ∧ W.cell? ⟨G1, 513, none⟩ = some (.int .i64 (n : Int)))
        (first | exact ⟨by assumption, by assumption⟩ | go_keep)
        (first
          | (go_at_call 41; refine HTn.out.mono ?_; rintro e w8 ⟨rfl, v8, hp8, hkt8⟩; have q3 := hp8; have hBk8 := HK1b.out.below hp8.2.1 HK1b.out.lt; have q0 := hBk8.cell (256 * 2); have q1 := hBk8.cell (256 * 2 + 1); rw [ccells_bits 288 F L 256 (256 * 2) rfl (by decide), Hf.out] at q0; rw [ccells_len 288 F L 256 (256 * 2 + 1) rfl (by decide), Hn.out] at q1))
      rename_i hh
      have HP8 := Lib.hid q3
      clear hh q0 q1 q3 hBk8 hp8 hkt8 k0d k1d HTn HPl Hl Hle
      have CAl := Lib.hid (fun W h => all_pk w5 P v8 FE (by omega) W h)
      rw [HU.out] at CAl
      go_wp2_with fail
      refine (CAl.out _ HP8.out).mono ?_
      rintro e w9 ⟨rfl, hb9⟩
      have HP9 := Lib.hid (HP8.out.below hb9)
      clear hb9
      go_wp2_with fail
      refine (HCI.out _ hUl).mono ?_
      rintro e w10 ⟨rfl, hb10⟩
      have HP10 := Lib.hid (HP9.out.below hb10)
      clear hb10
      have HCE := Lib.hid (CE.out a cap w10 (HR5.out.below HP10.out.2.1 (Nat.le_refl _)))
      rw [HM.out] at HCE
      go_wp2_with fail
      refine HCE.out.mono ?_
      rintro e w11 ⟨rfl, hb11⟩
      have HP11 := Lib.hid (HP10.out.below hb11)
      clear hb11
      go_wp2_with fail
      refine (CAl.out _ HP11.out).mono ?_
      rintro e w12 ⟨rfl, hb12⟩
      have HB12 := Lib.hid (bthen HB5.out ((HP11.out.below hb12).2.1))
      clear hb12
      go_wp2_with fail
      go_ret
      exact ⟨rfl, HB12.out⟩
end Go.Proofs.Ytjnglahjngiofaa
