/- The document's least: the search over how many codes each length has. Conditions: at most nine counts. -/
import Derived.Test.YtahgeeklenojjaaHlP
import Derived.Test.YtahgeeklenojjaaIRow
import Derived.Deep.Cut
namespace Go.Proofs.Ytahgeeklenojjaa
open Go.RowKit
set_option maxRecDepth 100000

theorem drop_map (m : Nat → Int) (n k : Nat) : ((List.range n).map m).drop k = (List.range (n - k)).map fun i => m (k + i) := by
  apply List.ext_getElem?
  intro j
  rw [List.getElem?_drop, List.getElem?_map, List.getElem?_map]
  rcases Nat.lt_or_ge (k + j) n with h | h
  · rw [List.getElem?_range h, List.getElem?_range (by omega)]; rfl
  · rw [List.getElem?_eq_none (by simpa using h), List.getElem?_eq_none (by simp; omega)]
    rfl
theorem IRow.dropR {w : World} {b off n k : Nat} {m : Nat → Int} (h : IRow w (some ⟨b, off, none⟩) n m) (ad : Option Addr) (had : k < n → ad = some ⟨b, off + k, none⟩) : IRow w ad (n - k) fun i => m (k + i) := by
  by_cases hk : k < n
  · rw [had hk]
    rcases h with h | ⟨b', off', e, h2, h3⟩
    · omega
    · simp only [Option.some.injEq, Addr.mk.injEq] at e
      obtain ⟨rfl, rfl, _⟩ := e
      exact .inr ⟨_, _, rfl, h2, fun i hi => by rw [Nat.add_assoc]; exact h3 (k + i) (by omega)⟩
  · exact .inl (by omega)
theorem take_sum (m : Nat → Int) (n k : Nat) (hk : k < n) : (((List.range n).map m).take (k + 1)).sum = (((List.range n).map m).take k).sum + m k := by
  rw [List.take_succ_eq_append_getElem (by simpa using hk), List.sum_append]
  simp
set_option maxHeartbeats 8000000 in
theorem least_any : ∀ (f len most room n cap : Nat) (a : Option Addr) (m : Nat → Int) (w : World), most + 1 = len + f → most ≤ 15 → 1 ≤ len → room ≤ 100 → n ≤ 9 → n ≤ cap → cap ≤ 9223372036854775807 → (∀ i, i < n → 0 ≤ m i ∧ m i ≤ 1000000) → IRow w a n m →
    Calls Try.prog 29 #[.slice a n cap, .int .i64 (most : Int), .int .i64 (len : Int), .int .i64 (room : Int)] w fun e w' => e = .returned (.int .i64 (optI (lsN f ((List.range n).map m) len room))) ∧ w = w' := by
  intro f
  induction f with
  | zero =>
    intro len most room n cap a m w hf hmost hlen hroom hn hcap hcap2 hm hr
    by_cases hn0 : n = 0
    · subst hn0
      by_cases hr0 : room = 0
      · subst hr0
        have he : lsN 0 ((List.range 0).map m) len 0 = some 0 := rfl
        rw [he]
        clear hm hr hf he
        go_enter Try.func29, Try.ntmps29
        go_wp2_with fail
        go_ret
        exact ⟨rfl, rfl⟩
      · have he : lsN 0 ((List.range 0).map m) len room = none := by rw [lsN, if_neg (fun h => hr0 h.2)]
        rw [he]
        have d1 : ((room : Int) == 0) = false := by simp; omega
        clear hm hr hf he
        go_enter Try.func29, Try.ntmps29
        go_wp2_with fail
        go_ret
        exact ⟨rfl, rfl⟩
    · have he : lsN 0 ((List.range n).map m) len room = none := by
        rw [lsN, if_neg (fun h => hn0 (by have := congrArg List.length h.1; simpa using this))]
      rw [he]
      have d1 : ((n : Int) == 0) = false := by simp; omega
      have d2 : decide ((most : Int) < (len : Int)) = true := by rw [decide_eq_true_eq]; omega
      have d2b : decide (most < len) = true := by rw [decide_eq_true_eq]; omega
      clear hm hr hf he
      go_enter Try.func29, Try.ntmps29
      go_wp2_with fail
      go_ret
      exact ⟨rfl, rfl⟩
  | succ f ih =>
    intro len most room n cap a m w hf hmost hlen hroom hn hcap hcap2 hm hr
    by_cases hn0 : n = 0
    · subst hn0
      by_cases hr0 : room = 0
      · subst hr0
        have he : lsN (f + 1) ((List.range 0).map m) len 0 = some 0 := rfl
        rw [he]
        clear hm hr hf he ih
        go_enter Try.func29, Try.ntmps29
        go_wp2_with fail
        go_ret
        exact ⟨rfl, rfl⟩
      · have he : lsN (f + 1) ((List.range 0).map m) len room = none := by
          show lsN (f + 1) [] len room = none
          rw [lsN, if_pos rfl, if_neg hr0]
        rw [he]
        have d1 : ((room : Int) == 0) = false := by simp; omega
        clear hm hr hf he ih
        go_enter Try.func29, Try.ntmps29
        go_wp2_with fail
        go_ret
        exact ⟨rfl, rfl⟩
    · have hne : ((List.range n).map m) ≠ [] := fun h => hn0 (by have := congrArg List.length h; simpa using this)
      have hll : ((List.range n).map m).length = n := by simp
      have d1 : ((n : Int) == 0) = false := by simp; omega
      have d2 : decide ((most : Int) < (len : Int)) = false := by rw [decide_eq_false_iff_not]; omega
      have d2b : decide (most < len) = false := by rw [decide_eq_false_iff_not]; omega
      by_cases hr0 : room = 0
      · subst hr0
        have he : lsN (f + 1) ((List.range n).map m) len 0 = none := by rw [lsN, if_neg hne, if_pos (.inl rfl)]
        rw [he]
        clear hm hr hf he ih hne hll
        go_enter Try.func29, Try.ntmps29
        go_wp2_with fail
        go_ret
        exact ⟨rfl, rfl⟩
      · have d3 : ((room : Int) == 0) = false := by simp; omega
        obtain ⟨n2, hn2⟩ : ∃ k : Nat, k = 2 * n := ⟨_, rfl⟩
        have e1 : 2 * (n : Int) = (n2 : Int) := by omega
        have e1w : IntKind.i64.wrap (n2 : Int) = (n2 : Int) := by rw [IntKind.wrap_i64]; omega
        by_cases hbig : 2 * n < room
        · have he : lsN (f + 1) ((List.range n).map m) len room = none := by rw [lsN, if_neg hne, if_pos (.inr (by rw [hll]; exact hbig))]
          rw [he]
          have d4 : decide ((n2 : Int) < (room : Int)) = true := by rw [decide_eq_true_eq]; omega
          have d4b : decide (n2 < room) = true := by rw [decide_eq_true_eq]; omega
          clear hm hr hf he ih hne hll hn2 hbig
          go_enter Try.func29, Try.ntmps29
          go_wp2_with fail
          go_ret
          exact ⟨rfl, rfl⟩
        · have d4 : decide ((n2 : Int) < (room : Int)) = false := by rw [decide_eq_false_iff_not]; omega
          have d4b : decide (n2 < room) = false := by rw [decide_eq_false_iff_not]; omega
          have hmin : Nat.min n room + 1 = Nat.min n room + 1 := rfl
          have he : lsN (f + 1) ((List.range n).map m) len room = lsK (fun k => lsN f (((List.range n).map m).drop k) (len + 1) (2 * (room - k))) (fun k => (((List.range n).map m).take k).sum * (len : Int)) (min n room + 1) := by
            rw [lsN, if_neg hne, if_neg (by rw [hll]; omega), hll]
          obtain ⟨b, off, rfl, hbl, hcell⟩ : ∃ b off, a = some ⟨b, off, none⟩ ∧ b < w.heap.size ∧ ∀ i, i < n → w.cell? ⟨b, off + i, none⟩ = some (.int .i64 (m i)) := hr.resolve_left hn0
          have HC := Lib.hid hcell
          have HR := Lib.hid hr
          have Hm := Lib.hid hm
          have IH := Lib.hid ih
          have HBD : Hid (∀ k c, k ≤ min n room + 1 → lsK (fun k => lsN f (((List.range n).map m).drop k) (len + 1) (2 * (room - k))) (fun k => (((List.range n).map m).take k).sum * (len : Int)) k = some c → 0 ≤ c ∧ c ≤ 200000000) := fun k c hk h => by
            have h1 := lsK_bd (by rw [hll]; omega) h (fun y hy => by
              obtain ⟨i, hi, rfl⟩ := List.mem_map.1 hy
              exact hm i (List.mem_range.1 hi))
            rw [hll] at h1
            refine ⟨h1.1, Int.le_trans h1.2 ?_⟩
            have h2 : (1000000 : Int) * ((len + 1 + f : Nat) : Int) ≤ 1000000 * 17 := by omega
            have h3 : (1000000 : Int) * ((len + 1 + f : Nat) : Int) * (n : Int) ≤ 1000000 * 17 * 9 := Int.mul_le_mul h2 (by omega) (by omega) (by omega)
            omega
          have HGB : Hid (∀ k c, k ≤ n → lsN f (((List.range n).map m).drop k) (len + 1) (2 * (room - k)) = some c → 0 ≤ c ∧ c ≤ 200000000) := fun k c hk h => by
            have h1 := lsN_bd h (fun y hy => by
              obtain ⟨i, hi, rfl⟩ := List.mem_map.1 (List.mem_of_mem_drop hy)
              exact hm i (List.mem_range.1 hi))
            rw [List.length_drop, hll] at h1
            refine ⟨h1.1, Int.le_trans h1.2 ?_⟩
            have h2 : (1000000 : Int) * ((len + 1 + f : Nat) : Int) ≤ 1000000 * 17 := by omega
            have h3 : (1000000 : Int) * ((len + 1 + f : Nat) : Int) * ((n - k : Nat) : Int) ≤ 1000000 * 17 * 9 := Int.mul_le_mul h2 (by omega) (by omega) (by omega)
            omega
          have HCB : Hid (∀ k, k ≤ n → 0 ≤ (((List.range n).map m).take k).sum * (len : Int) ∧ (((List.range n).map m).take k).sum * (len : Int) ≤ 200000000) := fun k hk => by
            have h1 := costD_rep len k ((List.range n).map m) [] (by rw [hll]; exact hk)
            have h2 := costD_bd ((List.range n).map m) (List.replicate k len ++ []) 16 (fun y hy => by
              obtain ⟨i, hi, rfl⟩ := List.mem_map.1 hy
              exact hm i (List.mem_range.1 hi)) (fun x hx => by
              rw [List.append_nil, List.mem_replicate] at hx
              omega)
            have h3 : costD (((List.range n).map m).drop k) [] = 0 := by cases ((List.range n).map m).drop k <;> rfl
            rw [h1, h3, hll] at h2
            have h4 : (1000000 : Int) * ((16 : Nat) : Int) * (n : Int) ≤ 1000000 * 16 * 9 := Int.mul_le_mul (by omega) (by omega) (by omega) (by omega)
            omega
          obtain ⟨CF, HCF⟩ : ∃ R, Hid ((fun k => (((List.range n).map m).take k).sum * (len : Int)) = R) := ⟨_, Lib.hid (Eq.refl _)⟩
          have HCS : Hid (∀ k, k < n → CF (k + 1) = CF k + m k * (len : Int)) := fun k hk => by
            rw [← HCF.out]
            show (((List.range n).map m).take (k + 1)).sum * (len : Int) = _
            rw [take_sum m n k hk, Int.add_mul]
          have HC0 : Hid (CF 0 = 0) := by show _ = _; rw [← HCF.out]; show (0 : Int) * _ = 0; simp
          have HCB2 : Hid (∀ k, k ≤ n → 0 ≤ CF k ∧ CF k ≤ 200000000) := fun k hk => by rw [← HCF.out]; exact HCB.out k hk
          rw [HCF.out] at he HBD
          obtain ⟨GF, HGF⟩ : ∃ R, Hid ((fun k => lsN f (((List.range n).map m).drop k) (len + 1) (2 * (room - k))) = R) := ⟨_, Lib.hid (Eq.refl _)⟩
          have HGE : Hid (∀ k, lsN f (((List.range n).map m).drop k) (len + 1) (2 * (room - k)) = GF k) := fun k => by rw [← HGF.out]
          rw [HGF.out] at he HBD
          rw [he]
          have HGB2 : Hid (∀ k c, k ≤ n → GF k = some c → 0 ≤ c ∧ c ≤ 200000000) := fun k c hk h => HGB.out k c hk (by rw [HGE.out k]; exact h)
          obtain ⟨mx, Hmx⟩ : ∃ R, Hid (min n room = R) := ⟨_, Lib.hid (Eq.refl _)⟩
          rw [Hmx.out] at HBD ⊢
          have hr18 : room ≤ 2 * n := by omega
          have Hr18 := Lib.hid hr18
          have Hf2 := Lib.hid hf
          have Hlm : Hid (len ≤ most) := by show _ ≤ _; omega
          clear he HGB HCB HGF HCF hm hr hcell ih hne hll hmin hn2 hbig hr18 hf
          go_enter Try.func29, Try.ntmps29
          go_wp2_with fail
          go_loopw [9, 10, 11, 12] (fun b_ c_ k_ r_ wr => ∃ (k : Nat) (bs cs : Int), k ≤ mx + 1 ∧ k_ = .int .i64 (k : Int) ∧ c_ = .int .i64 cs ∧ b_ = .int .i64 bs ∧ Hid (bs = optI (lsK GF CF k)) ∧ Hid (cs = CF (k - 1)) ∧ Hid (wr = w)) (fun _ _ k_ _ _ => mx + 1 - (intOf k_).toNat)
          case atStart => exact ⟨0, _, _, by omega, rfl, rfl, rfl, rfl, HC0.out.symm, rfl⟩
          case round =>
            obtain ⟨k, bs, cs, hk, rfl, rfl, rfl, HB, HC1, HW⟩ := hrel
            by_cases hlt : k ≤ mx
            · have f1 : decide ((k : Int) ≤ (n : Int)) = true := by rw [decide_eq_true_eq]; have := Hmx.out; omega
              have f2 : decide ((k : Int) ≤ (room : Int)) = true := by rw [decide_eq_true_eq]; have := Hmx.out; omega
              have f1b : decide (k ≤ n) = true := by rw [decide_eq_true_eq]; have := Hmx.out; omega
              have f2b : decide (k ≤ room) = true := by rw [decide_eq_true_eq]; have := Hmx.out; omega
              have hkn : k ≤ n := by have := Hmx.out; omega
              have hkr : k ≤ room := by have := Hmx.out; omega
              obtain ⟨l1, Hl1⟩ : ∃ R, Hid (len + 1 = R) := ⟨_, Lib.hid (Eq.refl _)⟩
              have g1 : (len : Int) + 1 = (l1 : Int) := by have := Hl1.out; omega
              have g1w : IntKind.i64.wrap (l1 : Int) = (l1 : Int) := by rw [IntKind.wrap_i64]; have := Hl1.out; have := Hlm.out; omega
              obtain ⟨r1, Hr1⟩ : ∃ R, Hid (room - k = R) := ⟨_, Lib.hid (Eq.refl _)⟩
              have g2 : (room : Int) - (k : Int) = (r1 : Int) := by have := Hr1.out; omega
              have g2w : IntKind.i64.wrap (r1 : Int) = (r1 : Int) := by rw [IntKind.wrap_i64]; have := Hr1.out; omega
              obtain ⟨r2, Hr2⟩ : ∃ R, Hid (2 * r1 = R) := ⟨_, Lib.hid (Eq.refl _)⟩
              have g3 : 2 * (r1 : Int) = (r2 : Int) := by have := Hr2.out; omega
              have g3w : IntKind.i64.wrap (r2 : Int) = (r2 : Int) := by rw [IntKind.wrap_i64]; have := Hr1.out; have := Hr2.out; omega
              have Hr36 : Hid (r2 ≤ 36) := by show _ ≤ _; have := Hr1.out; have := Hr2.out; have := Hr18.out; omega
              have CK : ∀ (ad : Option Addr) (c2 : Nat), c2 = cap - k → (k < n → ad = some ⟨b, off + k, none⟩) → Hid (Calls Try.prog 29 #[.slice ad (n - k) c2, .int .i64 (most : Int), .int .i64 (l1 : Int), .int .i64 (r2 : Int)] wr fun e w' => e = .returned (.int .i64 (optI (GF k))) ∧ wr = w') := fun ad c2 hc2 had => by
                subst hc2
                have hrw : IRow wr (some ⟨b, off, none⟩) n m := by rw [HW.out]; exact HR.out
                have h := IH.out l1 most r2 (n - k) (cap - k) ad (fun i => m (k + i)) wr (by have := Hl1.out; have := Hf2.out; omega) hmost (by have := Hl1.out; omega) (by have := Hr36.out; omega) (by omega) (by omega) (by omega) (fun i hi => Hm.out (k + i) (by omega)) (hrw.dropR ad had)
                rw [← drop_map m n k, ← Hl1.out, ← Hr2.out, ← Hr1.out, HGE.out k] at h
                rw [← Hl1.out, ← Hr2.out, ← Hr1.out]
                exact h
              have HCK := Lib.hid CK
              clear CK
              obtain ⟨ad, Had⟩ : ∃ R, (if cap = k then some ⟨b, off, none⟩ else some ⟨b, off + k, none⟩ : Option Addr) = R := ⟨_, rfl⟩
              have HCA := HCK.out ad (cap - k) rfl (fun h => by rw [← Had, if_neg (by omega)])
              clear HCK
              have Hbs : Hid (-1 ≤ bs ∧ bs ≤ 200000000) := by
                show _ ∧ _
                rw [HB.out]
                cases hq : lsK GF CF k with
                | none => show (-1 : Int) ≤ -1 ∧ (-1 : Int) ≤ _; omega
                | some c => have := HBD.out k c (by omega) hq; show (-1 : Int) ≤ c ∧ c ≤ _; omega
              have hst : lsK GF CF (k + 1) = match GF k with | none => lsK GF CF k | some r => bstC (lsK GF CF k) (CF k + r) := rfl
              have NONE : GF k = none → Hid (bs = optI (lsK GF CF (k + 1))) := fun h => by
                show _ = _
                rw [hst, h]; exact HB.out
              have SOME1 : ∀ r, GF k = some r → (bs < 0 ∨ CF k + r < bs) → Hid (CF k + r = optI (lsK GF CF (k + 1))) := fun r h h2 => by
                show _ = _
                rw [hst, h]
                show _ = optI (bstC (lsK GF CF k) (CF k + r))
                rw [HB.out] at h2
                cases hq : lsK GF CF k with
                | none => rfl
                | some c =>
                  rw [hq] at h2
                  have h0 := (HBD.out k c (by omega) hq).1
                  unfold bstC
                  dsimp only [optI] at h2 ⊢
                  rw [if_pos (by omega)]
              have SOME2 : ∀ r, GF k = some r → ¬ bs < 0 → ¬ CF k + r < bs → Hid (bs = optI (lsK GF CF (k + 1))) := fun r h h1 h2 => by
                show _ = _
                rw [hst, h]
                show _ = optI (bstC (lsK GF CF k) (CF k + r))
                rw [HB.out] at h1 h2 ⊢
                cases hq : lsK GF CF k with
                | none => rw [hq] at h1; exact absurd (show (-1 : Int) < 0 by omega) h1
                | some c =>
                  rw [hq] at h2
                  unfold bstC
                  dsimp only [optI] at h2 ⊢
                  rw [if_neg (by omega)]
              have HNONE := Lib.hid NONE
              have HSOME1 := Lib.hid SOME1
              have HSOME2 := Lib.hid SOME2
              obtain ⟨hC0, hC1⟩ := HCB2.out k hkn
              have HGk : Hid (∀ c, GF k = some c → 0 ≤ c ∧ c ≤ 200000000) := fun c h => HGB2.out k c hkn h
              clear NONE SOME1 SOME2 hst
              obtain ⟨ck, Hck⟩ : ∃ R, Hid (CF k = R) := ⟨_, Lib.hid (Eq.refl _)⟩
              rw [Hck.out] at HSOME1 HSOME2 hC0 hC1
              have HC2 : Hid (ck = CF (k + 1 - 1)) := by show _ = _; rw [Nat.add_sub_cancel, Hck.out]
              by_cases hk0 : k = 0
              · have d0 : decide (0 < (k : Int)) = false := by rw [decide_eq_false_iff_not]; omega
                have d0b : decide (0 < k) = false := by rw [decide_eq_false_iff_not]; omega
                have hcs : ck = cs := by rw [HC1.out, ← Hck.out, hk0]
                subst hcs
                clear hk0
                cases hgk : GF k with
                | none =>
                  have H2 := HNONE.out hgk
                  rw [hgk] at HCA
                  go_wp2_with fail
                  refine HCA.out.mono ?_
                  rintro e w1 ⟨rfl, rfl⟩
                  dsimp only [optI]
                  go_wp2_with fail
                  go_roundw
                  case rel => exact ⟨k + 1, bs, ck, by omega, by go_num, rfl, rfl, H2, HC2, HW⟩
                  case measure => simp [intOf]; omega
                | some r =>
                  obtain ⟨hr0, hr1⟩ := HGk.out r hgk
                  rw [hgk] at HCA
                  have j1 : decide (0 ≤ r) = true := by rw [decide_eq_true_eq]; exact hr0
                  obtain ⟨sm, Hsm⟩ : ∃ R, Hid (ck + r = R) := ⟨_, Lib.hid (Eq.refl _)⟩
                  have j2 : ck + r = sm := Hsm.out
                  have j2w : IntKind.i64.wrap sm = sm := by rw [IntKind.wrap_i64]; omega
                  by_cases hb0 : bs < 0
                  · have H2 := HSOME1.out r hgk (.inl hb0)
                    rw [j2] at H2
                    have j3 : decide (bs < 0) = true := by rw [decide_eq_true_eq]; exact hb0
                    clear HSOME1 HSOME2 HNONE
                    go_wp2_with fail
                    refine HCA.out.mono ?_
                    rintro e w1 ⟨rfl, rfl⟩
                    dsimp only [optI]
                    go_wp2_with fail
                    go_roundw
                    case rel => exact ⟨k + 1, sm, ck, by omega, by go_num, rfl, rfl, H2, HC2, HW⟩
                    case measure => simp [intOf]; omega
                  · have j3 : decide (bs < 0) = false := by rw [decide_eq_false_iff_not]; exact hb0
                    by_cases hlt2 : sm < bs
                    · have H2 := HSOME1.out r hgk (.inr (by rw [j2]; exact hlt2))
                      rw [j2] at H2
                      have j4 : decide (sm < bs) = true := by rw [decide_eq_true_eq]; exact hlt2
                      clear HSOME1 HSOME2 HNONE
                      go_wp2_with fail
                      refine HCA.out.mono ?_
                      rintro e w1 ⟨rfl, rfl⟩
                      dsimp only [optI]
                      go_wp2_with fail
                      go_roundw
                      case rel => exact ⟨k + 1, sm, ck, by omega, by go_num, rfl, rfl, H2, HC2, HW⟩
                      case measure => simp [intOf]; omega
                    · have H2 := HSOME2.out r hgk hb0 (by rw [j2]; exact hlt2)
                      have j4 : decide (sm < bs) = false := by rw [decide_eq_false_iff_not]; exact hlt2
                      clear HSOME1 HSOME2 HNONE
                      go_wp2_with fail
                      refine HCA.out.mono ?_
                      rintro e w1 ⟨rfl, rfl⟩
                      dsimp only [optI]
                      go_wp2_with fail
                      go_roundw
                      case rel => exact ⟨k + 1, bs, ck, by omega, by go_num, rfl, rfl, H2, HC2, HW⟩
                      case measure => simp [intOf]; omega
              · have d0 : decide (0 < (k : Int)) = true := by rw [decide_eq_true_eq]; omega
                have d0b : decide (0 < k) = true := by rw [decide_eq_true_eq]; omega
                obtain ⟨q, Hq⟩ : ∃ q : Nat, Hid (k = q + 1) := ⟨k - 1, by show _ = _; omega⟩
                have p1 : (k : Int) - 1 = (q : Int) := by have := Hq.out; omega
                have hqn : q < n := by have := Hq.out; omega
                obtain ⟨hm0, hm1⟩ := Hm.out q hqn
                have c0 : wr.cell? ⟨b, off + q, none⟩ = some (.int .i64 (m q)) := by rw [HW.out]; exact HC.out q hqn
                obtain ⟨x, Hx⟩ : ∃ R, Hid (m q = R) := ⟨_, Lib.hid (Eq.refl _)⟩
                have hcq : CF k = CF q + m q * (len : Int) := by rw [Hq.out]; exact HCS.out q hqn
                have hcs : CF q = cs := by rw [HC1.out, Hq.out, Nat.add_sub_cancel]
                have hcb := HCB2.out q (by omega)
                rw [hcs] at hcb
                rw [Hck.out, hcs, Hx.out] at hcq
                rw [Hx.out] at c0 hm0 hm1
                obtain ⟨y, Hy⟩ : ∃ R, Hid (x * (len : Int) = R) := ⟨_, Lib.hid (Eq.refl _)⟩
                have p2 : x * (len : Int) = y := Hy.out
                rw [p2] at hcq
                have p2w : IntKind.i64.wrap y = y := by rw [IntKind.wrap_i64]; omega
                have p3 : cs + y = ck := hcq.symm
                have p3w : IntKind.i64.wrap ck = ck := by rw [IntKind.wrap_i64]; omega
                clear hcq hcs hk0
                cases hgk : GF k with
                | none =>
                  have H2 := HNONE.out hgk
                  rw [hgk] at HCA
                  go_wp2_with fail
                  refine HCA.out.mono ?_
                  rintro e w1 ⟨rfl, rfl⟩
                  dsimp only [optI]
                  go_wp2_with fail
                  go_roundw
                  case rel => exact ⟨k + 1, bs, ck, by omega, by go_num, rfl, rfl, H2, HC2, HW⟩
                  case measure => simp [intOf]; omega
                | some r =>
                  obtain ⟨hr0, hr1⟩ := HGk.out r hgk
                  rw [hgk] at HCA
                  have j1 : decide (0 ≤ r) = true := by rw [decide_eq_true_eq]; exact hr0
                  obtain ⟨sm, Hsm⟩ : ∃ R, Hid (ck + r = R) := ⟨_, Lib.hid (Eq.refl _)⟩
                  have j2 : ck + r = sm := Hsm.out
                  have j2w : IntKind.i64.wrap sm = sm := by rw [IntKind.wrap_i64]; omega
                  by_cases hb0 : bs < 0
                  · have H2 := HSOME1.out r hgk (.inl hb0)
                    rw [j2] at H2
                    have j3 : decide (bs < 0) = true := by rw [decide_eq_true_eq]; exact hb0
                    clear HSOME1 HSOME2 HNONE
                    go_wp2_with fail
                    refine HCA.out.mono ?_
                    rintro e w1 ⟨rfl, rfl⟩
                    dsimp only [optI]
                    go_wp2_with fail
                    go_roundw
                    case rel => exact ⟨k + 1, sm, ck, by omega, by go_num, rfl, rfl, H2, HC2, HW⟩
                    case measure => simp [intOf]; omega
                  · have j3 : decide (bs < 0) = false := by rw [decide_eq_false_iff_not]; exact hb0
                    by_cases hlt2 : sm < bs
                    · have H2 := HSOME1.out r hgk (.inr (by rw [j2]; exact hlt2))
                      rw [j2] at H2
                      have j4 : decide (sm < bs) = true := by rw [decide_eq_true_eq]; exact hlt2
                      clear HSOME1 HSOME2 HNONE
                      go_wp2_with fail
                      refine HCA.out.mono ?_
                      rintro e w1 ⟨rfl, rfl⟩
                      dsimp only [optI]
                      go_wp2_with fail
                      go_roundw
                      case rel => exact ⟨k + 1, sm, ck, by omega, by go_num, rfl, rfl, H2, HC2, HW⟩
                      case measure => simp [intOf]; omega
                    · have H2 := HSOME2.out r hgk hb0 (by rw [j2]; exact hlt2)
                      have j4 : decide (sm < bs) = false := by rw [decide_eq_false_iff_not]; exact hlt2
                      clear HSOME1 HSOME2 HNONE
                      go_wp2_with fail
                      refine HCA.out.mono ?_
                      rintro e w1 ⟨rfl, rfl⟩
                      dsimp only [optI]
                      go_wp2_with fail
                      go_roundw
                      case rel => exact ⟨k + 1, bs, ck, by omega, by go_num, rfl, rfl, H2, HC2, HW⟩
                      case measure => simp [intOf]; omega
            · have HF : Hid (bs = optI (lsK GF CF (mx + 1))) := by
                show _ = _
                rw [HB.out]
                congr 2
                omega
              by_cases hkn : k ≤ n
              · have f1 : decide ((k : Int) ≤ (n : Int)) = true := by rw [decide_eq_true_eq]; omega
                have f1b : decide (k ≤ n) = true := by rw [decide_eq_true_eq]; omega
                have f2 : decide ((k : Int) ≤ (room : Int)) = false := by rw [decide_eq_false_iff_not]; have := Hmx.out; omega
                have f2b : decide (k ≤ room) = false := by rw [decide_eq_false_iff_not]; have := Hmx.out; omega
                go_wp2_with fail
                go_ret
                exact ⟨by rw [← HF.out]; rfl, HW.out.symm⟩
              · have f1 : decide ((k : Int) ≤ (n : Int)) = false := by rw [decide_eq_false_iff_not]; omega
                have f1b : decide (k ≤ n) = false := by rw [decide_eq_false_iff_not]; omega
                go_wp2_with fail
                go_ret
                exact ⟨by rw [← HF.out]; rfl, HW.out.symm⟩
end Go.Proofs.Ytahgeeklenojjaa
