/- huff.Lengths, walked. Conditions: none. -/
import Derived.Test.YtahgeeklenojjaaLenV
import Derived.Test.YtahgeeklenojjaaCodes
import Derived.Deep.RegionHeld3
namespace Go.Proofs.Ytahgeeklenojjaa
open Go.RowKit
set_option maxRecDepth 100000

/-- Are these counts in bounds? -/
def CntOK (cnt : Nat → Int) (n : Nat) : Prop := ∀ i, i < n → 0 ≤ cnt i ∧ cnt i ≤ 1000000
/-- What Lengths hands back. -/
def LensPost (w : World) (n : Nat) (cnt : Nat → Int) (most : Int) (e : Ending) (w' : World) : Prop :=
  Below w.heap.size w w' ∧
  ((320 < n ∧ e = bad 2) ∨ (n ≤ 320 ∧ (most < 1 ∨ 15 < most) ∧ e = bad 1) ∨ (n ≤ 320 ∧ 1 ≤ most ∧ most ≤ 15 ∧ ¬ CntOK cnt n ∧ e = bad 1) ∨
   (n ≤ 320 ∧ 1 ≤ most ∧ most ≤ 15 ∧ CntOK cnt n ∧ 2 ^ most.toNat < (coinsB cnt n).length ∧ e = bad 4) ∨
   (n ≤ 320 ∧ 1 ≤ most ∧ most ≤ 15 ∧ CntOK cnt n ∧ (coinsB cnt n).length ≤ 2 ^ most.toNat ∧ ∃ g, e = .returned (.tuple #[.slice (some ⟨g, 0, none⟩) n n, .int .i64 0]) ∧ w.heap.size ≤ g ∧ Blk w' g 3 (fcells n fun i => .int .i64 ((finL cnt n most.toNat i : Nat) : Int))))
theorem coinsB_le (cnt : Nat → Int) (n : Nat) : (coinsB cnt n).length ≤ n := by
  rw [cnt_some]; exact cntTo_le _ n

theorem lens_bad (a : Option Addr) (n cap : Nat) (cnt : Nat → Int) (hn : n ≤ 1000000) (most : Int) (h : 320 < n ∨ most < 1 ∨ 15 < most) (w : World) : Calls Try.prog 5 #[.slice a n cap, .int .i64 most] w (LensPost w n cnt most) := by
  by_cases h320 : 320 < n
  · have d0 : decide ((320 : Int) < (n : Int)) = true := by rw [decide_eq_true_eq]; omega
    have d0b : decide (320 < n) = true := by rw [decide_eq_true_eq]; omega
    go_enter Try.func5, Try.ntmps5
    go_wp2_with fail
    go_ret2
    exact ⟨Below.refl _ _, .inl ⟨h320, rfl⟩⟩
  · have d0 : decide ((320 : Int) < (n : Int)) = false := by rw [decide_eq_false_iff_not]; omega
    have d0b : decide (320 < n) = false := by rw [decide_eq_false_iff_not]; omega
    have hm : most < 1 ∨ 15 < most := h.resolve_left h320
    by_cases h1 : most < 1
    · have d1 : decide (most < 1) = true := by rw [decide_eq_true_eq]; omega
      clear h
      go_enter Try.func5, Try.ntmps5
      go_wp2_with fail
      go_ret2
      exact ⟨Below.refl _ _, .inr (.inl ⟨by omega, hm, rfl⟩)⟩
    · have d1 : decide (most < 1) = false := by rw [decide_eq_false_iff_not]; omega
      have d2 : decide (15 < most) = true := by rw [decide_eq_true_eq]; omega
      clear h
      go_enter Try.func5, Try.ntmps5
      go_wp2_with fail
      go_ret2
      exact ⟨Below.refl _ _, .inr (.inl ⟨by omega, hm, rfl⟩)⟩

theorem made_ints (n : Nat) (hn : n ≤ 100000) (W : World) : (Instr.makeSlice 22 (.int .i64 (n : Int)) (.int .i64 (n : Int))).run Try.prog W = .ok (.slice (some ⟨W.heap.size, 0, none⟩) n n) (W.alloc (.cells (fcells n (fun _ => .int .i64 0)) 3)) := by
  obtain ⟨i0, hi, hz0, hz1, hz2⟩ := info_parts info_int
  have hr := run_make (P := Try.prog) W 22 3 i0 _ Try.underlying22 hi hz0 .i64 .i64 n n (by omega) (by omega) (by rw [hz2]; omega) (by omega)
  simp only [Int.toNat_natCast] at hr
  have e : (Value.int .i64 0).cells = #[.int .i64 0] := rfl
  rw [hz1, e, Nat.mul_one, fcells_made] at hr
  exact hr
/-- out[s] as the counts go. -/
def cntF (A : List It) (s : Nat) : Value := .int .i64 ((((syms A).count s : Nat)) : Int)

set_option maxHeartbeats 64000000 in
theorem lens_good (a : Option Addr) (n cap : Nat) (cnt : Nat → Int) (hn : n ≤ 320) (most : Nat) (hm1 : 1 ≤ most) (hm15 : most ≤ 15) (w : World) (hr : IRow w a n cnt) : Calls Try.prog 5 #[.slice a n cap, .int .i64 (most : Int)] w (LensPost w n cnt (most : Int)) := by
  have d0 : decide ((320 : Int) < (n : Int)) = false := by rw [decide_eq_false_iff_not]; omega
  have d0b : decide (320 < n) = false := by rw [decide_eq_false_iff_not]; omega
  have d1 : decide ((most : Int) < 1) = false := by rw [decide_eq_false_iff_not]; omega
  have d1b : decide (most < 1) = false := by rw [decide_eq_false_iff_not]; omega
  have d2 : decide ((15 : Int) < (most : Int)) = false := by rw [decide_eq_false_iff_not]; omega
  have d2b : decide (15 < most) = false := by rw [decide_eq_false_iff_not]; omega
  have hmk := made_ints n (by omega)
  have Hr := Lib.hid hr
  obtain ⟨O, HO⟩ : ∃ R, Hid (w.heap.size = R) := ⟨_, Lib.hid (Eq.refl _)⟩
  have hOB : w.heap.size ≤ O := by rw [HO.out]; exact Nat.le_refl _
  have HB0 := Lib.hid ((Below.refl w.heap.size w).alloc (Nat.le_refl _) (.cells (fcells n (fun _ => .int .i64 0)) 3))
  have hK0 := Blk.new w 3 (fcells n (fun _ => .int .i64 0))
  rw [HO.out] at hK0
  have HK0 := Lib.hid hK0
  have HC0 : Hid (CntOK cnt 0) := fun i hi => by omega
  clear hr hK0
  go_enter Try.func5, Try.ntmps5
  go_wp2_with fail
  rw [HO.out]
  obtain ⟨w1, HW1⟩ : ∃ R, Hid (w.alloc (.cells (fcells n (fun _ => .int .i64 0)) 3) = R) := ⟨_, Lib.hid (Eq.refl _)⟩
  rw [HW1.out] at HB0 HK0 ⊢
  have HO0 : Hid (w1.ownsRow (O + 1) 56 2 (.slice none 0 0) ([] : List Zt).length (pvals (fsts []))) := World.ownsRow_nil _ _ _ _
  clear HW1 hmk
  go_loopw [7, 33] (fun v_ s_ wr => ∃ (s : Nat) (Zs : List Zt) (v : Value), s ≤ n ∧ v_ = v ∧ s_ = .int .i64 (s : Int) ∧ Zs.length ≤ s ∧ Hid (wr.ownsRow (O + 1) 56 2 v Zs.length (pvals (fsts Zs))) ∧ Hid (SyL wr (O + 1) Zs) ∧ Hid (snds Zs = coinsB cnt s) ∧ Hid (CntOK cnt s) ∧ Hid (Blk wr O 3 (fcells n (fun _ => .int .i64 0))) ∧ Hid (Below w.heap.size w wr)) (fun _ s _ => n - (intOf s).toNat)
  case atStart => exact ⟨0, [], _, by omega, rfl, rfl, Nat.le_refl _, HO0, fun z hz => (by cases hz), rfl, HC0, HK0, HB0⟩
  case round =>
    clear HO0 HC0 HK0 HB0
    obtain ⟨s, Zs, v, hs, hv, rfl, hZl, HOw, HSy, HZ, HC, HK, HB⟩ := hrel
    have hv2 := hv.symm
    subst hv2
    clear hv
    by_cases hlt : s < n
    · have ds : decide ((s : Int) < (n : Int)) = true := by rw [decide_eq_true_eq]; omega
      have dsb : decide (s < n) = true := by rw [decide_eq_true_eq]; omega
      have hsI : (s : Int) < (n : Int) := by omega
      obtain ⟨b, off, rfl, _, hc⟩ := (Hr.out.below HB.out).get s hlt
      obtain ⟨x, Hx⟩ : ∃ R, Hid (cnt s = R) := ⟨_, Lib.hid (Eq.refl _)⟩
      rw [Hx.out] at hc
      by_cases hx0 : x < 0
      · have e0 : decide (x < 0) = true := by rw [decide_eq_true_eq]; exact hx0
        go_wp2_with fail
        go_ret2
        refine ⟨HB.out, .inr (.inr (.inl ⟨hn, by omega, by omega, fun h => ?_, rfl⟩))⟩
        have := (h s hlt).1
        rw [Hx.out] at this
        omega
      · have e0 : decide (x < 0) = false := by rw [decide_eq_false_iff_not]; exact hx0
        by_cases hx1 : 1000000 < x
        · have e1 : decide (1000000 < x) = true := by rw [decide_eq_true_eq]; exact hx1
          go_wp2_with fail
          go_ret2
          refine ⟨HB.out, .inr (.inr (.inl ⟨hn, by omega, by omega, fun h => ?_, rfl⟩))⟩
          have := (h s hlt).2
          rw [Hx.out] at this
          omega
        · have e1 : decide (1000000 < x) = false := by rw [decide_eq_false_iff_not]; exact hx1
          have HC2 : Hid (CntOK cnt (s + 1)) := fun i hi => by
            by_cases e : i = s
            · subst e; rw [Hx.out]; omega
            · exact HC.out i (by omega)
          by_cases hx2 : 0 < x
          · have e2 : decide (0 < x) = true := by rw [decide_eq_true_eq]; exact hx2
            have hal : Below wr.heap.size wr (wr.alloc (.cells #[.int .i64 (s : Int)] 3)) := (Below.refl wr.heap.size wr).alloc (Nat.le_refl _) _
            have hos : (wr.alloc (.cells #[.int .i64 (s : Int)] 3)).ownsRow (O + 1) 56 2 v Zs.length (pvals (fsts Zs)) := by
              have hlt := World.ownsRow.lt HOw.out
              refine ⟨HOw.out.1, ?_⟩
              rcases HOw.out.2 with h | ⟨g, cap, cur, h0, a1, a2, a3⟩
              · exact .inl h
              · exact .inr ⟨g, cap, cur, h0, a1, (hal.block g (hlt g (by rw [h0]; rfl)).2).trans a2, a3⟩
            have hbsw : O + 1 ≤ (wr.alloc (.cells #[.int .i64 (s : Int)] 3)).heap.size := by
              have := HK.out.lt
              rw [size_new]; omega
            have Hsz2 : Hid (wr.heap.size + 1 = (wr.alloc (.cells #[.int .i64 (s : Int)] 3)).heap.size) := by show _ = _; simp
            have HZ2 : Hid (snds (Zs ++ [((⟨x, some ⟨wr.heap.size, 0, none⟩, 1, 1⟩, ⟨x, [s]⟩) : Zt)]) = coinsB cnt (s + 1)) := by
              show _ = coinsB cnt s ++ (if 0 < cnt s then _ else _)
              rw [snds_app, HZ.out, Hx.out, if_pos hx2]
              rfl
            clear hal
            go_wp2_with (first
              | (at_builtin; go_must (refine wpList_append_elem (wr.alloc (.cells #[.int .i64 (s : Int)] 3)) rfl (.tmp 46) (.tmp 51) rfl Try.underlying54 info_pair rfl (by decide) (O + 1) _ Zs.length (pvals (fsts Zs)) [.int .i64 x, .slice (some ⟨wr.heap.size, 0, none⟩) 1 1] hos rfl ?_ rfl rfl Hsz2.out ?_ ?_ hbsw ?_; (intro y hy; simp at hy; rcases hy with rfl | rfl <;> rfl); (unfold maxLen; omega); omega; intro v7 w7 hown7 hg7; obtain ⟨q1, q2, q3, q4⟩ := coin_step hOB HOw.out HSy.out HK.out HB.out hown7 hg7; have Q1 := Lib.hid q1; have Q2 := Lib.hid q2; have Q3 := Lib.hid q3; have Q4 := Lib.hid q4; clear hown7 hg7 q1 q2 q3 q4))
              | fail)
            go_roundw
            case rel => exact ⟨s + 1, _, v7, by omega, rfl, by go_num, by rw [List.length_append]; show _ + 1 ≤ _; omega, Q1, Q2, HZ2, HC2, Q3, Q4⟩
            case measure => simp [intOf]; omega
          · have e2 : decide (0 < x) = false := by rw [decide_eq_false_iff_not]; exact hx2
            have HZ2 : Hid (snds Zs = coinsB cnt (s + 1)) := by
              show _ = coinsB cnt s ++ (if 0 < cnt s then _ else _)
              rw [HZ.out, Hx.out, if_neg hx2, List.append_nil]
            go_wp2_with fail
            go_roundw
            case rel => exact ⟨s + 1, Zs, v, by omega, rfl, by go_num, by omega, HOw, HSy, HZ2, HC2, HK, HB⟩
            case measure => simp [intOf]; omega
    · obtain rfl : s = n := by omega
      have ds : decide ((s : Int) < (s : Int)) = false := by rw [decide_eq_false_iff_not]; omega
      have hZN : Hid (Zs.length = (coinsB cnt s).length) := by show _ = _; rw [← HZ.out, snds_len]
      have hrow := row_own (Xs := fsts Zs) (by rw [fsts_len]; exact HOw.out)
      obtain ⟨ca, cc, rfl, _⟩ := hrow.form
      rw [fsts_len] at hrow ⊢
      have HRow := Lib.hid hrow
      obtain ⟨p2, Hp2⟩ : ∃ R, Hid (2 ^ most = R) := ⟨_, Lib.hid (Eq.refl _)⟩
      have hp2 : p2 ≤ 32768 := by rw [← Hp2.out]; exact Nat.pow_le_pow_right (n := 2) (i := most) (j := 15) (by decide) hm15
      have w1 : wrap64 ((2 : Int) ^ most) = (p2 : Int) := by
        have e : (2 : Int) ^ most = (p2 : Int) := by rw [← Hp2.out]; simp
        rw [e]
        unfold wrap64; omega
      have w2 : IntKind.i64.wrap (p2 : Int) = (p2 : Int) := by rw [IntKind.wrap_i64]; omega
      obtain ⟨N, HN⟩ : ∃ R, Hid (Zs.length = R) := ⟨_, Lib.hid (Eq.refl _)⟩
      rw [HN.out] at hZl hZN HRow ⊢
      clear hrow HOw
      by_cases hbig : p2 < N
      · have d3 : decide ((p2 : Int) < (N : Int)) = true := by rw [decide_eq_true_eq]; omega
        have d3b : decide (p2 < N) = true := by rw [decide_eq_true_eq]; omega
        go_wp2_with fail
        go_ret2
        refine ⟨HB.out, .inr (.inr (.inr (.inl ⟨hn, by omega, by omega, HC.out, ?_, rfl⟩)))⟩
        rw [← hZN.out, Int.toNat_natCast, Hp2.out]
        exact hbig
      · have d3 : decide ((p2 : Int) < (N : Int)) = false := by rw [decide_eq_false_iff_not]; omega
        have d3b : decide (p2 < N) = false := by rw [decide_eq_false_iff_not]; omega
        by_cases hone : N = 1
        · have d4 : ((N : Int) == 1) = true := by simp; omega
          obtain ⟨z, hz⟩ : ∃ z, Zs = [z] := List.length_eq_one_iff.1 (by rw [HN.out]; exact hone)
          subst hz
          have hcb : coinsB cnt s = [z.2] := HZ.out.symm
          obtain ⟨tt, ht1, ht2, ht3⟩ := coinsB_mem cnt s z.2 (by rw [hcb]; exact List.mem_cons_self ..)
          obtain ⟨g, hca, hg1, hg2, _, hgs⟩ := HRow.out.get 0 (Nat.succ_pos _)
          obtain ⟨_, b, cs, hb1, hb2, hb3, hb4, hb5⟩ := HSy.out z (List.mem_cons_self ..)
          have hl1 : z.2.l = [tt] := by rw [ht3]
          rw [hl1] at hb4 hb5
          have hs1 : wr.cell? ⟨g, 1, none⟩ = some (.slice (some ⟨b, 0, none⟩) 1 z.1.c) := by
            have e : z.1.s = .slice (some ⟨b, 0, none⟩) 1 z.1.c := by unfold Pr.s; rw [hb1, hb4]; rfl
            rw [← e]
            exact hgs
          have hs2 : wr.cell? ⟨b, 0, none⟩ = some (.int .i64 (tt : Int)) := (Blk.cell hb3 0).trans (hb5 0 (Nat.succ_pos _))
          have hs3 : wr.cell? ⟨O, tt, none⟩ = some (.int .i64 0) := (Blk.cell HK.out tt).trans (fcells_at _ _ _ ht1)
          have hs4 := Blk.frozen HK.out tt
          have htI : (tt : Int) < (s : Int) := by omega
          have hfin : fcells s (fun i => Value.int .i64 ((finL cnt s most i : Nat) : Int)) = (fcells s (fun _ => Value.int .i64 0)).setIfInBounds tt (.int .i64 1) := by
            rw [fcells_set]
            refine fcells_congr _ _ _ fun i hi => ?_
            have e1 : (coinsB cnt s).length = 1 := by rw [hcb]; rfl
            unfold finL
            rw [if_pos e1]
            have hmem := (coinsB_count cnt s).2 i
            rw [hcb] at hmem
            have hsy : syms [z.2] = [tt] := by show z.2.l ++ [] = _; rw [List.append_nil, hl1]
            rw [hsy] at hmem
            by_cases e : i = tt
            · rw [if_pos e, if_pos (hmem.1 (by rw [e]; exact List.mem_cons_self ..))]; rfl
            · rw [if_neg e, if_neg (fun h => by
                have := hmem.2 h
                rcases List.mem_cons.1 this with h | h
                · exact e h
                · cases h)]
              rfl
          have HFin : Hid (∀ m, Blk ((wr.setCell ⟨O, tt, none⟩ (.int .i64 1)).drewN m) O 3 (fcells s (fun i => Value.int .i64 ((finL cnt s most i : Nat) : Int)))) := fun m => by
            rw [hfin]
            exact Blk.set_ HK.out tt (.int .i64 1)
          have HBf : Hid (∀ m, Below w.heap.size w ((wr.setCell ⟨O, tt, none⟩ (.int .i64 1)).drewN m)) := fun m => below_drewN (HB.out.setCell hOB _) m
          have HlenN : Hid ((coinsB cnt s).length ≤ 2 ^ most) := by show _ ≤ _; rw [hcb]; exact Nat.pow_pos (by decide)
          subst hca
          clear hfin hgs hb1 hb2 hb3 hb4 hb5 hcb ht3 hl1
          go_wp2_with fail
          go_ret2
          refine ⟨HBf.out 0, .inr (.inr (.inr (.inr ⟨hn, by omega, by omega, HC.out, ?_, O, rfl, hOB, ?_⟩)))⟩
          · rw [Int.toNat_natCast]; exact HlenN.out
          · rw [Int.toNat_natCast]; exact HFin.out 0
        · have d4 : ((N : Int) == 1) = false := by simp; omega
          have hcm : ∀ z ∈ Zs, 0 < z.1.k ∧ z.1.k ≤ 1000000 := fun z hz => by
            obtain ⟨h1, _⟩ := HSy.out z hz
            have hm : z.2 ∈ coinsB cnt s := by rw [← HZ.out]; exact List.mem_map_of_mem hz
            obtain ⟨t, ht1, ht2, ht3⟩ := coinsB_mem cnt s z.2 hm
            have := (HC.out t ht1).2
            rw [h1, ht3]
            exact ⟨ht2, this⟩
          have hKL : KL (fsts Zs) := fun x hx => by
            obtain ⟨z, hz, rfl⟩ := List.mem_map.1 hx
            have := hcm z hz
            omega
          have CS := Lib.hid (sort_row (O + 1) (.slice ca N cc) (fsts Zs) (by rw [fsts_len, HN.out]; omega) hKL wr HRow.out)
          obtain ⟨ZA, HZA⟩ : ∃ R, Hid (isort kz Zs = R) := ⟨_, Lib.hid (Eq.refl _)⟩
          obtain ⟨A, HA⟩ : ∃ R, Hid (isort ik (coinsB cnt s) = R) := ⟨_, Lib.hid (Eq.refl _)⟩
          have hZA2 : snds ZA = A := by rw [← HZA.out, ← HA.out, ← HZ.out, sort_snd HSy.out]
          have hZAl : ZA.length = N := by rw [← HZA.out, isort_len, HN.out]
          have hAl : A.length = N := by rw [← hZA2, snds_len, hZAl]
          have hAs : Srt ik A := by rw [← HA.out]; exact isort_srt ik _
          have hAm : ∀ x ∈ A, 0 < x.k ∧ x.k ≤ 1000000 ∧ x.l.length = 1 := fun x hx => by
            rw [← HA.out] at hx
            obtain ⟨t, ht1, ht2, rfl⟩ := coinsB_mem cnt s x ((isort_perm ik _).mem_iff.1 hx)
            exact ⟨ht2, (HC.out t ht1).2, rfl⟩
          have HZA2 := Lib.hid hZA2
          have HZAl := Lib.hid hZAl
          have HAl := Lib.hid hAl
          have HAs := Lib.hid hAs
          have HAm := Lib.hid hAm
          have HAlim := Lib.hid (rowN_lim A 1000000 (by decide) (fun x hx => (hAm x hx).2))
          have HAshort := Lib.hid (rowN_short A)
          clear hKL hcm hZA2 hZAl hAl hAs hAm
          go_wp2_with fail
          refine CS.out.mono ?_
          rintro e w2 ⟨rfl, hg2, hr2⟩
          rw [sort_fst, HZA.out] at hr2
          have HcvA := Lib.hid hr2
          have HsyA : Hid (SyL w2 (O + 1) ZA) := by
            show SyL _ _ _
            rw [← HZA.out]
            exact HSy.out.sort.keep (KeepI.rowv HRow.out hg2)
          have HK2 : Hid (Blk w2 O 3 (fcells s (fun _ => .int .i64 0))) := Blk.grown HK.out hg2 (rowv_ne HRow.out HK.out)
          have HB2 : Hid (Below w.heap.size w w2) := below_rowv HB.out HRow.out (by omega) hg2 HB.out.size
          have Hrv0 : Hid (RowV w2 (O + 1) (.slice none 0 0) (fsts [])) := .inl ⟨rfl, rfl⟩
          have Hsv0 : Hid (SyL w2 (O + 1) []) := fun z hz => by cases hz
          clear hr2 hg2 CS HRow HSy HK HB
          go_wp2_with fail
          go_loopw [10, 74] (fun r_ k_ wr => ∃ (k : Nat) (rv : Value) (Zr : List Zt), k ≤ most ∧ r_ = rv ∧ k_ = .int .i64 (k : Int) ∧ Hid (RowV wr (O + 1) (.slice ca N cc) (fsts ZA)) ∧ Hid (SyL wr (O + 1) ZA) ∧ Hid (RowV wr (O + 1) rv (fsts Zr)) ∧ Hid (SyL wr (O + 1) Zr) ∧ Hid (snds Zr = rowN A k) ∧ Hid (Blk wr O 3 (fcells s (fun _ => .int .i64 0))) ∧ Hid (Below w.heap.size w wr)) (fun _ k _ => most - (intOf k).toNat)
          case atStart => exact ⟨0, _, [], by omega, rfl, rfl, HcvA, HsyA, Hrv0, Hsv0, rfl, HK2, HB2⟩
          case round =>
            clear HcvA HsyA Hrv0 Hsv0 HK2 HB2
            obtain ⟨k, rv, Zr, hk, hrv, rfl, HcvA, HsyA, Hrv, Hsr, HZr, HK, HB⟩ := hrel
            have hrv2 := hrv.symm
            subst hrv2
            clear hrv
            obtain ⟨ra, rc, rfl, hrc⟩ := Hrv.out.form
            rw [fsts_len] at Hrv hrc ⊢
            have hZl2 : Zr.length ≤ 2 * N := by
              have h1 := HAshort.out k
              rw [← HZr.out, snds_len, HAl.out] at h1
              exact h1
            obtain ⟨L, HL⟩ : ∃ R, Hid (Zr.length = R) := ⟨_, Lib.hid (Eq.refl _)⟩
            rw [HL.out] at Hrv hrc hZl2 ⊢
            by_cases hkm : k < most
            · have dk : decide ((k : Int) < (most : Int)) = true := by rw [decide_eq_true_eq]; omega
              have dkb : decide (k < most) = true := by rw [decide_eq_true_eq]; omega
              obtain ⟨Bn, HBn⟩ : ∃ R, Hid (wr.heap.size = R) := ⟨_, Lib.hid (Eq.refl _)⟩
              have hOBn : O + 1 ≤ Bn := by have := HK.out.lt; have := HBn.out; omega
              obtain ⟨wk, Hwk⟩ : ∃ R, Hid (wr = R) := ⟨_, Lib.hid (Eq.refl _)⟩
              rw [Hwk.out] at HcvA HsyA Hrv Hsr HK HB HBn ⊢
              have HBk : Hid (Below Bn wk wk) := by rw [← HBn.out]; exact Below.refl _ _
              have HOn0 : Hid (wk.ownsRow Bn 56 2 (.slice none 0 0) ([] : List Zt).length (pvals (fsts []))) := World.ownsRow_nil _ _ _ _
              have Hsn0 : Hid (SyL wk (O + 1) []) := fun z hz => by cases hz
              have Hpn0 : Hid (snds ([] : List Zt) = pairs ((rowN A k).take (2 * 0))) := rfl
              have Hlim := Lib.hid (HAlim.out k)
              have hk14 : k ≤ 14 := by omega
              clear Hwk
              go_wp2_with fail
              go_loopw [11, 12] (fun n_ i_ wr => ∃ (q : Nat) (nv : Value) (Zn : List Zt), 2 * q ≤ L ∧ n_ = nv ∧ i_ = .int .i64 ((2 * q : Nat) : Int) ∧ Zn.length = q ∧ Hid (wr.ownsRow Bn 56 2 nv Zn.length (pvals (fsts Zn))) ∧ Hid (SyL wr (O + 1) Zn) ∧ Hid (snds Zn = pairs ((rowN A k).take (2 * q))) ∧ Hid (Below Bn wk wr) ∧ Hid (q = 0 → nv = .slice none 0 0)) (fun _ i _ => L - (intOf i).toNat)
              case atStart => exact ⟨0, _, [], by omega, rfl, by first | rfl | go_num, rfl, HOn0, Hsn0, Hpn0, HBk, fun _ => rfl⟩
              case round =>
                clear HOn0 Hsn0 Hpn0 HBk
                obtain ⟨q, nv, Zn, hq, hnv, rfl, hZnq, HOn, Hsn, Hpn, HBk, Hnil⟩ := hrel
                have hnv2 := hnv.symm
                subst hnv2
                clear hnv
                obtain ⟨i, Hi⟩ : ∃ R, Hid (2 * q = R) := ⟨_, Lib.hid (Eq.refl _)⟩
                have hiv := Hi.out
                rw [hiv] at hq ⊢
                obtain ⟨i1, Hi1⟩ : ∃ R, Hid (i + 1 = R) := ⟨_, Lib.hid (Eq.refl _)⟩
                have hi1v := Hi1.out
                have v1 : IntKind.i64.wrap ((i : Int) + 1) = (i1 : Int) := by rw [IntKind.wrap_i64]; omega
                have hBnw : Bn ≤ wr.heap.size := by have := HBk.out.size; have := HBn.out; omega
                by_cases hiL : i1 < L
                · have di : decide ((i1 : Int) < (L : Int)) = true := by rw [decide_eq_true_eq]; omega
                  have dib : decide (i1 < L) = true := by rw [decide_eq_true_eq]; omega
                  have hiI : (i : Int) < (L : Int) := by omega
                  have hi1I : (i1 : Int) < (L : Int) := by omega
                  have hrb : RowV wr (O + 1) (.slice ra L rc) (fsts Zr) := Hrv.out.below (by rw [HBn.out]; exact HBk.out)
                  have hlt0 : i < (fsts Zr).length := by rw [fsts_len, HL.out]; omega
                  have hlt1 : i1 < (fsts Zr).length := by rw [fsts_len, HL.out]; omega
                  obtain ⟨rg, hra, hrg1, hrg2, hk1, hs1⟩ := hrb.get i hlt0
                  obtain ⟨_, hra', _, _, hk2, hs2⟩ := hrb.get i1 hlt1
                  rw [hra] at hra'
                  injection hra' with hra'
                  injection hra' with hra'
                  rw [← hra'] at hk2 hs2
                  have hz1 : (fsts Zr)[i] = (Zr[i]'(by rw [HL.out]; omega)).1 := by simp [fsts]
                  have hz2 : (fsts Zr)[i1] = (Zr[i1]'(by rw [HL.out]; omega)).1 := by simp [fsts]
                  rw [hz1] at hk1 hs1
                  rw [hz2] at hk2 hs2
                  obtain ⟨zA, HzA⟩ : ∃ R, Hid (Zr[i]'(by rw [HL.out]; omega) = R) := ⟨_, Lib.hid (Eq.refl _)⟩
                  obtain ⟨zB, HzB⟩ : ∃ R, Hid (Zr[i1]'(by rw [HL.out]; omega) = R) := ⟨_, Lib.hid (Eq.refl _)⟩
                  rw [HzA.out] at hk1 hs1
                  rw [HzB.out] at hk2 hs2
                  have hsyA := (Hsr.out zA (by rw [← HzA.out]; exact List.getElem_mem _)).keep (KeepI.below (by rw [HBn.out]; exact HBk.out))
                  have hsyB := (Hsr.out zB (by rw [← HzB.out]; exact List.getElem_mem _)).keep (KeepI.below (by rw [HBn.out]; exact HBk.out))
                  have hinA : zA.2 ∈ rowN A k := by rw [← HZr.out, ← HzA.out]; exact List.mem_map_of_mem (List.getElem_mem _)
                  have hinB : zB.2 ∈ rowN A k := by rw [← HZr.out, ← HzB.out]; exact List.mem_map_of_mem (List.getElem_mem _)
                  obtain ⟨la1, la2, la3⟩ := Hlim.out _ hinA
                  obtain ⟨lb1, lb2, lb3⟩ := Hlim.out _ hinB
                  have hp14 : 2 ^ k ≤ 16384 := Nat.pow_le_pow_right (n := 2) (i := k) (j := 14) (by decide) hk14
                  have hp14i : (1000000 : Int) * 2 ^ k ≤ 16384000000 := by
                    have : ((2 : Int) ^ k) = ((2 ^ k : Nat) : Int) := by simp
                    rw [this]; omega
                  have hpn := pairs_snoc (rowN A k) q (by rw [← HZr.out, snds_len, HL.out]; omega)
                  have hgA : (rowN A k)[2 * q]'(by rw [← HZr.out, snds_len, HL.out]; omega) = zA.2 := by
                    have h : (rowN A k)[2 * q]? = some zA.2 := by
                      rw [← HZr.out, hiv, ← HzA.out]; unfold snds; rw [List.getElem?_map, List.getElem?_eq_getElem (by rw [HL.out]; omega)]; rfl
                    rw [List.getElem?_eq_getElem (by rw [← HZr.out, snds_len, HL.out]; omega)] at h
                    injection h
                  have hgB : (rowN A k)[2 * q + 1]'(by rw [← HZr.out, snds_len, HL.out]; omega) = zB.2 := by
                    have h : (rowN A k)[2 * q + 1]? = some zB.2 := by
                      rw [← HZr.out, hiv, hi1v, ← HzB.out]; unfold snds; rw [List.getElem?_map, List.getElem?_eq_getElem (by rw [HL.out]; omega)]; rfl
                    rw [List.getElem?_eq_getElem (by rw [← HZr.out, snds_len, HL.out]; omega)] at h
                    injection h
                  rw [hgA, hgB] at hpn
                  have Hpn2 := Lib.hid hpn
                  have hposA := rowN_pos A (fun x hx => (HAm.out x hx).1) k _ hinA
                  have hposB := rowN_pos A (fun x hx => (HAm.out x hx).1) k _ hinB
                  obtain ⟨⟨ka, aa, na, ca1⟩, ⟨ja, lA⟩⟩ := zA
                  obtain ⟨⟨kb, ab, nb, cb1⟩, ⟨jb, lB⟩⟩ := zB
                  obtain ⟨e1, bA, csA, e2, e3, e4, e5, e6⟩ := hsyA
                  obtain ⟨f1, bB, csB, f2, f3, f4, f5, f6⟩ := hsyB
                  dsimp only at e1 e2 e5 f1 f2 f5 hk1 hk2 la1 la2 la3 lb1 lb2 lb3 e6 f6 hposA hposB
                  unfold Pr.s at hs1 hs2
                  dsimp only at hs1 hs2
                  subst e1 e2 e5 f1 f2 f5
                  have v2 : IntKind.i64.wrap (ka + kb) = ka + kb := by rw [IntKind.wrap_i64]; omega
                  have HE4 := Lib.hid e4
                  have HF4 := Lib.hid f4
                  have HE6 := Lib.hid e6
                  have HF6 := Lib.hid f6
                  subst hra
                  obtain ⟨nA, HnA⟩ : ∃ R, Hid (lA.length = R) := ⟨_, Lib.hid (Eq.refl _)⟩
                  obtain ⟨nB, HnB⟩ : ∃ R, Hid (lB.length = R) := ⟨_, Lib.hid (Eq.refl _)⟩
                  rw [HnA.out] at hs1 la2 la3
                  rw [HnB.out] at hs2 lb2 lb3
                  have hqN : q ≤ 700 := by omega
                  obtain ⟨i2, Hi2⟩ : ∃ R, Hid (2 * (q + 1) = R) := ⟨_, Lib.hid (Eq.refl _)⟩
                  have v3 : IntKind.i64.wrap ((i : Int) + 2) = (i2 : Int) := by have := Hi2.out; rw [IntKind.wrap_i64]; omega
                  have hnA : nA ≤ 8192 := by omega
                  have hnB : nB ≤ 8192 := by omega
                  clear hpn hgA hgB hz1 hz2 hinA hinB hrb hra' hlt0 hlt1 hp14 hp14i la3 lb3 e4 f4 e6 f6 HzA HzB hiv hi1v
                  go_wp2_with fail
                  go_region
                  · have hQ1 := (Blk.new wr 56 #[.int .i64 ka, .slice (some ⟨bA, 0, none⟩) nA ca1]).alloc (.cells #[.int .i64 kb, .slice (some ⟨bB, 0, none⟩) nB cb1] 56)
                    have hQ2 := Blk.new (wr.alloc (.cells #[.int .i64 ka, .slice (some ⟨bA, 0, none⟩) nA ca1] 56)) 56 #[.int .i64 kb, .slice (some ⟨bB, 0, none⟩) nB cb1]
                    rw [size_new] at hQ2
                    have hbb : Below wr.heap.size wr ((wr.alloc (.cells #[.int .i64 ka, .slice (some ⟨bA, 0, none⟩) nA ca1] 56)).alloc (.cells #[.int .i64 kb, .slice (some ⟨bB, 0, none⟩) nB cb1] 56)).drew := (((Below.refl wr.heap.size wr).alloc (Nat.le_refl _) (.cells #[.int .i64 ka, .slice (some ⟨bA, 0, none⟩) nA ca1] 56)).alloc (by simp) (.cells #[.int .i64 kb, .slice (some ⟨bB, 0, none⟩) nB cb1] 56)).drew
                    have hXA : Blk ((wr.alloc (.cells #[.int .i64 ka, .slice (some ⟨bA, 0, none⟩) nA ca1] 56)).alloc (.cells #[.int .i64 kb, .slice (some ⟨bB, 0, none⟩) nB cb1] 56)).drew (wr.heap.size) 56 #[.int .i64 ka, .slice (some ⟨bA, 0, none⟩) nA ca1] := hQ1
                    have hXB : Blk ((wr.alloc (.cells #[.int .i64 ka, .slice (some ⟨bA, 0, none⟩) nA ca1] 56)).alloc (.cells #[.int .i64 kb, .slice (some ⟨bB, 0, none⟩) nB cb1] 56)).drew (wr.heap.size + 1) 56 #[.int .i64 kb, .slice (some ⟨bB, 0, none⟩) nB cb1] := hQ2
                    obtain ⟨PA, HPA⟩ : ∃ R, Hid (wr.heap.size = R) := ⟨_, Lib.hid (Eq.refl _)⟩
                    obtain ⟨PB, HPB⟩ : ∃ R, Hid (wr.heap.size + 1 = R) := ⟨_, Lib.hid (Eq.refl _)⟩
                    obtain ⟨W4, HW4⟩ : ∃ R, Hid (((wr.alloc (.cells #[.int .i64 ka, .slice (some ⟨bA, 0, none⟩) nA ca1] 56)).alloc (.cells #[.int .i64 kb, .slice (some ⟨bB, 0, none⟩) nB cb1] 56)).drew = R) := ⟨_, Lib.hid (Eq.refl _)⟩
                    rw [HW4.out] at hbb hXA hXB ⊢
                    rw [HPB.out] at hXB ⊢
                    rw [HPA.out] at hXA ⊢
                    have HneA : Hid (some PA ≠ nv.ownBlock) := fun e => absurd (World.ownsRow.lt HOn.out PA e.symm).2 (by rw [← HPA.out]; omega)
                    have HneB : Hid (some PB ≠ nv.ownBlock) := fun e => absurd (World.ownsRow.lt HOn.out PB e.symm).2 (by rw [← HPB.out]; omega)
                    clear hQ1 hQ2 HPA HPB HW4
                    have cA0 : W4.drew.cell? ⟨PA, 0, none⟩ = some (.int .i64 ka) := Blk.cell hXA 0
                    have cA1 : W4.drew.cell? ⟨PA, 1, none⟩ = some (.slice (some ⟨bA, 0, none⟩) nA ca1) := Blk.cell hXA 1
                    have cB0 : W4.drew.cell? ⟨PB, 0, none⟩ = some (.int .i64 kb) := Blk.cell hXB 0
                    have cB1 : W4.drew.cell? ⟨PB, 1, none⟩ = some (.slice (some ⟨bB, 0, none⟩) nB cb1) := Blk.cell hXB 1
                    have cA0n : W4.cell? ⟨PA, 0, none⟩ = some (.int .i64 ka) := cA0
                    have cA1n : W4.cell? ⟨PA, 1, none⟩ = some (.slice (some ⟨bA, 0, none⟩) nA ca1) := cA1
                    have cB0n : W4.cell? ⟨PB, 0, none⟩ = some (.int .i64 kb) := cB0
                    have cB1n : W4.cell? ⟨PB, 1, none⟩ = some (.slice (some ⟨bB, 0, none⟩) nB cb1) := cB1
                    have hPAl : PA < W4.heap.size := hXA.lt
                    have hPBl : PB < W4.heap.size := hXB.lt
                    obtain ⟨T, HT⟩ : ∃ R, Hid ((lA ++ lB).length = R) := ⟨_, Lib.hid (Eq.refl _)⟩
                    have CC : Hid (∀ W : World, Blk W W4.heap.size 22 #[.slice (some ⟨bA, 0, none⟩) nA ca1, .slice (some ⟨bB, 0, none⟩) nB cb1] → Blk W bA 3 csA → Blk W bB 3 csB →
                        Calls Try.prog 24 #[.slice (some ⟨W4.heap.size, 0, none⟩) 2 2] W fun e w' => ∃ g cp, e = .returned (.slice (some ⟨g, 0, none⟩) T cp) ∧ W.heap.size ≤ g ∧ Hid (∃ cs, Blk w' g 3 cs ∧ ∀ i, i < (lA ++ lB).length → cs[i]? = some (.int .i64 (((lA ++ lB).getD i 0 : Nat) : Int))) ∧ Below W.heap.size W w') := by
                      show ∀ W : World, _
                      rw [← HT.out, ← HnA.out, ← HnB.out]
                      intro W x1 x2 x3
                      exact concat_two lA lB ⟨by rw [HnA.out]; exact la2, by rw [HnA.out]; omega⟩ ⟨by rw [HnB.out]; exact lb2, by rw [HnB.out]; omega⟩ bA bB ca1 cb1 W4.heap.size 2 csA csB W x1 x2 x3 HE6.out HF6.out
                    have HBb := Lib.hid hbb
                    have hE4 : Blk W4 bA 3 csA := Blk.below HE4.out hbb HE4.out.lt
                    have hF4 : Blk W4 bB 3 csB := Blk.below HF4.out hbb HF4.out.lt
                    have HE4b := Lib.hid hE4
                    have HF4b := Lib.hid hF4
                    have hTl : T ≤ 16384 := by rw [← HT.out, List.length_append, HnA.out, HnB.out]; omega
                    have Hs4 := Lib.hid (show wr.heap.size ≤ W4.heap.size from hbb.size)
                    have Hz1 : Hid (Zn.length + 1 ≤ maxLen) := by show _ ≤ _; unfold maxLen; omega
                    have Hz2 : Hid ((Zn.length + 1) * 32 ≤ 140737488355328) := by show _ ≤ _; omega
                    clear hXA hXB hbb hE4 hF4
                    go_wp2_with fail
                    go_region_held3 (fun W => W.cell? ⟨PA, 0, none⟩ = some (.int .i64 ka) ∧ W.cell? ⟨PA, 1, none⟩ = some (.slice (some ⟨bA, 0, none⟩) nA ca1) ∧ W.cell? ⟨PB, 0, none⟩ = some (.int .i64 kb) ∧ W.cell? ⟨PB, 1, none⟩ = some (.slice (some ⟨bB, 0, none⟩) nB cb1))
                      (first | exact ⟨by assumption, by assumption, by assumption, by assumption⟩ | go_keep)
                      (first
                        | (go_at_call 24; refine (CC.out _ (Blk.new W4 22 _).drew (Blk.alloc HE4b.out _).drew (Blk.alloc HF4b.out _).drew).mono ?_; rintro e w5 ⟨gC, cpC, rfl, hgC, hcC, hbC⟩; have hb5 : Below W4.heap.size W4 w5 := below_newd hbC; have q1 := (hb5.cell (p := ⟨PA, 0, none⟩) hPAl).trans cA0n; have q2 := (hb5.cell (p := ⟨PA, 1, none⟩) hPAl).trans cA1n; have q3 := (hb5.cell (p := ⟨PB, 0, none⟩) hPBl).trans cB0n; have q4 := (hb5.cell (p := ⟨PB, 1, none⟩) hPBl).trans cB1n; have HB5 : Hid (Below wr.heap.size wr w5) := HBb.out.trans (hb5.mono HBb.out.size); have HgC : Hid (wr.heap.size ≤ gC) := Nat.le_trans Hs4.out (Nat.le_trans (size_le_newd _ _) hgC))
                        | (refine step_append_lit_at w5 rfl (.tmp 92) (.tmp 105) rfl Try.underlying54 info_pair rfl (by decide) Bn nv Zn.length (pvals (fsts Zn)) [.int .i64 (ka + kb), .slice (some ⟨gC, 0, none⟩) T cpC] 1 (own_below HOn.out HB5.out) rfl (two_one _ _ _ _) rfl rfl rfl Hz1.out Hz2.out (Nat.le_trans hBnw HB5.out.size) rfl ?_; intro v7 w7 hown7 hg7 _; have HO7 := Lib.hid hown7; have HG7 := Lib.hid hg7; have r1 := (hg7.cell_far ⟨PA, 0, none⟩ (Nat.lt_of_lt_of_le hPAl hb5.size) HneA.out).trans q1; have r2 := (hg7.cell_far ⟨PA, 1, none⟩ (Nat.lt_of_lt_of_le hPAl hb5.size) HneA.out).trans q2; have r3 := (hg7.cell_far ⟨PB, 0, none⟩ (Nat.lt_of_lt_of_le hPBl hb5.size) HneB.out).trans q3; have r4 := (hg7.cell_far ⟨PB, 1, none⟩ (Nat.lt_of_lt_of_le hPBl hb5.size) HneB.out).trans q4))
                    clear r1 r2 r3 r4 q1 q2 q3 q4 hb5 hown7 hg7
                    have hT2 := HT.out
                    obtain ⟨r1, r2, r3⟩ := pair_step (w0 := wk) (wr := wr) (wc := w5) (w' := w7) (k1 := ka) (k2 := kb) (l1 := lA) (l2 := lB) (G := gC) (cp := cpC) hOBn HBn.out HOn.out Hsn.out HBk.out hBnw HB5.out HgC.out hcC.out (by rw [HT.out]; exact HO7.out) HG7.out
                    have R1 := Lib.hid r1
                    have R2 := Lib.hid r2
                    have R3 := Lib.hid r3
                    have HPN : Hid (snds (Zn ++ [((⟨ka + kb, some ⟨gC, 0, none⟩, (lA ++ lB).length, cpC⟩, ⟨ka + kb, lA ++ lB⟩) : Zt)]) = pairs ((rowN A k).take (2 * (q + 1)))) := by
                      show _ = _
                      rw [Hpn2.out, snds_app, Hpn.out]
                      rfl
                    have hLq : 2 * (q + 1) ≤ L := by have := Hi.out; have := Hi1.out; omega
                    have hlen : (Zn ++ [((⟨ka + kb, some ⟨gC, 0, none⟩, (lA ++ lB).length, cpC⟩, ⟨ka + kb, lA ++ lB⟩) : Zt)]).length = q + 1 := by rw [List.length_append, hZnq]; rfl
                    clear r1 r2 r3 hT2 HO7 HG7 HB5 HgC hcC HBb HE4b HF4b CC HOn Hsn HBk
                    go_wp2_with fail
                    go_roundw
                    case rel => exact ⟨q + 1, _, _, hLq, rfl, by rw [Hi2.out], hlen, R1, R2, HPN, R3, fun h => by omega⟩
                    case measure => simp [intOf]; have := Hi2.out; have := Hi.out; omega
                  · have hQ1 := (Blk.new wr 56 #[.int .i64 kb, .slice (some ⟨bB, 0, none⟩) nB cb1]).alloc (.cells #[.int .i64 ka, .slice (some ⟨bA, 0, none⟩) nA ca1] 56)
                    have hQ2 := Blk.new (wr.alloc (.cells #[.int .i64 kb, .slice (some ⟨bB, 0, none⟩) nB cb1] 56)) 56 #[.int .i64 ka, .slice (some ⟨bA, 0, none⟩) nA ca1]
                    rw [size_new] at hQ2
                    have hbb : Below wr.heap.size wr ((wr.alloc (.cells #[.int .i64 kb, .slice (some ⟨bB, 0, none⟩) nB cb1] 56)).alloc (.cells #[.int .i64 ka, .slice (some ⟨bA, 0, none⟩) nA ca1] 56)).drew := (((Below.refl wr.heap.size wr).alloc (Nat.le_refl _) (.cells #[.int .i64 kb, .slice (some ⟨bB, 0, none⟩) nB cb1] 56)).alloc (by simp) (.cells #[.int .i64 ka, .slice (some ⟨bA, 0, none⟩) nA ca1] 56)).drew
                    have hXA : Blk ((wr.alloc (.cells #[.int .i64 kb, .slice (some ⟨bB, 0, none⟩) nB cb1] 56)).alloc (.cells #[.int .i64 ka, .slice (some ⟨bA, 0, none⟩) nA ca1] 56)).drew (wr.heap.size + 1) 56 #[.int .i64 ka, .slice (some ⟨bA, 0, none⟩) nA ca1] := hQ2
                    have hXB : Blk ((wr.alloc (.cells #[.int .i64 kb, .slice (some ⟨bB, 0, none⟩) nB cb1] 56)).alloc (.cells #[.int .i64 ka, .slice (some ⟨bA, 0, none⟩) nA ca1] 56)).drew (wr.heap.size) 56 #[.int .i64 kb, .slice (some ⟨bB, 0, none⟩) nB cb1] := hQ1
                    obtain ⟨PA, HPA⟩ : ∃ R, Hid (wr.heap.size + 1 = R) := ⟨_, Lib.hid (Eq.refl _)⟩
                    obtain ⟨PB, HPB⟩ : ∃ R, Hid (wr.heap.size = R) := ⟨_, Lib.hid (Eq.refl _)⟩
                    obtain ⟨W4, HW4⟩ : ∃ R, Hid (((wr.alloc (.cells #[.int .i64 kb, .slice (some ⟨bB, 0, none⟩) nB cb1] 56)).alloc (.cells #[.int .i64 ka, .slice (some ⟨bA, 0, none⟩) nA ca1] 56)).drew = R) := ⟨_, Lib.hid (Eq.refl _)⟩
                    rw [HW4.out] at hbb hXA hXB ⊢
                    rw [HPA.out] at hXA ⊢
                    rw [HPB.out] at hXB ⊢
                    have HneA : Hid (some PA ≠ nv.ownBlock) := fun e => absurd (World.ownsRow.lt HOn.out PA e.symm).2 (by rw [← HPA.out]; omega)
                    have HneB : Hid (some PB ≠ nv.ownBlock) := fun e => absurd (World.ownsRow.lt HOn.out PB e.symm).2 (by rw [← HPB.out]; omega)
                    clear hQ1 hQ2 HPA HPB HW4
                    have cA0 : W4.drew.cell? ⟨PA, 0, none⟩ = some (.int .i64 ka) := Blk.cell hXA 0
                    have cA1 : W4.drew.cell? ⟨PA, 1, none⟩ = some (.slice (some ⟨bA, 0, none⟩) nA ca1) := Blk.cell hXA 1
                    have cB0 : W4.drew.cell? ⟨PB, 0, none⟩ = some (.int .i64 kb) := Blk.cell hXB 0
                    have cB1 : W4.drew.cell? ⟨PB, 1, none⟩ = some (.slice (some ⟨bB, 0, none⟩) nB cb1) := Blk.cell hXB 1
                    have cA0n : W4.cell? ⟨PA, 0, none⟩ = some (.int .i64 ka) := cA0
                    have cA1n : W4.cell? ⟨PA, 1, none⟩ = some (.slice (some ⟨bA, 0, none⟩) nA ca1) := cA1
                    have cB0n : W4.cell? ⟨PB, 0, none⟩ = some (.int .i64 kb) := cB0
                    have cB1n : W4.cell? ⟨PB, 1, none⟩ = some (.slice (some ⟨bB, 0, none⟩) nB cb1) := cB1
                    have hPAl : PA < W4.heap.size := hXA.lt
                    have hPBl : PB < W4.heap.size := hXB.lt
                    obtain ⟨T, HT⟩ : ∃ R, Hid ((lA ++ lB).length = R) := ⟨_, Lib.hid (Eq.refl _)⟩
                    have CC : Hid (∀ W : World, Blk W W4.heap.size 22 #[.slice (some ⟨bA, 0, none⟩) nA ca1, .slice (some ⟨bB, 0, none⟩) nB cb1] → Blk W bA 3 csA → Blk W bB 3 csB →
                        Calls Try.prog 24 #[.slice (some ⟨W4.heap.size, 0, none⟩) 2 2] W fun e w' => ∃ g cp, e = .returned (.slice (some ⟨g, 0, none⟩) T cp) ∧ W.heap.size ≤ g ∧ Hid (∃ cs, Blk w' g 3 cs ∧ ∀ i, i < (lA ++ lB).length → cs[i]? = some (.int .i64 (((lA ++ lB).getD i 0 : Nat) : Int))) ∧ Below W.heap.size W w') := by
                      show ∀ W : World, _
                      rw [← HT.out, ← HnA.out, ← HnB.out]
                      intro W x1 x2 x3
                      exact concat_two lA lB ⟨by rw [HnA.out]; exact la2, by rw [HnA.out]; omega⟩ ⟨by rw [HnB.out]; exact lb2, by rw [HnB.out]; omega⟩ bA bB ca1 cb1 W4.heap.size 2 csA csB W x1 x2 x3 HE6.out HF6.out
                    have HBb := Lib.hid hbb
                    have hE4 : Blk W4 bA 3 csA := Blk.below HE4.out hbb HE4.out.lt
                    have hF4 : Blk W4 bB 3 csB := Blk.below HF4.out hbb HF4.out.lt
                    have HE4b := Lib.hid hE4
                    have HF4b := Lib.hid hF4
                    have hTl : T ≤ 16384 := by rw [← HT.out, List.length_append, HnA.out, HnB.out]; omega
                    have Hs4 := Lib.hid (show wr.heap.size ≤ W4.heap.size from hbb.size)
                    have Hz1 : Hid (Zn.length + 1 ≤ maxLen) := by show _ ≤ _; unfold maxLen; omega
                    have Hz2 : Hid ((Zn.length + 1) * 32 ≤ 140737488355328) := by show _ ≤ _; omega
                    clear hXA hXB hbb hE4 hF4
                    go_wp2_with fail
                    go_region_held3 (fun W => W.cell? ⟨PA, 0, none⟩ = some (.int .i64 ka) ∧ W.cell? ⟨PA, 1, none⟩ = some (.slice (some ⟨bA, 0, none⟩) nA ca1) ∧ W.cell? ⟨PB, 0, none⟩ = some (.int .i64 kb) ∧ W.cell? ⟨PB, 1, none⟩ = some (.slice (some ⟨bB, 0, none⟩) nB cb1))
                      (first | exact ⟨by assumption, by assumption, by assumption, by assumption⟩ | go_keep)
                      (first
                        | (go_at_call 24; refine (CC.out _ (Blk.new W4 22 _).drew (Blk.alloc HE4b.out _).drew (Blk.alloc HF4b.out _).drew).mono ?_; rintro e w5 ⟨gC, cpC, rfl, hgC, hcC, hbC⟩; have hb5 : Below W4.heap.size W4 w5 := below_newd hbC; have q1 := (hb5.cell (p := ⟨PA, 0, none⟩) hPAl).trans cA0n; have q2 := (hb5.cell (p := ⟨PA, 1, none⟩) hPAl).trans cA1n; have q3 := (hb5.cell (p := ⟨PB, 0, none⟩) hPBl).trans cB0n; have q4 := (hb5.cell (p := ⟨PB, 1, none⟩) hPBl).trans cB1n; have HB5 : Hid (Below wr.heap.size wr w5) := HBb.out.trans (hb5.mono HBb.out.size); have HgC : Hid (wr.heap.size ≤ gC) := Nat.le_trans Hs4.out (Nat.le_trans (size_le_newd _ _) hgC))
                        | (refine step_append_lit_at w5 rfl (.tmp 92) (.tmp 105) rfl Try.underlying54 info_pair rfl (by decide) Bn nv Zn.length (pvals (fsts Zn)) [.int .i64 (ka + kb), .slice (some ⟨gC, 0, none⟩) T cpC] 1 (own_below HOn.out HB5.out) rfl (two_one _ _ _ _) rfl rfl rfl Hz1.out Hz2.out (Nat.le_trans hBnw HB5.out.size) rfl ?_; intro v7 w7 hown7 hg7 _; have HO7 := Lib.hid hown7; have HG7 := Lib.hid hg7; have r1 := (hg7.cell_far ⟨PA, 0, none⟩ (Nat.lt_of_lt_of_le hPAl hb5.size) HneA.out).trans q1; have r2 := (hg7.cell_far ⟨PA, 1, none⟩ (Nat.lt_of_lt_of_le hPAl hb5.size) HneA.out).trans q2; have r3 := (hg7.cell_far ⟨PB, 0, none⟩ (Nat.lt_of_lt_of_le hPBl hb5.size) HneB.out).trans q3; have r4 := (hg7.cell_far ⟨PB, 1, none⟩ (Nat.lt_of_lt_of_le hPBl hb5.size) HneB.out).trans q4))
                    clear r1 r2 r3 r4 q1 q2 q3 q4 hb5 hown7 hg7
                    have hT2 := HT.out
                    obtain ⟨r1, r2, r3⟩ := pair_step (w0 := wk) (wr := wr) (wc := w5) (w' := w7) (k1 := ka) (k2 := kb) (l1 := lA) (l2 := lB) (G := gC) (cp := cpC) hOBn HBn.out HOn.out Hsn.out HBk.out hBnw HB5.out HgC.out hcC.out (by rw [HT.out]; exact HO7.out) HG7.out
                    have R1 := Lib.hid r1
                    have R2 := Lib.hid r2
                    have R3 := Lib.hid r3
                    have HPN : Hid (snds (Zn ++ [((⟨ka + kb, some ⟨gC, 0, none⟩, (lA ++ lB).length, cpC⟩, ⟨ka + kb, lA ++ lB⟩) : Zt)]) = pairs ((rowN A k).take (2 * (q + 1)))) := by
                      show _ = _
                      rw [Hpn2.out, snds_app, Hpn.out]
                      rfl
                    have hLq : 2 * (q + 1) ≤ L := by have := Hi.out; have := Hi1.out; omega
                    have hlen : (Zn ++ [((⟨ka + kb, some ⟨gC, 0, none⟩, (lA ++ lB).length, cpC⟩, ⟨ka + kb, lA ++ lB⟩) : Zt)]).length = q + 1 := by rw [List.length_append, hZnq]; rfl
                    clear r1 r2 r3 hT2 HO7 HG7 HB5 HgC hcC HBb HE4b HF4b CC HOn Hsn HBk
                    go_wp2_with fail
                    go_roundw
                    case rel => exact ⟨q + 1, _, _, hLq, rfl, by rw [Hi2.out], hlen, R1, R2, HPN, R3, fun h => by omega⟩
                    case measure => simp [intOf]; have := Hi2.out; have := Hi.out; omega
                · have di : decide ((i1 : Int) < (L : Int)) = false := by rw [decide_eq_false_iff_not]; omega
                  have dib : decide (i1 < L) = false := by rw [decide_eq_false_iff_not]; omega
                  have HBkw := HBk
                  have Hpnf : Hid (snds Zn = pairs (rowN A k)) := by
                    show _ = _
                    rw [Hpn.out, ← pairs_take, List.take_of_length_le]
                    rw [pairs_len _ _ (Nat.le_refl _), ← HZr.out, snds_len, HL.out]
                    omega
                  have hqN : q ≤ 700 := by omega
                  have hbb : Below wk.heap.size wk wr := by rw [HBn.out]; exact HBk.out
                  have CCl := Lib.hid (clone_row (O + 1) (.slice ca N cc) (fsts ZA) (by rw [fsts_len, HZAl.out]; omega) wr (HcvA.out.below hbb))
                  rw [fsts_len, HZAl.out] at CCl
                  have hsA := HsyA.out.keep (KeepI.below (B := O + 1) hbb)
                  have HsA := Lib.hid hsA
                  clear hbb hsA hiv hi1v
                  obtain ⟨i0, hi', hz0, hz1, hz2⟩ := info_parts info_pair
                  by_cases hq0 : q = 0
                  · have hnil := Hnil.out hq0
                    subst hnil
                    have hZn0 : Zn = [] := List.eq_nil_of_length_eq_zero (by rw [hZnq]; exact hq0)
                    go_wp2_with fail
                    refine CCl.out.mono ?_
                    rintro e w4 ⟨v3, rfl, ho3, hb3⟩
                    have HB4 := Lib.hid hb3
                    have Hs4 : Hid (SyL w4 (O + 1) (ZA ++ Zn)) := fun z hz => by
                      rw [hZn0, List.append_nil] at hz
                      exact (HsA.out z hz).keep (KeepI.below hb3)
                    have Ho4 : Hid (w4.ownsRow wr.heap.size 56 2 v3 (ZA ++ Zn).length (pvals (fsts (ZA ++ Zn)))) := by
                      show World.ownsRow _ _ _ _ _ _ _
                      rw [hZn0, List.append_nil, HZAl.out]
                      exact ho3
                    have Ho3 := Lib.hid ho3
                    clear ho3 hb3 CCl hZn0
                    go_wp2_with (first
                      | (at_builtin; go_must (refine wpList_append_own_none rfl (.tmp 108) (.tmp 109) 54 rfl wr.heap.size 56 i0 2 Try.underlying54 hi' v3 N (pvals (fsts ZA)) rfl Ho3.out rfl ?_))
                      | fail)
                    clear HOn Hsn Hpn HBk
                    have HKL := Lib.hid (kl_next HAm.out hk14 HZA2.out Hpnf.out Hs4.out)
                    have hrow4 := row_own (Xs := fsts (ZA ++ Zn)) (by rw [fsts_len]; exact Ho4.out)
                    have hL4 : (ZA ++ Zn).length ≤ 2000 := by rw [List.length_append, HZAl.out]; omega
                    have CS4 := Lib.hid (sort_row (O + 1) _ (fsts (ZA ++ Zn)) (by rw [fsts_len]; omega) HKL.out w4 (rowv_mono hrow4 (Nat.le_trans hOBn hBnw)))
                    have Hrow4 := Lib.hid hrow4
                    clear hrow4 HKL Ho4
                    go_wp2_with fail
                    refine CS4.out.mono ?_
                    rintro e w5 ⟨rfl, hg5, hr5⟩
                    rw [sort_fst] at hr5
                    have hB5 : Below wr.heap.size wr w5 := below_rowv HB4.out Hrow4.out (Nat.le_refl _) hg5 HB4.out.size
                    have hs5 : SyL w5 (O + 1) (ZA ++ Zn) := Hs4.out.keep (KeepI.rowv Hrow4.out hg5)
                    have Hsn5 := Lib.hid (next_row HAs.out HZA2.out Hpnf.out hs5)
                    have Hs5 := Lib.hid hs5.sort
                    have Hr5 := Lib.hid hr5
                    have hBW : Below wk.heap.size wk w5 := by
                      have h := HBkw.out.trans (hB5.mono hBnw)
                      rw [← HBn.out] at h
                      exact h
                    have HcvA5 := Lib.hid (HcvA.out.below hBW)
                    have HsyA5 := Lib.hid (HsyA.out.keep (KeepI.below hBW))
                    have HK5 := Lib.hid (Blk.below HK.out hBW HK.out.lt)
                    have HB5 := Lib.hid (bthen HB.out hBW)
                    clear hg5 hr5 hB5 hs5 hBW CS4 Hrow4 HB4 Hs4
                    go_wp2_with fail
                    go_roundw
                    case rel => exact ⟨k + 1, _, isort kz (ZA ++ Zn), by omega, rfl, by go_num, HcvA5, HsyA5, Hr5, Hs5, Hsn5, HK5, HB5⟩
                    case measure => simp [intOf]; omega
                  · have hZp : 0 < Zn.length := by omega
                    obtain ⟨gn, cn, rfl, _, _⟩ := World.ownsRow.form HOn.out hZp
                    have hPn : PL wr gn (fsts Zn) := pl_own HOn.out
                    rw [hZnq] at HOn ⊢
                    go_wp2_with fail
                    refine CCl.out.mono ?_
                    rintro e w3 ⟨v3, rfl, ho3, hb3⟩
                    have Hnews := Lib.hid (pl_news (PB.below hPn hb3 (PB.lt hPn) : PL w3 gn (fsts Zn)))
                    have Hpl : Hid ((pvals (fsts Zn)).length = q * 2) := by show _ = _; rw [pvals_len, fsts_len, hZnq]
                    have Ho3 := Lib.hid ho3
                    have Hs3 : Hid (SyL w3 (O + 1) (ZA ++ Zn)) := fun z hz => by
                      rcases List.mem_append.1 hz with h | h
                      · exact (HsA.out z h).keep (KeepI.below hb3)
                      · exact (Hsn.out z h).keep (KeepI.below hb3)
                    have HB3 := Lib.hid hb3
                    have hq1 : 0 < q := by omega
                    clear ho3 hb3 CCl hPn
                    go_wp2_with (first
                      | (at_builtin; go_must (refine wpList_append_lies w3 rfl (.tmp 108) (.tmp 109) 54 rfl wr.heap.size 56 i0 _ 2 32 Try.underlying54 hi' hz0 hz1 hz2 rfl (by decide) v3 N (pvals (fsts ZA)) rfl Ho3.out ⟨gn, 0, none⟩ q cn (pvals (fsts Zn)) rfl Hpl.out Hnews.out (fun u hu => pvals_one _ u hu) hq1 ?_ ?_ HB3.out.size _ rfl ?_; (unfold maxLen; omega); omega; intro g1 cap1 w4 ho4 hg4 _ _; have HB4 : Hid (Below wr.heap.size wr w4) := Lib.hid (HB3.out.trans (below_grown Ho3.out hg4 HB3.out.size)); have Hs4 := Lib.hid (Hs3.out.keep (KeepI.row Ho3.out hg4)); have Ho4 : Hid (w4.ownsRow wr.heap.size 56 2 (.slice (some ⟨g1, 0, none⟩) (N + q) cap1) (ZA ++ Zn).length (pvals (fsts (ZA ++ Zn)))) := (by show World.ownsRow _ _ _ _ _ _ _; rw [List.length_append, HZAl.out, hZnq, fsts_app, pvals_app]; exact ho4); clear ho4 hg4))
                      | fail)
                    clear HOn Hsn Hpn HBk
                    have HKL := Lib.hid (kl_next HAm.out hk14 HZA2.out Hpnf.out Hs4.out)
                    have hrow4 := row_own (Xs := fsts (ZA ++ Zn)) (by rw [fsts_len]; exact Ho4.out)
                    have hL4 : (ZA ++ Zn).length ≤ 2000 := by rw [List.length_append, HZAl.out]; omega
                    have CS4 := Lib.hid (sort_row (O + 1) _ (fsts (ZA ++ Zn)) (by rw [fsts_len]; omega) HKL.out w4 (rowv_mono hrow4 (Nat.le_trans hOBn hBnw)))
                    have Hrow4 := Lib.hid hrow4
                    clear hrow4 HKL Ho4
                    go_wp2_with fail
                    refine CS4.out.mono ?_
                    rintro e w5 ⟨rfl, hg5, hr5⟩
                    rw [sort_fst] at hr5
                    have hB5 : Below wr.heap.size wr w5 := below_rowv HB4.out Hrow4.out (Nat.le_refl _) hg5 HB4.out.size
                    have hs5 : SyL w5 (O + 1) (ZA ++ Zn) := Hs4.out.keep (KeepI.rowv Hrow4.out hg5)
                    have Hsn5 := Lib.hid (next_row HAs.out HZA2.out Hpnf.out hs5)
                    have Hs5 := Lib.hid hs5.sort
                    have Hr5 := Lib.hid hr5
                    have hBW : Below wk.heap.size wk w5 := by
                      have h := HBkw.out.trans (hB5.mono hBnw)
                      rw [← HBn.out] at h
                      exact h
                    have HcvA5 := Lib.hid (HcvA.out.below hBW)
                    have HsyA5 := Lib.hid (HsyA.out.keep (KeepI.below hBW))
                    have HK5 := Lib.hid (Blk.below HK.out hBW HK.out.lt)
                    have HB5 := Lib.hid (bthen HB.out hBW)
                    clear hg5 hr5 hB5 hs5 hBW CS4 Hrow4 HB4 Hs4
                    go_wp2_with fail
                    go_roundw
                    case rel => exact ⟨k + 1, _, isort kz (ZA ++ Zn), by omega, rfl, by go_num, HcvA5, HsyA5, Hr5, Hs5, Hsn5, HK5, HB5⟩
                    case measure => simp [intOf]; omega
            · obtain rfl : k = most := by omega
              have dk : decide ((k : Int) < (k : Int)) = false := by rw [decide_eq_false_iff_not]; omega
              have hrowl : L = (rowN A k).length := by rw [← HZr.out, snds_len, HL.out]
              obtain ⟨N2, P, X, v1, v2, hP, hmax⟩ := fin_nums N (Nat.le_trans hZl (Nat.le_trans hn (by decide)))
              have HP := Lib.hid hP
              have hPL : P ≤ L := by
                rw [hP, hrowl, ← HAl.out]
                exact rows_enough A k hm1 (by rw [HAl.out, Hp2.out]; exact Nat.not_lt.1 hbig)
              have hPrc : (P : Int) ≤ (rc : Int) := Int.ofNat_le.2 (Nat.le_trans hPL hrc)
              have hP640 : P ≤ 640 := by rw [hP]; omega
              have Hsymb : Hid (∀ x ∈ rowN A k, ∀ t ∈ x.l, t < s) := rowN_sym A (fun t => t < s) (fun x hx t ht => by
                rw [← HA.out] at hx
                obtain ⟨u, hu1, _, rfl⟩ := coinsB_mem cnt s x ((isort_perm ik _).mem_iff.1 hx)
                rcases List.mem_cons.1 ht with rfl | ht
                · exact hu1
                · cases ht) k
              have Hlim := Lib.hid (HAlim.out k)
              have hp15 : 2 ^ k ≤ 32768 := Nat.pow_le_pow_right (n := 2) (i := k) (j := 15) (by decide) hm15
              have Hslen : Hid (∀ j, (syms ((rowN A k).take j)).length ≤ 16384 * (rowN A k).length) := fun j =>
                Nat.le_trans (syms_len _ 16384 fun x hx => by have := (Hlim.out x (List.mem_of_mem_take hx)).2.2; omega) (Nat.mul_le_mul_left _ (by rw [List.length_take]; omega))
              have HLr := Lib.hid hrowl
              obtain ⟨wf, Hwf⟩ : ∃ R, Hid (wr = R) := ⟨_, Lib.hid (Eq.refl _)⟩
              rw [Hwf.out] at HcvA HsyA Hrv Hsr HK HB ⊢
              have hOwf : O < wf.heap.size := HK.out.lt
              have HK0 : Hid (Blk wf O 3 (fcells s (cntC (syms ((rowN A k).take 0))))) := by
                show Blk _ _ _ _
                rw [fcells_congr s (cntC (syms ((rowN A k).take 0))) (fun _ => .int .i64 0) (fun i _ => by unfold cntC; rw [List.take_zero]; rfl)]
                exact HK.out
              have HG0 : Hid (wf.grownBy wf (some O)) := World.grownBy.refl wf _
              have HownO : Hid (∀ k', (Value.slice ra L rc).ownBlock = some k' → O + 1 ≤ k') := fun k' hk' => rowv_base Hrv.out hk'
              clear hP hrowl hp15 Hwf HK
              go_wp2_with fail
              go_loopw [122] (fun j_ wr => ∃ j : Nat, j ≤ P ∧ j_ = .int .i64 (j : Int) ∧ Hid (Blk wr O 3 (fcells s (cntC (syms ((rowN A k).take j))))) ∧ Hid (wf.grownBy wr (some O))) (fun j _ => P - (intOf j).toNat)
              case atStart => exact ⟨0, Nat.zero_le _, rfl, HK0, HG0⟩
              case round =>
                clear HK0 HG0
                obtain ⟨j, hj, rfl, HK, HG⟩ := hrel
                by_cases hjP : j < P
                · have dj : decide ((j : Int) < (P : Int)) = true := by rw [decide_eq_true_eq]; omega
                  have djb : decide (j < P) = true := by rw [decide_eq_true_eq]; omega
                  have hjI : (j : Int) < (P : Int) := by omega
                  have hjL : j < L := by omega
                  have hrb : RowV wr (O + 1) (.slice ra L rc) (fsts Zr) := Hrv.out.grown HG.out (.inr fun e => by have := HownO.out O e; omega)
                  obtain ⟨rg, hra, _, _, hk1, hs1⟩ := hrb.get j (by rw [fsts_len, HL.out]; exact hjL)
                  have hz1 : (fsts Zr)[j]'(by rw [fsts_len, HL.out]; exact hjL) = (Zr[j]'(by rw [HL.out]; exact hjL)).1 := by simp [fsts]
                  rw [hz1] at hk1 hs1
                  obtain ⟨zA, HzA⟩ : ∃ R, Hid (Zr[j]'(by rw [HL.out]; exact hjL) = R) := ⟨_, Lib.hid (Eq.refl _)⟩
                  rw [HzA.out] at hk1 hs1
                  have hsyA := Hsr.out zA (by rw [← HzA.out]; exact List.getElem_mem _)
                  have hinA : zA.2 ∈ rowN A k := by rw [← HZr.out, ← HzA.out]; exact List.mem_map_of_mem (List.getElem_mem _)
                  have hgA : (rowN A k)[j]'(by rw [← HLr.out]; exact hjL) = zA.2 := by
                    have h : (rowN A k)[j]? = some zA.2 := by
                      rw [← HZr.out, ← HzA.out]; unfold snds; rw [List.getElem?_map, List.getElem?_eq_getElem (by rw [HL.out]; exact hjL)]; rfl
                    rw [List.getElem?_eq_getElem (by rw [← HLr.out]; exact hjL)] at h
                    injection h
                  have htk : syms ((rowN A k).take (j + 1)) = syms ((rowN A k).take j) ++ zA.2.l := by
                    rw [List.take_succ_eq_append_getElem (by rw [← HLr.out]; exact hjL), hgA]
                    unfold syms
                    rw [List.flatMap_append]
                    simp
                  have la := Hlim.out _ hinA
                  have hsb := Hsymb.out _ hinA
                  have hsl := Hslen.out j
                  rw [← HLr.out] at hsl
                  obtain ⟨⟨ka, aa, na, ca1⟩, ⟨ja, lA⟩⟩ := zA
                  obtain ⟨e1, bA, csA, e2, e3, e4, e5, e6⟩ := hsyA
                  dsimp only at e1 e2 e5 hk1 e6 la hsb htk
                  unfold Pr.s at hs1
                  dsimp only at hs1
                  subst e1 e2 e5
                  obtain ⟨nA, HnA⟩ : ∃ R, Hid (lA.length = R) := ⟨_, Lib.hid (Eq.refl _)⟩
                  obtain ⟨S0, HS0⟩ : ∃ R, Hid (syms ((rowN A k).take j) = R) := ⟨_, Lib.hid (Eq.refl _)⟩
                  have hnA : nA ≤ 16384 := by
                    have h1 := la.2.2
                    have h2 : 2 ^ k ≤ 32768 := Nat.pow_le_pow_right (n := 2) (i := k) (j := 15) (by decide) hm15
                    rw [HnA.out] at h1
                    omega
                  have hS0l : S0.length ≤ 16384 * 640 := by
                    rw [HS0.out] at hsl
                    exact Nat.le_trans hsl (Nat.mul_le_mul_left _ (by omega))
                  rw [HS0.out] at HK htk
                  rw [HnA.out] at hs1
                  have Htk := Lib.hid htk
                  have Hsb := Lib.hid hsb
                  have HE4 := Lib.hid e4
                  have HE6 := Lib.hid e6
                  have hal : Below wr.heap.size wr (wr.alloc (.cells #[.int .i64 ka, .slice (some ⟨bA, 0, none⟩) nA ca1] 56)) := (Below.refl wr.heap.size wr).alloc (Nat.le_refl _) _
                  have HK1 : Hid (Blk (wr.alloc (.cells #[.int .i64 ka, .slice (some ⟨bA, 0, none⟩) nA ca1] 56)) O 3 (fcells s (cntC (S0 ++ lA.take 0)))) := by
                    show Blk _ _ _ _
                    rw [List.take_zero, List.append_nil]
                    exact HK.out.alloc _
                  have HG1 := Lib.hid (grown_below HG.out hal)
                  subst hra
                  clear htk hsb e4 e6 hal hz1 HzA hinA hgA la hsl hrb HK HG
                  go_wp2_with fail
                  go_loopw [129] (fun i_ wr => ∃ i : Nat, i ≤ nA ∧ i_ = .int .i64 (i : Int) ∧ Hid (Blk wr O 3 (fcells s (cntC (S0 ++ lA.take i)))) ∧ Hid (wf.grownBy wr (some O))) (fun i _ => nA - (intOf i).toNat)
                  case atStart => exact ⟨0, Nat.zero_le _, rfl, HK1, HG1⟩
                  case round =>
                    clear HK1 HG1
                    obtain ⟨i, hi, rfl, HK, HG⟩ := hrel
                    by_cases hin : i < nA
                    · have di : decide ((i : Int) < (nA : Int)) = true := by rw [decide_eq_true_eq]; omega
                      have dib : decide (i < nA) = true := by rw [decide_eq_true_eq]; omega
                      have hiI : (i : Int) < (nA : Int) := by omega
                      have hil : i < lA.length := by rw [HnA.out]; exact hin
                      have hbA : Blk wr bA 3 csA := keepI_O HG.out (Nat.lt_succ_self O) bA e3 csA HE4.out
                      have hc1 : wr.cell? ⟨bA, i, none⟩ = some (.int .i64 ((lA.getD i 0 : Nat) : Int)) := (Blk.cell hbA i).trans (HE6.out i hil)
                      have htake : lA.take (i + 1) = lA.take i ++ [lA.getD i 0] := by
                        rw [List.take_succ_eq_append_getElem hil, List.getD_eq_getElem?_getD, List.getElem?_eq_getElem hil]; rfl
                      have hys : lA.getD i 0 < s := Hsb.out _ (by rw [List.getD_eq_getElem?_getD, List.getElem?_eq_getElem hil]; exact List.getElem_mem hil)
                      obtain ⟨y, Hy⟩ : ∃ R, Hid (lA.getD i 0 = R) := ⟨_, Lib.hid (Eq.refl _)⟩
                      rw [Hy.out] at hc1 htake hys
                      have hc2 : wr.cell? ⟨O, y, none⟩ = some (cntC (S0 ++ lA.take i) y) := (Blk.cell HK.out y).trans (fcells_at _ _ _ hys)
                      have hf2 := Blk.frozen HK.out y
                      have hcl : (S0 ++ lA.take i).count y ≤ 20000000 := Nat.le_trans List.count_le_length (by rw [List.length_append, List.length_take]; omega)
                      have hset := cntC_add s (S0 ++ lA.take i) y
                      rw [List.append_assoc, ← htake] at hset
                      unfold cntC at hc2
                      obtain ⟨c, Hc⟩ : ∃ R, Hid ((S0 ++ lA.take i).count y = R) := ⟨_, Lib.hid (Eq.refl _)⟩
                      rw [Hc.out] at hc2 hcl hset
                      obtain ⟨c1, Hc1⟩ : ∃ R, Hid (c + 1 = R) := ⟨_, Lib.hid (Eq.refl _)⟩
                      have hc1v := Hc1.out
                      have w8 : IntKind.i64.wrap ((c : Int) + 1) = (c1 : Int) := by rw [IntKind.wrap_i64]; omega
                      rw [hc1v] at hset
                      have hysI : (y : Int) < (s : Int) := by omega
                      have HKs : Hid (∀ m, Blk ((wr.setCell ⟨O, y, none⟩ (.int .i64 (c1 : Int))).drewN m) O 3 (fcells s (cntC (S0 ++ lA.take (i + 1))))) := fun m => by
                        rw [← hset]
                        exact Blk.set_ HK.out y _
                      have HGs : Hid (∀ m, wf.grownBy ((wr.setCell ⟨O, y, none⟩ (.int .i64 (c1 : Int))).drewN m) (some O)) := fun m => Ch1.drewN (grown_set HG.out y _) m
                      clear hbA htake hset hc1v HK HG
                      go_wp2_with fail
                      go_roundw
                      case rel => exact ⟨i + 1, by omega, by go_num, HKs.out 0, HGs.out 0⟩
                      case measure => simp [intOf]; omega
                    · obtain rfl : i = nA := by omega
                      have di : decide ((i : Int) < (i : Int)) = false := by rw [decide_eq_false_iff_not]; omega
                      have HK2 : Hid (Blk wr O 3 (fcells s (cntC (syms ((rowN A k).take (j + 1)))))) := by
                        show Blk _ _ _ _
                        have h := HK.out
                        rw [List.take_of_length_le (by rw [HnA.out]; exact Nat.le_refl _)] at h
                        rw [Htk.out]
                        exact h
                      clear HK
                      go_wp2_with fail
                      go_roundw
                      case rel => exact ⟨j + 1, by omega, by go_num, HK2, HG⟩
                      case measure => simp [intOf]; omega
                · obtain rfl : j = P := by omega
                  have dj : decide ((j : Int) < (j : Int)) = false := by rw [decide_eq_false_iff_not]; omega
                  have HBf : Hid (Below w.heap.size w wr) := HB.out.grown HG.out HB.out.size (fun k' hk' => by injection hk' with hk'; omega)
                  have HFin : Hid (Blk wr O 3 (fcells s (fun i => Value.int .i64 ((finL cnt s k i : Nat) : Int)))) := by
                    show Blk _ _ _ _
                    have e : fcells s (fun i => Value.int .i64 ((finL cnt s k i : Nat) : Int)) = fcells s (cntC (syms ((rowN A k).take j))) := by
                      refine fcells_congr _ _ _ fun i _ => ?_
                      unfold finL cntC
                      rw [if_neg (by rw [← hZN.out]; exact hone), HA.out, HP.out, hZN.out]
                    rw [e]
                    exact HK.out
                  have HlenN : Hid ((coinsB cnt s).length ≤ 2 ^ k) := by show _ ≤ _; rw [← hZN.out, Hp2.out]; exact Nat.not_lt.1 hbig
                  clear HK HG
                  go_wp2_with fail
                  go_ret2
                  refine ⟨HBf.out, .inr (.inr (.inr (.inr ⟨hn, by omega, by omega, HC.out, ?_, O, rfl, hOB, ?_⟩)))⟩
                  · rw [Int.toNat_natCast]; exact HlenN.out
                  · rw [Int.toNat_natCast]; exact HFin.out

theorem lens_any (a : Option Addr) (n cap : Nat) (cnt : Nat → Int) (hn : n ≤ 1000000) (most : Int) (w : World) (hr : IRow w a n cnt) : Calls Try.prog 5 #[.slice a n cap, .int .i64 most] w (LensPost w n cnt most) := by
  by_cases h : 320 < n ∨ most < 1 ∨ 15 < most
  · exact lens_bad a n cap cnt hn most h w
  · obtain ⟨k, rfl⟩ : ∃ k : Nat, most = (k : Int) := ⟨most.toNat, by omega⟩
    exact lens_good a n cap cnt (by omega) k (by omega) (by omega) w hr
end Go.Proofs.Ytahgeeklenojjaa
