/- The law PolyTexts of layer 9, walked. Conditions: a text, numbers of 64 bits, a byte. -/
import Derived.Test.YtgjofpefglbjjaaLaw9a
import Derived.Test.YtgjofpefglbjjaaOf9
import Derived.Test.YtgjofpefglbjjaaFew
namespace Go.Proofs.Ytgjofpefglbjjaa
open Go.RowKit
set_option maxRecDepth 100000

theorem bvals_cat (n k c p : Nat) (hn : n = 8) (hc : c < 256) : bvals n c ++ bvals k p = bvals (n + k) (p * 256 + c) := by
  subst hn
  apply List.ext_getElem?
  intro i
  rw [List.getElem?_append, bvals_length]
  by_cases h : i < 8
  · rw [if_pos h, bvals_at _ _ _ h, bvals_at _ _ _ (by omega)]
    unfold bval
    rw [bit_add _ _ _ hc, if_pos h]
  · rw [if_neg h]
    by_cases h2 : i < 8 + k
    · rw [bvals_at _ _ _ (by omega), bvals_at _ _ _ h2]
      unfold bval
      rw [bit_add _ _ _ hc, if_neg h]
    · rw [List.getElem?_eq_none (by rw [bvals_length]; omega), List.getElem?_eq_none (by rw [bvals_length]; omega)]

theorem polyTexts_no (s : ByteArray) (p n m c : Nat) (hs : s.size ≤ maxLen) (hm : m < 18446744073709551616) (hf : fitB m = false) (w : World) :
    Calls Try.prog 8 #[.string s, .int .u64 (p : Int), .int .u64 (n : Int), .int .u64 (m : Int), .int .u8 (c : Int)] w fun e w' => e = .returned (.bool true) ∧ Below w.heap.size w w' := by
  obtain ⟨N, hN, hNl⟩ : ∃ N : Nat, (n : Int) % 200 = (N : Int) ∧ N < 200 := ⟨n % 200, by omega, by omega⟩
  have C0 := Lib.hid (fun W => few_any s 100 (by decide) hs W)
  have C1 := Lib.hid (fun W => of_no (few s 100) m hm hf W)
  have C2 := Lib.hid (fun W => power_no p N m hm hf W)
  have C3 := Lib.hid (fun W => append_no p c m hm hf W)
  have Hf := Lib.hid hf
  clear hf
  go_enter Try.func8, Try.ntmps8
  go_wp2_with fail
  refine (C0.out _).mono ?_; rintro e w' ⟨rfl, rfl⟩
  go_wp2_with fail
  refine (C1.out _).mono ?_; rintro e w' ⟨rfl, rfl⟩
  go_wp2_with fail
  refine (C2.out _).mono ?_; rintro e w' ⟨rfl, rfl⟩
  go_wp2_with fail
  refine (C3.out _).mono ?_; rintro e w' ⟨rfl, rfl⟩
  go_wp2_with fail
  refine (refFit_any m hm _).mono ?_; rw [Hf.out]; rintro e w1 ⟨rfl, hb1⟩
  go_wp2_with fail
  refine (awake9_any _).mono ?_; rintro e w' ⟨rfl, rfl⟩
  go_wp2_with fail
  go_ret
  exact ⟨rfl, hb1⟩

theorem text_one (c : Nat) (hc : c < 256) (w : World) :
    Calls Try.prog 35 #[.string ⟨#[UInt8.ofNat c]⟩] w fun e w' => ∃ g cap, e = .returned (.slice (some ⟨g, 0, none⟩) 8 cap) ∧ w'.ownsRow w.heap.size 4 1 (.slice (some ⟨g, 0, none⟩) 8 cap) 8 (bvals 8 c) ∧ Below w.heap.size w w' := by
  refine (text_any ⟨#[UInt8.ofNat c]⟩ (by show (1 : Nat) ≤ 10000; decide) w).mono ?_
  rintro e w3 ⟨v, rfl, ⟨g3, c3, rfl, ho3⟩, hb3⟩
  have e1 : Gf.tx (⟨#[UInt8.ofNat c]⟩ : ByteArray).data.toList = c := by simp [Gf.tx]; omega
  rw [e1] at ho3
  exact ⟨g3, c3, rfl, ho3, hb3⟩
theorem cl_lt2 (p q : Nat) : Gf.cl q p < 2 ^ (Gf.len p + Gf.len q) := by
  apply Gf.lt_of_len
  by_cases hp : p = 0
  · subst hp; rw [Gf.cl_zero, Gf.len_zero]; omega
  · by_cases hq : q = 0
    · subst hq; rw [Gf.zero_cl, Gf.len_zero]; omega
    · have := Gf.len_cl hq hp; omega

set_option maxHeartbeats 2000000 in
theorem polyTexts_yes (s : ByteArray) (p n m c : Nat) (hs : s.size ≤ maxLen) (hp : p < 18446744073709551616) (hm : m < 18446744073709551616) (hc : c < 256) (hf : fitB m = true) (w : World) :
    Calls Try.prog 8 #[.string s, .int .u64 (p : Int), .int .u64 (n : Int), .int .u64 (m : Int), .int .u8 (c : Int)] w fun e w' => e = .returned (.bool true) ∧ Below w.heap.size w w' := by
  obtain ⟨N, hN, hNl⟩ : ∃ N : Nat, (n : Int) % 200 = (N : Int) ∧ N < 200 := ⟨n % 200, by omega, by omega⟩
  have C0 := Lib.hid (fun W => few_any s 100 (by decide) hs W)
  have hfs := few_size s 100
  obtain ⟨t, ht⟩ : ∃ t, few s 100 = t := ⟨_, rfl⟩
  rw [ht] at C0 hfs
  have C1 := Lib.hid (fun W => of_yes t (by omega) m hm hf W)
  have C2 := Lib.hid (fun W => power_yes p N m hp (by omega) hm hf W)
  have C3 := Lib.hid (fun W => append_yes p c m hp hc hm hf W)
  have Hf := Lib.hid hf
  have Hm0 := Lib.hid (fit_len hf).2.2
  have Hf2 := Lib.hid (fit_len hf).2.1
  have Htx := Lib.hid (tx_lt_list t.data.toList)
  have hone := run_string_one
  have hlp := len_le64 hp
  have Hlp := Lib.hid (Gf.len_lt p)
  have Hpc : Hid (p * 256 + c < 2 ^ (8 + Gf.len p)) := by
    show _ < _
    have h1 := Gf.len_lt p
    have h2 : (2 : Nat) ^ 8 = 256 := by decide
    rw [Nat.pow_add, h2]
    omega
  have hcu : UInt8.ofNat ((c : Int)).toNat = UInt8.ofNat c := by simp
  have Hct : Hid (Gf.tx [UInt8.ofNat c] = c) := by show _ = _; simp [Gf.tx]; omega
  clear hf ht hs
  go_enter Try.func8, Try.ntmps8
  go_wp2_with fail
  refine (C0.out _).mono ?_; rintro e w' ⟨rfl, rfl⟩
  go_wp2_with fail
  refine (C1.out _).mono ?_; rintro e w0 ⟨rfl, hb0⟩
  go_wp2_with fail
  refine (C2.out _).mono ?_; rintro e w' ⟨rfl, rfl⟩
  go_wp2_with fail
  refine (C3.out _).mono ?_; rintro e w' ⟨rfl, rfl⟩
  go_wp2_with fail
  refine (refFit_any m hm _).mono ?_; rw [Hf.out]; rintro e w1 ⟨rfl, hb1⟩
  go_wp2_with fail
  have hr1 : BRow (w1.alloc (.cells #[.bool true] 4)) (some ⟨w1.heap.size, 0, none⟩) 1 1 :=
    .inr ⟨w1.heap.size, 0, rfl, by simp, fun i hi => by
      obtain rfl : i = 0 := by omega
      rw [Nat.zero_add, (Blk.new w1 4 #[.bool true]).cell]; rfl⟩
  refine (rest_any _ 1 _ 1 m (by omega) (by decide) hm Hm0.out _ hr1 (fun h => by cases h)).mono ?_
  rintro e w2 ⟨rfl, hb2⟩
  have hbw := bthen (bthen (bthen hb0 hb1) ((Below.refl w1.heap.size w1).alloc (Nat.le_refl _) (.cells #[.bool true] 4))) hb2
  clear hr1 hb0 hb1 hb2
  go_wp2_with fail
  go_loopw [17, 18] (fun x i wr => ∃ k : Nat, k ≤ N ∧ i = .int .u64 (k : Int) ∧ x = .int .u64 (Gf.pw p m k : Int) ∧ Below w.heap.size w wr)
    (fun _ i _ => N - (intOf i).toNat)
  case atStart => exact ⟨0, by omega, rfl, rfl, hbw⟩
  case round =>
    clear hbw
    obtain ⟨k, hk, rfl, rfl, hbw⟩ := hrel
    by_cases hkl : k < N
    · have hxl := lt64 (Gf.pw_small p m k Hm0.out) Hf2.out
      have hstep : Hid (Gf.md (Gf.cl p (Gf.pw p m k)) m = Gf.pw p m (k + 1)) := by show _ = _; rw [Gf.cl_comm]; rfl
      generalize Gf.pw p m k = x at *
      have hlx := len_le64 hxl
      have Hlx := Lib.hid (Gf.len_lt x)
      have Hcl := Lib.hid (cl_lt2 x p)
      go_wp2_with fail
      refine (list_any x hxl _).mono ?_
      rintro e w3 ⟨v, rfl, ⟨g3, c3, rfl, ho3⟩, hb3⟩
      go_wp2_with fail
      refine (list_any p hp _).mono ?_
      rintro e w4 ⟨v, rfl, ⟨g4, c4, rfl, ho4⟩, hb4⟩
      have hr3 := (OwnV.row ho3).below hb4 (Nat.le_refl _)
      go_wp2_with fail
      refine (product_any _ _ _ _ _ _ x p (by omega) (by omega) Hlx.out Hlp.out _ hr3 (OwnV.row ho4)).mono ?_
      rintro e w5 ⟨g5, rfl, hr5, hb5⟩
      go_wp2_with fail
      refine (rest_any _ _ _ _ m (by omega) Hcl.out hm Hm0.out _ hr5 (fun h => by cases h)).mono ?_
      rw [hstep.out]
      rintro e w6 ⟨rfl, hb6⟩
      go_wp2_with fail
      go_roundw
      case rel => exact ⟨k + 1, by omega, by go_num, rfl, bthen (bthen (bthen (bthen hbw hb3) hb4) hb5) hb6⟩
      case measure => simp [intOf]; omega
    · obtain rfl : k = N := by omega
      go_wp2_with fail
      have Hwr := Lib.hid hbw.size
      refine (text_one c hc _).mono ?_
      rintro e w3 ⟨g3, c3, rfl, ho3, hb3⟩
      have hg3 := (World.ownsRow.lt ho3 g3 (by simp [Value.ownBlock])).2
      replace hbw := bthen (bthen hbw ((Below.refl _ _).alloc (Nat.le_refl _) _)) hb3
      clear hb3
      go_wp2_with fail
      refine (list_any p hp _).mono ?_
      rintro e w4 ⟨v, rfl, ⟨g4, c4, rfl, ho4⟩, hb4⟩
      have ho3' := own_keep ho3 hb4 hg3
      replace hbw := bthen hbw hb4
      have hbs := Nat.le_trans (World.ownsRow.lt ho3 g3 (by simp [Value.ownBlock])).1 (Nat.le_of_lt (World.ownsRow.lt ho3' g3 (by simp [Value.ownBlock])).2)
      have hr4 := OwnV.row ho4
      clear ho3 hb4 ho4 hg3
      go_wp2_with (first
        | (at_builtin; go_must (refine wpList_append_brow rfl _ _ rfl _ _ 8 c ho3' rfl _ (Gf.len p) c4 p rfl hr4 ?_ ?_ hbs ?_; (intro h; cases h); omega; intro v5 w5 hown5 hg5 hne))
        | (go_at_call 15; refine (awake9_any _).mono ?_; rintro e w' ⟨rfl, rfl⟩)
        | fail)
      rw [bvals_cat 8 _ c p rfl hc] at hown5
      have hgl3 := (World.ownsRow.lt ho3' g3 (by simp [Value.ownBlock])).1
      have hbw5 := hbw.grown hg5 hbw.size (fun j hj => by
        simp only [Value.ownBlock, Option.some.injEq] at hj
        subst hj
        have := Hwr.out
        simp at hgl3
        omega)
      obtain ⟨g5, c5, rfl, ho5⟩ := OwnV.more (by omega) hown5
      have hr5 := OwnV.row ho5
      clear hne hg5 hown5 ho3' hbw hbs hr4 hgl3 ho5
      refine (text_any t (by omega) _).mono ?_
      rintro e w6 ⟨v, rfl, ⟨g6, c6, rfl, ho6⟩, hb6⟩
      have hr5' := hr5.below hb6 (Nat.le_refl _)
      have hbw6 := bthen hbw5 hb6
      clear hr5 hbw5 hb6
      go_wp2_with fail
      refine (rest_any _ _ _ _ m (by omega) (by have h := Htx.out; rwa [show t.data.toList.length = t.size by simp] at h) hm Hm0.out _ (OwnV.row ho6) (fun h => by cases h)).mono ?_
      rintro e w7 ⟨rfl, hb7⟩
      have hr7 := hr5'.below hb7 (Nat.le_refl _)
      have hbw7 := bthen hbw6 hb7
      clear hr5' hbw6 hb7 ho6
      go_wp2_with fail
      refine (rest_any _ _ _ _ m (by omega) Hpc.out hm Hm0.out _ hr7 (fun h => by cases h)).mono ?_
      rintro e w8 ⟨rfl, hb8⟩
      go_wp2_with fail
      go_ret
      exact ⟨rfl, bthen hbw7 hb8⟩

theorem polyTexts_any (s : ByteArray) (p n m c : Nat) (hs : s.size ≤ maxLen) (hp : p < 18446744073709551616) (hm : m < 18446744073709551616) (hc : c < 256) (w : World) :
    Calls Try.prog 8 #[.string s, .int .u64 (p : Int), .int .u64 (n : Int), .int .u64 (m : Int), .int .u8 (c : Int)] w fun e w' => e = .returned (.bool true) ∧ Below w.heap.size w w' := by
  cases hf : fitB m
  · exact polyTexts_no s p n m c hs hm hf w
  · exact polyTexts_yes s p n m c hs hp hm hc hf w
end Go.Proofs.Ytgjofpefglbjjaa
