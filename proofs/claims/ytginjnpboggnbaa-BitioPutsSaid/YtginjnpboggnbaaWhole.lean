/- The document's rows of bits: Whole, Text. Conditions: none. -/
import Derived.Test.YtginjnpboggnbaaPieces
namespace Go.Proofs.Ytginjnpboggnbaa
open Go.RowKit
set_option maxRecDepth 100000

set_option maxHeartbeats 4000000 in
theorem whole_any (a : Option Addr) (cap c V : Nat) (hc : c ≤ 100000) (hV : V < 2 ^ c) (w : World) (hr : BRow w a c V) (hnil : a = none → c = 0 ∧ cap = 0) :
    Calls Try.prog 22 #[.slice a c cap] w fun e w' => ∃ v, e = .returned v ∧ OwnV w' w.heap.size ((c + 7) / 8 * 8) V v ∧ Below w.heap.size w w' := by
  have HV := Lib.hid hV
  have hb0 := (Below.refl w.heap.size w).alloc (Nat.le_refl _) (.cells #[] 4)
  have ho0 := World.ownsRow_made (base := w.heap.size) (e := 4) (size := 1) w #[] 0 (Nat.le_refl _) (Nat.zero_le _) rfl
  have hrr : BRow (w.alloc (.cells #[] 4)) a c V := hr.below hb0 (Nat.le_refl _)
  have hbs := hb0.size
  obtain ⟨d, Hd⟩ : ∃ d, Hid ((c + 7) / 8 * 8 = d) := ⟨_, Lib.hid (Eq.refl _)⟩
  rw [Hd.out]
  clear hV hr
  go_enter Try.func22, Try.ntmps22
  go_wp2_with (first
    | (at_builtin; go_must (refine wpList_append_brow rfl (.tmp 4) (.tmp 5) rfl w.heap.size _ 0 V ho0 rfl a c cap V rfl hrr hnil ?_ hbs ?_; omega; intro v' w1 hown1 hg1 hne))
    | fail)
  have hown2 : w1.ownsRow w.heap.size 4 1 v' c (bvals c V) := by simpa [bvals] using hown1
  have HO1 := Lib.hid (own_v_of hown2 (hne.resolve_left (by simp)))
  have HB1 := Lib.hid (hb0.trans (below_grown ho0 hg1 hbs))
  clear hown1 hown2 hne hg1 hb0 ho0 hrr hbs hnil
  go_loopw [3] (fun vo wr => ∃ m cap g : Nat, c ≤ m ∧ m ≤ d ∧ vo = .slice (some ⟨g, 0, none⟩) m cap ∧ Hid (OwnV wr w.heap.size m V vo) ∧ Hid (Below w.heap.size w wr)) (fun vo _ => 100008 - (match vo with | .slice _ m _ => m | _ => 0))
  case atStart =>
    obtain ⟨g, cap1, e, _⟩ := HO1.out
    exact ⟨c, cap1, g, Nat.le_refl _, by have := Hd.out; omega, e, HO1, HB1⟩
  case round =>
    clear HO1 HB1
    obtain ⟨m, cap1, g, hcm, hmd, rfl, HO, HB⟩ := hrel
    have hdl : d ≤ 100007 := by have := Hd.out; omega
    obtain ⟨z, Hz⟩ : ∃ u, Hid (m % 8 = u) := ⟨_, Lib.hid (Eq.refl _)⟩
    have hz1 : (m : Int) % 8 = (z : Int) := by have := Hz.out; omega
    have hz2 : (m : Int).tmod 8 = (z : Int) := by rw [Int.tmod_eq_emod_of_nonneg (by omega)]; exact hz1
    by_cases h0 : 0 < z
    · have d1 : decide (0 < (z : Int)) = true := by rw [decide_eq_true_eq]; omega
      have hmd2 : m + 1 ≤ d := by have := Hd.out; have := Hz.out; omega
      have htest : Hid (V.testBit m = false) := test_out V c m HV.out hcm
      have hos := HO.out
      have hbsw : w.heap.size ≤ wr.heap.size := HB.out.size
      go_wp2_with (first
        | (at_builtin; go_must (refine wpList_append_bool wr rfl (.tmp 11) (.tmp 12) rfl w.heap.size _ m V false hos htest.out rfl rfl rfl ?_ hbsw ?_; omega; intro v2 w2 hown2 hb2))
        | fail)
      obtain ⟨g2, cap2, rfl, _⟩ := hown2
      rename_i hown3
      have HO2 : Hid (OwnV w2 w.heap.size (m + 1) V (.slice (some ⟨g2, 0, none⟩) (m + 1) cap2)) := ⟨g2, cap2, rfl, hown3⟩
      have HB2 := Lib.hid (HB.out.trans hb2)
      clear hos hown3 hb2 HO HB
      go_wp2_with fail
      go_roundw
      case rel => exact ⟨m + 1, cap2, g2, by omega, hmd2, rfl, HO2, HB2⟩
      case measure => simp; omega
    · obtain rfl : z = 0 := by omega
      have hm : m = d := by have := Hd.out; have := Hz.out; omega
      subst hm
      go_wp2_with fail
      go_ret
      exact ⟨_, rfl, HO.out, HB.out⟩

theorem byte_cat (V j Y : Nat) (hY : V / 2 ^ (8 * j) % 2 ^ 8 = Y) : (⟨(bytesN V j).toArray⟩ : ByteArray) ++ ⟨#[UInt8.ofNat Y]⟩ = ⟨(bytesN V (j + 1)).toArray⟩ := by
  rw [show (⟨#[UInt8.ofNat Y]⟩ : ByteArray) = ⟨([UInt8.ofNat Y]).toArray⟩ from rfl, mk_cat, bytesN_succ, pow256, ← hY]

set_option maxHeartbeats 4000000 in
theorem rtext_any (a : Option Addr) (cap c V : Nat) (hc : c ≤ 100000) (hV : V < 2 ^ c) (w : World) (hr : BRow w a c V) (hnil : a = none → c = 0 ∧ cap = 0) :
    Calls Try.prog 28 #[.slice a c cap] w fun e w' => e = .returned (.string ⟨(bytesN V ((c + 7) / 8)).toArray⟩) ∧ Below w.heap.size w w' := by
  have CW := Lib.hid (whole_any a cap c V hc hV w hr hnil)
  obtain ⟨q, Hq⟩ : ∃ d, Hid ((c + 7) / 8 = d) := ⟨_, Lib.hid (Eq.refl _)⟩
  have HV : Hid (V < 2 ^ (8 * q)) := Nat.lt_of_lt_of_le hV (Nat.pow_le_pow_right (by decide) (by have := Hq.out; omega))
  have hql : q ≤ 12501 := by have := Hq.out; omega
  rw [Hq.out] at CW ⊢
  rw [Nat.mul_comm q 8] at CW
  clear hV hr hc hnil
  go_enter Try.func28, Try.ntmps28
  go_wp2_with fail
  refine CW.out.mono ?_
  rintro e w1 ⟨v, rfl, hO1, hB1⟩
  obtain ⟨g, cap1, rfl, _, hgl, hrow⟩ := hO1.lt
  have HR1 := Lib.hid hrow
  have HB1 := Lib.hid hB1
  obtain ⟨n, Hn⟩ : ∃ d, Hid (8 * q = d) := ⟨_, Lib.hid (Eq.refl _)⟩
  have hnl : n ≤ 100008 := by have := Hn.out; omega
  rw [Hn.out] at HR1 HV ⊢
  clear hO1 hB1 hrow CW
  go_wp2_with fail
  go_loopw [3, 5] (fun t_ i_ wr => ∃ j i : Nat, ∃ t : ByteArray, j ≤ q ∧ Hid (i = 8 * j) ∧ i_ = .int .i64 (i : Int) ∧ t_ = .string t ∧ Hid (t.size = j) ∧ Hid (t = ⟨(bytesN V j).toArray⟩) ∧ Hid (BRow wr (some ⟨g, 0, none⟩) n V) ∧ Hid (Below w.heap.size w wr)) (fun _ i _ => n - (intOf i).toNat)
  case atStart => exact ⟨0, 0, _, by omega, rfl, rfl, rfl, rfl, rfl, HR1, HB1⟩
  case round =>
    clear HR1 HB1
    obtain ⟨j, i, t, hj, Hi, rfl, rfl, Hts, HT, HR, HB⟩ := hrel
    by_cases hlt : i < n
    · have d1 : decide ((i : Int) < (n : Int)) = true := by rw [decide_eq_true_eq]; omega
      have hjq : j + 1 ≤ q := by have := Hn.out; have := Hi.out; omega
      have CN := Lib.hid (number_any (some ⟨g, 0, none⟩) n cap1 V (by omega) HV.out i 8 (by omega) (by decide) false wr HR.out)
      obtain ⟨Y, HY⟩ : ∃ d, Hid (numAt V i 8 false = d) := ⟨_, Lib.hid (Eq.refl _)⟩
      have hYl : Y < 256 := by rw [← HY.out, numAt_false]; exact Nat.mod_lt _ (by decide)
      rw [HY.out] at CN
      have hw8 : IntKind.u8.wrap (Y : Int) = (Y : Int) := by rw [IntKind.wrap_u8]; omega
      have hs1 := run_string_one wr (Y : Int)
      rw [Int.toNat_natCast] at hs1
      have HT2 : Hid (t ++ ⟨#[UInt8.ofNat Y]⟩ = ⟨(bytesN V (j + 1)).toArray⟩) := by
        show _ = _
        rw [HT.out]
        exact byte_cat V j Y (by rw [← HY.out, numAt_false, Hi.out])
      have hbb := (Below.refl wr.heap.size wr).alloc (Nat.le_refl _) (.cells #[.int .u8 (Y : Int)] 5)
      have HR2 := Lib.hid (HR.out.below hbb (Nat.le_refl _))
      have HB2 := Lib.hid (HB.out.trans (hbb.mono HB.out.size))
      have hov : ¬ 9223372036854775807 < t.size + 1 := by have := Hts.out; omega
      have hts2 : Hid ((t ++ (⟨#[UInt8.ofNat Y]⟩ : ByteArray)).size = j + 1) := by
        show _ = _
        rw [ByteArray.size_append, Hts.out]; rfl
      obtain ⟨t2, Ht2⟩ : ∃ d, Hid (t ++ (⟨#[UInt8.ofNat Y]⟩ : ByteArray) = d) := ⟨_, Lib.hid (Eq.refl _)⟩
      rw [Ht2.out] at HT2 hts2
      have ht2 := Ht2.out
      clear hbb HR HB
      go_wp2_with fail
      refine CN.out.mono ?_
      rintro e w2 ⟨rfl, rfl⟩
      clear CN
      go_wp2_with fail
      go_roundw
      case rel => exact ⟨j + 1, i + 8, t2, hjq, (by show _ = _; have := Hi.out; omega), by go_num, by rw [← ht2], hts2, HT2, HR2, HB2⟩
      case measure => simp [intOf]; omega
    · have hjq : j = q := by have := Hn.out; have := Hi.out; omega
      subst hjq
      clear Hi
      have d1 : decide ((i : Int) < (n : Int)) = false := by rw [decide_eq_false_iff_not]; omega
      go_wp2_with fail
      go_ret
      exact ⟨by rw [← HT.out]; rfl, HB.out⟩
end Go.Proofs.Ytginjnpboggnbaa
