/- The laws' awake of layer 6; InflateAnywhere; InflateCut. Conditions: none. -/
import Derived.Test.YtjnglahjngiofaaJpmbidf
import Derived.Test.YtjnglahjngiofaaJabmhmi
import Derived.Test.YtjnglahjngiofaaJphknoh
import Derived.BigQuiet
namespace Go.Proofs.Ytjnglahjngiofaa
open Go.RowKit
set_option maxRecDepth 100000

set_option maxHeartbeats 4000000 in
theorem awake6_any (w : World) : Calls Try.prog 29 #[] w fun e w' => e = .returned (.bool true) ∧ Below w.heap.size w w' := by
  have hab := infl_ab
  have C1 : Hid (∀ W, Calls Try.prog 27 #[.string ⟨#[75, 4, 0]⟩, .int .i64 0, .int .i64 9] W fun r w' => r = .returned (.tuple #[.string ⟨#[97]⟩, .int .i64 3, .int .i64 0]) ∧ Below W.heap.size W w') :=
    Lib.hid fun W => inflate_is_ok (q := 0) (most := 9) (by decide) (by decide) (by decide) (by decide +kernel) infl_a W
  have C2 : Hid (∀ W, Calls Try.prog 25 #[.string ⟨#[1, 2, 0, 253, 255, 97, 98]⟩, .int .i64 0, .int .i64 9] W fun r w' => ∃ G cap, r = .returned (.tuple #[.slice (some ⟨G, 0, none⟩) 1 cap, .int .i64 7, .int .i64 0]) ∧ w'.cell? ⟨G, 1, none⟩ = some (.string ⟨#[97, 98]⟩) ∧ Below W.heap.size W w') := by
    refine Lib.hid fun W => (blocks_ok ⟨#[1, 2, 0, 253, 255, 97, 98]⟩ (by decide) 0 9 (by decide) (by decide) W).mono ?_
    have hx : (⟨#[1, 2, 0, 253, 255, 97, 98]⟩ : ByteArray).extract 0 (⟨#[1, 2, 0, 253, 255, 97, 98]⟩ : ByteArray).size = ⟨#[1, 2, 0, 253, 255, 97, 98]⟩ := by decide +kernel
    rw [hx]
    rintro r w' ⟨hb, ⟨e, he, hr, rfl⟩ | ⟨l, p, z, v, BB, hr, hp, hz, rfl, hBB, hS⟩⟩
    · have := hab.symm.trans (show inflR _ _ = _ from hr)
      cases this
    · have := hab.symm.trans (show inflR _ _ = _ from hr)
      injection this with this
      injection this with h1 h2
      have h3 : (sg ⟨#[1, 2, 0, 253, 255, 97, 98]⟩ p z).n = 0 := by rw [← h2]
      have h4 : 56 - p = 0 := h3
      have h5 : p ≤ 56 := hp
      obtain rfl : p = 56 := by omega
      obtain ⟨a, cap, hv, hget⟩ := hS.form
      obtain ⟨x, rfl⟩ : ∃ x, l = [x] := by
        have hl := congrArg List.length h1
        rw [List.length_map] at hl
        exact List.length_eq_one_iff.1 hl.symm
      have h1' : [(⟨0, [97, 98], []⟩ : Bk)] = [x.b] := h1
      injection h1' with h1'
      obtain ⟨G, rfl, hG, c0, c1, c2⟩ := hget 0 (Nat.lt_succ_self 0)
      refine ⟨G, cap, by rw [hv.out]; rfl, ?_, hb⟩
      have c1' : w'.cell? ⟨G, 1, none⟩ = some (.string ⟨x.b.bytes.toArray⟩) := c1
      rw [c1', ← h1']
  clear hab
  go_enter Try.func29, Try.ntmps29
  go_wp2_with fail
  refine (C1.out _).mono ?_
  rintro e w1 ⟨rfl, hb1⟩
  go_wp2_with fail
  refine (C2.out _).mono ?_
  rintro e w2 ⟨G, cap, rfl, hc, hb2⟩
  have Hb2 := Lib.hid (bthen hb1 hb2)
  clear hb1 hb2
  go_wp2_with fail
  go_ret
  exact ⟨rfl, Hb2.out⟩

theorem few_le (s : ByteArray) (n : Nat) : (few s n).size ≤ n := few_size s n
theorem app_extract (f s b : ByteArray) : (f ++ s ++ b).extract f.size (f ++ s ++ b).size = s ++ b := by
  apply ByteArray.ext
  apply Array.ext'
  have hl : f.size = f.data.toList.length := by simp
  rw [ByteArray.data_extract, Array.toList_extract, List.extract_eq_take_drop]
  simp only [ByteArray.data_append, Array.toList_append, List.append_assoc]
  rw [hl, List.drop_left, List.take_of_length_le]
  simp
  omega

set_option maxHeartbeats 8000000 in
theorem anywhere_any (f s b : ByteArray) (hf : f.size ≤ 140737488351232) (hs : s.size ≤ 140737488351232) (hb : b.size ≤ 140737488351232) (w : World) :
    Calls Try.prog 10 #[.string f, .string s, .string b] w fun e w' => e = .returned (.bool true) ∧ Below w.heap.size w w' := by
  have CA := Lib.hid awake6_any
  have F1 := Lib.hid (fun W => few_any f 1000 (by decide) (by unfold maxLen; omega) W)
  have F2 := Lib.hid (fun W => few_any s 400 (by decide) (by unfold maxLen; omega) W)
  have F3 := Lib.hid (fun W => few_any b 1000 (by decide) (by unfold maxLen; omega) W)
  obtain ⟨f', Hf⟩ : ∃ x, Hid (few f 1000 = x) := ⟨_, Lib.hid (Eq.refl _)⟩
  obtain ⟨s', Hs⟩ : ∃ x, Hid (few s 400 = x) := ⟨_, Lib.hid (Eq.refl _)⟩
  obtain ⟨b', Hb⟩ : ∃ x, Hid (few b 1000 = x) := ⟨_, Lib.hid (Eq.refl _)⟩
  have lf : f'.size ≤ 1000 := by rw [← Hf.out]; exact few_size _ _
  have ls : s'.size ≤ 400 := by rw [← Hs.out]; exact few_size _ _
  have lb : b'.size ≤ 1000 := by rw [← Hb.out]; exact few_size _ _
  rw [Hf.out] at F1
  rw [Hs.out] at F2
  rw [Hb.out] at F3
  have C1 := Lib.hid (fun W => inflate_any s' (by omega) 0 4000 (Nat.zero_le _) (by decide) s' (extract_all s') W)
  have C2 := Lib.hid (fun bs σ (h : inflR s' 4000 = .ok (bs, σ)) W => inflate_is_ok (s := f' ++ s' ++ b') (q := f'.size) (most := 4000) (by rw [ByteArray.size_append, ByteArray.size_append]; omega) (by rw [ByteArray.size_append, ByteArray.size_append]; omega) (by decide) (app_extract f' s' b') (infl_ext h b') W)
  have hov1 : ¬ 9223372036854775807 < f'.size + s'.size := by omega
  have hov2 : ¬ 9223372036854775807 < (f' ++ s').size + b'.size := by rw [ByteArray.size_append]; omega
  have Hsz : Hid ((s' ++ b').size = s'.size + b'.size) := Lib.hid ByteArray.size_append
  obtain ⟨t', Ht⟩ : ∃ x, Hid (f' ++ s' ++ b' = x) := ⟨_, Lib.hid (Eq.refl _)⟩
  rw [Ht.out] at C2
  clear hf hs hb
  go_enter Try.func10, Try.ntmps10
  go_wp2_with fail
  refine (F1.out _).mono ?_
  rintro e w1 ⟨rfl, rfl⟩
  go_wp2_with fail
  refine (F2.out _).mono ?_
  rintro e w1 ⟨rfl, rfl⟩
  go_wp2_with fail
  refine (F3.out _).mono ?_
  rintro e w1 ⟨rfl, rfl⟩
  go_wp2_with fail
  refine (C1.out _).mono ?_
  rintro e w1 ⟨hb1, ⟨e, he, hr, rfl⟩ | ⟨bs, p, z, hr, hp, rfl⟩⟩
  · have Hb1 := Lib.hid hb1
    have de : ((e : Int) == 0) = false := by simp; omega
    have de2 : ((e : Int) != 0) = true := by simp; omega
    clear hb1 hr F1 F2 F3 C1 C2
    go_wp2_with fail
    refine (CA.out _).mono ?_
    rintro e w2 ⟨rfl, hb2⟩
    have Hb2 := Lib.hid (bthen Hb1.out hb2)
    clear hb2
    go_wp2_with fail
    go_ret
    exact ⟨rfl, Hb2.out⟩
  · have Hb1 := Lib.hid hb1
    have C3 := Lib.hid (C2.out _ _ hr)
    have e1 : (8 * (s' ++ b').size - (extS (8 * b'.size) (num b') (sg s' p z)).n + 7) / 8 = (p + 7) / 8 := by
      have e2 : (extS (8 * b'.size) (num b') (sg s' p z)).n = 8 * s'.size - p + 8 * b'.size := rfl
      rw [e2, Hsz.out]
      congr 2
      omega
    rw [e1] at C3
    obtain ⟨T, HT⟩ : ∃ x, Hid ((⟨(joinL [] bs).toArray⟩ : ByteArray) = x) := ⟨_, Lib.hid (Eq.refl _)⟩
    rw [HT.out] at C3 ⊢
    obtain ⟨k, Hk⟩ : ∃ x, Hid ((p + 7) / 8 = x) := ⟨_, Lib.hid (Eq.refl _)⟩
    rw [Hk.out] at C3 ⊢
    have hks : k ≤ s'.size := by have := Hk.out; omega
    have dk : decide ((k : Int) ≤ (s'.size : Int)) = true := by rw [decide_eq_true_eq]; omega
    have dk2 : decide (k ≤ s'.size) = true := by rw [decide_eq_true_eq]; omega
    clear hb1 hr F1 F2 F3 C1 C2 e1 hp
    go_wp2_with fail
    rw [Ht.out]
    refine (C3.out _).mono ?_
    rintro e w2 ⟨rfl, hb2⟩
    have Hb2 := Lib.hid (bthen Hb1.out hb2)
    clear hb2 C3
    go_wp2_with fail
    refine (CA.out _).mono ?_
    rintro e w3 ⟨rfl, hb3⟩
    have Hb3 := Lib.hid (bthen Hb2.out hb3)
    clear hb3
    go_wp2_with fail
    go_ret
    exact ⟨rfl, Hb3.out⟩
end Go.Proofs.Ytjnglahjngiofaa
