/- DeflateMoves: the law. Conditions: none. -/
import Derived.Test.YtjnglahjngiofaaJmoicel
import Derived.Test.YtjnglahjngiofaaJoeglhn
import Derived.Test.YtjnglahjngiofaaJiddlhm
namespace Go.Proofs.Ytjnglahjngiofaa
open Go.RowKit
set_option maxRecDepth 100000

theorem few7_any (s : ByteArray) (_hs : s.size ≤ maxLen) (w : World) :
    Calls Try.prog 38 #[.string s] w fun e w' => e = .returned (.string (few s 500)) ∧ w = w' := by
  by_cases h : 500 < s.size
  · have e := Lib.hid (show few s 500 = s.extract 0 500 by unfold few; rw [if_pos h])
    go_enter Try.func38, Try.ntmps38
    go_wp2
    go_ret
    exact ⟨by rw [e.out]; rfl, rfl⟩
  · have e := Lib.hid (show few s 500 = s by unfold few; rw [if_neg h])
    go_enter Try.func38, Try.ntmps38
    go_wp2
    go_ret
    exact ⟨by rw [e.out]; rfl, rfl⟩
theorem ba_inj {a b : ByteArray} (h : a.toList = b.toList) : a = b := by
  rw [ByteArray.toList_eq, ByteArray.toList_eq] at h
  apply ByteArray.ext
  exact Array.ext' h
theorem app_extract7 (f s b : ByteArray) : (f ++ s ++ b).extract f.size (f ++ s ++ b).size = s ++ b := by
  apply ByteArray.ext
  apply Array.ext'
  have hl : f.size = f.data.toList.length := by simp
  rw [ByteArray.data_extract, Array.toList_extract, List.extract_eq_take_drop]
  simp only [ByteArray.data_append, Array.toList_append, List.append_assoc]
  rw [hl, List.drop_left, List.take_of_length_le]
  simp
  omega

set_option maxHeartbeats 8000000 in
theorem moves_bad (s t f b : ByteArray) (hs : s.size ≤ maxLen) (ht : t.size ≤ maxLen) (lv : Int) (h : lv < 0 ∨ 9 < lv) (w : World) :
    Calls Try.prog 15 #[.string s, .string t, .string f, .string b, .int .i64 lv] w fun e w' => e = .returned (.bool true) ∧ Below w.heap.size w w' := by
  have CA := Lib.hid awake7_any
  have F1 := Lib.hid (fun W => few7_any s hs W)
  have F2 := Lib.hid (fun W => few7_any t ht W)
  obtain ⟨s', Hs⟩ : ∃ x, Hid (few s 500 = x) := ⟨_, Lib.hid (Eq.refl _)⟩
  obtain ⟨t', Ht⟩ : ∃ x, Hid (few t 500 = x) := ⟨_, Lib.hid (Eq.refl _)⟩
  rw [Hs.out] at F1
  rw [Ht.out] at F2
  have D1 := Lib.hid (fun W => deflate_bad s' lv h W)
  have D2 := Lib.hid (fun W => deflate_bad t' lv h W)
  clear h hs ht
  go_enter Try.func15, Try.ntmps15
  go_wp2_with fail
  refine (F1.out _).mono ?_
  rintro e w1 ⟨rfl, rfl⟩
  go_wp2_with fail
  refine (F2.out _).mono ?_
  rintro e w1 ⟨rfl, rfl⟩
  go_wp2_with fail
  refine (D1.out _).mono ?_
  rintro e w1 ⟨rfl, rfl⟩
  go_wp2_with fail
  refine (D2.out _).mono ?_
  rintro e w1 ⟨rfl, rfl⟩
  go_wp2_with fail
  refine (CA.out _).mono ?_
  rintro e w2 ⟨rfl, hb2⟩
  have Hb2 := Lib.hid hb2
  clear hb2
  go_wp2_with fail
  go_ret
  exact ⟨rfl, Hb2.out⟩

set_option maxHeartbeats 8000000 in
theorem moves_ok (s t f b : ByteArray) (hs : s.size ≤ maxLen) (ht : t.size ≤ maxLen) (hf : f.size ≤ maxLen) (hb : b.size ≤ maxLen) (lv : Nat) (h : lv ≤ 9) (w : World) :
    Calls Try.prog 15 #[.string s, .string t, .string f, .string b, .int .i64 (lv : Int)] w fun e w' => e = .returned (.bool true) ∧ Below w.heap.size w w' := by
  have CA := Lib.hid awake7_any
  have F1 := Lib.hid (fun W => few7_any s hs W)
  have F2 := Lib.hid (fun W => few7_any t ht W)
  have F3 := Lib.hid (fun W => few7_any f hf W)
  have F4 := Lib.hid (fun W => few7_any b hb W)
  obtain ⟨s', Hs⟩ : ∃ x, Hid (few s 500 = x) := ⟨_, Lib.hid (Eq.refl _)⟩
  obtain ⟨t', Ht⟩ : ∃ x, Hid (few t 500 = x) := ⟨_, Lib.hid (Eq.refl _)⟩
  obtain ⟨f', Hf⟩ : ∃ x, Hid (few f 500 = x) := ⟨_, Lib.hid (Eq.refl _)⟩
  obtain ⟨b', Hb⟩ : ∃ x, Hid (few b 500 = x) := ⟨_, Lib.hid (Eq.refl _)⟩
  have ls : s'.size ≤ 500 := by rw [← Hs.out]; exact few_size _ _
  have lt : t'.size ≤ 500 := by rw [← Ht.out]; exact few_size _ _
  have lf : f'.size ≤ 500 := by rw [← Hf.out]; exact few_size _ _
  have lb : b'.size ≤ 500 := by rw [← Hb.out]; exact few_size _ _
  rw [Hs.out] at F1
  rw [Ht.out] at F2
  rw [Hf.out] at F3
  rw [Hb.out] at F4
  have D1 := Lib.hid (fun W => deflate_small s' lv h (by omega) W)
  have D2 := Lib.hid (fun W => deflate_small t' lv h (by omega) W)
  have la := dflB_size s' lv
  have hab : ((dflB s' lv).toList == (dflB t' lv).toList) = (s'.toList == t'.toList) := by
    by_cases e : s' = t'
    · subst e; simp
    · have e2 : dflB s' lv ≠ dflB t' lv := fun x => e (dflB_inj s' t' lv (by omega) (by omega) x)
      rw [beq_eq_false_iff_ne.2 (fun x => e (ba_inj x)), beq_eq_false_iff_ne.2 (fun x => e2 (ba_inj x))]
  have hrd := dflB_reads s' lv 500 (by omega) ls
  obtain ⟨a, Ha⟩ : ∃ x, Hid (dflB s' lv = x) := ⟨_, Lib.hid (Eq.refl _)⟩
  obtain ⟨c, Hc⟩ : ∃ x, Hid (dflB t' lv = x) := ⟨_, Lib.hid (Eq.refl _)⟩
  rw [Ha.out] at D1 la hab hrd
  rw [Hc.out] at D2 hab
  obtain ⟨bs, σ, h1, h2, h3, _⟩ := hrd
  have CI := Lib.hid (fun W => inflate_is_ok (s := f' ++ a ++ b') (q := f'.size) (most := 500) (by rw [ByteArray.size_append, ByteArray.size_append]; omega) (by rw [ByteArray.size_append, ByteArray.size_append]; omega) (by decide) (app_extract7 f' a b') (infl_ext h1 b') W)
  have e1 : (8 * (a ++ b').size - (extS (8 * b'.size) (num b') σ).n + 7) / 8 = a.size := by
    have e2 : (extS (8 * b'.size) (num b') σ).n = σ.n + 8 * b'.size := rfl
    rw [e2, ByteArray.size_append]
    omega
  have e3 : (⟨(joinL [] bs).toArray⟩ : ByteArray) = s' := by rw [h2]
  rw [e1, e3] at CI
  have hov1 : ¬ 9223372036854775807 < f'.size + a.size := by omega
  have hov2 : ¬ 9223372036854775807 < (f' ++ a).size + b'.size := by rw [ByteArray.size_append]; omega
  obtain ⟨x, Hx⟩ : ∃ x, Hid (f' ++ a ++ b' = x) := ⟨_, Lib.hid (Eq.refl _)⟩
  rw [Hx.out] at CI
  obtain ⟨β, Hβ⟩ : ∃ x, Hid ((s'.toList == t'.toList) = x) := ⟨_, Lib.hid (Eq.refl _)⟩
  rw [Hβ.out] at hab
  have hst := Hβ.out
  have hββ : (β == β) = true := by simp
  clear h hs ht hf hb ls lt lf lb la h1 h2 h3 e1 e3
  go_enter Try.func15, Try.ntmps15
  go_wp2_with fail
  refine (F1.out _).mono ?_
  rintro e w1 ⟨rfl, rfl⟩
  go_wp2_with fail
  refine (F2.out _).mono ?_
  rintro e w1 ⟨rfl, rfl⟩
  go_wp2_with fail
  refine (D1.out _).mono ?_
  rintro e w1 ⟨rfl, hb1⟩
  have Hb1 := Lib.hid hb1
  clear hb1
  go_wp2_with fail
  refine (D2.out _).mono ?_
  rintro e w2 ⟨rfl, hb2⟩
  have Hb2 := Lib.hid (bthen Hb1.out hb2)
  clear hb2
  go_wp2_with fail
  refine (F3.out _).mono ?_
  rintro e w3 ⟨rfl, rfl⟩
  go_wp2_with fail
  refine (F4.out _).mono ?_
  rintro e w3 ⟨rfl, rfl⟩
  go_wp2_with fail
  refine (F3.out _).mono ?_
  rintro e w3 ⟨rfl, rfl⟩
  go_wp2_with fail
  rw [Hx.out]
  refine (CI.out _).mono ?_
  rintro e w3 ⟨rfl, hb3⟩
  have Hb3 := Lib.hid (bthen Hb2.out hb3)
  clear hb3
  go_wp2_with fail
  refine (CA.out _).mono ?_
  rintro e w4 ⟨rfl, hb4⟩
  have Hb4 := Lib.hid (bthen Hb3.out hb4)
  clear hb4
  go_wp2_with fail
  go_ret
  exact ⟨rfl, Hb4.out⟩
theorem moves_any (s t f b : ByteArray) (hs : s.size ≤ maxLen) (ht : t.size ≤ maxLen) (hf : f.size ≤ maxLen) (hb : b.size ≤ maxLen) (lv : Int) (w : World) :
    Calls Try.prog 15 #[.string s, .string t, .string f, .string b, .int .i64 lv] w fun e w' => e = .returned (.bool true) ∧ Below w.heap.size w w' := by
  by_cases h : lv < 0 ∨ 9 < lv
  · exact moves_bad s t f b hs ht lv h w
  · obtain ⟨k, rfl⟩ : ∃ k : Nat, lv = (k : Int) := ⟨lv.toNat, by omega⟩
    exact moves_ok s t f b hs ht hf hb k (by omega) w
end Go.Proofs.Ytjnglahjngiofaa
