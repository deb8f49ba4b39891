/- ChunkerSplits' walk. Conditions: a text that Go can hold. -/
import Derived.Test.YtgjofpefglbjjaaKRef
namespace Go.Proofs.Ytgjofpefglbjjaa
open Go.RowKit
set_option maxRecDepth 100000

theorem conf_cells {w : World} {P : Nat} {a b c : Int} (h : Blk w P 41 #[.int .i64 a, .int .i64 b, .int .i64 c]) :
    w.cell? ⟨P, 0, none⟩ = some (.int .i64 a) ∧ w.cell? ⟨P, 1, none⟩ = some (.int .i64 b) ∧ w.cell? ⟨P, 2, none⟩ = some (.int .i64 c) := by
  have c0 := h.cell 0
  have c1 := h.cell 1
  have c2 := h.cell 2
  simp at c0 c1 c2
  exact ⟨c0, c1, c2⟩

set_option maxHeartbeats 2000000 in
theorem splits_no (s : ByteArray) (hs : s.size ≤ maxLen) (mn b mx : Int) (hn : kErr mn b mx ≠ 0) (w : World) :
    Calls Try.prog 9 #[.string s, .agg #[.int .i64 mn, .int .i64 b, .int .i64 mx]] w fun e w' => e = .returned (.bool true) ∧ Below w.heap.size w w' := by
  have hb0 := (Below.refl w.heap.size w).alloc (Nat.le_refl _) (.cells #[.int .i64 mn, .int .i64 b, .int .i64 mx] 41)
  have hcf := Blk.new w 41 #[.int .i64 mn, .int .i64 b, .int .i64 mx]
  have CF := Lib.hid (fun W => few_any s 500 (by decide) hs W)
  obtain ⟨t, ht⟩ : ∃ t, few s 500 = t := ⟨_, rfl⟩
  rw [ht] at CF
  have cs := fun W => split_no t mn b mx hn W
  have cr := fun W => rcheck_any mn b mx W
  have cn := fun W => new_no mn b mx hn W
  have ck := fun W => kcheck_any mn b mx W
  obtain ⟨e, he⟩ : ∃ e, kErr mn b mx = e := ⟨_, rfl⟩
  rw [he] at hn cs cr cn ck
  have CS := Lib.hid cs
  have CR := Lib.hid cr
  have CN := Lib.hid cn
  have CK := Lib.hid ck
  have hne : ((e : Int) != 0) = true := by simp; omega
  have hee : ((e : Int) != (e : Int)) = false := by simp
  have HB := Lib.hid hb0
  have HC := Lib.hid hcf
  have hlt : w.heap.size < (w.alloc (.cells #[.int .i64 mn, .int .i64 b, .int .i64 mx] 41)).heap.size := by simp
  clear he hn cs cr cn ck ht hb0 hcf
  go_enter Try.func9, Try.ntmps9
  go_wp2_with fail
  refine (CF.out _).mono ?_
  rintro e w1 ⟨rfl, rfl⟩
  generalize w.alloc (.cells #[.int .i64 mn, .int .i64 b, .int .i64 mx] 41) = w1 at *
  obtain ⟨P, HP⟩ : ∃ P, Hid (w.heap.size = P) := ⟨_, Lib.hid (Eq.refl _)⟩
  rw [HP.out] at HC hlt ⊢
  obtain ⟨c0, c1, c2⟩ := conf_cells HC.out
  go_wp2_with fail
  refine (CS.out _).mono ?_
  rintro e w2 ⟨rfl, hb2⟩
  have HB2 := Lib.hid (bthen HB.out hb2)
  have HC2 := Lib.hid (HC.out.below hb2 hlt)
  have hlt2 := Nat.lt_of_lt_of_le hlt hb2.size
  clear c0 c1 c2 HB HC hlt hb2
  obtain ⟨c0, c1, c2⟩ := conf_cells HC2.out
  go_wp2_with fail
  refine (CR.out _).mono ?_
  rintro e w3 ⟨rfl, rfl⟩
  go_wp2_with fail
  refine (CN.out _).mono ?_
  rintro e w4 ⟨rfl, hb4⟩
  have HB4 := Lib.hid (bthen HB2.out hb4)
  have HC4 := Lib.hid (HC2.out.below hb4 hlt2)
  have hlt4 := Nat.lt_of_lt_of_le hlt2 hb4.size
  clear c0 c1 c2 HB2 HC2 hlt2 hb4
  go_wp2_with fail
  refine (awake10 _).mono ?_
  rintro e w5 ⟨rfl, hb5⟩
  have HB5 := Lib.hid (bthen HB4.out hb5)
  have HC5 := Lib.hid (HC4.out.below hb5 hlt4)
  clear HB4 HC4 hlt4 hb5
  obtain ⟨c0, c1, c2⟩ := conf_cells HC5.out
  go_wp2_with fail
  refine (CK.out _).mono ?_
  rintro e w6 ⟨rfl, hb6⟩
  have HB6 := Lib.hid (bthen HB5.out hb6)
  clear c0 c1 c2 HB5 HC5 hb6
  go_wp2_with fail
  go_ret
  exact ⟨rfl, HB6.out⟩

set_option maxHeartbeats 2000000 in
theorem splits_yes (s : ByteArray) (hs : s.size ≤ maxLen) (mn b mx : Nat) (hb : b ≤ 20) (hx : mx ≤ 4096) (hn : kErr mn b mx = 0) (w : World) :
    Calls Try.prog 9 #[.string s, .agg #[.int .i64 (mn : Int), .int .i64 (b : Int), .int .i64 (mx : Int)]] w fun e w' => e = .returned (.bool true) ∧ Below w.heap.size w w' := by
  have hb0 := (Below.refl w.heap.size w).alloc (Nat.le_refl _) (.cells #[.int .i64 (mn : Int), .int .i64 (b : Int), .int .i64 (mx : Int)] 41)
  have hcf := Blk.new w 41 #[.int .i64 (mn : Int), .int .i64 (b : Int), .int .i64 (mx : Int)]
  have CF := Lib.hid (fun W => few_any s 500 (by decide) hs W)
  have hfs := few_size s 500
  obtain ⟨t, ht⟩ : ∃ t, few s 500 = t := ⟨_, rfl⟩
  rw [ht] at CF hfs
  have CS := Lib.hid (fun W => split_yes t (by omega) mn b mx hb hx hn W)
  have CX := Lib.hid (fun W => rsplit_any t mn b mx (by omega) hb hx W)
  have cr := fun W => rcheck_any mn b mx W
  have CN := Lib.hid (fun W => new_yes mn b mx hn W)
  have ck := fun W => kcheck_any mn b mx W
  have hcl : (csplit mn b mx t.data.toList).length ≤ 1000000 := by
    have h1 := crun_out_le mn b mx c0 t.data.toList
    rw [show c0.out.length = 0 from rfl, show t.data.toList.length = t.size by simp] at h1
    have h2 : (rest1 (crun mn b mx c0 t.data.toList).begun).length ≤ 1 := by unfold rest1; split <;> simp
    unfold csplit
    rw [List.length_append]
    omega
  obtain ⟨L, HL⟩ : ∃ L, Hid (csplit mn b mx t.data.toList = L) := ⟨_, Lib.hid (Eq.refl _)⟩
  rw [HL.out] at hcl CS CX
  rw [hn] at cr ck
  have CR := Lib.hid cr
  have CK := Lib.hid ck
  have HB := Lib.hid hb0
  have HC := Lib.hid hcf
  have hlt : w.heap.size < (w.alloc (.cells #[.int .i64 (mn : Int), .int .i64 (b : Int), .int .i64 (mx : Int)] 41)).heap.size := by simp
  clear hn cr ck ht hb0 hcf hfs hb hx
  go_enter Try.func9, Try.ntmps9
  go_wp2_with fail
  refine (CF.out _).mono ?_
  rintro e w1 ⟨rfl, rfl⟩
  generalize w.alloc (.cells #[.int .i64 (mn : Int), .int .i64 (b : Int), .int .i64 (mx : Int)] 41) = w1 at *
  obtain ⟨P, HP⟩ : ∃ P, Hid (w.heap.size = P) := ⟨_, Lib.hid (Eq.refl _)⟩
  rw [HP.out] at HC hlt ⊢
  obtain ⟨c0, c1, c2⟩ := conf_cells HC.out
  go_wp2_with fail
  refine (CS.out _).mono ?_
  rintro e w2 ⟨v1, rfl, hO1, hb2⟩
  have HB2 := Lib.hid (bthen HB.out hb2)
  have HC2 := Lib.hid (HC.out.below hb2 hlt)
  have hlt2 := Nat.lt_of_lt_of_le hlt hb2.size
  have HO1 := Lib.hid hO1
  clear c0 c1 c2 HB HC hlt hb2 hO1
  obtain ⟨c0, c1, c2⟩ := conf_cells HC2.out
  go_wp2_with fail
  refine (CR.out _).mono ?_
  rintro e w3 ⟨rfl, rfl⟩
  go_wp2_with fail
  refine (CN.out _).mono ?_
  rintro e w4 ⟨Q, rfl, _, _, hb4⟩
  have HB4 := Lib.hid (bthen HB2.out hb4)
  have HC4 := Lib.hid (HC2.out.below hb4 hlt2)
  have hlt4 := Nat.lt_of_lt_of_le hlt2 hb4.size
  have HO4 := Lib.hid (HO1.out.below hb4 (Nat.le_refl _))
  clear c0 c1 c2 HB2 HC2 hlt2 hb4 HO1
  go_wp2_with fail
  refine (awake10 _).mono ?_
  rintro e w5 ⟨rfl, hb5⟩
  have HB5 := Lib.hid (bthen HB4.out hb5)
  have HC5 := Lib.hid (HC4.out.below hb5 hlt4)
  have hlt5 := Nat.lt_of_lt_of_le hlt4 hb5.size
  have HO5 := Lib.hid (HO4.out.below hb5 (Nat.le_refl _))
  clear HB4 HC4 hlt4 hb5 HO4
  obtain ⟨c0, c1, c2⟩ := conf_cells HC5.out
  go_wp2_with fail
  refine (CK.out _).mono ?_
  rintro e w6 ⟨rfl, hb6⟩
  have HB6 := Lib.hid (bthen HB5.out hb6)
  have HC6 := Lib.hid (HC5.out.below hb6 hlt5)
  have HO6 := Lib.hid (HO5.out.below hb6 (Nat.le_refl _))
  clear c0 c1 c2 HB5 HC5 hb6 HO5 hlt5
  obtain ⟨c0, c1, c2⟩ := conf_cells HC6.out
  go_wp2_with fail
  refine (CX.out _).mono ?_
  rintro e w7 ⟨v2, rfl, hO2, hb7⟩
  have HB7 := Lib.hid (bthen HB6.out hb7)
  have HO7 := Lib.hid (HO6.out.below hb7 (Nat.le_refl _))
  have HO2 := Lib.hid hO2
  clear c0 c1 c2 HB6 HC6 hb7 HO6 hO2
  go_wp2_with fail
  refine (same_any _ _ v1 v2 L L hcl _ HO7.out HO2.out).mono ?_
  rintro e w8 ⟨rfl, nq, rfl⟩
  have hif : (if L = L then (0 : Int) else -1) = 0 := if_pos rfl
  rw [hif]
  go_wp2_with fail
  go_ret
  exact ⟨rfl, below_drewN HB7.out nq⟩

theorem splits_any (s : ByteArray) (hs : s.size ≤ maxLen) (mn b mx : Int) (w : World) :
    Calls Try.prog 9 #[.string s, .agg #[.int .i64 mn, .int .i64 b, .int .i64 mx]] w fun e w' => e = .returned (.bool true) ∧ Below w.heap.size w w' := by
  by_cases h : kErr mn b mx = 0
  · obtain ⟨m, b', x, rfl, rfl, rfl, _, _, h3, h4⟩ := kerr_ok h
    exact splits_yes s hs m b' x h3 h4 h w
  · exact splits_no s hs mn b mx h w
end Go.Proofs.Ytgjofpefglbjjaa
