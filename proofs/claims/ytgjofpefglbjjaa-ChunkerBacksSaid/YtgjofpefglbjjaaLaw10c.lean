/- The walks of ChunkerWhole and ChunkerEven. Conditions: a text that Go can hold. -/
import Derived.Test.YtgjofpefglbjjaaLaw10a
import Derived.Test.YtgjofpefglbjjaaChunkQ
namespace Go.Proofs.Ytgjofpefglbjjaa
open Go.RowKit
set_option maxRecDepth 100000

theorem csplit_len (mn b mx : Nat) (l : List UInt8) : (csplit mn b mx l).length ≤ l.length + 1 := by
  have h1 := crun_out_le mn b mx c0 l
  rw [show c0.out.length = 0 from rfl] at h1
  have h2 : (rest1 (crun mn b mx c0 l).begun).length ≤ 1 := by unfold rest1; split <;> simp
  unfold csplit
  rw [List.length_append]
  omega

theorem take_flat_le (L : List (List UInt8)) (k : Nat) : (L.take k).flatten.length ≤ L.flatten.length := by
  have h : L.flatten = (L.take k).flatten ++ (L.drop k).flatten := by rw [← List.flatten_append, List.take_append_drop]
  rw [h, List.length_append]
  omega
theorem whole_no (s : ByteArray) (hs : s.size ≤ maxLen) (mn b mx : Int) (hn : kErr mn b mx ≠ 0) (w : World) :
    Calls Try.prog 11 #[.string s, .agg #[.int .i64 mn, .int .i64 b, .int .i64 mx]] w fun e w' => e = .returned (.bool true) ∧ Below w.heap.size w w' := by
  have hb0 := (Below.refl w.heap.size w).alloc (Nat.le_refl _) (.cells #[.int .i64 mn, .int .i64 b, .int .i64 mx] 41)
  have CF := Lib.hid (fun W => few_any s 3000 (by decide) hs W)
  obtain ⟨t, ht⟩ : ∃ t, few s 3000 = t := ⟨_, rfl⟩
  rw [ht] at CF
  have cs := fun W => split_no t mn b mx hn W
  obtain ⟨e, he⟩ : ∃ e, kErr mn b mx = e := ⟨_, rfl⟩
  rw [he] at hn cs
  have CP := Lib.hid cs
  have hne : ((e : Int) != 0) = true := by simp; omega
  have HB := Lib.hid hb0
  clear he hn cs ht hb0
  go_enter Try.func11, Try.ntmps11
  go_wp2_with fail
  refine (CF.out _).mono ?_
  rintro e w1 ⟨rfl, rfl⟩
  go_wp2_with fail
  refine (CP.out _).mono ?_
  rintro e w2 ⟨rfl, hb2⟩
  have HB2 := Lib.hid (bthen HB.out hb2)
  clear HB hb2
  go_wp2_with fail
  refine (awake10 _).mono ?_
  rintro e w5 ⟨rfl, hb5⟩
  go_wp2_with fail
  go_ret
  exact ⟨rfl, bthen HB2.out hb5⟩


set_option maxHeartbeats 2000000 in
theorem whole_yes (s : ByteArray) (hs : s.size ≤ maxLen) (mn b mx : Nat) (hm : 1 ≤ mn) (hmm : mn ≤ mx) (hb : b ≤ 20) (hx : mx ≤ 4096) (hn : kErr mn b mx = 0) (w : World) :
    Calls Try.prog 11 #[.string s, .agg #[.int .i64 (mn : Int), .int .i64 (b : Int), .int .i64 (mx : Int)]] w fun e w' => e = .returned (.bool true) ∧ Below w.heap.size w w' := by
  have hb0 := (Below.refl w.heap.size w).alloc (Nat.le_refl _) (.cells #[.int .i64 (mn : Int), .int .i64 (b : Int), .int .i64 (mx : Int)] 41)
  have hcf := Blk.new w 41 #[.int .i64 (mn : Int), .int .i64 (b : Int), .int .i64 (mx : Int)]
  have CF := Lib.hid (fun W => few_any s 3000 (by decide) hs W)
  have hfs := few_size s 3000
  obtain ⟨t, ht⟩ : ∃ t, few s 3000 = t := ⟨_, rfl⟩
  rw [ht] at CF hfs
  have CP := Lib.hid (fun W => split_yes t (by omega) mn b mx hb hx hn W)
  have hcl := csplit_len mn b mx t.data.toList
  rw [show t.data.toList.length = t.size by simp] at hcl
  have Hck := Lib.hid (ck_split mn b mx t.data.toList)
  obtain ⟨L, HL⟩ : ∃ L, Hid (csplit mn b mx t.data.toList = L) := ⟨_, Lib.hid (Eq.refl _)⟩
  rw [HL.out] at hcl CP Hck
  obtain ⟨N, HN⟩ : ∃ N, Hid (L.length = N) := ⟨_, Lib.hid (Eq.refl _)⟩
  have Hmost := Lib.hid (Hck.out.most (by omega : 1 ≤ mx))
  have Hleast := Lib.hid (Hck.out.least hmm)
  have Hne : Hid (∀ j (hj : j < L.length), L[j] ≠ []) := fun j hj => by obtain ⟨u, _, h, _⟩ := Hck.out.at j hj; exact h
  have Hflat := Lib.hid Hck.out.flat
  have HB := Lib.hid hb0
  have HC := Lib.hid hcf
  have hlt : w.heap.size < (w.alloc (.cells #[.int .i64 (mn : Int), .int .i64 (b : Int), .int .i64 (mx : Int)] 41)).heap.size := by simp
  rw [HN.out] at hcl
  clear hn ht hb0 hcf hb Hck
  go_enter Try.func11, Try.ntmps11
  go_wp2_with fail
  refine (CF.out _).mono ?_
  rintro e w1 ⟨rfl, rfl⟩
  generalize w.alloc (.cells #[.int .i64 (mn : Int), .int .i64 (b : Int), .int .i64 (mx : Int)] 41) = w1 at *
  obtain ⟨P, HP⟩ : ∃ P, Hid (w.heap.size = P) := ⟨_, Lib.hid (Eq.refl _)⟩
  rw [HP.out] at HC hlt ⊢
  obtain ⟨c0, c1, c2⟩ := conf_cells HC.out
  go_wp2_with fail
  refine (CP.out _).mono ?_
  rintro e w2 ⟨v1, rfl, hO1, hb2⟩
  have HB2 := Lib.hid (bthen HB.out hb2)
  have HC2 := Lib.hid (HC.out.below hb2 hlt)
  obtain ⟨a, cap, rfl, hv⟩ := hO1.view
  have Hv := Lib.hid hv
  rw [HN.out]
  clear HB HC hlt hb2 hO1 hv c0 c1 c2
  obtain ⟨c0, c1, c2⟩ := conf_cells HC2.out
  go_wp2_with fail
  go_loop [7, 8, 9, 28] (fun all _ _ i => ∃ (k : Nat) (T : ByteArray), k ≤ N ∧ all = .string T ∧ i = .int .i64 (k : Int) ∧ Hid (T.data.toList = (L.take k).flatten)) (fun _ _ _ i => N - (intOf i).toNat)
  case atStart => exact ⟨0, _, by omega, rfl, rfl, rfl⟩
  case round =>
    obtain ⟨k, T, hk, rfl, rfl, HT⟩ := hrel
    by_cases hlt : k < N
    · have hkl : k < L.length := by rw [HN.out]; exact hlt
      obtain ⟨g, rfl, hc⟩ := Hv.out k hkl
      have hm1 := Hmost.out k hkl
      have hl1 := Hleast.out k hkl
      rw [HN.out] at hl1
      have hn1 := Hne.out k hkl
      have Htk := Lib.hid (take_flat k hkl)
      obtain ⟨x, Hx⟩ : ∃ x : ByteArray, Hid ((⟨L[k].toArray⟩ : ByteArray) = x) := ⟨_, Lib.hid (Eq.refl _)⟩
      have Hxl : Hid (x.data.toList = L[k]) := by show _ = _; rw [← Hx.out]
      rw [← Hxl.out] at hm1 hl1 hn1
      rw [show x.data.toList.length = x.size by simp] at hm1 hl1
      rw [Hx.out] at hc
      have hx0 : (x.toList == []) = false := by
        rw [ByteArray.toList_eq]
        simpa using hn1
      have hgt : decide (mx < x.size) = false := by simp; omega
      have hTs : T.size + x.size ≤ 3000 := by
        have h1 := take_flat_le L (k + 1)
        rw [Htk.out, Hflat.out, List.length_append, ← HT.out, ← Hxl.out] at h1
        rw [show T.data.toList.length = T.size by simp, show x.data.toList.length = x.size by simp, show t.data.toList.length = t.size by simp] at h1
        omega
      clear hn1
      by_cases hlast : k + 1 < N
      · have hmx2 := hl1 hlast
        have hle : decide (x.size < mn) = false := by simp; omega
        have hkd : decide ((k : Int) + 1 < (N : Int)) = true := by simp; omega
        clear hl1
        go_wp2_with fail
        go_round
        case rel =>
          exact ⟨k + 1, _, by omega, rfl, by go_num, by show _ = _; rw [ByteArray.data_append, Array.toList_append, HT.out, Htk.out, Hxl.out]⟩
        case measure => simp [intOf]; omega
      · have hkd : decide ((k : Int) + 1 < (N : Int)) = false := by simp; omega
        clear hl1
        go_wp2_with fail
        go_round
        case rel =>
          exact ⟨k + 1, _, by omega, rfl, by go_num, by show _ = _; rw [ByteArray.data_append, Array.toList_append, HT.out, Htk.out, Hxl.out]⟩
        case measure => simp [intOf]; omega
    · obtain rfl : k = N := by omega
      have hTt : T = t := by
        have h1 := HT.out
        rw [List.take_of_length_le (by rw [HN.out]; exact Nat.le_refl _), Hflat.out] at h1
        cases T; cases t; congr 1; exact Array.toList_inj.1 h1
      subst hTt
      clear c0 c1 c2
      go_wp2_with fail
      refine (awake10 _).mono ?_
      rintro e w5 ⟨rfl, hb5⟩
      go_wp2_with fail
      go_ret
      exact ⟨rfl, bthen HB2.out hb5⟩

theorem whole_any (s : ByteArray) (hs : s.size ≤ maxLen) (mn b mx : Int) (w : World) :
    Calls Try.prog 11 #[.string s, .agg #[.int .i64 mn, .int .i64 b, .int .i64 mx]] w fun e w' => e = .returned (.bool true) ∧ Below w.heap.size w w' := by
  by_cases h : kErr mn b mx = 0
  · obtain ⟨m, b', x, rfl, rfl, rfl, h1, h2, h3, h4⟩ := kerr_ok h
    exact whole_yes s hs m b' x h1 h2 h3 h4 h w
  · exact whole_no s hs mn b mx h w
end Go.Proofs.Ytgjofpefglbjjaa
