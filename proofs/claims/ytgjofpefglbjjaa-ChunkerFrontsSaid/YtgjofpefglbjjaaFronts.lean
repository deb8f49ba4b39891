/- ChunkerFronts' walk. Conditions: texts that Go can hold. -/
import Derived.Test.YtgjofpefglbjjaaLaw10c
import Derived.Deep.RegionHeld3
namespace Go.Proofs.Ytgjofpefglbjjaa
open Go.RowKit
set_option maxRecDepth 100000

/-- Texts that begin alike: chunk i of the one is that of the other. -/
theorem fronts_step {mn b mx : Nat} {L M : List (List UInt8)} {f a c : List UInt8} (k1 : CK (cend mn b mx) [] L (f ++ a)) (k2 : CK (cend mn b mx) [] M (f ++ c)) (i : Nat) (hi : i + 1 < L.length)
    (hf : (L.take (i + 1)).flatten.length ≤ f.length) (he : L.take i = M.take i) : ∃ h : i < M.length, M[i] = L[i] := by
  obtain ⟨u1, e1, hx, f1, g1, k1', h3⟩ := k1.at i (by omega)
  obtain ⟨u2, e2, k2'⟩ := k2.drop i
  rw [← he] at e2 k2'
  rw [take_flat i (by omega), List.length_append] at hf
  have hu1 := h3.1 hi
  -- the rest of the second text begins with the chunk, too
  have hfr : ∃ r, f = (L.take i).flatten ++ L[i] ++ r := by
    have h := congrArg (List.take ((L.take i).flatten ++ L[i]).length) e1
    rw [← List.append_assoc, List.take_left' rfl, List.take_append_of_le_length (by simpa using hf)] at h
    have h2 := List.take_append_drop ((L.take i).flatten ++ L[i]).length f
    rw [h] at h2
    exact ⟨_, h2.symm⟩
  obtain ⟨r, hr⟩ := hfr
  have hu2 : u2 = L[i] ++ (r ++ c) := by
    rw [hr] at e2
    simp only [List.append_assoc] at e2
    exact (List.append_cancel_left e2).symm
  rw [hu2] at k2'
  obtain ⟨s, hs, _⟩ := CK.front hx f1 (g1 hu1) k2'
  have hlt : i < M.length := by
    rcases Nat.lt_or_ge i M.length with h | h
    · exact h
    · rw [List.drop_of_length_le h] at hs; cases hs
  refine ⟨hlt, ?_⟩
  rw [List.drop_eq_getElem_cons hlt] at hs
  exact (List.cons.inj hs).1

theorem conf_held {w0 W W' : World} {P : Nat} {a b c : Value} (h : W.cell? ⟨P, 0, none⟩ = some a ∧ W.cell? ⟨P, 1, none⟩ = some b ∧ W.cell? ⟨P, 2, none⟩ = some c ∧ P < W.heap.size ∧ Below w0.heap.size w0 W) (hb : Below W.heap.size W W') :
    W'.cell? ⟨P, 0, none⟩ = some a ∧ W'.cell? ⟨P, 1, none⟩ = some b ∧ W'.cell? ⟨P, 2, none⟩ = some c ∧ P < W'.heap.size ∧ Below w0.heap.size w0 W' := by
  obtain ⟨h0, h1, h2, h3, h4⟩ := h
  exact ⟨(hb.cell h3).trans h0, (hb.cell h3).trans h1, (hb.cell h3).trans h2, Nat.lt_of_lt_of_le h3 hb.size, bthen h4 hb⟩
set_option maxHeartbeats 2000000 in
theorem fronts_no (s p q : ByteArray) (hs : s.size ≤ maxLen) (hp : p.size ≤ maxLen) (hq : q.size ≤ maxLen) (mn b mx : Int) (hn : kErr mn b mx ≠ 0) (w : World) :
    Calls Try.prog 12 #[.string s, .string p, .string q, .agg #[.int .i64 mn, .int .i64 b, .int .i64 mx]] w fun e w' => e = .returned (.bool true) ∧ Below w.heap.size w w' := by
  have hb0 := (Below.refl w.heap.size w).alloc (Nat.le_refl _) (.cells #[.int .i64 mn, .int .i64 b, .int .i64 mx] 41)
  have hcf := Blk.new w 41 #[.int .i64 mn, .int .i64 b, .int .i64 mx]
  have hlt : w.heap.size < (w.alloc (.cells #[.int .i64 mn, .int .i64 b, .int .i64 mx] 41)).heap.size := by simp
  have CF := Lib.hid (fun W => few_any s 1500 (by decide) hs W)
  have CG := Lib.hid (fun W => few_any p 1500 (by decide) hp W)
  have CH := Lib.hid (fun W => few_any q 1500 (by decide) hq W)
  have z1 := few_size s 1500
  have z2 := few_size p 1500
  have z3 := few_size q 1500
  obtain ⟨t, ht⟩ : ∃ t, few s 1500 = t := ⟨_, rfl⟩
  obtain ⟨x, hx⟩ : ∃ t, few p 1500 = t := ⟨_, rfl⟩
  obtain ⟨y, hy⟩ : ∃ t, few q 1500 = t := ⟨_, rfl⟩
  rw [ht] at CF z1
  rw [hx] at CG z2
  rw [hy] at CH z3
  have hov1 : ¬ 9223372036854775807 < t.size + x.size := by omega
  have hov2 : ¬ 9223372036854775807 < t.size + y.size := by omega
  have cs := fun t W => split_no t mn b mx hn W
  obtain ⟨e, he⟩ : ∃ e, kErr mn b mx = e := ⟨_, rfl⟩
  rw [he] at hn cs
  have CQ := Lib.hid cs
  have hne : ((e : Int) != 0) = true := by simp; omega
  have hee : ((e : Int) == (e : Int)) = true := by simp
  have hee2 : ((e : Int) != (e : Int)) = false := by simp
  have HB := Lib.hid hb0
  have HC := Lib.hid hcf
  clear he hn cs ht hx hy hb0 hcf
  go_enter Try.func12, Try.ntmps12
  go_wp2_with fail
  generalize w.alloc (.cells #[.int .i64 mn, .int .i64 b, .int .i64 mx] 41) = w1 at *
  obtain ⟨P, HP⟩ : ∃ P, Hid (w.heap.size = P) := ⟨_, Lib.hid (Eq.refl _)⟩
  rw [HP.out] at HC hlt ⊢
  refine (CF.out _).mono ?_
  rintro e w2 ⟨rfl, rfl⟩
  obtain ⟨c0, c1, c2⟩ := conf_cells HC.out
  go_wp2_with fail
  have hB0 := HB.out.drew
  clear CF
  go_region_held3 (fun W => W.cell? ⟨P, 0, none⟩ = some (.int .i64 mn) ∧ W.cell? ⟨P, 1, none⟩ = some (.int .i64 b) ∧ W.cell? ⟨P, 2, none⟩ = some (.int .i64 mx) ∧ P < W.heap.size ∧ Below w.heap.size w W)
    (first | go_keep | exact conf_held (by assumption) (by assumption))
    (first
      | (go_at_call 29; refine (CG.out _).mono ?_; rintro e w3 ⟨rfl, rfl⟩)
      | (go_at_call 30; refine (CQ.out _ _).mono ?_; rintro e w3 ⟨rfl, hb2⟩))
  rename_i hh
  obtain ⟨c0', c1', c2', hP', HB2'⟩ := hh
  have HB2 := Lib.hid HB2'
  clear HB HC hlt c0 c1 c2 hB0 HB2' hb2
  go_wp2_with fail
  have hB0 := HB2.out.drew
  go_region_held3 (fun W => W.cell? ⟨P, 0, none⟩ = some (.int .i64 mn) ∧ W.cell? ⟨P, 1, none⟩ = some (.int .i64 b) ∧ W.cell? ⟨P, 2, none⟩ = some (.int .i64 mx) ∧ P < W.heap.size ∧ Below w.heap.size w W)
    (first | go_keep | exact conf_held (by assumption) (by assumption))
    (first
      | (go_at_call 29; refine (CH.out _).mono ?_; rintro e w4 ⟨rfl, rfl⟩)
      | (go_at_call 30; refine (CQ.out _ _).mono ?_; rintro e w4 ⟨rfl, hb2⟩))
  rename_i hh
  have HB4 := Lib.hid hh.2.2.2.2
  clear hh c0' c1' c2' hP' hB0 HB2 hb2
  go_wp2_with fail
  refine (awake10 _).mono ?_
  rintro e w5 ⟨rfl, hb5⟩
  go_wp2_with fail
  go_ret
  exact ⟨rfl, bthen HB4.out hb5⟩

set_option maxHeartbeats 4000000 in
theorem fronts_yes (s p q : ByteArray) (hs : s.size ≤ maxLen) (hp : p.size ≤ maxLen) (hq : q.size ≤ maxLen) (mn b mx : Nat) (hb : b ≤ 20) (hx : mx ≤ 4096) (hn : kErr mn b mx = 0) (w : World) :
    Calls Try.prog 12 #[.string s, .string p, .string q, .agg #[.int .i64 (mn : Int), .int .i64 (b : Int), .int .i64 (mx : Int)]] w fun e w' => e = .returned (.bool true) ∧ Below w.heap.size w w' := by
  have hb0 := (Below.refl w.heap.size w).alloc (Nat.le_refl _) (.cells #[.int .i64 (mn : Int), .int .i64 (b : Int), .int .i64 (mx : Int)] 41)
  have hcf := Blk.new w 41 #[.int .i64 (mn : Int), .int .i64 (b : Int), .int .i64 (mx : Int)]
  have hlt : w.heap.size < (w.alloc (.cells #[.int .i64 (mn : Int), .int .i64 (b : Int), .int .i64 (mx : Int)] 41)).heap.size := by simp
  have CF := Lib.hid (fun W => few_any s 1500 (by decide) hs W)
  have CG := Lib.hid (fun W => few_any p 1500 (by decide) hp W)
  have CH := Lib.hid (fun W => few_any q 1500 (by decide) hq W)
  have z1 := few_size s 1500
  have z2 := few_size p 1500
  have z3 := few_size q 1500
  obtain ⟨t, ht⟩ : ∃ t, few s 1500 = t := ⟨_, rfl⟩
  obtain ⟨x, hxx⟩ : ∃ t, few p 1500 = t := ⟨_, rfl⟩
  obtain ⟨y, hyy⟩ : ∃ t, few q 1500 = t := ⟨_, rfl⟩
  rw [ht] at CF z1
  rw [hxx] at CG z2
  rw [hyy] at CH z3
  have hov1 : ¬ 9223372036854775807 < t.size + x.size := by omega
  have hov2 : ¬ 9223372036854775807 < t.size + y.size := by omega
  have l1 := csplit_len mn b mx (t ++ x).data.toList
  have l2 := csplit_len mn b mx (t ++ y).data.toList
  have k1 := ck_split mn b mx (t ++ x).data.toList
  have k2 := ck_split mn b mx (t ++ y).data.toList
  have ca := fun W => split_yes (t ++ x) (by simp; omega) mn b mx hb hx hn W
  have cb := fun W => split_yes (t ++ y) (by simp; omega) mn b mx hb hx hn W
  obtain ⟨L, HL⟩ : ∃ L, Hid (csplit mn b mx (t ++ x).data.toList = L) := ⟨_, Lib.hid (Eq.refl _)⟩
  obtain ⟨M, HM⟩ : ∃ L, Hid (csplit mn b mx (t ++ y).data.toList = L) := ⟨_, Lib.hid (Eq.refl _)⟩
  rw [HL.out] at l1 k1 ca
  rw [HM.out] at l2 k2 cb
  rw [show (t ++ x).data.toList.length = t.size + x.size by simp] at l1
  rw [show (t ++ y).data.toList.length = t.size + y.size by simp] at l2
  rw [ByteArray.data_append, Array.toList_append] at k1 k2
  have Hst := Lib.hid (fun i hi hf he => fronts_step k1 k2 i hi hf he)
  have hfl : L.flatten.length = t.size + x.size := by rw [k1.flat]; simp
  have htl : t.data.toList.length = t.size := by simp
  rw [htl] at Hst
  have Hfl := Lib.hid hfl
  obtain ⟨N, HN⟩ : ∃ N, Hid (L.length = N) := ⟨_, Lib.hid (Eq.refl _)⟩
  obtain ⟨K, HK⟩ : ∃ N, Hid (M.length = N) := ⟨_, Lib.hid (Eq.refl _)⟩
  rw [HN.out] at l1
  rw [HK.out] at l2
  have CA := Lib.hid ca
  have CB := Lib.hid cb
  have HB := Lib.hid hb0
  have HC := Lib.hid hcf
  clear hn ht hxx hyy hb0 hcf ca cb k1 k2 hfl htl
  go_enter Try.func12, Try.ntmps12
  go_wp2_with fail
  generalize w.alloc (.cells #[.int .i64 (mn : Int), .int .i64 (b : Int), .int .i64 (mx : Int)] 41) = w1 at *
  obtain ⟨P, HP⟩ : ∃ P, Hid (w.heap.size = P) := ⟨_, Lib.hid (Eq.refl _)⟩
  rw [HP.out] at HC hlt ⊢
  refine (CF.out _).mono ?_
  rintro e w2 ⟨rfl, rfl⟩
  obtain ⟨c0, c1, c2⟩ := conf_cells HC.out
  go_wp2_with fail
  have hB0 := HB.out.drew
  clear CF
  go_region_held3 (fun W => W.cell? ⟨P, 0, none⟩ = some (.int .i64 (mn : Int)) ∧ W.cell? ⟨P, 1, none⟩ = some (.int .i64 (b : Int)) ∧ W.cell? ⟨P, 2, none⟩ = some (.int .i64 (mx : Int)) ∧ P < W.heap.size ∧ Below w.heap.size w W)
    (first | go_keep | exact conf_held (by assumption) (by assumption))
    (first
      | (go_at_call 29; refine (CG.out _).mono ?_; rintro e w3 ⟨rfl, rfl⟩)
      | (go_at_call 30; refine (CA.out _).mono ?_; rintro e w3 ⟨v1, rfl, hO1, hb2⟩))
  rename_i hh
  obtain ⟨c0', c1', c2', hP', HB2'⟩ := hh
  have HB2 := Lib.hid HB2'
  have HO1 := Lib.hid hO1
  clear HB HC hlt c0 c1 c2 hB0 HB2' hb2 hO1
  go_wp2_with fail
  have hB0 := HB2.out.drew
  go_region_held3 (fun W => W.cell? ⟨P, 0, none⟩ = some (.int .i64 (mn : Int)) ∧ W.cell? ⟨P, 1, none⟩ = some (.int .i64 (b : Int)) ∧ W.cell? ⟨P, 2, none⟩ = some (.int .i64 (mx : Int)) ∧ P < W.heap.size ∧ Below w.heap.size w W)
    (first | go_keep | exact conf_held (by assumption) (by assumption))
    (first
      | (go_at_call 29; refine (CH.out _).mono ?_; rintro e w4 ⟨rfl, rfl⟩)
      | (go_at_call 30; refine (CB.out _).mono ?_; rintro e w4 ⟨v2, rfl, hO2, hb2⟩))
  rename_i hh
  have HB4 := Lib.hid hh.2.2.2.2
  have hO14 := OwnS.below (w := w3.drew) (show OwnS w3.drew _ _ _ from HO1.out) hb2 (Nat.le_refl _)
  obtain ⟨a1, cap1, rfl, hv1⟩ := hO14.view
  obtain ⟨a2, cap2, rfl, hv2⟩ := hO2.view
  have Hv1 := Lib.hid hv1
  have Hv2 := Lib.hid hv2
  rw [HN.out, HK.out]
  clear hh c0' c1' c2' hP' hB0 HB2 hb2 HO1 hO14 hO2 hv1 hv2
  go_wp2_with fail
  go_loopw [13, 14, 60] (fun at_ _ i wr => ∃ k A nq : Nat, k ≤ N ∧ i = .int .i64 (k : Int) ∧ at_ = .int .i64 (A : Int) ∧ Hid (A = (L.take k).flatten.length) ∧ Hid (L.take k = M.take k) ∧ Hid (wr = w4.drewN nq))
    (fun _ _ i _ => N - (intOf i).toNat)
  case atStart => exact ⟨0, 0, 0, by omega, rfl, rfl, rfl, rfl, rfl⟩
  case round =>
    obtain ⟨k, A, nq, hk, rfl, rfl, HA, HT, HW⟩ := hrel
    by_cases hlt : k < N
    · have hkl : k < L.length := by rw [HN.out]; exact hlt
      obtain ⟨g, rfl, hc0⟩ := Hv1.out k hkl
      have hc : wr.cell? ⟨g, k, none⟩ = some (.string ⟨L[k].toArray⟩) := by rw [HW.out]; exact hc0
      have Htk := Lib.hid (take_flat k hkl)
      have hAl := take_flat_le L (k + 1)
      obtain ⟨z, Hz⟩ : ∃ x : ByteArray, Hid ((⟨L[k].toArray⟩ : ByteArray) = x) := ⟨_, Lib.hid (Eq.refl _)⟩
      have Hzl : Hid (z.data.toList = L[k]) := by show _ = _; rw [← Hz.out]
      have hA2 : A + z.size = (L.take (k + 1)).flatten.length := by rw [Htk.out, List.length_append, ← HA.out, ← Hzl.out]; simp
      rw [Hz.out] at hc
      rw [← hA2, Hfl.out] at hAl
      have HA2 := Lib.hid hA2
      clear hA2 hc0
      by_cases hbr : t.size < A + z.size
      · have d0 : decide ((t.size : Int) < (A : Int) + (z.size : Int)) = true := by simp; omega
        go_wp2_with fail
        refine (awake10 _).mono ?_
        rintro e w5 ⟨rfl, hb5⟩
        go_wp2_with fail
        go_ret
        exact ⟨rfl, bthen (below_drewN HB4.out nq) (HW.out ▸ hb5)⟩
      · have d0 : decide ((t.size : Int) < (A : Int) + (z.size : Int)) = false := by simp; omega
        by_cases hlast : k + 1 = N
        · have d1 : ((k : Int) + 1 == (N : Int)) = true := by simp; omega
          clear hlast
          go_wp2_with fail
          refine (awake10 _).mono ?_
          rintro e w5 ⟨rfl, hb5⟩
          go_wp2_with fail
          go_ret
          exact ⟨rfl, bthen (below_drewN HB4.out nq) (HW.out ▸ hb5)⟩
        · have d1 : ((k : Int) + 1 == (N : Int)) = false := by simp; omega
          obtain ⟨hkm, hML⟩ := Hst.out k (by rw [HN.out]; omega) (by rw [← HA2.out]; omega) HT.out
          have hkK : k < K := by rw [← HK.out]; exact hkm
          have d2 : decide ((K : Int) ≤ (k : Int)) = false := by simp; omega
          obtain ⟨g2, rfl, hc2⟩ := Hv2.out k hkm
          have hcm : wr.cell? ⟨g2, k, none⟩ = some (.string z) := by rw [HW.out, ← Hz.out, ← hML]; exact hc2
          have HT2 : Hid (L.take (k + 1) = M.take (k + 1)) := by
            show _ = _
            rw [List.take_succ_eq_append_getElem hkl, List.take_succ_eq_append_getElem hkm, HT.out, hML]
          have hzz : (!z.toList == z.toList) = false := by simp
          clear hc2 hML hkm
          go_wp2_with fail
          go_quiet (fail)
          all_goals
            go_wp2_with fail
            go_roundw
            case rel => exact ⟨k + 1, A + z.size, _, by omega, by go_num, by go_num, HA2, HT2, by show _ = _; rw [HW.out, World.drewN_drewN]⟩
            case measure => simp [intOf]; omega
    · obtain rfl : k = N := by omega
      go_wp2_with fail
      refine (awake10 _).mono ?_
      rintro e w5 ⟨rfl, hb5⟩
      go_wp2_with fail
      go_ret
      exact ⟨rfl, bthen (below_drewN HB4.out nq) (HW.out ▸ hb5)⟩

theorem fronts_any (s p q : ByteArray) (hs : s.size ≤ maxLen) (hp : p.size ≤ maxLen) (hq : q.size ≤ maxLen) (mn b mx : Int) (w : World) :
    Calls Try.prog 12 #[.string s, .string p, .string q, .agg #[.int .i64 mn, .int .i64 b, .int .i64 mx]] w fun e w' => e = .returned (.bool true) ∧ Below w.heap.size w w' := by
  by_cases h : kErr mn b mx = 0
  · obtain ⟨m, b', x, rfl, rfl, rfl, h1, h2, h3, h4⟩ := kerr_ok h
    exact fronts_yes s p q hs hp hq m b' x h3 h4 h w
  · exact fronts_no s p q hs hp hq mn b mx h w
end Go.Proofs.Ytgjofpefglbjjaa
