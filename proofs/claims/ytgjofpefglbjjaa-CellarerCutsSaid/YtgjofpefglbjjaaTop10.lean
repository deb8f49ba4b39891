/- CellarerCuts' walk. Conditions: a text that Go can hold. -/
import Derived.Test.YtgjofpefglbjjaaLaw10c
import Derived.Test.YtgjofpefglbjjaaPolyB
namespace Go.Proofs.Ytgjofpefglbjjaa
open Go.RowKit
set_option maxRecDepth 100000

theorem fit283 : fitB 283 = true := by
  unfold fitB
  rw [Gf.len_lenF]
  decide +kernel
theorem pr283 : prB 283 = true := by
  unfold prB
  rw [fit283, Gf.len_lenF]
  decide +kernel
/-- What stands ahead of place n. -/
theorem ahead16 (t : List UInt8) (n : Nat) : (t.take n).drop (n - 16) = last16 (t.take n) ∨ t.length < n := by
  by_cases h : t.length < n
  · exact .inr h
  · left
    unfold last16
    rw [List.length_take, Nat.min_eq_left (by omega)]
theorem cuts_no (s : ByteArray) (hs : s.size ≤ maxLen) (mn b mx : Int) (hn : kErr mn b mx ≠ 0) (w : World) :
    Calls Try.prog 5 #[.string s, .agg #[.int .i64 mn, .int .i64 b, .int .i64 mx]] w fun e w' => e = .returned (.bool true) ∧ Below w.heap.size w w' := by
  have hb0 := (Below.refl w.heap.size w).alloc (Nat.le_refl _) (.cells #[.int .i64 mn, .int .i64 b, .int .i64 mx] 41)
  have hcf := Blk.new w 41 #[.int .i64 mn, .int .i64 b, .int .i64 mx]
  have hlt : w.heap.size < (w.alloc (.cells #[.int .i64 mn, .int .i64 b, .int .i64 mx] 41)).heap.size := by simp
  have CF := Lib.hid (fun W => few_any s 1500 (by decide) hs W)
  obtain ⟨t, ht⟩ : ∃ t, few s 1500 = t := ⟨_, rfl⟩
  rw [ht] at CF
  have cp := fun W => prime_any 283 (by decide) W
  simp only [show ((283 : Nat) : Int) = 283 from rfl, pr283] at cp
  have cs := fun W => split_no t mn b mx hn W
  have ck := fun W => kcheck_any mn b mx W
  obtain ⟨e, he⟩ : ∃ e, kErr mn b mx = e := ⟨_, rfl⟩
  rw [he] at hn cs ck
  have CP := Lib.hid cp
  have CQ := Lib.hid cs
  have CK' := Lib.hid ck
  have hne : ((e : Int) != 0) = true := by simp; omega
  have hee : ((e : Int) == (e : Int)) = true := by simp
  have HB := Lib.hid hb0
  have HC := Lib.hid hcf
  clear he hn cs ck cp ht hb0 hcf
  go_enter Try.func5, Try.ntmps5
  go_wp2_with fail
  generalize w.alloc (.cells #[.int .i64 mn, .int .i64 b, .int .i64 mx] 41) = w1 at *
  obtain ⟨P, HP⟩ : ∃ P, Hid (w.heap.size = P) := ⟨_, Lib.hid (Eq.refl _)⟩
  rw [HP.out] at HC hlt ⊢
  refine (CP.out _).mono ?_
  rintro e w2 ⟨rfl, rfl⟩
  go_wp2_with fail
  refine (CF.out _).mono ?_
  rintro e w2 ⟨rfl, rfl⟩
  obtain ⟨c0, c1, c2⟩ := conf_cells HC.out
  go_wp2_with fail
  refine (CQ.out _).mono ?_
  rintro e w2 ⟨rfl, hb2⟩
  have HB2 := Lib.hid (bthen HB.out hb2)
  have HC2 := Lib.hid (HC.out.below hb2 hlt)
  clear HB HC hlt hb2 c0 c1 c2
  obtain ⟨c0, c1, c2⟩ := conf_cells HC2.out
  go_wp2_with fail
  refine (CK'.out _).mono ?_
  rintro e w5 ⟨rfl, hb5⟩
  go_wp2_with fail
  go_ret
  exact ⟨rfl, bthen HB2.out hb5⟩

set_option maxHeartbeats 4000000 in
theorem cuts_yes (s : ByteArray) (hs : s.size ≤ maxLen) (mn b mx : Nat) (hb : b ≤ 20) (hx : mx ≤ 4096) (hn : kErr mn b mx = 0) (w : World) :
    Calls Try.prog 5 #[.string s, .agg #[.int .i64 (mn : Int), .int .i64 (b : Int), .int .i64 (mx : Int)]] w fun e w' => e = .returned (.bool true) ∧ Below w.heap.size w w' := by
  have hb0 := (Below.refl w.heap.size w).alloc (Nat.le_refl _) (.cells #[.int .i64 (mn : Int), .int .i64 (b : Int), .int .i64 (mx : Int)] 41)
  have hcf := Blk.new w 41 #[.int .i64 (mn : Int), .int .i64 (b : Int), .int .i64 (mx : Int)]
  have hlt : w.heap.size < (w.alloc (.cells #[.int .i64 (mn : Int), .int .i64 (b : Int), .int .i64 (mx : Int)] 41)).heap.size := by simp
  have CF := Lib.hid (fun W => few_any s 1500 (by decide) hs W)
  have hfs := few_size s 1500
  obtain ⟨t, ht⟩ : ∃ t, few s 1500 = t := ⟨_, rfl⟩
  rw [ht] at CF hfs
  have cp := fun W => prime_any 283 (by decide) W
  simp only [show ((283 : Nat) : Int) = 283 from rfl, pr283] at cp
  have CP := Lib.hid cp
  have CQ := Lib.hid (fun W => split_yes t (by omega) mn b mx hb hx hn W)
  have hcl := csplit_len mn b mx t.data.toList
  rw [show t.data.toList.length = t.size by simp] at hcl
  have Hck := Lib.hid (ck_split mn b mx t.data.toList)
  obtain ⟨L, HL⟩ : ∃ L, Hid (csplit mn b mx t.data.toList = L) := ⟨_, Lib.hid (Eq.refl _)⟩
  rw [HL.out] at hcl CQ Hck
  obtain ⟨N, HN⟩ : ∃ N, Hid (L.length = N) := ⟨_, Lib.hid (Eq.refl _)⟩
  rw [HN.out] at hcl
  have Hflat := Lib.hid Hck.out.flat
  have CO : ∀ (x : ByteArray) (hx : x.size ≤ 100000) W, Calls Try.prog 32 #[.string x, .int .u64 17349423945073011] W fun e w' => e = .returned (.tuple #[.int .u64 (Gf.md (Gf.tx x.data.toList) QQ : Int), .int .i64 0]) ∧ Below W.heap.size W w' :=
    fun x hx W => of_yes x hx QQ (by decide) fitQ W
  have CO := Lib.hid CO
  obtain ⟨U, HU, hU1, hU2⟩ : ∃ U : Nat, Hid (2 ^ b = U) ∧ 1 ≤ U ∧ U ≤ 1048576 := ⟨2 ^ b, Lib.hid (Eq.refl _), Nat.pow_pos (by decide), Nat.le_trans (Nat.pow_le_pow_right (by decide) hb) (by decide)⟩
  have hpw : (2 : Int) ^ b = (U : Int) := by rw [← HU.out]; simp
  have hU0 : ((U : Int) == 0) = false := by rw [beq_eq_false_iff_ne]; omega
  have hUw : IntKind.u64.wrap (U : Int) = (U : Int) := by rw [IntKind.wrap_u64]; omega
  have HB := Lib.hid hb0
  have HC := Lib.hid hcf
  clear hn ht hb0 hcf cp
  go_enter Try.func5, Try.ntmps5
  go_wp2_with fail
  generalize w.alloc (.cells #[.int .i64 (mn : Int), .int .i64 (b : Int), .int .i64 (mx : Int)] 41) = w1 at *
  obtain ⟨P, HP⟩ : ∃ P, Hid (w.heap.size = P) := ⟨_, Lib.hid (Eq.refl _)⟩
  rw [HP.out] at HC hlt ⊢
  refine (CP.out _).mono ?_
  rintro e w2 ⟨rfl, rfl⟩
  go_wp2_with fail
  refine (CF.out _).mono ?_
  rintro e w2 ⟨rfl, rfl⟩
  obtain ⟨c0, c1, c2⟩ := conf_cells HC.out
  go_wp2_with fail
  refine (CQ.out _).mono ?_
  rintro e w2 ⟨v1, rfl, hO, hb2⟩
  have HB2 := Lib.hid (bthen HB.out hb2)
  have HC2 := Lib.hid (HC.out.below hb2 hlt)
  obtain ⟨B, HBs⟩ : ∃ B, Hid (w1.heap.size = B) := ⟨_, Lib.hid (Eq.refl _)⟩
  have HO2 := Lib.hid hO
  obtain ⟨a, cap, rfl, _⟩ := hO.view
  clear HB HC hlt hb2 hO c0 c1 c2
  rw [HN.out] at HO2 ⊢
  rw [HBs.out] at HO2
  go_wp2_with fail
  go_loopw [7, 9, 10, 11, 12, 13, 14, 38] (fun at_ _ _ _ _ _ _ i wr => ∃ k A : Nat, k ≤ N ∧ i = .int .i64 (k : Int) ∧ at_ = .int .i64 (A : Int) ∧ Hid (A = (L.take k).flatten.length) ∧ Hid (Below w.heap.size w wr) ∧
      Hid (Blk wr P 41 #[.int .i64 (mn : Int), .int .i64 (b : Int), .int .i64 (mx : Int)]) ∧ Hid (OwnS wr B (.slice a N cap) L))
    (fun _ _ _ _ _ _ _ i _ => N - (intOf i).toNat)
  case atStart => exact ⟨0, 0, by omega, rfl, rfl, rfl, HB2, HC2, HO2⟩
  case round =>
    clear HB2 HC2 HO2
    obtain ⟨k, A, hk, rfl, rfl, HA, HB, HC, HO⟩ := hrel
    by_cases hlt : k < N
    · have hkl : k < L.length := by rw [HN.out]; exact hlt
      obtain ⟨a', cap', e, hv⟩ := HO.out.view
      injection e with e1 e3 e2
      subst e1 e2
      clear e3
      obtain ⟨g, rfl, hc⟩ := hv k hkl
      have Htk := Lib.hid (take_flat k hkl)
      obtain ⟨u, htu, hne, hf, hg, _, hlast⟩ := Hck.out.at k hkl
      have hAl := take_flat_le L (k + 1)
      rw [Htk.out, Hflat.out, List.length_append, ← HA.out, show t.data.toList.length = t.size by simp] at hAl
      obtain ⟨x, Hx⟩ : ∃ x : ByteArray, Hid ((⟨L[k].toArray⟩ : ByteArray) = x) := ⟨_, Lib.hid (Eq.refl _)⟩
      have Hxl : Hid (x.data.toList = L[k]) := by show _ = _; rw [← Hx.out]
      rw [← Hxl.out, show x.data.toList.length = x.size by simp] at hAl
      rw [Hx.out] at hc
      rw [List.nil_append, ← Hxl.out] at hf hg
      rw [← Hxl.out] at htu
      have Hf := Lib.hid hf
      have Hg := Lib.hid hg
      have Htu := Lib.hid htu
      have HA2 : Hid (A + x.size = (L.take (k + 1)).flatten.length) := by show _ = _; rw [Htk.out, List.length_append, ← HA.out, ← Hxl.out]; simp
      clear hv hf hg htu hne hlast
      go_wp2_with fail
      clear hc
      go_loopw [10, 11, 12, 13, 14] (fun i _ _ _ _ wr => ∃ j : Nat, 1 ≤ j ∧ j ≤ x.size + 1 ∧ i = .int .i64 (j : Int) ∧ Hid (Below w.heap.size w wr) ∧
          Hid (Blk wr P 41 #[.int .i64 (mn : Int), .int .i64 (b : Int), .int .i64 (mx : Int)]) ∧ Hid (OwnS wr B (.slice (some ⟨g, 0, none⟩) N cap) L))
        (fun i _ _ _ _ _ => x.size + 1 - (intOf i).toNat)
      case atStart => exact ⟨1, by omega, by omega, rfl, HB, HC, HO⟩
      case round =>
        clear HB HC HO
        obtain ⟨j, hj1, hj2, rfl, HB, HC, HO⟩ := hrel
        by_cases hjx : j ≤ x.size
        · have hnt : A + j ≤ t.size := by omega
          obtain ⟨f, Hfn⟩ : ∃ f, Hid (A + j - 16 = f) := ⟨_, Lib.hid (Eq.refl _)⟩
          have hmax : max 0 ((A : Int) + (j : Int) - 16) = (f : Int) := by have := Hfn.out; omega
          have hfn : f ≤ A + j := by have := Hfn.out; omega
          have Hxs : Hid (Gf.md (Gf.tx (t.extract f (A + j)).data.toList) QQ = fp (t.data.toList.take (A + j))) := by
            show _ = _
            have e : (t.extract f (A + j)).data.toList = last16 (t.data.toList.take (A + j)) := by
              rw [extract_list, ← Hfn.out]
              rcases ahead16 t.data.toList (A + j) with h | h
              · exact h
              · rw [show t.data.toList.length = t.size by simp] at h; omega
            rw [e]; rfl
          have Htk2 : Hid (t.data.toList.take (A + j) = (L.take k).flatten ++ x.data.toList.take j) := by
            show _ = _
            have h0 := Htu.out
            rw [h0, HA.out, List.take_append, List.take_of_length_le (by omega), show (L.take k).flatten.length + j - (L.take k).flatten.length = j by omega, List.take_append_of_le_length (by simpa using hjx)]
          obtain ⟨F, HF⟩ : ∃ F, Hid (fp (t.data.toList.take (A + j)) = F) := ⟨_, Lib.hid (Eq.refl _)⟩
          have hFl : F < 9007199254740992 := by rw [← HF.out]; exact lt53 _
          obtain ⟨R, HR⟩ : ∃ R, Hid (F % U = R) := ⟨_, Lib.hid (Eq.refl _)⟩
          have hrem : (F : Int) % (U : Int) = (R : Int) := by rw [← HR.out]; simp
          have hrem2 : (F : Int).tmod (U : Int) = (R : Int) := by rw [Int.tmod_eq_emod_of_nonneg (by omega)]; exact hrem
          obtain ⟨E, HEe⟩ : ∃ E, Hid (cend mn b mx (t.data.toList.take (A + j)) j = E) := ⟨_, Lib.hid (Eq.refl _)⟩
          have HEv : Hid (E = ((j == mx) || (decide (mn ≤ j) && (R == 0)))) := by
            show _ = _
            rw [← HEe.out]
            unfold cend
            rw [HF.out, HU.out, HR.out]
          have HE : Hid ((j < x.size → E = false) ∧ (j = x.size → A + x.size < t.size → E = true)) := by
            refine ⟨fun h => ?_, fun h h2 => ?_⟩
            · rw [← HEe.out, Htk2.out]
              exact Hf.out j hj1 (by simpa using h)
            · rw [← HEe.out, Htk2.out, h, List.take_of_length_le (l := x.data.toList) (by simp)]
              have h3 := Hg.out (fun e => by
                have h4 := congrArg List.length Htu.out
                rw [e] at h4
                simp only [List.length_append, List.length_nil] at h4
                rw [← HA.out, show t.data.toList.length = t.size by simp, show x.data.toList.length = x.size by simp] at h4
                omega)
              rw [show x.data.toList.length = x.size by simp] at h3
              exact h3
          have hoi := fun W => CO.out (t.extract f (A + j)) (by simp; omega) W
          rw [Hxs.out, HF.out] at hoi
          have Hoi := Lib.hid hoi
          clear hoi hrem hrem2
          go_wp2_with fail
          refine (Hoi.out _).mono ?_
          rintro e w3 ⟨rfl, hb3⟩
          have HB3 := Lib.hid (bthen HB.out hb3)
          have HC3 := Lib.hid (HC.out.below hb3 HC.out.lt)
          have HO3 := Lib.hid (HO.out.below hb3 (Nat.le_refl _))
          have hrem : (F : Int) % (U : Int) = (R : Int) := by rw [← HR.out]; simp
          have hrem2 : (F : Int).tmod (U : Int) = (R : Int) := by rw [Int.tmod_eq_emod_of_nonneg (by omega)]; exact hrem
          clear HB HC HO hb3 hmax hfn
          obtain ⟨c0, c1, c2⟩ := conf_cells HC3.out
          by_cases e1 : j = mx
          · have e1a : ((j : Int) == (mx : Int)) = true := by simp; omega
            have hjl : j = x.size := by
              rcases Nat.lt_or_ge j x.size with h | h
              · have := HE.out.1 h
                rw [HEv.out] at this
                simp at this
                omega
              · omega
            have hxe : ((j : Int) == (x.size : Int)) = true := by simp; omega
            (try have e1t : (j = mx) = True := eq_true e1); (try have e3t : (R = 0) = True := eq_true e3); (try have hjt : (j = x.size) = True := eq_true hjl); (try (have : j = x.size := hjl; clear this hjl)); (try (have : j = mx := e1; clear this e1)); (try (have : R = 0 := e3; clear this e3))
            go_wp2_with fail
            go_roundw
            case rel => exact ⟨j + 1, by omega, by omega, by go_num, HB3, HC3, HO3⟩
            case measure => simp [intOf]; omega
          · have e1a : ((j : Int) == (mx : Int)) = false := by simp; omega
            by_cases e2 : mn ≤ j
            · have e2a : decide ((mn : Int) ≤ (j : Int)) = true := by simp; omega
              by_cases e3 : R = 0
              · have e3a : ((R : Int) == 0) = true := by simp; omega
                have hjl : j = x.size := by
                  rcases Nat.lt_or_ge j x.size with h | h
                  · have := HE.out.1 h
                    rw [HEv.out] at this
                    simp at this
                    omega
                  · omega
                have hxe : ((j : Int) == (x.size : Int)) = true := by simp; omega
                (try have e1t : (j = mx) = True := eq_true e1); (try have e3t : (R = 0) = True := eq_true e3); (try have hjt : (j = x.size) = True := eq_true hjl); (try (have : j = x.size := hjl; clear this hjl)); (try (have : j = mx := e1; clear this e1)); (try (have : R = 0 := e3; clear this e3))
                go_wp2_with fail
                go_roundw
                case rel => exact ⟨j + 1, by omega, by omega, by go_num, HB3, HC3, HO3⟩
                case measure => simp [intOf]; omega
              · have e3a : ((R : Int) == 0) = false := by simp; omega
                by_cases hjl : j = x.size
                · have hxe : ((j : Int) == (x.size : Int)) = true := by simp; omega
                  have hend2 : ((A : Int) + (j : Int) != (t.size : Int)) = false := by
                    have h0 : A + x.size = t.size := by
                      rcases Nat.lt_or_ge (A + x.size) t.size with h | h
                      · have := HE.out.2 hjl (by omega)
                        rw [HEv.out] at this
                        simp at this
                        omega
                      · omega
                    simp; omega
                  (try have e1t : (j = mx) = True := eq_true e1); (try have e3t : (R = 0) = True := eq_true e3); (try have hjt : (j = x.size) = True := eq_true hjl); (try (have : j = x.size := hjl; clear this hjl)); (try (have : j = mx := e1; clear this e1)); (try (have : R = 0 := e3; clear this e3))
                  go_wp2_with fail
                  go_roundw
                  case rel => exact ⟨j + 1, by omega, by omega, by go_num, HB3, HC3, HO3⟩
                  case measure => simp [intOf]; omega
                · have hxe : ((j : Int) == (x.size : Int)) = false := by simp; omega
                  (try have e1t : (j = mx) = True := eq_true e1); (try have e3t : (R = 0) = True := eq_true e3); (try have hjt : (j = x.size) = True := eq_true hjl); (try (have : j = x.size := hjl; clear this hjl)); (try (have : j = mx := e1; clear this e1)); (try (have : R = 0 := e3; clear this e3))
                  go_wp2_with fail
                  go_roundw
                  case rel => exact ⟨j + 1, by omega, by omega, by go_num, HB3, HC3, HO3⟩
                  case measure => simp [intOf]; omega
            · have e2a : decide ((mn : Int) ≤ (j : Int)) = false := by simp; omega
              by_cases hjl : j = x.size
              · have hxe : ((j : Int) == (x.size : Int)) = true := by simp; omega
                have hend2 : ((A : Int) + (j : Int) != (t.size : Int)) = false := by
                  have h0 : A + x.size = t.size := by
                    rcases Nat.lt_or_ge (A + x.size) t.size with h | h
                    · have := HE.out.2 hjl (by omega)
                      rw [HEv.out] at this
                      simp at this
                      omega
                    · omega
                  simp; omega
                (try have e1t : (j = mx) = True := eq_true e1); (try have e3t : (R = 0) = True := eq_true e3); (try have hjt : (j = x.size) = True := eq_true hjl); (try (have : j = x.size := hjl; clear this hjl)); (try (have : j = mx := e1; clear this e1)); (try (have : R = 0 := e3; clear this e3))
                go_wp2_with fail
                go_roundw
                case rel => exact ⟨j + 1, by omega, by omega, by go_num, HB3, HC3, HO3⟩
                case measure => simp [intOf]; omega
              · have hxe : ((j : Int) == (x.size : Int)) = false := by simp; omega
                (try have e1t : (j = mx) = True := eq_true e1); (try have e3t : (R = 0) = True := eq_true e3); (try have hjt : (j = x.size) = True := eq_true hjl); (try (have : j = x.size := hjl; clear this hjl)); (try (have : j = mx := e1; clear this e1)); (try (have : R = 0 := e3; clear this e3))
                go_wp2_with fail
                go_roundw
                case rel => exact ⟨j + 1, by omega, by omega, by go_num, HB3, HC3, HO3⟩
                case measure => simp [intOf]; omega
        · obtain rfl : j = x.size + 1 := by omega
          go_wp2_with fail
          go_roundw
          case rel => exact ⟨k + 1, A + x.size, by omega, by go_num, by go_num, HA2, HB, HC, HO⟩
          case measure => simp [intOf]; omega
    · obtain rfl : k = N := by omega
      have hAt : A = t.size := by
        rw [HA.out, List.take_of_length_le (by rw [HN.out]; exact Nat.le_refl _), Hflat.out]; simp
      subst hAt
      go_wp2_with fail
      go_ret
      exact ⟨rfl, HB.out⟩

theorem cuts_any (s : ByteArray) (hs : s.size ≤ maxLen) (mn b mx : Int) (w : World) :
    Calls Try.prog 5 #[.string s, .agg #[.int .i64 mn, .int .i64 b, .int .i64 mx]] w fun e w' => e = .returned (.bool true) ∧ Below w.heap.size w w' := by
  by_cases h : kErr mn b mx = 0
  · obtain ⟨m, b', x, rfl, rfl, rfl, h1, h2, h3, h4⟩ := kerr_ok h
    exact cuts_yes s hs m b' x h3 h4 h w
  · exact cuts_no s hs mn b mx h w
end Go.Proofs.Ytgjofpefglbjjaa
