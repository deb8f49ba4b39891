/- retain: Contains, Check. Conditions: rows that Go can hold. -/
import Derived.Test.YtcblcjbflgepoaaSnap
namespace Go.Proofs.Ytcblcjbflgepoaa
open Go.RowKit
set_option maxRecDepth 100000

theorem index_any (ta : Option Addr) (tc n : Nat) (m : Nat → ByteArray) (hn : n ≤ 9223372036854775807) (s : ByteArray) (w : World) (hr : SRow w ta n m) :
    Calls Try.prog 37 #[.slice ta n tc, .string s] w fun e w' => (∃ x : Int, e = .returned (.int .i64 x) ∧ decide (0 ≤ x) = (List.range n).any fun i => (m i).toList == s.toList) ∧ w = w' := by
  have Hr := Lib.hid hr
  clear hr
  go_enter Try.func37, Try.ntmps37
  go_wp2_with fail
  go_loop [8] (fun i => ∃ k : Nat, k ≤ n ∧ i = .int .i64 (k : Int) ∧ Hid (∀ j, j < k → ((m j).toList == s.toList) = false)) (fun i => n - (intOf i).toNat)
  case atStart => exact ⟨0, by omega, rfl, fun j hj => by omega⟩
  case round =>
    obtain ⟨k, hk, rfl, HK⟩ := hrel
    by_cases hlt : k < n
    · obtain ⟨b, off, rfl, _, hc, _⟩ := Hr.out.get k hlt
      obtain ⟨x, Hx⟩ : ∃ x : ByteArray, Hid (m k = x) := ⟨_, Lib.hid (Eq.refl _)⟩
      rw [Hx.out] at hc
      by_cases he : (s.toList == x.toList) = true
      · go_wp2_with fail
        go_ret
        refine ⟨⟨_, rfl, ?_⟩, rfl⟩
        have h1 : decide ((0 : Int) ≤ (k : Int)) = true := by simp
        rw [h1]
        symm
        rw [List.any_eq_true]
        exact ⟨k, List.mem_range.2 hlt, by rw [Hx.out]; simp at he ⊢; exact he.symm⟩
      · have he2 : (s.toList == x.toList) = false := by simpa using he
        have HK2 : Hid (∀ j, j < k + 1 → ((m j).toList == s.toList) = false) := by
          intro j hj
          by_cases e : j = k
          · subst e
            rw [Hx.out]
            simp at he2 ⊢
            exact fun e => he2 e.symm
          · exact HK.out j (by omega)
        clear he
        go_wp2_with fail
        go_round
        case rel => exact ⟨k + 1, by omega, by go_num, HK2⟩
        case measure => simp [intOf]; omega
    · obtain rfl : k = n := by omega
      go_wp2_with fail
      go_ret
      refine ⟨⟨-1, rfl, ?_⟩, rfl⟩
      have h1 : decide ((0 : Int) ≤ -1) = false := by decide
      rw [h1]
      symm
      rw [List.any_eq_false]
      intro j hj
      have := HK.out j (List.mem_range.1 hj)
      simp [this]
theorem contains_any (ta : Option Addr) (tc n : Nat) (m : Nat → ByteArray) (hn : n ≤ 9223372036854775807) (s : ByteArray) (w : World) (hr : SRow w ta n m) :
    Calls Try.prog 32 #[.slice ta n tc, .string s] w fun e w' => e = .returned (.bool ((List.range n).any fun i => (m i).toList == s.toList)) ∧ w = w' := by
  have C := index_any ta tc n m hn s w hr
  obtain ⟨B, HB⟩ : ∃ B, Hid (((List.range n).any fun i => (m i).toList == s.toList) = B) := ⟨_, Lib.hid (Eq.refl _)⟩
  rw [HB.out] at C ⊢
  clear hr
  go_enter Try.func32, Try.ntmps32
  go_wp2_with fail
  refine C.mono ?_
  rintro e w1 ⟨⟨x, rfl, hx⟩, rfl⟩
  clear C
  have Hx := Lib.hid hx
  obtain ⟨d, Hd⟩ : ∃ d, Hid (decide (0 ≤ x) = d) := ⟨_, Lib.hid (Eq.refl _)⟩
  have hd := Hd.out
  clear hx
  go_wp2_with fail
  go_ret
  refine ⟨?_, rfl⟩
  have e : B = d := by rw [← Hx.out, Hd.out]
  rw [e]
  rfl

open Classical in
/-- The error of a policy and of snapshots. -/
noncomputable def chk (P : Pol) (S : List Snp) : Nat := if polBad P then 1 else if OkS S then 0 else 4

def polc (P : Pol) (ta : Option Addr) (tc : Nat) : Array Value := #[.int .i64 P.a, .int .i64 P.b, .int .i64 P.c, .int .i64 P.d, .slice ta P.n tc]
theorem pol_cells {w : World} {g t : Nat} {P : Pol} {ta : Option Addr} {tc : Nat} (h : Blk w g t (polc P ta tc)) :
    w.cell? ⟨g, 0, none⟩ = some (.int .i64 P.a) ∧ w.cell? ⟨g, 1, none⟩ = some (.int .i64 P.b) ∧ w.cell? ⟨g, 2, none⟩ = some (.int .i64 P.c) ∧ w.cell? ⟨g, 3, none⟩ = some (.int .i64 P.d) ∧ w.cell? ⟨g, 4, none⟩ = some (.slice ta P.n tc) := by
  refine ⟨?_, ?_, ?_, ?_, ?_⟩ <;> rw [h.cell] <;> rfl

set_option maxHeartbeats 1000000 in
theorem check_pol (P : Pol) (hp : polBad P) (ta : Option Addr) (tc : Nat) (v : Value) (w : World) :
    Calls Try.prog 26 #[.agg (polc P ta tc), v] w fun e w' => e = .returned (.int .i64 1) ∧ Below w.heap.size w w' := by
  have hb0 := (Below.refl w.heap.size w).alloc (Nat.le_refl _) (.cells (polc P ta tc) 36)
  unfold polc at hb0 ⊢
  have Hp := Lib.hid hp
  unfold polBad at Hp
  obtain ⟨a, b, c, d, n, m⟩ := P
  have Hb := Lib.hid hb0
  simp only at Hp Hb ⊢
  clear hb0 hp
  by_cases ha : a < 0
  · have d0 : decide (a < 0) = true := by simpa using ha
    go_enter Try.func26, Try.ntmps26
    go_wp2_with fail
    go_ret
    exact ⟨rfl, Hb.out⟩
  have d0 : decide (a < 0) = false := by simpa using ha
  by_cases hb : b < 0
  · have d1 : decide (b < 0) = true := by simpa using hb
    go_enter Try.func26, Try.ntmps26
    go_wp2_with fail
    go_ret
    exact ⟨rfl, Hb.out⟩
  have d1 : decide (b < 0) = false := by simpa using hb
  by_cases hc : c < 0
  · have d2 : decide (c < 0) = true := by simpa using hc
    go_enter Try.func26, Try.ntmps26
    go_wp2_with fail
    go_ret
    exact ⟨rfl, Hb.out⟩
  have d2 : decide (c < 0) = false := by simpa using hc
  by_cases hd : d < 0
  · have d3 : decide (d < 0) = true := by simpa using hd
    go_enter Try.func26, Try.ntmps26
    go_wp2_with fail
    go_ret
    exact ⟨rfl, Hb.out⟩
  have := Hp.out
  omega

/-- Place i is as it ought to be. -/
def Good (S : List Snp) (i : Nat) : Prop := 0 ≤ (sn S i).time ∧ (sn S i).time ≤ 253402300799 ∧ (0 < i → (sn S (i - 1)).time ≤ (sn S i).time)

open Classical in
set_option maxHeartbeats 4000000 in
theorem check_good (P : Pol) (hp : ¬ polBad P) (ta : Option Addr) (tc : Nat) (a : Option Addr) (cap : Nat) (S : List Snp) (hS : S.length ≤ 1000000) (w : World) (hr : SnRow w a S) :
    Calls Try.prog 26 #[.agg (polc P ta tc), .slice a S.length cap] w fun e w' => e = .returned (.int .i64 ((if OkS S then 0 else 4 : Nat) : Int)) ∧ Below w.heap.size w w' := by
  have hb0 := (Below.refl w.heap.size w).alloc (Nat.le_refl _) (.cells (polc P ta tc) 36)
  unfold polc at hb0 ⊢
  unfold polBad at hp
  obtain ⟨pa, pb, pc, pd, pn, pm⟩ := P
  have Hb := Lib.hid hb0
  simp only at hp Hb ⊢
  have d0 : decide (pa < 0) = false := by simp; omega
  have d1 : decide (pb < 0) = false := by simp; omega
  have d2 : decide (pc < 0) = false := by simp; omega
  have d3 : decide (pd < 0) = false := by simp; omega
  have Hr := Lib.hid hr
  obtain ⟨R, HR⟩ : ∃ R : Nat, Hid ((if OkS S then 0 else 4 : Nat) = R) := ⟨_, Lib.hid (Eq.refl _)⟩
  obtain ⟨N, HN⟩ : ∃ N, Hid (S.length = N) := ⟨_, Lib.hid (Eq.refl _)⟩
  rw [HR.out]
  rw [HN.out] at hS ⊢
  clear hb0 hp hr
  go_enter Try.func26, Try.ntmps26
  go_wp2_with fail
  generalize w.alloc (.cells #[.int .i64 pa, .int .i64 pb, .int .i64 pc, .int .i64 pd, .slice ta pn tc] 36) = w1 at *
  clear d0 d1 d2 d3
  go_loopw [27] (fun i wr => ∃ k : Nat, k ≤ N ∧ i = .int .i64 (k : Int) ∧ Hid (∀ j, j < k → Good S j) ∧ Hid (Below w.heap.size w wr)) (fun i _ => N - (intOf i).toNat)
  case atStart => exact ⟨0, by omega, rfl, fun j hj => by omega, Hb⟩
  case round =>
    clear Hb
    obtain ⟨k, hk, rfl, HK, HB⟩ := hrel
    by_cases hlt : k < N
    · obtain ⟨b, off, rfl, hbl, c0, c1, c2⟩ := (Hr.out.below HB.out (Nat.le_refl _)).get k (by rw [HN.out]; exact hlt)
      obtain ⟨T, HT⟩ : ∃ T, Hid ((sn S k).time = T) := ⟨_, Lib.hid (Eq.refl _)⟩
      obtain ⟨sid, Hi⟩ : ∃ T, Hid ((sn S k).id = T) := ⟨_, Lib.hid (Eq.refl _)⟩
      obtain ⟨stg, Hg⟩ : ∃ T, Hid ((sn S k).tag = T) := ⟨_, Lib.hid (Eq.refl _)⟩
      rw [HT.out] at c1
      rw [Hi.out] at c0
      rw [Hg.out] at c2
      go_wp2_with fail
      obtain ⟨g, Hgs⟩ : ∃ g, Hid (wr.heap.size = g) := ⟨_, Lib.hid (Eq.refl _)⟩
      have hB2 := Blk.new wr 49 #[.string sid, .int .i64 T, .string stg]
      have HB2 := Lib.hid (HB.out.alloc HB.out.size (.cells #[.string sid, .int .i64 T, .string stg] 49))
      rw [Hgs.out] at hB2 ⊢
      generalize wr.alloc (.cells #[.string sid, .int .i64 T, .string stg] 49) = w2 at *
      have g1 := hB2.cell 1
      simp at g1
      clear c0 c1 c2 HB hB2
      by_cases h0 : T < 0
      · have d0 : decide (T < 0) = true := by simpa using h0
        have HRv : Hid (R = 4) := by show _ = _; rw [← HR.out, if_neg]; intro ho; have := (ho k (by rw [HN.out]; exact hlt)).1; rw [HT.out] at this; omega
        go_quiet (fail)
        all_goals
          go_wp2_with fail
          go_ret
          exact ⟨by rw [HRv.out]; rfl, below_drewN HB2.out _⟩
      have d0 : decide (T < 0) = false := by simpa using h0
      by_cases h1 : 253402300799 < T
      · have d1 : decide (253402300799 < T) = true := by simpa using h1
        have HRv : Hid (R = 4) := by show _ = _; rw [← HR.out, if_neg]; intro ho; have := (ho k (by rw [HN.out]; exact hlt)).2.1; rw [HT.out] at this; omega
        go_quiet (fail)
        all_goals
          go_wp2_with fail
          go_ret
          exact ⟨by rw [HRv.out]; rfl, below_drewN HB2.out _⟩
      have d1 : decide (253402300799 < T) = false := by simpa using h1
      rcases k with _ | k
      · have HK2 : Hid (∀ j, j < 1 → Good S j) := by
          intro j hj
          obtain rfl : j = 0 := by omega
          unfold Good
          rw [HT.out]
          exact ⟨by omega, by omega, fun h => by omega⟩
        go_quiet (fail)
        all_goals
          go_wp2_with fail
          go_roundw
          case rel => exact ⟨1, by omega, by go_num, HK2, Lib.hid (below_drewN HB2.out _)⟩
          case measure => simp [intOf]; omega
      · obtain ⟨b', off', e, _, _, c1, _⟩ := (Hr.out.below HB2.out (Nat.le_refl _)).get k (by rw [HN.out]; omega)
        injection e with e
        injection e with e1 e2 e3
        subst e1 e2
        clear e3
        obtain ⟨U, HU⟩ : ∃ U, Hid ((sn S k).time = U) := ⟨_, Lib.hid (Eq.refl _)⟩
        rw [HU.out] at c1
        have dk : decide (0 < ((k : Int) + 1)) = true := by rw [decide_eq_true_eq]; omega
        by_cases h2 : T < U
        · have d2 : decide (T < U) = true := by simpa using h2
          have HRv : Hid (R = 4) := by
            show _ = _
            rw [← HR.out, if_neg]
            intro ho
            have := (ho (k + 1) (by rw [HN.out]; exact hlt)).2.2 (by omega)
            rw [HT.out, show k + 1 - 1 = k by omega, HU.out] at this
            omega
          go_quiet (fail)
          all_goals
            go_wp2_with fail
            go_ret
            exact ⟨by rw [HRv.out]; rfl, below_drewN HB2.out _⟩
        · have d2 : decide (T < U) = false := by simpa using h2
          have HK2 : Hid (∀ j, j < k + 1 + 1 → Good S j) := by
            intro j hj
            by_cases e : j = k + 1
            · subst e
              unfold Good
              rw [HT.out, show k + 1 - 1 = k by omega, HU.out]
              exact ⟨by omega, by omega, fun h => by omega⟩
            · exact HK.out j (by omega)
          go_quiet (fail)
          all_goals
            go_wp2_with fail
            go_roundw
            case rel => exact ⟨k + 1 + 1, by omega, by go_num, HK2, Lib.hid (below_drewN HB2.out _)⟩
            case measure => simp [intOf]; omega
    · obtain rfl : k = N := by omega
      have HRv : Hid (R = 0) := by
        show _ = _
        rw [← HR.out, if_pos]
        intro i hi
        exact HK.out i (by rw [HN.out] at hi; exact hi)
      go_wp2_with fail
      go_ret
      exact ⟨by rw [HRv.out]; rfl, HB.out⟩
theorem check_any (P : Pol) (ta : Option Addr) (tc : Nat) (a : Option Addr) (cap : Nat) (S : List Snp) (hS : S.length ≤ 1000000) (w : World) (hr : SnRow w a S) :
    Calls Try.prog 26 #[.agg (polc P ta tc), .slice a S.length cap] w fun e w' => e = .returned (.int .i64 (chk P S : Int)) ∧ Below w.heap.size w w' := by
  unfold chk
  by_cases h : polBad P
  · rw [if_pos h]; exact check_pol P h ta tc _ w
  · rw [if_neg h]; exact check_good P h ta tc a cap S hS w hr
set_option maxHeartbeats 1000000 in
theorem rcheck_pol (P : Pol) (hp : polBad P) (ta : Option Addr) (tc : Nat) (v : Value) (w : World) :
    Calls Try.prog 24 #[.agg (polc P ta tc), v] w fun e w' => e = .returned (.int .i64 1) ∧ Below w.heap.size w w' := by
  have hb0 := (Below.refl w.heap.size w).alloc (Nat.le_refl _) (.cells (polc P ta tc) 45)
  unfold polc at hb0 ⊢
  have Hp := Lib.hid hp
  unfold polBad at Hp
  obtain ⟨a, b, c, d, n, m⟩ := P
  have Hb := Lib.hid hb0
  simp only at Hp Hb ⊢
  clear hb0 hp
  by_cases ha : a < 0
  · have d0 : decide (a < 0) = true := by simpa using ha
    go_enter Try.func24, Try.ntmps24
    go_wp2_with fail
    go_ret
    exact ⟨rfl, Hb.out⟩
  have d0 : decide (a < 0) = false := by simpa using ha
  by_cases hb : b < 0
  · have d1 : decide (b < 0) = true := by simpa using hb
    go_enter Try.func24, Try.ntmps24
    go_wp2_with fail
    go_ret
    exact ⟨rfl, Hb.out⟩
  have d1 : decide (b < 0) = false := by simpa using hb
  by_cases hc : c < 0
  · have d2 : decide (c < 0) = true := by simpa using hc
    go_enter Try.func24, Try.ntmps24
    go_wp2_with fail
    go_ret
    exact ⟨rfl, Hb.out⟩
  have d2 : decide (c < 0) = false := by simpa using hc
  by_cases hd : d < 0
  · have d3 : decide (d < 0) = true := by simpa using hd
    go_enter Try.func24, Try.ntmps24
    go_wp2_with fail
    go_ret
    exact ⟨rfl, Hb.out⟩
  have := Hp.out
  omega

open Classical in
set_option maxHeartbeats 4000000 in
theorem rcheck_good (P : Pol) (hp : ¬ polBad P) (ta : Option Addr) (tc : Nat) (a : Option Addr) (cap : Nat) (S : List Snp) (hS : S.length ≤ 1000000) (w : World) (hr : SnRow w a S) :
    Calls Try.prog 24 #[.agg (polc P ta tc), .slice a S.length cap] w fun e w' => e = .returned (.int .i64 ((if OkS S then 0 else 4 : Nat) : Int)) ∧ Below w.heap.size w w' := by
  have hb0 := (Below.refl w.heap.size w).alloc (Nat.le_refl _) (.cells (polc P ta tc) 45)
  unfold polc at hb0 ⊢
  unfold polBad at hp
  obtain ⟨pa, pb, pc, pd, pn, pm⟩ := P
  have Hb := Lib.hid hb0
  simp only at hp Hb ⊢
  have d0 : decide (pa < 0) = false := by simp; omega
  have d1 : decide (pb < 0) = false := by simp; omega
  have d2 : decide (pc < 0) = false := by simp; omega
  have d3 : decide (pd < 0) = false := by simp; omega
  have Hr := Lib.hid hr
  obtain ⟨R, HR⟩ : ∃ R : Nat, Hid ((if OkS S then 0 else 4 : Nat) = R) := ⟨_, Lib.hid (Eq.refl _)⟩
  obtain ⟨N, HN⟩ : ∃ N, Hid (S.length = N) := ⟨_, Lib.hid (Eq.refl _)⟩
  rw [HR.out]
  rw [HN.out] at hS ⊢
  clear hb0 hp hr
  go_enter Try.func24, Try.ntmps24
  go_wp2_with fail
  generalize w.alloc (.cells #[.int .i64 pa, .int .i64 pb, .int .i64 pc, .int .i64 pd, .slice ta pn tc] 45) = w1 at *
  clear d0 d1 d2 d3
  go_loopw [27] (fun i wr => ∃ k : Nat, k ≤ N ∧ i = .int .i64 (k : Int) ∧ Hid (∀ j, j < k → Good S j) ∧ Hid (Below w.heap.size w wr)) (fun i _ => N - (intOf i).toNat)
  case atStart => exact ⟨0, by omega, rfl, fun j hj => by omega, Hb⟩
  case round =>
    clear Hb
    obtain ⟨k, hk, rfl, HK, HB⟩ := hrel
    by_cases hlt : k < N
    · obtain ⟨b, off, rfl, hbl, c0, c1, c2⟩ := (Hr.out.below HB.out (Nat.le_refl _)).get k (by rw [HN.out]; exact hlt)
      obtain ⟨T, HT⟩ : ∃ T, Hid ((sn S k).time = T) := ⟨_, Lib.hid (Eq.refl _)⟩
      obtain ⟨sid, Hi⟩ : ∃ T, Hid ((sn S k).id = T) := ⟨_, Lib.hid (Eq.refl _)⟩
      obtain ⟨stg, Hg⟩ : ∃ T, Hid ((sn S k).tag = T) := ⟨_, Lib.hid (Eq.refl _)⟩
      rw [HT.out] at c1
      rw [Hi.out] at c0
      rw [Hg.out] at c2
      go_wp2_with fail
      obtain ⟨g, Hgs⟩ : ∃ g, Hid (wr.heap.size = g) := ⟨_, Lib.hid (Eq.refl _)⟩
      have hB2 := Blk.new wr 49 #[.string sid, .int .i64 T, .string stg]
      have HB2 := Lib.hid (HB.out.alloc HB.out.size (.cells #[.string sid, .int .i64 T, .string stg] 49))
      rw [Hgs.out] at hB2 ⊢
      generalize wr.alloc (.cells #[.string sid, .int .i64 T, .string stg] 49) = w2 at *
      have g1 := hB2.cell 1
      simp at g1
      clear c0 c1 c2 HB hB2
      by_cases h0 : T < 0
      · have d0 : decide (T < 0) = true := by simpa using h0
        have HRv : Hid (R = 4) := by show _ = _; rw [← HR.out, if_neg]; intro ho; have := (ho k (by rw [HN.out]; exact hlt)).1; rw [HT.out] at this; omega
        have CF := fun W => fit_no T (.inl h0) W
        go_quiet ((go_at_call 12; exact Calls.quiet_of_same ((CF _).mono fun _ _ ⟨h1, h2⟩ => ⟨h1, h2.symm⟩)))
        all_goals
          go_wp2_with fail
          go_ret
          exact ⟨by rw [HRv.out]; rfl, below_drewN HB2.out _⟩
      have d0 : decide (T < 0) = false := by simpa using h0
      by_cases h1 : 253402300799 < T
      · have d1 : decide (253402300799 < T) = true := by simpa using h1
        have HRv : Hid (R = 4) := by show _ = _; rw [← HR.out, if_neg]; intro ho; have := (ho k (by rw [HN.out]; exact hlt)).2.1; rw [HT.out] at this; omega
        have CF := fun W => fit_no T (.inr h1) W
        go_quiet ((go_at_call 12; exact Calls.quiet_of_same ((CF _).mono fun _ _ ⟨h1, h2⟩ => ⟨h1, h2.symm⟩)))
        all_goals
          go_wp2_with fail
          go_ret
          exact ⟨by rw [HRv.out]; rfl, below_drewN HB2.out _⟩
      have d1 : decide (253402300799 < T) = false := by simpa using h1
      have CF := Lib.hid (fun W => fit_yes T (by omega) (by omega) W)
      rcases k with _ | k
      · have HK2 : Hid (∀ j, j < 1 → Good S j) := by
          intro j hj
          obtain rfl : j = 0 := by omega
          unfold Good
          rw [HT.out]
          exact ⟨by omega, by omega, fun h => by omega⟩
        go_quiet ((go_at_call 12; exact Calls.quiet_of_same ((CF.out _).mono fun _ _ ⟨h1, h2⟩ => ⟨h1, h2.symm⟩)))
        all_goals
          go_wp2_with fail
          go_roundw
          case rel => exact ⟨1, by omega, by go_num, HK2, Lib.hid (below_drewN HB2.out _)⟩
          case measure => simp [intOf]; omega
      · obtain ⟨b', off', e, _, _, c1, _⟩ := (Hr.out.below HB2.out (Nat.le_refl _)).get k (by rw [HN.out]; omega)
        injection e with e
        injection e with e1 e2 e3
        subst e1 e2
        clear e3
        obtain ⟨U, HU⟩ : ∃ U, Hid ((sn S k).time = U) := ⟨_, Lib.hid (Eq.refl _)⟩
        rw [HU.out] at c1
        have dk : decide (0 < ((k : Int) + 1)) = true := by rw [decide_eq_true_eq]; omega
        by_cases h2 : T < U
        · have d2 : decide (T < U) = true := by simpa using h2
          have HRv : Hid (R = 4) := by
            show _ = _
            rw [← HR.out, if_neg]
            intro ho
            have := (ho (k + 1) (by rw [HN.out]; exact hlt)).2.2 (by omega)
            rw [HT.out, show k + 1 - 1 = k by omega, HU.out] at this
            omega
          go_quiet ((go_at_call 12; exact Calls.quiet_of_same ((CF.out _).mono fun _ _ ⟨h1, h2⟩ => ⟨h1, h2.symm⟩)))
          all_goals
            go_wp2_with fail
            go_ret
            exact ⟨by rw [HRv.out]; rfl, below_drewN HB2.out _⟩
        · have d2 : decide (T < U) = false := by simpa using h2
          have HK2 : Hid (∀ j, j < k + 1 + 1 → Good S j) := by
            intro j hj
            by_cases e : j = k + 1
            · subst e
              unfold Good
              rw [HT.out, show k + 1 - 1 = k by omega, HU.out]
              exact ⟨by omega, by omega, fun h => by omega⟩
            · exact HK.out j (by omega)
          go_quiet ((go_at_call 12; exact Calls.quiet_of_same ((CF.out _).mono fun _ _ ⟨h1, h2⟩ => ⟨h1, h2.symm⟩)))
          all_goals
            go_wp2_with fail
            go_roundw
            case rel => exact ⟨k + 1 + 1, by omega, by go_num, HK2, Lib.hid (below_drewN HB2.out _)⟩
            case measure => simp [intOf]; omega
    · obtain rfl : k = N := by omega
      have HRv : Hid (R = 0) := by
        show _ = _
        rw [← HR.out, if_pos]
        intro i hi
        exact HK.out i (by rw [HN.out] at hi; exact hi)
      go_wp2_with fail
      go_ret
      exact ⟨by rw [HRv.out]; rfl, HB.out⟩
theorem rrcheck_any (P : Pol) (ta : Option Addr) (tc : Nat) (a : Option Addr) (cap : Nat) (S : List Snp) (hS : S.length ≤ 1000000) (w : World) (hr : SnRow w a S) :
    Calls Try.prog 24 #[.agg (polc P ta tc), .slice a S.length cap] w fun e w' => e = .returned (.int .i64 (chk P S : Int)) ∧ Below w.heap.size w w' := by
  unfold chk
  by_cases h : polBad P
  · rw [if_pos h]; exact rcheck_pol P h ta tc _ w
  · rw [if_neg h]; exact rcheck_good P h ta tc a cap S hS w hr
end Go.Proofs.Ytcblcjbflgepoaa
