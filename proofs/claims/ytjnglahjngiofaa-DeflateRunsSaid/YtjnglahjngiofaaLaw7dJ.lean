/- DeflateRuns: the law. Conditions: none. -/
import Derived.Test.YtjnglahjngiofaaJmoicel
import Derived.Test.YtjnglahjngiofaaJoeglhn
import Derived.Test.YtjnglahjngiofaaJiddlhm
namespace Go.Proofs.Ytjnglahjngiofaa
open Go.RowKit
set_option maxRecDepth 100000

/-- The stream of a run. -/
theorem run_dfl {s u : ByteArray} {c : UInt8} (hall : AllB s c) (lv : Nat) (h1 : 1 ≤ lv) (_h9 : lv ≤ 9) (hs : 1000 ≤ s.size ∧ s.size ≤ 65536) (hu : StoRes s u) :
    (bstB (tokF s lv s.size 0) u 2).size ≤ 64 + s.size / 64 ∧ ∃ bs σ, inflR (bstB (tokF s lv s.size 0) u 2) s.size = .ok (bs, σ) ∧ joinL [] bs = s.data.toList ∧ σ.n < 8 ∧ inflR (bstB (tokF s lv s.size 0) u 2) (s.size - 1) = .error 2 := by
  have hex := tokF_exp s lv s.size 0 (by omega) (Nat.zero_le _)
  have hlen := tokF_run hall lv h1
  have hb := (bst_two (tokF s lv s.size 0) u).2
  have hfx := fixE_len (tokF s lv s.size 0) (fun t h => ((tokW_of hex) t h).2.ok)
  have hsh := run_short (tokF s lv s.size 0).length s.size hlen
  rw [encB_size] at hb
  have hsz : (bstB (tokF s lv s.size 0) u 2).size ≤ 64 + s.size / 64 := by omega
  have hne : bstB (tokF s lv s.size 0) u 2 ≠ u := by
    intro e
    rw [e] at hsz
    by_cases h : s.size ≤ 65535
    · rw [hu.1 h, stoS_size] at hsz
      omega
    · have := hu.2 (by omega)
      omega
  obtain ⟨bs, σ, k1, k2, k3, k4⟩ := dfl_reads s u lv s.size (Nat.le_refl _) (.inl hne)
  refine ⟨hsz, bs, σ, k1, k2, k3, ?_⟩
  rcases infl_less (most' := s.size - 1) k1 with ⟨h, _⟩ | ⟨_, h⟩
  · omega
  · exact h

theorem druns_out (c : Nat) (n lv : Int) (h : n < 1000 ∨ 65536 < n ∨ lv < 1 ∨ 9 < lv) (w : World) : Calls Try.prog 14 #[.int .u8 (c : Int), .int .i64 n, .int .i64 lv] w fun e w' => e = .returned (.bool true) ∧ Below w.heap.size w w' := by
  have CA := Lib.hid awake7_any
  by_cases h1 : n < 1000
  · have d1 : decide (n < 1000) = true := by rw [decide_eq_true_eq]; exact h1
    clear h h1
    go_enter Try.func14, Try.ntmps14
    go_wp2_with fail
    refine (CA.out _).mono ?_
    rintro e w1 ⟨rfl, hb⟩
    go_wp2_with fail
    go_ret
    exact ⟨rfl, hb⟩
  · have d1 : decide (n < 1000) = false := by rw [decide_eq_false_iff_not]; exact h1
    by_cases h2 : 65536 < n
    · have d2 : decide (65536 < n) = true := by rw [decide_eq_true_eq]; exact h2
      clear h h1 h2
      go_enter Try.func14, Try.ntmps14
      go_wp2_with fail
      refine (CA.out _).mono ?_
      rintro e w1 ⟨rfl, hb⟩
      go_wp2_with fail
      go_ret
      exact ⟨rfl, hb⟩
    · have d2 : decide (65536 < n) = false := by rw [decide_eq_false_iff_not]; exact h2
      by_cases h3 : lv < 1
      · have d3 : decide (lv < 1) = true := by rw [decide_eq_true_eq]; exact h3
        clear h h1 h2 h3
        go_enter Try.func14, Try.ntmps14
        go_wp2_with fail
        refine (CA.out _).mono ?_
        rintro e w1 ⟨rfl, hb⟩
        go_wp2_with fail
        go_ret
        exact ⟨rfl, hb⟩
      · have d3 : decide (lv < 1) = false := by rw [decide_eq_false_iff_not]; exact h3
        have d4 : decide (9 < lv) = true := by rw [decide_eq_true_eq]; omega
        clear h h1 h2 h3
        go_enter Try.func14, Try.ntmps14
        go_wp2_with fail
        refine (CA.out _).mono ?_
        rintro e w1 ⟨rfl, hb⟩
        go_wp2_with fail
        go_ret
        exact ⟨rfl, hb⟩

set_option maxHeartbeats 16000000 in
theorem druns_in (c : Nat) (hc : c < 256) (n : Nat) (hn1 : 1000 ≤ n) (hn : n ≤ 65536) (lv : Nat) (h1 : 1 ≤ lv) (h9 : lv ≤ 9) (w : World) : Calls Try.prog 14 #[.int .u8 (c : Int), .int .i64 (n : Int), .int .i64 (lv : Int)] w fun e w' => e = .returned (.bool true) ∧ Below w.heap.size w w' := by
  have CA := Lib.hid awake7_any
  have d0 : decide ((n : Int) < 1000) = false := by rw [decide_eq_false_iff_not]; omega
  have d0b : decide (n < 1000) = false := by rw [decide_eq_false_iff_not]; omega
  have d1 : decide ((65536 : Int) < (n : Int)) = false := by rw [decide_eq_false_iff_not]; omega
  have d1b : decide (65536 < n) = false := by rw [decide_eq_false_iff_not]; omega
  have d2 : decide ((lv : Int) < 1) = false := by rw [decide_eq_false_iff_not]; omega
  have d2b : decide (lv < 1) = false := by rw [decide_eq_false_iff_not]; omega
  have d3 : decide ((9 : Int) < (lv : Int)) = false := by rw [decide_eq_false_iff_not]; omega
  have d3b : decide (9 < lv) = false := by rw [decide_eq_false_iff_not]; omega
  have CV := Lib.hid (fun W g hb => run_runS hc n W g hb)
  have hsz := runS_size n c
  have hall := runS_all n c
  obtain ⟨s, Hs⟩ : ∃ R, Hid (runS n c = R) := ⟨_, Lib.hid (Eq.refl _)⟩
  rw [Hs.out] at CV hsz hall
  have Hsz := Lib.hid hsz
  have CD := Lib.hid (fun W => deflate_any s lv h9 (by rw [Hsz.out]; exact hn) (by have := tokF_run hall lv h1; rw [Hsz.out] at this ⊢; omega) W)
  have HD := Lib.hid (fun (u : ByteArray) (hu : StoRes s u) => run_dfl hall lv h1 h9 (by rw [Hsz.out]; omega) hu)
  obtain ⟨F, HF⟩ : ∃ R, Hid ((fun u => bstB (tokF s lv s.size 0) u 2) = R) := ⟨_, Lib.hid (Eq.refl _)⟩
  have CD2 : Hid (∀ W, Calls Try.prog 36 #[.string s, .int .i64 (lv : Int)] W fun e w' => ∃ u, StoRes s u ∧ e = .returned (.tuple #[.string (F u), .int .i64 0]) ∧ Below W.heap.size W w') := by
    rw [← HF.out]; exact CD
  have hd2 : ∀ u, StoRes s u → (F u).size ≤ 64 + s.size / 64 ∧ ∃ bs σ, inflR (F u) s.size = .ok (bs, σ) ∧ joinL [] bs = s.data.toList ∧ σ.n < 8 ∧ inflR (F u) (s.size - 1) = .error 2 := by
    rw [← HF.out]; exact HD.out
  rw [Hsz.out] at hd2
  have HD2 := Lib.hid hd2
  have hmk := run_make_f (t := 47) (e := 5) Try.underlying47 info_u8 rfl n (n : Int) rfl (by omega) (by omega) w
  have e0 : fcells n (fun _ => Value.int .u8 0) = fcells n (runC c 0) := fcells_congr n _ _ (fun i _ => by unfold runC; rw [if_neg (by omega)])
  rw [e0] at hmk
  have hB0 := Blk.new w 5 (fcells n (runC c 0))
  have hb0 := (Below.refl w.heap.size w).alloc (Nat.le_refl _) (.cells (fcells n (runC c 0)) 5)
  obtain ⟨G, HG⟩ : ∃ P, Hid (w.heap.size = P) := ⟨_, Lib.hid (Eq.refl _)⟩
  rw [HG.out] at hB0 hmk
  have HB0 := Lib.hid hB0
  have Hb0 := Lib.hid hb0
  clear hB0 hb0 hsz hall e0 Hs CD HD HF hd2
  go_enter Try.func14, Try.ntmps14
  go_wp2_with fail
  obtain ⟨w1, HW1⟩ : ∃ W, Hid (w.alloc (.cells (fcells n (runC c 0)) 5) = W) := ⟨_, Lib.hid (Eq.refl _)⟩
  rw [HW1.out] at HB0 Hb0 ⊢
  clear hmk HW1
  go_loopw [36] (fun i wr => ∃ k : Nat, k ≤ n ∧ i = .int .i64 (k : Int) ∧ Hid (Blk wr G 5 (fcells n (runC c k))) ∧ Hid (Below w.heap.size w wr)) (fun i _ => n - (intOf i).toNat)
  case atStart => exact ⟨0, by omega, rfl, HB0, Hb0⟩
  case round =>
    clear HB0 Hb0
    obtain ⟨k, hk, rfl, HB, Hb⟩ := hrel
    by_cases hlt : k < n
    · have dk : decide ((k : Int) < (n : Int)) = true := by rw [decide_eq_true_eq]; omega
      have hfz := HB.out.frozen k
      have hcell := HB.out.cell k
      rw [fcells_at _ _ _ hlt] at hcell
      have HB2 : Hid (Blk (wr.setCell ⟨G, k, none⟩ (.int .u8 (c : Int))) G 5 (fcells n (runC c (k + 1)))) := by
        have h := HB.out.set_ k (.int .u8 (c : Int))
        rw [fcells_set] at h
        rw [fcells_congr n (runC c (k + 1)) (fun i => if i = k then .int .u8 (c : Int) else runC c k i)]
        · exact h
        · intro i hi
          unfold runC
          by_cases e : i = k
          · subst e
            rw [if_pos rfl, if_pos (by omega)]
          · rw [if_neg e]
            by_cases e2 : i < k
            · rw [if_pos e2, if_pos (by omega)]
            · rw [if_neg e2, if_neg (by omega)]
      have Hb2 : Hid (Below w.heap.size w (wr.setCell ⟨G, k, none⟩ (.int .u8 (c : Int)))) := Hb.out.setCell (by rw [HG.out]; exact Nat.le_refl _) _
      go_wp2_with fail
      obtain ⟨w2, HW2⟩ : ∃ W, Hid (wr.setCell ⟨G, k, none⟩ (.int .u8 (c : Int)) = W) := ⟨_, Lib.hid (Eq.refl _)⟩
      rw [HW2.out] at HB2 Hb2 ⊢
      clear HW2
      go_wp2_with fail
      go_roundw
      case rel => exact ⟨k + 1, by omega, by go_num, HB2, Hb2⟩
      case measure => simp [intOf]; omega
    · obtain rfl : k = n := by omega
      have dk : decide ((k : Int) < (k : Int)) = false := by rw [decide_eq_false_iff_not]; omega
      have hB := HB.out
      rw [fcells_congr k (runC c k) (fun _ => .int .u8 (c : Int)) (fun i hi => by unfold runC; rw [if_pos hi])] at hB
      have hcv := CV.out wr G hB
      have HBx := Lib.hid hB
      clear hB
      go_wp2_with fail
      refine (CD2.out _).mono ?_
      rintro e w2 ⟨u, hu, rfl, hb2⟩
      obtain ⟨hsz, bs, σ, k1, k2, k3, k4⟩ := HD2.out u hu
      obtain ⟨d, Hd⟩ : ∃ R, Hid (F u = R) := ⟨_, Lib.hid (Eq.refl _)⟩
      rw [Hd.out] at hsz k1 k4 ⊢
      have HB2 := Lib.hid (bthen Hb.out hb2)
      have HC2 := Lib.hid (HBx.out.below hb2 HBx.out.lt)
      have CI1 := Lib.hid (fun W => inflate_is_ok (s := d) (q := 0) (most := k) (by omega) (Nat.zero_le _) hn (extract_all d) k1 W)
      have e1 : (8 * d.size - σ.n + 7) / 8 = d.size := by omega
      have e3 : (⟨(joinL [] bs).toArray⟩ : ByteArray) = s := by rw [k2]
      rw [e1, e3] at CI1
      obtain ⟨p, Hp⟩ : ∃ p : Nat, Hid (k - 1 = p) := ⟨_, Lib.hid (Eq.refl _)⟩
      rw [Hp.out] at k4
      have hp := Hp.out
      have CI2 := Lib.hid (fun W => inflate_is_err (s := d) (q := 0) (most := p) (by omega) (Nat.zero_le _) (by omega) (extract_all d) k4 W)
      have hpw : IntKind.i64.wrap ((k : Int) - 1) = (p : Int) := by rw [IntKind.wrap_i64]; omega
      have hpw2 : (k : Int) - 1 = (p : Int) := by omega
      obtain ⟨q, Hq⟩ : ∃ q, Hid (k / 64 = q) := ⟨_, Lib.hid (Eq.refl _)⟩
      rw [Hq.out] at hsz
      have hqv := Hq.out
      have hq : (k : Int).tdiv 64 = (q : Int) := by rw [Int.tdiv_eq_ediv_of_nonneg (by omega)]; omega
      have hq2 : (k : Int) / 64 = (q : Int) := by omega
      have hqb : q ≤ 1024 := by omega
      have hqw : IntKind.i64.wrap (q : Int) = (q : Int) := by rw [IntKind.wrap_i64]; omega
      have hqw4 : IntKind.i64.wrap (64 + (q : Int)) = 64 + (q : Int) := by rw [IntKind.wrap_i64]; omega
      have dl : decide ((d.size : Int) ≤ 64 + (q : Int)) = true := by rw [decide_eq_true_eq]; omega
      clear hb2 hu k1 k2 k3 k4 e1 e3 hcv hp hqv hsz
      go_wp2_with fail
      refine (CI1.out _).mono ?_
      rintro e w3 ⟨rfl, hb3⟩
      have HB3 := Lib.hid (bthen HB2.out hb3)
      have HC3 := Lib.hid (HC2.out.below hb3 HC2.out.lt)
      clear hb3 HB2 HC2
      go_wp2_with fail
      refine (CI2.out _).mono ?_
      rintro e w4 ⟨rfl, hb4⟩
      have HB4 := Lib.hid (bthen HB3.out hb4)
      have HC4 := Lib.hid (HC3.out.below hb4 HC3.out.lt)
      clear hb4 HB3 HC3
      go_wp2_with fail
      refine (CA.out _).mono ?_
      rintro e w5 ⟨rfl, hb5⟩
      have HB5 := Lib.hid (bthen HB4.out hb5)
      have hcv5 := CV.out w5 G (HC4.out.below hb5 HC4.out.lt)
      clear hb5 HB4 HC4
      go_wp2_with fail
      go_ret
      exact ⟨rfl, HB5.out⟩
theorem druns_any (c : Nat) (hc : c < 256) (n lv : Int) (w : World) : Calls Try.prog 14 #[.int .u8 (c : Int), .int .i64 n, .int .i64 lv] w fun e w' => e = .returned (.bool true) ∧ Below w.heap.size w w' := by
  by_cases h : n < 1000 ∨ 65536 < n ∨ lv < 1 ∨ 9 < lv
  · exact druns_out c n lv h w
  · obtain ⟨m, rfl⟩ : ∃ m : Nat, n = (m : Int) := ⟨n.toNat, by omega⟩
    obtain ⟨k, rfl⟩ : ∃ m : Nat, lv = (m : Int) := ⟨lv.toNat, by omega⟩
    exact druns_in c hc m (by omega) (by omega) k (by omega) (by omega) w
end Go.Proofs.Ytjnglahjngiofaa
