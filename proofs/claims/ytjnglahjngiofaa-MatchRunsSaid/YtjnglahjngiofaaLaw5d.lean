/- MatchRuns. Conditions: none. -/
import Derived.Test.YtjnglahjngiofaaLaw5b
import Derived.Test.YtjnglahjngiofaaRunT
namespace Go.Proofs.Ytjnglahjngiofaa
open Go.RowKit
set_option maxRecDepth 100000

theorem tokens_big (s : ByteArray) (lv : Nat) (hlv : lv ≤ 9) (hs : 65536 < s.size) (w : World) : Calls Try.prog 24 #[.string s, .int .i64 (lv : Int)] w fun e w' => e = .returned (.tuple #[.slice none 0 0, .int .i64 2]) ∧ w = w' := by
  have d0 : decide ((lv : Int) < 0) = false := by rw [decide_eq_false_iff_not]; omega
  have d1 : decide ((9 : Int) < (lv : Int)) = false := by rw [decide_eq_false_iff_not]; omega
  have d1b : decide (9 < lv) = false := by rw [decide_eq_false_iff_not]; omega
  have d2 : decide ((65536 : Int) < (s.size : Int)) = true := by rw [decide_eq_true_eq]; omega
  have d2b : decide (65536 < s.size) = true := by rw [decide_eq_true_eq]; omega
  clear hs hlv
  go_enter Try.func24, Try.ntmps24
  go_wp2_with fail
  go_ret2
  exact ⟨rfl, rfl⟩

/-- n times the byte c. -/
def runS (n c : Nat) : ByteArray := ⟨(List.replicate n (UInt8.ofNat c)).toArray⟩
theorem runS_size (n c : Nat) : (runS n c).size = n := by show (List.replicate n (UInt8.ofNat c)).toArray.size = n; simp
theorem runS_all (n c : Nat) : AllB (runS n c) (UInt8.ofNat c) := by
  intro i hi
  rw [runS_size] at hi
  unfold byt runS
  simp [hi]
theorem run_runS {c : Nat} (hc : c < 256) (n : Nat) (w : World) (g : Nat) (h : Blk w g 5 (fcells n fun _ => .int .u8 (c : Int))) :
    (convert 47 9 (.slice (some ⟨g, 0, none⟩) n n)).run Try.prog w = .ok (.string (runS n c)) w := by
  have := run_convert_bytes_back (P := Try.prog) w 47 9 5 ⟨g, 0, none⟩ n (List.replicate n (UInt8.ofNat c)) Try.underlying47 Try.underlying5 Try.underlying9 (fun j hj => by
    have e : (⟨g, 0, none⟩ : Addr).add j = ⟨g, j, none⟩ := by unfold Addr.add; split <;> simp_all
    rw [List.length_replicate] at hj
    rw [e, h.cell j, fcells_at n _ j hj]
    simp only [List.getElem_replicate]
    have e3 : (UInt8.ofNat c).toNat = c := by rw [UInt8.toNat_ofNat']; omega
    rw [e3])
  rwa [List.length_replicate] at this

theorem runs_out (c : Nat) (n lv : Int) (h : n < 0 ∨ 65537 < n ∨ lv < 1 ∨ 9 < lv) (w : World) : Calls Try.prog 6 #[.int .u8 (c : Int), .int .i64 n, .int .i64 lv] w fun e w' => e = .returned (.bool true) ∧ Below w.heap.size w w' := by
  have CA := Lib.hid awake5_any
  by_cases h0 : n < 0
  · have d0 : decide (n < 0) = true := by rw [decide_eq_true_eq]; exact h0
    clear h h0
    go_enter Try.func6, Try.ntmps6
    go_wp2_with fail
    refine (CA.out _).mono ?_
    rintro e w2 ⟨rfl, hb⟩
    go_wp2_with fail
    go_ret
    exact ⟨rfl, hb⟩
  · have d0 : decide (n < 0) = false := by rw [decide_eq_false_iff_not]; exact h0
    by_cases h1 : 65537 < n
    · have d1 : decide (65537 < n) = true := by rw [decide_eq_true_eq]; exact h1
      clear h h0 h1
      go_enter Try.func6, Try.ntmps6
      go_wp2_with fail
      refine (CA.out _).mono ?_
      rintro e w2 ⟨rfl, hb⟩
      go_wp2_with fail
      go_ret
      exact ⟨rfl, hb⟩
    · have d1 : decide (65537 < n) = false := by rw [decide_eq_false_iff_not]; exact h1
      by_cases h2 : lv < 1
      · have d2 : decide (lv < 1) = true := by rw [decide_eq_true_eq]; exact h2
        clear h h0 h1 h2
        go_enter Try.func6, Try.ntmps6
        go_wp2_with fail
        refine (CA.out _).mono ?_
        rintro e w2 ⟨rfl, hb⟩
        go_wp2_with fail
        go_ret
        exact ⟨rfl, hb⟩
      · have d2 : decide (lv < 1) = false := by rw [decide_eq_false_iff_not]; exact h2
        have d3 : decide (9 < lv) = true := by rw [decide_eq_true_eq]; omega
        clear h h0 h1 h2
        go_enter Try.func6, Try.ntmps6
        go_wp2_with fail
        refine (CA.out _).mono ?_
        rintro e w2 ⟨rfl, hb⟩
        go_wp2_with fail
        go_ret
        exact ⟨rfl, hb⟩

def runC (c k : Nat) (j : Nat) : Value := .int .u8 (if j < k then (c : Int) else 0)

set_option maxHeartbeats 16000000 in
theorem runs_in (c : Nat) (hc : c < 256) (n : Nat) (hn : n ≤ 65537) (lv : Nat) (h1 : 1 ≤ lv) (h9 : lv ≤ 9) (w : World) : Calls Try.prog 6 #[.int .u8 (c : Int), .int .i64 (n : Int), .int .i64 (lv : Int)] w fun e w' => e = .returned (.bool true) ∧ Below w.heap.size w w' := by
  have CA := Lib.hid awake5_any
  have d0 : decide ((n : Int) < 0) = false := by rw [decide_eq_false_iff_not]; omega
  have d1 : decide ((65537 : Int) < (n : Int)) = false := by rw [decide_eq_false_iff_not]; omega
  have d1b : decide (65537 < n) = false := by rw [decide_eq_false_iff_not]; omega
  have d2 : decide ((lv : Int) < 1) = false := by rw [decide_eq_false_iff_not]; omega
  have d3 : decide ((9 : Int) < (lv : Int)) = false := by rw [decide_eq_false_iff_not]; omega
  have d3b : decide (9 < lv) = false := by rw [decide_eq_false_iff_not]; omega
  have CV := Lib.hid (fun W g hb => run_runS hc n W g hb)
  have hsz := runS_size n c
  have hall := runS_all n c
  obtain ⟨s, Hs⟩ : ∃ R, Hid (runS n c = R) := ⟨_, Lib.hid (Eq.refl _)⟩
  rw [Hs.out] at CV hsz hall
  have Hsz := Lib.hid hsz
  have Hall := Lib.hid hall
  have hmk := run_make_f (t := 47) (e := 5) Try.underlying47 info_u8 rfl n (n : Int) rfl (by omega) (by omega) w
  have e0 : fcells n (fun _ => Value.int .u8 0) = fcells n (runC c 0) := fcells_congr n _ _ (fun i _ => by unfold runC; rw [if_neg (by omega)])
  rw [e0] at hmk
  have hB0 := Blk.new w 5 (fcells n (runC c 0))
  have hb0 := (Below.refl w.heap.size w).alloc (Nat.le_refl _) (.cells (fcells n (runC c 0)) 5)
  obtain ⟨G, HG⟩ : ∃ P, Hid (w.heap.size = P) := ⟨_, Lib.hid (Eq.refl _)⟩
  rw [HG.out] at hB0 hmk
  have HB0 := Lib.hid hB0
  have Hb0 := Lib.hid hb0
  clear hB0 hb0 hsz hall e0 Hs
  go_enter Try.func6, Try.ntmps6
  go_wp2_with fail
  obtain ⟨w1, HW1⟩ : ∃ W, Hid (w.alloc (.cells (fcells n (runC c 0)) 5) = W) := ⟨_, Lib.hid (Eq.refl _)⟩
  rw [HW1.out] at HB0 Hb0 ⊢
  clear hmk HW1
  go_loopw [34] (fun i wr => ∃ k : Nat, k ≤ n ∧ i = .int .i64 (k : Int) ∧ Hid (Blk wr G 5 (fcells n (runC c k))) ∧ Hid (Below w.heap.size w wr)) (fun i _ => n - (intOf i).toNat)
  case atStart => exact ⟨0, by omega, rfl, HB0, Hb0⟩
  case round =>
    clear HB0 Hb0
    obtain ⟨k, hk, rfl, HB, Hb⟩ := hrel
    by_cases hlt : k < n
    · have dk : decide ((k : Int) < (n : Int)) = true := by rw [decide_eq_true_eq]; omega
      have hfz := HB.out.frozen k
      have hcell := HB.out.cell k
      rw [fcells_at _ _ _ hlt] at hcell
      have HB2 : Hid (Blk (wr.setCell ⟨G, k, none⟩ (.int .u8 (c : Int))) G 5 (fcells n (runC c (k + 1)))) := by
        have h := HB.out.set_ k (.int .u8 (c : Int))
        rw [fcells_set] at h
        rw [fcells_congr n (runC c (k + 1)) (fun i => if i = k then .int .u8 (c : Int) else runC c k i)]
        · exact h
        · intro i hi
          unfold runC
          by_cases e : i = k
          · subst e
            rw [if_pos rfl, if_pos (by omega)]
          · rw [if_neg e]
            by_cases e2 : i < k
            · rw [if_pos e2, if_pos (by omega)]
            · rw [if_neg e2, if_neg (by omega)]
      have Hb2 : Hid (Below w.heap.size w (wr.setCell ⟨G, k, none⟩ (.int .u8 (c : Int)))) := Hb.out.setCell (by rw [HG.out]; exact Nat.le_refl _) _
      go_wp2_with fail
      obtain ⟨w2, HW2⟩ : ∃ W, Hid (wr.setCell ⟨G, k, none⟩ (.int .u8 (c : Int)) = W) := ⟨_, Lib.hid (Eq.refl _)⟩
      rw [HW2.out] at HB2 Hb2 ⊢
      clear HW2
      go_wp2_with fail
      go_roundw
      case rel => exact ⟨k + 1, by omega, by go_num, HB2, Hb2⟩
      case measure => simp [intOf]; omega
    · obtain rfl : k = n := by omega
      have dk : decide ((k : Int) < (k : Int)) = false := by rw [decide_eq_false_iff_not]; omega
      have hB := HB.out
      rw [fcells_congr k (runC c k) (fun _ => .int .u8 (c : Int)) (fun i hi => by unfold runC; rw [if_pos hi])] at hB
      have hcv := CV.out wr G hB
      have HBx := Lib.hid hB
      clear hB
      by_cases hbig : 65536 < k
      · have db : decide ((65536 : Int) < (k : Int)) = true := by rw [decide_eq_true_eq]; omega
        have dbb : decide (65536 < k) = true := by rw [decide_eq_true_eq]; omega
        have CT := Lib.hid (fun W => tokens_big s lv h9 (by rw [Hsz.out]; exact hbig) W)
        go_wp2_with fail
        refine (CT.out _).mono ?_
        rintro e w2 ⟨rfl, rfl⟩
        clear hcv
        go_wp2_with fail
        refine (CA.out _).mono ?_
        rintro e w3 ⟨rfl, hb3⟩
        have HB3 := Lib.hid (bthen Hb.out hb3)
        go_wp2_with fail
        go_ret
        exact ⟨rfl, HB3.out⟩
      · have db : decide ((65536 : Int) < (k : Int)) = false := by rw [decide_eq_false_iff_not]; omega
        have dbb : decide (65536 < k) = false := by rw [decide_eq_false_iff_not]; omega
        have CT := Lib.hid (fun W => tokens_any s lv h9 (by rw [Hsz.out]; omega) W)
        have hexp := tokF_exp s lv s.size 0 (by omega) (by omega)
        have hlen := tokF_run Hall.out lv h1
        have hle := tokF_len s lv s.size 0
        have hexm : 0 < s.size → texp ((s.size : Int) - 1) [] (tokF s lv s.size 0) = ([], 2) := fun h => tokF_exp1 s lv s.size 0 (by omega) h
        obtain ⟨S, HS⟩ : ∃ R, Hid (tokF s lv s.size 0 = R) := ⟨_, Lib.hid (Eq.refl _)⟩
        rw [HS.out] at CT hexp hlen hexm hle
        have hexp0 : texp (s.size : Int) [] S = (s.data.toList, 0) := hexp
        rw [Hsz.out] at hexp0 hlen hexm hle
        have Hexp := Lib.hid hexp0
        obtain ⟨M, HM⟩ : ∃ R, Hid (S.length = R) := ⟨_, Lib.hid (Eq.refl _)⟩
        rw [HM.out] at hlen hle
        obtain ⟨p, Hp⟩ : ∃ p : Int, Hid ((k : Int) - 1 = p) := ⟨_, Lib.hid (Eq.refl _)⟩
        have hpw : IntKind.i64.wrap ((k : Int) - 1) = p := by rw [Hp.out]; exact IntWalk.i64_in _ (by have := Hp.out; omega)
        have hpm : -1 ≤ p ∧ p ≤ 70000 := by have := Hp.out; omega
        obtain ⟨q, Hq⟩ : ∃ q, Hid (k / 258 = q) := ⟨_, Lib.hid (Eq.refl _)⟩
        have hq : (k : Int).tdiv 258 = (q : Int) := by rw [Int.tdiv_eq_ediv_of_nonneg (by omega)]; have := Hq.out; omega
        have hqb : q ≤ 1000 := by have := Hq.out; omega
        have hqw : IntKind.i64.wrap (q : Int) = (q : Int) := IntWalk.i64_in _ (by omega)
        have hqw4 : IntKind.i64.wrap (4 + (q : Int)) = 4 + (q : Int) := IntWalk.i64_in _ (by omega)
        have dl : decide ((M : Int) ≤ 4 + (q : Int)) = true := by rw [decide_eq_true_eq]; have := Hq.out; omega
        obtain ⟨⟨X, Y⟩, HXY⟩ : ∃ R, Hid (texp p [] S = R) := ⟨_, Lib.hid (Eq.refl _)⟩
        have hY : k = 0 ∨ Y = 2 := by
          by_cases hz : k = 0
          · exact .inl hz
          · right
            have h := hexm (by omega)
            rw [Hp.out, HXY.out] at h
            exact (Prod.mk.inj h).2
        have hMk : M ≤ 70000 := by omega
        clear hexp hexp0 hlen hle hexm
        go_wp2_with fail
        refine (CT.out _).mono ?_
        rintro e w2 ⟨v1, rfl, hO1, hb1⟩
        obtain ⟨a1, cap1, rfl, hR1⟩ := hO1.view
        have HR1 := Lib.hid hR1
        have HB1 := Lib.hid (bthen Hb.out hb1)
        have HC1 := Lib.hid (HBx.out.below hb1 HBx.out.lt)
        have CE0 := Lib.hid (fun W hr => expand_any S (by rw [HM.out]; omega) a1 cap1 (k : Int) (by omega) W hr)
        have CE1 := Lib.hid (fun W hr => expand_any S (by rw [HM.out]; omega) a1 cap1 p (by omega) W hr)
        have e1 : expV (s.data.toList, 0) = .tuple #[.string s, .int .i64 0] := rfl
        have e2 : expV (X, Y) = .tuple #[.string ⟨X.toArray⟩, .int .i64 (Y : Int)] := rfl
        obtain ⟨xs, Hxs⟩ : ∃ R : ByteArray, Hid (⟨X.toArray⟩ = R) := ⟨_, Lib.hid (Eq.refl _)⟩
        rw [Hxs.out] at e2
        rw [Hexp.out, e1, HM.out] at CE0
        rw [HXY.out, e2, HM.out] at CE1
        rw [HM.out]
        clear hO1 hR1 hb1 e1 e2 hcv hpm
        go_wp2_with fail
        refine (CE0.out _ HR1.out).mono ?_
        rintro e w3 ⟨rfl, hb3⟩
        have HR3 := Lib.hid (HR1.out.below hb3 (Nat.le_refl _))
        have HB3 := Lib.hid (bthen HB1.out hb3)
        have HC3 := Lib.hid (HC1.out.below hb3 HC1.out.lt)
        clear hb3 HR1 HB1 HC1
        go_wp2_with fail
        refine (CE1.out _ HR3.out).mono ?_
        rintro e w4 ⟨rfl, hb4⟩
        have HB4 := Lib.hid (bthen HB3.out hb4)
        have HC4 := Lib.hid (HC3.out.below hb4 HC3.out.lt)
        clear hb4 HR3 HB3 HC3
        go_wp2_with fail
        refine (CA.out _).mono ?_
        rintro e w5 ⟨rfl, hb5⟩
        have HB5 := Lib.hid (bthen HB4.out hb5)
        have hcv5 := CV.out w5 G (HC4.out.below hb5 HC4.out.lt)
        clear hb5 HB4 HC4
        by_cases hz : k = 0
        · have dz : decide ((k : Int) = 0) = true := by rw [decide_eq_true_eq]; omega
          have dz2 : ((k : Int) == 0) = true := by simp; omega
          have dz3 : (k == 0) = true := by simp; omega
          clear hz hY
          go_wp2_with fail
          go_ret
          exact ⟨rfl, HB5.out⟩
        · have dz : decide ((k : Int) = 0) = false := by rw [decide_eq_false_iff_not]; omega
          have dz2 : ((k : Int) == 0) = false := by simp; omega
          have dz3 : (k == 0) = false := by simp; omega
          obtain rfl : Y = 2 := hY.resolve_left hz
          clear hY hz
          go_wp2_with fail
          go_ret
          exact ⟨rfl, HB5.out⟩

theorem runs_any (c : Nat) (hc : c < 256) (n : Int) (_l1 : IntKind.i64.min ≤ n) (_l2 : n ≤ IntKind.i64.max) (lv : Int) (_l3 : IntKind.i64.min ≤ lv) (_l4 : lv ≤ IntKind.i64.max) (w : World) : Calls Try.prog 6 #[.int .u8 (c : Int), .int .i64 n, .int .i64 lv] w fun e w' => e = .returned (.bool true) ∧ Below w.heap.size w w' := by
  by_cases h : n < 0 ∨ 65537 < n ∨ lv < 1 ∨ 9 < lv
  · exact runs_out c n lv h w
  · obtain ⟨m, rfl⟩ : ∃ m : Nat, n = (m : Int) := ⟨n.toNat, by omega⟩
    obtain ⟨l, rfl⟩ : ∃ l : Nat, lv = (l : Int) := ⟨lv.toNat, by omega⟩
    exact runs_in c hc m (by omega) l (by omega) (by omega) w
end Go.Proofs.Ytjnglahjngiofaa
