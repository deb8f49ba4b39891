/- retain.Keep, Gone. Conditions: at most a million snapshots. -/
import Derived.Test.YtcblcjbflgepoaaEvery
namespace Go.Proofs.Ytcblcjbflgepoaa
open Go.RowKit
set_option maxRecDepth 100000

theorem grown_below {w0 w w' : World} {row : Option Nat} (hg : w.grownBy w' row) (hb : Below w0.heap.size w0 w) (hr : ∀ g, row = some g → w0.heap.size ≤ g) : Below w0.heap.size w0 w' :=
  ⟨hg.os.trans hb.os, hg.tape.trans hb.tape, hg.output.trans hb.output, Nat.le_trans hb.size hg.size, fun g hlt =>
    (hg.block g (Nat.lt_of_lt_of_le hlt hb.size) (fun e => by have := hr g e.symm; omega)).trans (hb.block g hlt)⟩
theorem info_bool : (Try.prog.info? 4).map (fun i => (i.zero, i.size, i.bytes)) = some (some (.bool false), 1, 1) := by kernel_rfl
theorem made_bools (n : Nat) (hn : n ≤ 1000000) (I : Int) (hI : I = (n : Int)) (w : World) :
    (Instr.makeSlice 39 (.int .i64 I) (.int .i64 I)).run Try.prog w = .ok (.slice (some ⟨w.heap.size, 0, none⟩) n n) (w.alloc (.cells (fcells n (kcell fun _ => false)) 4)) :=
  run_make_f (t := 39) (e := 4) Try.underlying39 info_bool rfl n I hI (by omega) (by omega) w

theorem chk_zero {P : Pol} {S : List Snp} (h : chk P S = 0) : ¬ polBad P ∧ OkS S := by
  unfold chk at h
  split at h
  · cases h
  · split at h
    · exact ⟨by assumption, by assumption⟩
    · cases h
theorem chk_le (P : Pol) (S : List Snp) : chk P S ≤ 4 := by
  unfold chk
  split
  · decide
  · split <;> decide

/-- Kept by number or by tag. -/
def baseV (P : Pol) (S : List Snp) (i : Nat) : Bool := decide ((S.length : Int) - i ≤ P.a) || tagd P (sn S i)
theorem keepAt_ev (P : Pol) (S : List Snp) (i : Nat) (hi : i < S.length) : evV spM P.d S (evV spW P.c S (evV spD P.b S (baseV P S) 0) 0) 0 i = keepAt P S i := by
  unfold evV baseV keepAt keepX
  rw [drop_sn hi]
  have e : ((S.drop (i + 1)).length : Int) + 1 = (S.length : Int) - i := by rw [List.length_drop]; omega
  rw [e]
  simp [mkS]

theorem keep_bad (P : Pol) (ta : Option Addr) (tc : Nat) (a : Option Addr) (cap : Nat) (S : List Snp) (hS : S.length ≤ 1000000) (w : World) (hr : SnRow w a S) (hk : chk P S ≠ 0) :
    Calls Try.prog 22 #[.agg (polc P ta tc), .slice a S.length cap] w fun e w' => e = .returned (.tuple #[.slice none 0 0, .int .i64 (chk P S : Int)]) ∧ Below w.heap.size w w' := by
  have hb0 := (Below.refl w.heap.size w).alloc (Nat.le_refl _) (.cells (polc P ta tc) 36)
  have C := fun W hr => check_any P ta tc a cap S hS W hr
  have Hr := Lib.hid (hr.below hb0 (Nat.le_refl _))
  obtain ⟨e, he⟩ : ∃ e, chk P S = e := ⟨_, rfl⟩
  rw [he] at hk C ⊢
  have hne : ((e : Int) != 0) = true := by simp; omega
  unfold polc at hb0 C Hr ⊢
  have Hb := Lib.hid hb0
  have CC := Lib.hid C
  obtain ⟨N, HN⟩ : ∃ N, Hid (S.length = N) := ⟨_, Lib.hid (Eq.refl _)⟩
  rw [HN.out] at CC ⊢
  clear hb0 he hk hr C
  obtain ⟨pa, pb, pc, pd, pn, pm⟩ := P
  simp only at Hb Hr CC ⊢
  go_enter Try.func22, Try.ntmps22
  go_wp2_with fail
  refine (CC.out _ Hr.out).mono ?_
  rintro e w2 ⟨rfl, hb2⟩
  have HB2 := Lib.hid (bthen Hb.out hb2)
  clear Hb Hr hb2
  go_wp2_with fail
  go_ret2
  exact ⟨rfl, HB2.out⟩

set_option maxHeartbeats 8000000 in
theorem keep_good (P : Pol) (ta : Option Addr) (tc : Nat) (hn : P.n ≤ 9223372036854775807) (a : Option Addr) (cap : Nat) (S : List Snp) (hS : S.length ≤ 1000000) (w : World) (hT : SRow w ta P.n P.m) (hr : SnRow w a S) (hk : chk P S = 0)
    (hi : P.a ≤ 9223372036854775807 ∧ P.b ≤ 9223372036854775807 ∧ P.c ≤ 9223372036854775807 ∧ P.d ≤ 9223372036854775807) :
    Calls Try.prog 22 #[.agg (polc P ta tc), .slice a S.length cap] w fun e w' => ∃ g, e = .returned (.tuple #[.slice (some ⟨g, 0, none⟩) S.length S.length, .int .i64 0]) ∧ w.heap.size ≤ g ∧
      Blk w' g 4 (fcells S.length (kcell (keepAt P S))) ∧ Below w.heap.size w w' := by
  have hb0 := (Below.refl w.heap.size w).alloc (Nat.le_refl _) (.cells (polc P ta tc) 36)
  have hpb := Blk.new w 36 (polc P ta tc)
  have hlt : w.heap.size < (w.alloc (.cells (polc P ta tc) 36)).heap.size := by simp
  obtain ⟨hp, ho⟩ := chk_zero hk
  have C := fun W hr => check_any P ta tc a cap S hS W hr
  rw [hk] at C
  have hap : ∀ b off sp, a = some ⟨b, off, sp⟩ → 0 < S.length → b < w.heap.size := by
    intro b off sp e h0
    obtain ⟨b', off', e2, h2, _⟩ := hr.get 0 h0
    rw [e] at e2
    injection e2 with e2
    injection e2 with e2
    omega
  have Hap := Lib.hid hap
  have Hr := Lib.hid hr
  have HT := Lib.hid hT
  have Ho := Lib.hid ho
  have Hb := Lib.hid hb0
  have Hpb := Lib.hid hpb
  have CC := Lib.hid C
  have CT := Lib.hid (fun (s : ByteArray) W h => contains_any ta tc P.n P.m hn s W h)
  have hV : ∀ i, i < S.length → evV spM P.d S (evV spW P.c S (evV spD P.b S (baseV P S) 0) 0) 0 i = keepAt P S i := fun i hi => keepAt_ev P S i hi
  have HV := Lib.hid hV
  have hbv : ∀ i, baseV P S i = (decide ((S.length : Int) - i ≤ P.a) || (List.range P.n).any fun j => (P.m j).toList == (sn S i).tag.toList) := fun i => rfl
  have CD := Lib.hid (fun aa cc hr g cap2 V W h0 h1 h2 => every_any 14 runs_day spD span_D (fun t W h0 h1 => dayI t h0 h1 W) S hS ho aa cc P.b hr hi.2.1 g cap2 V W h0 h1 h2)
  have CW := Lib.hid (fun aa cc hr g cap2 V W h0 h1 h2 => every_any 15 runs_week spW span_W (fun t W h0 h1 => weekI t h0 h1 W) S hS ho aa cc P.c hr hi.2.2.1 g cap2 V W h0 h1 h2)
  have CM := Lib.hid (fun aa cc hr g cap2 V W h0 h1 h2 => every_any 16 runs_month spM span_M (fun t W h0 h1 => monthI t h0 h1 W) S hS ho aa cc P.d hr hi.2.2.2 g cap2 V W h0 h1 h2)
  obtain ⟨BV, HBV⟩ : ∃ f, Hid (baseV P S = f) := ⟨_, Lib.hid (Eq.refl _)⟩
  obtain ⟨KV, HKV⟩ : ∃ f, Hid (keepAt P S = f) := ⟨_, Lib.hid (Eq.refl _)⟩
  rw [HBV.out] at hbv HV
  rw [HKV.out] at HV ⊢
  unfold polBad at hp
  obtain ⟨N, HN⟩ : ∃ N, Hid (S.length = N) := ⟨_, Lib.hid (Eq.refl _)⟩
  rw [HN.out] at hbv HV hS CC Hap CD CW CM ⊢
  have Hbv := Lib.hid hbv
  unfold polc at Hb Hpb CC hlt ⊢
  clear hb0 hpb hk hr hT ho C hap hV hbv
  obtain ⟨pa, pb, pc, pd, pn, pm⟩ := P
  simp only at Hb Hpb hlt CC CT HT HV Hbv hi hp hn CD CW CM ⊢
  have hmk := Lib.hid (made_bools N hS)
  clear hi
  go_enter Try.func22, Try.ntmps22
  go_wp2_with fail
  generalize w.alloc (.cells #[.int .i64 pa, .int .i64 pb, .int .i64 pc, .int .i64 pd, .slice ta pn tc] 36) = w1 at *
  obtain ⟨p, Hp⟩ : ∃ p, Hid (w.heap.size = p) := ⟨_, Lib.hid (Eq.refl _)⟩
  rw [Hp.out] at hlt Hpb ⊢
  refine (CC.out _ (Hr.out.below Hb.out (Nat.le_refl _))).mono ?_
  rintro e w2 ⟨rfl, hb2⟩
  have HB2 := Lib.hid (bthen Hb.out hb2)
  have Hpb2 := Lib.hid (Hpb.out.below hb2 hlt)
  have hlt2 : p < w2.heap.size := Nat.lt_of_lt_of_le hlt hb2.size
  clear Hb Hpb hlt hb2
  have hmk2 := hmk.out (N : Int) rfl w2
  have HB3 := Lib.hid (HB2.out.alloc HB2.out.size (.cells (fcells N (kcell fun _ => false)) 4))
  have Hpb3 := Lib.hid (Hpb2.out.alloc (.cells (fcells N (kcell fun _ => false)) 4))
  have Hg3 := Lib.hid (Blk.new w2 4 (fcells N (kcell fun _ => false)))
  obtain ⟨g, Hg⟩ : ∃ g, Hid (w2.heap.size = g) := ⟨_, Lib.hid (Eq.refl _)⟩
  have hpg : p < g := by rw [← Hg.out]; exact hlt2
  have hwg : Hid (w.heap.size ≤ g) := by show _ ≤ _; rw [← Hg.out]; exact HB2.out.size
  rw [Hg.out] at hmk2 Hg3
  go_wp2_with fail
  generalize w2.alloc (.cells (fcells N (kcell fun _ => false)) 4) = w3 at *
  clear HB2 Hpb2 hlt2 hmk2 Hg
  have Hg3' : Hid (Blk w3 g 4 (fcells N (kcell fun i => decide (i < 0) && BV i))) := by
    show Blk _ _ _ _
    rw [fcells_congr N (kcell fun i => decide (i < 0) && BV i) (kcell fun _ => false) (fun i hi => by unfold kcell; simp)]
    exact Hg3.out
  clear Hg3
  go_loopw [21] (fun i wr => ∃ k : Nat, k ≤ N ∧ i = .int .i64 (k : Int) ∧ Hid (Blk wr g 4 (fcells N (kcell fun i => decide (i < k) && BV i))) ∧ Hid (Blk wr p 36 #[.int .i64 pa, .int .i64 pb, .int .i64 pc, .int .i64 pd, .slice ta pn tc]) ∧ Hid (Below w.heap.size w wr))
    (fun i _ => N - (intOf i).toNat)
  case atStart => exact ⟨0, by omega, rfl, Hg3', Hpb3, HB3⟩
  case round =>
    clear Hg3' Hpb3 HB3
    obtain ⟨k, hk, rfl, HG, HP, HB⟩ := hrel
    by_cases hlt : k < N
    · obtain ⟨b, off, rfl, hbl, c0, c1, c2⟩ := (Hr.out.below HB.out (Nat.le_refl _)).get k (by rw [HN.out]; exact hlt)
      obtain ⟨T, HTm⟩ : ∃ T, Hid ((sn S k).time = T) := ⟨_, Lib.hid (Eq.refl _)⟩
      obtain ⟨sid, Hi⟩ : ∃ T, Hid ((sn S k).id = T) := ⟨_, Lib.hid (Eq.refl _)⟩
      obtain ⟨stg, Hsg⟩ : ∃ T, Hid ((sn S k).tag = T) := ⟨_, Lib.hid (Eq.refl _)⟩
      rw [HTm.out] at c1
      rw [Hi.out] at c0
      rw [Hsg.out] at c2
      have hbk := Hbv.out k
      rw [Hsg.out] at hbk
      go_upto_region 8 with (fail)
      obtain ⟨q, Hq⟩ : ∃ g, Hid (wr.heap.size = g) := ⟨_, Lib.hid (Eq.refl _)⟩
      have hB4 := Blk.new wr 49 #[.string sid, .int .i64 T, .string stg]
      have HB4 := Lib.hid (HB.out.alloc HB.out.size (.cells #[.string sid, .int .i64 T, .string stg] 49))
      have HG4 := Lib.hid (HG.out.alloc (.cells #[.string sid, .int .i64 T, .string stg] 49))
      have HP4 := Lib.hid (HP.out.alloc (.cells #[.string sid, .int .i64 T, .string stg] 49))
      rw [Hq.out] at hB4 ⊢
      generalize wr.alloc (.cells #[.string sid, .int .i64 T, .string stg] 49) = w4 at *
      have g2 := hB4.cell 2
      simp at g2
      have p0 := HP4.out.cell 0
      have p4 := HP4.out.cell 4
      simp at p0 p4
      have hfz := HG4.out.frozen k
      have hgc := HG4.out.cell k
      rw [fcells_at _ _ _ hlt] at hgc
      unfold kcell at hgc
      have hset : ∀ X, X = BV k → Blk (w4.setCell ⟨g, k, none⟩ (.bool X)) g 4 (fcells N (kcell fun i => decide (i < k + 1) && BV i)) := by
        intro X hX
        have h := HG4.out.set_ k (.bool X)
        rw [fcells_set] at h
        rw [fcells_congr N (kcell fun i => decide (i < k + 1) && BV i) (fun i => if i = k then .bool X else kcell (fun i => decide (i < k) && BV i) i)]
        · exact h
        · intro i hi
          unfold kcell
          by_cases e : i = k
          · subst e
            rw [if_pos rfl, hX]
            show Value.bool (decide (i < i + 1) && BV i) = _
            rw [decide_eq_true (show i < i + 1 by omega)]
            simp
          · rw [if_neg e]
            show Value.bool (decide (i < k + 1) && BV i) = .bool (decide (i < k) && BV i)
            by_cases e2 : i < k
            · rw [decide_eq_true e2, decide_eq_true (show i < k + 1 by omega)]
            · rw [decide_eq_false e2, decide_eq_false (show ¬ i < k + 1 by omega)]
      have Hset := Lib.hid hset
      have hpq : p ≠ g := by omega
      have HP5 : Hid (∀ X, Blk (w4.setCell ⟨g, k, none⟩ (.bool X)) p 36 #[.int .i64 pa, .int .i64 pb, .int .i64 pc, .int .i64 pd, .slice ta pn tc]) := fun X => HP4.out.far (p := ⟨g, k, none⟩) hpq (.bool X)
      have HB5 : Hid (∀ X, Below w.heap.size w (w4.setCell ⟨g, k, none⟩ (.bool X))) := fun X => grown_below (only_set (only_refl w4 (some g)) k (.bool X)) HB4.out (fun g' e => by injection e with e; rw [← e]; exact hwg.out)
      clear c0 c1 c2 HB HG HP hB4 hset
      by_cases hm : (N : Int) < pa
      · have hmm : ¬ pa ≤ (N : Int) := by omega
        have dd : decide ((N : Int) - (N : Int) ≤ (k : Int)) = true := by simp
        have Hbt : Hid (true = BV k) := by
          show _ = _
          rw [hbk]
          rw [decide_eq_true (by omega)]
          simp
        clear hbk
        go_wp2_with fail
        go_roundw
        case rel => exact ⟨k + 1, by omega, by go_num, Lib.hid (Hset.out true Hbt.out), Lib.hid (HP5.out true), Lib.hid (HB5.out true)⟩
        case measure => first | (simp [intOf]; done) | (simp [intOf]; omega)
      by_cases hd : (N : Int) - pa ≤ (k : Int)
      · have hmm : pa ≤ (N : Int) := by omega
        have dd : decide ((N : Int) - pa ≤ (k : Int)) = true := by simpa using hd
        have Hbt : Hid (true = BV k) := by
          show _ = _
          rw [hbk]
          rw [decide_eq_true (by omega)]
          simp
        clear hbk
        go_wp2_with fail
        go_roundw
        case rel => exact ⟨k + 1, by omega, by go_num, Lib.hid (Hset.out true Hbt.out), Lib.hid (HP5.out true), Lib.hid (HB5.out true)⟩
        case measure => first | (simp [intOf]; done) | (simp [intOf]; omega)
      · have hmm : pa ≤ (N : Int) := by omega
        have dd : decide ((N : Int) - pa ≤ (k : Int)) = false := by simpa using hd
        obtain ⟨Y, HY⟩ : ∃ Y, Hid (((List.range pn).any fun j => (pm j).toList == stg.toList) = Y) := ⟨_, Lib.hid (Eq.refl _)⟩
        have ct := CT.out stg w4 (HT.out.below HB4.out)
        rw [HY.out] at ct hbk
        have Hbt : Hid (Y = BV k) := by
          show _ = _
          rw [hbk]
          rw [decide_eq_false (by omega)]
          simp
        clear hbk
        go_wp2_with fail
        refine ct.mono ?_
        rintro e w5 ⟨rfl, rfl⟩
        clear ct
        go_wp2_with fail
        go_roundw
        case rel => exact ⟨k + 1, by omega, by go_num, Lib.hid (Hset.out Y Hbt.out), Lib.hid (HP5.out Y), Lib.hid (HB5.out Y)⟩
        case measure => first | (simp [intOf]; done) | (simp [intOf]; omega)
    · obtain rfl : k = N := by omega
      have hne : 0 < k → ∀ b off sp, a = some ⟨b, off, sp⟩ → b ≠ g := by
        intro h0 b off sp e
        have := Hap.out b off sp e h0; have := hwg.out; omega
      have HG0 : Hid (Blk wr g 4 (fcells k (kcell BV))) := by
        show Blk _ _ _ _
        rw [fcells_congr k (kcell BV) (kcell fun i => decide (i < k) && BV i) (fun i hi => by show Value.bool _ = .bool (decide (i < k) && BV i); rw [decide_eq_true hi, Bool.true_and])]
        exact HG.out
      have hg0 : ∀ g', some g = some g' → w.heap.size ≤ g' := fun g' e => by injection e with e; rw [← e]; exact hwg.out
      have p1 := HP.out.cell 1
      simp at p1
      have cd := CD.out a cap (by omega) g k BV wr (Hr.out.below HB.out (Nat.le_refl _)) hne HG0.out
      clear HG
      go_wp2_with fail
      refine cd.mono ?_
      rintro e w5 ⟨rfl, hB5, hG5⟩
      have HP5 := Lib.hid (HP.out.grown hG5 (fun e => by injection e with e; omega))
      have HB5 := Lib.hid (grown_below hG5 HB.out hg0)
      have HG5 := Lib.hid hB5
      clear hG5 HP HB hB5 p1 cd HG0
      have p2 := HP5.out.cell 2
      simp at p2
      have cw := CW.out a cap (by omega) g k _ w5 (Hr.out.below HB5.out (Nat.le_refl _)) hne HG5.out
      go_wp2_with fail
      refine cw.mono ?_
      rintro e w6 ⟨rfl, hB6, hG6⟩
      have HP6 := Lib.hid (HP5.out.grown hG6 (fun e => by injection e with e; omega))
      have HB6 := Lib.hid (grown_below hG6 HB5.out hg0)
      have HG6 := Lib.hid hB6
      clear hG6 HP5 HB5 hB6 p2 cw HG5
      have p3 := HP6.out.cell 3
      simp at p3
      have cm := CM.out a cap (by omega) g k _ w6 (Hr.out.below HB6.out (Nat.le_refl _)) hne HG6.out
      go_wp2_with fail
      refine cm.mono ?_
      rintro e w7 ⟨rfl, hB7, hG7⟩
      have HB7 := Lib.hid (grown_below hG7 HB6.out hg0)
      have HG7 : Hid (Blk w7 g 4 (fcells k (kcell KV))) := by
        show Blk _ _ _ _
        rw [fcells_congr k (kcell KV) _ (fun i hi => by show Value.bool _ = _; rw [← HV.out i hi])]
        exact hB7
      clear hG7 HP6 HB6 hB7 p3 cm HG6
      go_wp2_with fail
      go_ret2
      exact ⟨g, rfl, hwg.out, HG7.out, HB7.out⟩
end Go.Proofs.Ytcblcjbflgepoaa
