/- DeflateBack: the law. Conditions: none. -/
import Derived.Test.YtjnglahjngiofaaJmoicel
import Derived.Test.YtjnglahjngiofaaJglaifh
import Derived.Test.YtjnglahjngiofaaJfbagfm
namespace Go.Proofs.Ytjnglahjngiofaa
open Go.RowKit
set_option maxRecDepth 100000
set_option maxHeartbeats 8000000 in
theorem back_bad (s : ByteArray) (hs : s.size <= maxLen) (lv : Int) (h : lv < 0 \/ 9 < lv) (w : World) :
 Calls Try.prog 13 #[.string s, .int .i64 lv] w fun e w' => e = .returned (.bool true) /\ Below w.heap.size w w' := by
 have CA := Qf awake7_any
 have F1 := Qf (fun W => few_any s 2000 (by decide) hs W)
 obtain ⟨s', Hs⟩ := Qi (few s 2000)
 rw [Hs.out] at F1
 have D1 := Qf (fun W => deflate_bad s' lv h W)
 by_cases h0 : lv < 0
 . have d0 : decide (lv < 0) = true := by rw [decide_eq_true_eq]; exact h0
   clear h h0 hs
   go_enter Try.func13, Try.ntmps13
   go_wp2_with fail
   refine (F1.out _).mono ?_
   rintro e w1 ⟨rfl, rfl⟩
   go_wp2_with fail
   refine (D1.out _).mono ?_
   rintro e w1 ⟨rfl, rfl⟩
   go_wp2_with fail
   refine (CA.out _).mono ?_
   rintro e w2 ⟨rfl, hb2⟩
   have Hb2 := Qf hb2
   clear hb2
   go_wp2_with fail
   go_ret
   exact ⟨rfl, Hb2.out⟩
 . have d0 : decide (lv < 0) = false := by rw [decide_eq_false_iff_not]; exact h0
   have d1 : decide (9 < lv) = true := Qg (by omega)
   clear h h0 hs
   go_enter Try.func13, Try.ntmps13
   go_wp2_with fail
   refine (F1.out _).mono ?_
   rintro e w1 ⟨rfl, rfl⟩
   go_wp2_with fail
   refine (D1.out _).mono ?_
   rintro e w1 ⟨rfl, rfl⟩
   go_wp2_with fail
   refine (CA.out _).mono ?_
   rintro e w2 ⟨rfl, hb2⟩
   have Hb2 := Qf hb2
   clear hb2
   go_wp2_with fail
   go_ret
   exact ⟨rfl, Hb2.out⟩
set_option maxHeartbeats 8000000 in
theorem back_ok (s : ByteArray) (hs : s.size <= maxLen) (lv : Nat) (h : lv <= 9) (w : World) :
 Calls Try.prog 13 #[.string s, .int .i64 (lv : Int)] w fun e w' => e = .returned (.bool true) /\ Below w.heap.size w w' := by
 have CA := Qf awake7_any
 have F1 := Qf (fun W => few_any s 2000 (by decide) hs W)
 obtain ⟨s', Hs⟩ := Qi (few s 2000)
 have ls : s'.size <= 2000 := by rw [<- Hs.out]; exact few_size _ _
 rw [Hs.out] at F1
 have D1 := Qf (fun W => deflate_small s' lv h (by omega) W)
 have la := dflB_size s' lv
 have hrd := dflB_reads s' lv s'.size (by omega) (Qa _)
 obtain ⟨a, Ha⟩ := Qi (dflB s' lv)
 rw [Ha.out] at D1 la hrd
 obtain ⟨bs, σ, h1, h2, h3, _⟩ := hrd
 obtain ⟨M, HM⟩ := Qi (s'.size)
 have CS := Qf (rstored7 s' (by omega))
 rw [HM.out] at h1 la ls CS
 have CI := Qf (fun W => inflate_is_ok (s := a) (q := 0) (most := M) (by omega) (Nat.zero_le _) (by omega) (extract_all a) h1 W)
 have e1 : (8 * a.size - σ.n + 7) / 8 = a.size := by omega
 have e3 : (⟨(joinL [] bs).toArray⟩ : ByteArray) = s' := by rw [h2]
 rw [e1, e3] at CI
 have CR : Hid (∀ W, Calls Try.prog 28 #[.string a, .int .i64 0, .int .i64 (M : Int)] W fun r w' => r = .returned (.tuple #[.string s', .int .i64 (a.size : Int), .int .i64 0]) /\ Below W.heap.size W w') := by
  intro W
  refine (rinflate_ok a (by omega) 0 M (Nat.zero_le _) (by omega) a (extract_all a) W).mono ?_
  rintro r w' ⟨hb, ⟨e, _, hr, _⟩ | ⟨bs', p, z, hr, hp, rfl⟩⟩
  . rw [h1] at hr; cases hr
  . rw [h1] at hr
    injection hr with hr
    injection hr with hr1 hr2
    subst hr1
    refine ⟨?_, hb⟩
    have hσ : σ.n = 8 * a.size - p := by rw [hr2]; rfl
    have e4 : (p + 7) / 8 = a.size := by omega
    rw [e3, e4]
 have hsI := HM.out
 have dl : decide ((a.size : Int) <= (M : Int) + 5) = true := Qg (by omega)
 have d0 : decide ((lv : Int) < 0) = false := Qh (by omega)
 have d1 : decide ((9 : Int) < (lv : Int)) = false := Qh (by omega)
 have d1b : decide (9 < lv) = false := Qh (by omega)
 have La := Qf la
 have Hsm := Qf hsI
 have hsz : (s'.size : Int) = (M : Int) := by rw [hsI]
 clear h hs la h1 h2 h3 e1 e3 hsI dl
 go_enter Try.func13, Try.ntmps13
 go_wp2_with fail
 refine (F1.out _).mono ?_
 rintro e w1 ⟨rfl, rfl⟩
 go_wp2_with fail
 refine (D1.out _).mono ?_
 rintro e w1 ⟨rfl, hb1⟩
 have Hb1 := Qf hb1
 clear hb1
 go_wp2_with fail
 refine (CI.out _).mono ?_
 rintro e w2 ⟨rfl, hb2⟩
 have Hb2 := Qf (bthen Hb1.out hb2)
 clear hb2
 go_wp2_with fail
 refine (CR.out _).mono ?_
 rintro e w3 ⟨rfl, hb3⟩
 have Hb3 := Qf (bthen Hb2.out hb3)
 clear hb3
 go_wp2_with fail
 refine (CA.out _).mono ?_
 rintro e w4 ⟨rfl, hb4⟩
 have Hb4 := Qf (bthen Hb3.out hb4)
 clear hb4
 go_wp2_with fail
 refine (CS.out _).mono ?_
 rintro e w5 ⟨u, rfl, hu, hb5⟩
 have Hb5 := Qf (bthen Hb4.out hb5)
 have dl : decide ((a.size : Int) <= (u.size : Int)) = true := by rw [decide_eq_true_eq]; have := La.out; omega
 have dlb : decide (a.size <= u.size) = true := by rw [decide_eq_true_eq]; have := La.out; omega
 clear hb5 hu
 go_wp2_with fail
 go_ret
 exact ⟨rfl, Hb5.out⟩
theorem back_any (s : ByteArray) (hs : s.size <= maxLen) (lv : Int) (w : World) :
 Calls Try.prog 13 #[.string s, .int .i64 lv] w fun e w' => e = .returned (.bool true) /\ Below w.heap.size w w' := by
 by_cases h : lv < 0 \/ 9 < lv
 . exact back_bad s hs lv h w
 . obtain ⟨k, rfl⟩ : ∃ k : Nat, lv = (k : Int) := ⟨lv.toNat, by omega⟩
   exact back_ok s hs k (by omega) w
end Go.Proofs.Ytjnglahjngiofaa
