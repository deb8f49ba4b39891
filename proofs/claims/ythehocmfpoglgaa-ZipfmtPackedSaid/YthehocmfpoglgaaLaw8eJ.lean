/- ZipfmtPacked: whichever files are deflated, the same files are read. Conditions: names and texts that Go can hold. -/
import Derived.Test.YthehocmfpoglgaaJebboal
import Derived.Test.YthehocmfpoglgaaLaw8aJ
namespace Go.Proofs.Ythehocmfpoglgaa
open Go.RowKit
set_option maxRecDepth 100000
set_option maxHeartbeats 8000000 in
theorem packed8_any (L : List Fl) (a : Option Addr) (cap : Nat) (ta : Option Addr) (n tc : Nat) (m : Nat -> Int) (hn : ∀ f ∈ L, f.2.size <= maxLen) (w : World) (hr : FRow w a L) (hi : IRow w ta n m) :
 Calls Try.prog 4 #[.slice a L.length cap, .slice ta n tc] w fun e w' => e = .returned (.bool true) /\ Below w.heap.size w w' := by
 have CS := Qf (short_any L a cap 10 (by decide) hn w hr)
 have hf2 : ∀ f ∈ shortL L 10, f.2.size <= 400 := fun f h => (shortL_mem h).1
 have hl2 : (shortL L 10).length <= 10 := by rw [shortL_len]; omega
 obtain ⟨S, HS⟩ := Qi (shortL L 10)
 rw [HS.out] at CS hf2 hl2
 have CK := Qf (fun a cap W h => check_any S a cap (by omega) W h)
 have HPR := Qf (fun h => packed_read hf2 hl2 h n m)
 have HI := Qf hi
 have CA := Qf awake8_any
 have HF2 := Qf hf2
 have HZL := Qf (zpL_len n m S 0)
 have HZF := Qf (zpL_f n m S 0)
 obtain ⟨c, Hc⟩ := Qi (chkF S)
 rw [Hc.out] at CK HPR
 obtain ⟨N, HN⟩ := Qi (S.length)
 rw [HN.out] at CK hl2 HZL
 clear hr hn hi hf2 HS
 go_enter Try.func4, Try.ntmps4
 go_wp2_with fail
 refine CS.out.mono ?_
 rintro e w1 ⟨hb1, v, rfl, hv⟩
 obtain ⟨sa, sc, rfl, hrow⟩ := hv.view
 rw [HN.out]
 have HRw := Qf hrow
 have HB1 := Qf hb1
 have HI1 := Qf (HI.out.below hb1)
 clear hb1 hv hrow CS HI
 go_wp2_with fail
 refine (CK.out _ _ _ HRw.out).mono ?_
 rintro e w2 ⟨rfl, hb2⟩
 have HB2 := Qf (bthen HB1.out hb2)
 have HR2 := Qf (HRw.out.below hb2 (Qa _))
 have HI2 := Qf (HI1.out.below hb2)
 clear hb2 HRw HI1 CK
 by_cases hc : c = 0
 . subst hc
   obtain ⟨hrd, hsz, hok⟩ := HPR.out rfl
   have HRd := Qf hrd
   have HOk := Qf hok
   obtain ⟨Z, HZ⟩ := Qi (zpL n m S 0)
   rw [HZ.out] at hrd hsz hok HRd HOk HZL HZF
   obtain ⟨arc, Harc⟩ := Qi ((⟨(wholeL (arcP Z 0)).toArray⟩ : ByteArray))
   rw [Harc.out] at hsz HRd
   have HA0 : Hid ([] ++ zpL n m (S.drop 0) 0 = Z) := HZ.out
   have hb0 := (Below.refl w2.heap.size w2).alloc (Qa _) (.cells #[] 9)
   have hb00 := hb0.alloc hb0.size (.cells #[] 3)
   have HO0 : Hid (OwnU 9 ((w2.alloc (.cells #[] 9)).alloc (.cells #[] 3)) w2.heap.size (.slice (some ⟨w2.heap.size, 0, none⟩) 0 0) (([] : List Arc).map fun z => .string z.d)) := (OwnU.empty 9 w2 _ (Qa _)).below ((Below.refl _ _).alloc (Qa _) _) (Qa _)
   have HM0 : Hid (OwnU 3 ((w2.alloc (.cells #[] 9)).alloc (.cells #[] 3)) w2.heap.size (.slice (some ⟨w2.heap.size + 1, 0, none⟩) 0 0) (([] : List Arc).map fun z => .int .i64 z.m)) := by
    have := OwnU.empty 3 (w2.alloc (.cells #[] 9)) w2.heap.size (by simp)
    show OwnU _ _ _ _ _
    simpa using this
   have HBz := Qf hb00
   clear hb0 hb00 hrd hok HPR
   go_upto_region 5 with fail
   obtain ⟨w3, HW3⟩ := Qi ((w2.alloc (.cells #[] 9)).alloc (.cells #[] 3))
   rw [HW3.out] at HO0 HM0 HBz ⊢
   clear HW3
   go_wp2_with fail
   go_loopw [6, 7, 26] (fun p_ m_ j_ wq => ∃ (j : Nat) (A : List Arc), j <= N /\ A.length = j /\ j_ = .int .i64 (j : Int) /\ Hid (A ++ zpL n m (S.drop j) j = Z) /\ Hid (OwnU 9 wq w2.heap.size p_ (A.map fun z => .string z.d)) /\ Hid (OwnU 3 wq w2.heap.size m_ (A.map fun z => .int .i64 z.m)) /\ Hid (Below w2.heap.size w2 wq)) (fun _ _ j _ => N - (intOf j).toNat)
   case atStart => exact ⟨0, [], Nat.zero_le _, rfl, rfl, HA0, HO0, HM0, HBz⟩
   case round =>
    clear HO0 HM0 HBz HA0
    obtain ⟨j, A, hj, Hj, rfl, HAz, HO, HM, HBl⟩ := hrel
    have HJ := Qf Hj
    clear Hj
    obtain ⟨pa, pc, rfl, hpr⟩ := HO.out.view
    obtain ⟨ma, mc, rfl, hmr⟩ := HM.out.view
    have HPRw := Qf hpr
    have HMRw := Qf hmr
    rw [List.length_map, HJ.out] at HO
    rw [List.length_map, HJ.out] at HM
    rw [List.length_map, List.length_map, HJ.out]
    clear hpr hmr
    by_cases hlt : j < N
    . have dj : decide ((j : Int) < (N : Int)) = true := Qg (by omega)
      have djb : decide (j < N) = true := Qg (by omega)
      have hjI : (j : Int) < (N : Int) := by omega
      have hjL : j < S.length := by rw [HN.out]; exact hlt
      obtain ⟨b, off, rfl, hbl, c0, c1⟩ := (HR2.out.below HBl.out (Qa _)) j hjL
      have hAz := HAz.out
      rw [List.drop_eq_getElem_cons hjL, zpL] at hAz
      have hfz := HF2.out _ (List.getElem_mem hjL)
      obtain ⟨⟨nm, dt⟩, Hf⟩ : ∃ R, Hid (S[j] = R) := ⟨_, Qf (Eq.refl _)⟩
      rw [Hf.out] at c0 c1 hAz hfz
      dsimp only at c0 c1 hfz
      have HZo : Hid (zOf n m (nm, dt) j = if j < n /\ 0 <= m j /\ m j <= 9 then ⟨(nm, dt), dflB dt (m j).toNat, 8⟩ else ⟨(nm, dt), dt, 0⟩) := rfl
      obtain ⟨zc, Hzc⟩ := Qi (zOf n m (nm, dt) j)
      rw [Hzc.out] at HZo hAz
      have HAz2 := Qf hAz
      have hal := HBl.out.alloc HBl.out.size (.cells #[.string nm, .string dt] 44)
      have hal0 := (Below.refl wr.heap.size wr).alloc (Qa _) (.cells #[.string nm, .string dt] 44)
      have HBn := Qf (Blk.new wr 44 #[.string nm, .string dt])
      have HOa := Qf (HO.out.below hal0 (Qa _))
      have HMa := Qf (HM.out.below hal0 (Qa _))
      have HBa := Qf hal
      clear hAz hal hal0 HO HM HBl HAz hjL hbl Hf Hzc
      go_upto_region 8 with fail
      obtain ⟨F, HF0⟩ := Qi (wr.heap.size)
      rw [HF0.out] at HBn ⊢
      obtain ⟨w4, HW4⟩ := Qi (wr.alloc (.cells #[.string nm, .string dt] 44))
      rw [HW4.out] at HBn HOa HMa HBa ⊢
      clear HW4 c0 c1
      have q1 : w4.cell? ⟨F, 1, none⟩ = some (.string dt) := HBn.out.cell 1
      by_cases hlv : j < n /\ 0 <= m j /\ m j <= 9
      . obtain ⟨l1, l2, l3⟩ := hlv
        obtain ⟨tb, tof, rfl, htb, ht0⟩ := (HI2.out.below HBa.out).get j l1
        obtain ⟨lv, Hlv⟩ : ∃ k : Nat, m j = (k : Int) := ⟨(m j).toNat, by omega⟩
        rw [Hlv] at ht0 l2 l3 HZo
        have HZc : Hid (zc = ⟨(nm, dt), dflB dt lv, 8⟩) := by show _ = _; rw [HZo.out, if_pos ⟨l1, l2, l3⟩, Int.toNat_natCast]
        have CD := Qf (fun W => deflate_small dt lv (by omega) (by omega) W)
        obtain ⟨d, Hd0⟩ := Qi (dflB dt lv)
        rw [Hd0.out] at HZc CD
        have e1 : decide ((j : Int) < (n : Int)) = true := Qg (by omega)
        have e1b : decide (j < n) = true := Qg (by omega)
        have e1I : (j : Int) < (n : Int) := by omega
        have e2 : decide ((0 : Int) <= (lv : Int)) = true := Qg (by omega)
        have e3 : decide ((lv : Int) <= 9) = true := Qg (by omega)
        have e3b : decide (lv <= 9) = true := Qg (by omega)
        have x1 : w4.drew.cell? ⟨F, 1, none⟩ = some (.string dt) := q1
        have x2 : w4.drew.cell? ⟨tb, tof + j, none⟩ = some (.int .i64 (lv : Int)) := ht0
        have HTB := Qf htb
        clear HZo Hlv hfz htb
        go_upto_region 10 with fail
        go_region_held3 (fun W => W.cell? ⟨F, 1, none⟩ = some (.string dt) /\ W.cell? ⟨tb, tof + j, none⟩ = some (.int .i64 (lv : Int)))
         (first | exact ⟨x1, x2⟩ | exact ⟨x3, x4⟩ | exact ⟨by assumption, by assumption⟩)
         (first
          | (go_at_call 15; refine (CD.out _).mono ?_; rintro e w5 ⟨rfl, hb5⟩; have HB5 : Below w4.heap.size w4 w5 := bthen (by (repeat' (first | with_reducible exact Below.refl _ _ | with_reducible assumption | with_reducible apply Below.drew | with_reducible apply below_al))) hb5; have x3 : w5.cell? ⟨F, 1, none⟩ = some (.string dt) := (HBn.out.below HB5 HBn.out.lt).cell 1; have x4 : w5.cell? ⟨tb, tof + j, none⟩ = some (.int .i64 (lv : Int)) := (HB5.cell (p := ⟨tb, tof + j, none⟩) HTB.out).trans x2; clear hb5))
        all_goals
         have HO5 := Qf (HOa.out.below HB5 (Qa _))
         have HM5 := Qf (HMa.out.below HB5 (Qa _))
         have HB5h := Qf (bthen HBa.out HB5)
         clear HB5 x1 x2 x3 x4 q1 ht0 CD HOa HMa HBa
         go_upto_region 15 with fail
         have hosp : w5.ownsRow w2.heap.size 9 1 (.slice pa j pc) j (A.map fun z => .string z.d) := by
          have := HO5.out
          unfold OwnU at this
          rwa [List.length_map, HJ.out] at this
         have hbsw : w2.heap.size <= w5.heap.size := HB5h.out.size
         have hone : ∀ u ∈ ([.string d] : List Value), u.oneCell' = true := fun u hu => by simp at hu; subst hu; rfl
         have hone2 : ∀ u ∈ ([.int .i64 8] : List Value), u.oneCell' = true := fun u hu => by simp at hu; subst hu; rfl
         go_upto_region 16 with (first
          | (at_builtin; go_must (refine wpList_append_elem w5 rfl (.tmp 64) (.tmp 66) rfl Try.underlying42 info_str rfl (by decide) w2.heap.size (.slice pa j pc) j (A.map fun z => .string z.d) [.string d] hosp rfl hone rfl rfl rfl ?_ ?_ hbsw ?_; (unfold maxLen; omega); omega; intro v8 w8 hown8 hg8; have HO8 : Hid (OwnU 9 w8 w2.heap.size v8 ((A ++ [zc]).map fun z => .string z.d)) := (by show OwnU _ _ _ _ _; rw [List.map_append, List.map_cons, List.map_nil, HZc.out]; exact OwnU.snoc (by rw [List.length_map, HJ.out]; exact hown8)); have HM8 := Qf (HM5.out.kept HO5.out (by decide) hg8); have HB8 := Qf (HB5h.out.trans (below_grown hosp hg8 hbsw)); clear hown8 hg8))
          | fail)
         have hosm : w8.ownsRow w2.heap.size 3 1 (.slice ma j mc) j (A.map fun z => .int .i64 z.m) := by
          have := HM8.out
          unfold OwnU at this
          rwa [List.length_map, HJ.out] at this
         have hbsw8 : w2.heap.size <= w8.heap.size := HB8.out.size
         clear hosp hbsw
         go_wp2_with (first
          | (at_builtin; go_must (refine wpList_append_elem w8 rfl (.tmp 68) (.tmp 70) rfl Try.underlying39 info_int8 rfl (by decide) w2.heap.size (.slice ma j mc) j (A.map fun z => .int .i64 z.m) [.int .i64 8] hosm rfl hone2 rfl rfl rfl ?_ ?_ hbsw8 ?_; (unfold maxLen; omega); omega; intro v9 w9 hown9 hg9; have HM9 : Hid (OwnU 3 w9 w2.heap.size v9 ((A ++ [zc]).map fun z => .int .i64 z.m)) := (by show OwnU _ _ _ _ _; rw [List.map_append, List.map_cons, List.map_nil, HZc.out]; exact OwnU.snoc (by rw [List.length_map, HJ.out]; exact hown9)); have HO9 := Qf (HO8.out.kept HM8.out (by decide) hg9); have HB9 := Qf (HB8.out.trans (below_grown hosm hg9 hbsw8)); clear hown9 hg9))
          | fail)
         go_roundw
         case rel => exact ⟨j + 1, A ++ [zc], by omega, by rw [List.length_append, HJ.out]; rfl, by go_num, (by show _ = _; rw [List.append_assoc]; exact HAz2.out), HO9, HM9, HB9⟩
         case measure => simp [intOf]; omega
      . have HZc : Hid (zc = ⟨(nm, dt), dt, 0⟩) := by show _ = _; rw [HZo.out, if_neg hlv]
        by_cases l1 : j < n
        . obtain ⟨tb, tof, rfl, htb, ht0⟩ := (HI2.out.below HBa.out).get j l1
          obtain ⟨lv, Hlv⟩ : ∃ k : Int, m j = k := ⟨_, rfl⟩
          rw [Hlv] at ht0 hlv
          have e1 : decide ((j : Int) < (n : Int)) = true := Qg (by omega)
          have e1b : decide (j < n) = true := Qg (by omega)
          have e1I : (j : Int) < (n : Int) := by omega
          have hc2 : decide ((0 : Int) <= lv) = false \/ (decide ((0 : Int) <= lv) = true /\ decide (lv <= 9) = false) := by
           by_cases h : (0 : Int) <= lv
           . exact .inr ⟨by rw [decide_eq_true_eq]; exact h, Qh (by omega)⟩
           . exact .inl (by rw [decide_eq_false_iff_not]; exact h)
          clear HZo Hlv hfz htb hlv
          rcases hc2 with e2 | ⟨e2, e3⟩
          all_goals
           go_upto_region 15 with fail
           have hosp : w4.ownsRow w2.heap.size 9 1 (.slice pa j pc) j (A.map fun z => .string z.d) := by
            have := HOa.out
            unfold OwnU at this
            rwa [List.length_map, HJ.out] at this
           have hbsw : w2.heap.size <= w4.heap.size := HBa.out.size
           have hone : ∀ u ∈ ([.string dt] : List Value), u.oneCell' = true := fun u hu => by simp at hu; subst hu; rfl
           have hone2 : ∀ u ∈ ([.int .i64 0] : List Value), u.oneCell' = true := fun u hu => by simp at hu; subst hu; rfl
           go_upto_region 16 with (first
            | (at_builtin; go_must (refine wpList_append_elem w4 rfl (.tmp 64) (.tmp 66) rfl Try.underlying42 info_str rfl (by decide) w2.heap.size (.slice pa j pc) j (A.map fun z => .string z.d) [.string dt] hosp rfl hone rfl rfl rfl ?_ ?_ hbsw ?_; (unfold maxLen; omega); omega; intro v8 w8 hown8 hg8; have HO8 : Hid (OwnU 9 w8 w2.heap.size v8 ((A ++ [zc]).map fun z => .string z.d)) := (by show OwnU _ _ _ _ _; rw [List.map_append, List.map_cons, List.map_nil, HZc.out]; exact OwnU.snoc (by rw [List.length_map, HJ.out]; exact hown8)); have HM8 := Qf (HMa.out.kept HOa.out (by decide) hg8); have HB8 := Qf (HBa.out.trans (below_grown hosp hg8 hbsw)); clear hown8 hg8))
            | fail)
           have hosm : w8.ownsRow w2.heap.size 3 1 (.slice ma j mc) j (A.map fun z => .int .i64 z.m) := by
            have := HM8.out
            unfold OwnU at this
            rwa [List.length_map, HJ.out] at this
           have hbsw8 : w2.heap.size <= w8.heap.size := HB8.out.size
           clear hosp hbsw
           go_wp2_with (first
            | (at_builtin; go_must (refine wpList_append_elem w8 rfl (.tmp 68) (.tmp 70) rfl Try.underlying39 info_int8 rfl (by decide) w2.heap.size (.slice ma j mc) j (A.map fun z => .int .i64 z.m) [.int .i64 0] hosm rfl hone2 rfl rfl rfl ?_ ?_ hbsw8 ?_; (unfold maxLen; omega); omega; intro v9 w9 hown9 hg9; have HM9 : Hid (OwnU 3 w9 w2.heap.size v9 ((A ++ [zc]).map fun z => .int .i64 z.m)) := (by show OwnU _ _ _ _ _; rw [List.map_append, List.map_cons, List.map_nil, HZc.out]; exact OwnU.snoc (by rw [List.length_map, HJ.out]; exact hown9)); have HO9 := Qf (HO8.out.kept HM8.out (by decide) hg9); have HB9 := Qf (HB8.out.trans (below_grown hosm hg9 hbsw8)); clear hown9 hg9))
            | fail)
           go_roundw
           case rel => exact ⟨j + 1, A ++ [zc], by omega, by rw [List.length_append, HJ.out]; rfl, by go_num, (by show _ = _; rw [List.append_assoc]; exact HAz2.out), HO9, HM9, HB9⟩
           case measure => simp [intOf]; omega
        . have e1 : decide ((j : Int) < (n : Int)) = false := Qh (by omega)
          have e1b : decide (j < n) = false := Qh (by omega)
          clear HZo hfz hlv
          go_upto_region 15 with fail
          have hosp : w4.ownsRow w2.heap.size 9 1 (.slice pa j pc) j (A.map fun z => .string z.d) := by
           have := HOa.out
           unfold OwnU at this
           rwa [List.length_map, HJ.out] at this
          have hbsw : w2.heap.size <= w4.heap.size := HBa.out.size
          have hone : ∀ u ∈ ([.string dt] : List Value), u.oneCell' = true := fun u hu => by simp at hu; subst hu; rfl
          have hone2 : ∀ u ∈ ([.int .i64 0] : List Value), u.oneCell' = true := fun u hu => by simp at hu; subst hu; rfl
          go_upto_region 16 with (first
           | (at_builtin; go_must (refine wpList_append_elem w4 rfl (.tmp 64) (.tmp 66) rfl Try.underlying42 info_str rfl (by decide) w2.heap.size (.slice pa j pc) j (A.map fun z => .string z.d) [.string dt] hosp rfl hone rfl rfl rfl ?_ ?_ hbsw ?_; (unfold maxLen; omega); omega; intro v8 w8 hown8 hg8; have HO8 : Hid (OwnU 9 w8 w2.heap.size v8 ((A ++ [zc]).map fun z => .string z.d)) := (by show OwnU _ _ _ _ _; rw [List.map_append, List.map_cons, List.map_nil, HZc.out]; exact OwnU.snoc (by rw [List.length_map, HJ.out]; exact hown8)); have HM8 := Qf (HMa.out.kept HOa.out (by decide) hg8); have HB8 := Qf (HBa.out.trans (below_grown hosp hg8 hbsw)); clear hown8 hg8))
           | fail)
          have hosm : w8.ownsRow w2.heap.size 3 1 (.slice ma j mc) j (A.map fun z => .int .i64 z.m) := by
           have := HM8.out
           unfold OwnU at this
           rwa [List.length_map, HJ.out] at this
          have hbsw8 : w2.heap.size <= w8.heap.size := HB8.out.size
          clear hosp hbsw
          go_wp2_with (first
           | (at_builtin; go_must (refine wpList_append_elem w8 rfl (.tmp 68) (.tmp 70) rfl Try.underlying39 info_int8 rfl (by decide) w2.heap.size (.slice ma j mc) j (A.map fun z => .int .i64 z.m) [.int .i64 0] hosm rfl hone2 rfl rfl rfl ?_ ?_ hbsw8 ?_; (unfold maxLen; omega); omega; intro v9 w9 hown9 hg9; have HM9 : Hid (OwnU 3 w9 w2.heap.size v9 ((A ++ [zc]).map fun z => .int .i64 z.m)) := (by show OwnU _ _ _ _ _; rw [List.map_append, List.map_cons, List.map_nil, HZc.out]; exact OwnU.snoc (by rw [List.length_map, HJ.out]; exact hown9)); have HO9 := Qf (HO8.out.kept HM8.out (by decide) hg9); have HB9 := Qf (HB8.out.trans (below_grown hosm hg9 hbsw8)); clear hown9 hg9))
           | fail)
          go_roundw
          case rel => exact ⟨j + 1, A ++ [zc], by omega, by rw [List.length_append, HJ.out]; rfl, by go_num, (by show _ = _; rw [List.append_assoc]; exact HAz2.out), HO9, HM9, HB9⟩
          case measure => simp [intOf]; omega
    . obtain rfl : j = N := by omega
      have dj : decide ((j : Int) < (j : Int)) = false := Qh (by omega)
      have hA : A = Z := by
       have := HAz.out
       rwa [List.drop_of_length_le (by rw [HN.out]; exact Qa _), zpL, List.append_nil] at this
      subst hA
      have hrd := HR2.out.below HBl.out (Qa _)
      have HRw := Qf hrd
      have CT : Hid (∀ a cap W, FRow W a S -> Calls Try.prog 18 #[.slice a j cap] W fun e w' => Below W.heap.size W w' /\ ∃ v, e = .returned v /\ OwnFr w' W.heap.size v S) := fun a cap W h => by
       have := told_any S a cap (by rw [HN.out]; omega) W h
       rwa [HN.out] at this
      have CX : Hid (∀ a1 c1 W, FRow W a1 (A.map Arc.f) -> RowU W pa (A.map fun z => .string z.d) -> RowU W ma (A.map fun z => .int .i64 z.m) -> Calls Try.prog 17 #[.slice a1 j c1, .slice pa j pc, .slice ma j mc] W fun e w' => e = .returned (.string arc) /\ Below W.heap.size W w') := fun a1 c1 W h1 h2 h3 => by
       have := archive_any A a1 pa ma c1 pc mc (by rw [HZL.out]; omega) (fun z hz => ⟨by have := (HOk.out z hz).1; omega, (HOk.out z hz).2.1, by have := (HOk.out z hz).2.2.1; omega⟩) W h1 h2 h3
       rwa [HZL.out, Harc.out] at this
      rw [HZF.out] at CX
      have CR : Hid (∀ W, Calls Try.prog 16 #[.string arc] W fun e w' => Below W.heap.size W w' /\ ∃ a cap, e = .returned (.tuple #[.slice a j cap, .int .i64 0]) /\ FRow w' a S) := fun W => by
       refine (read_any arc (by omega) W).mono ?_
       rintro e w' ⟨hb, ⟨k, hk, _, _⟩ | ⟨l, v, hl, he, hv⟩⟩
       . rw [HRd.out] at hk; cases hk
       . rw [HRd.out] at hl
         injection hl with hl
         subst hl
         obtain ⟨a, cap, rfl, hr⟩ := hv.view
         rw [HN.out] at he
         exact ⟨hb, a, cap, he, hr⟩
      have CSm : Hid (∀ a1 c1 a2 c2 W, FRow W a1 S -> FRow W a2 S -> Calls Try.prog 19 #[.slice a1 j c1, .slice a2 j c2] W fun e w' => Below W.heap.size W w' /\ e = .returned (.bool true)) := fun a1 c1 a2 c2 W h1 h2 => by
       have := same_any S S a1 a2 c1 c2 (by rw [HN.out]; omega) (by rw [HN.out]; omega) W h1 h2
       have es : sameB S S = true := by unfold sameB; classical exact decide_eq_true rfl
       rwa [es, HN.out] at this
      clear hrd HOk HRd HO HM HAz HR2
      go_wp2_with fail
      refine (CT.out _ _ _ HRw.out).mono ?_
      rintro e v1 ⟨hb1, t1, rfl, ht1⟩
      obtain ⟨ta1, tc1, rfl, htr1⟩ := ht1.view
      rw [HN.out]
      have HTr1 := Qf htr1
      have HRw1 := Qf (HRw.out.below hb1 (Qa _))
      have HP1 := Qf (HPRw.out.below hb1 (Qa _))
      have HM1 := Qf (HMRw.out.below hb1 (Qa _))
      have HV1 := Qf (bthen HBl.out hb1)
      clear hb1 ht1 htr1 HRw HPRw HMRw
      go_wp2_with fail
      refine (CX.out _ _ _ HTr1.out HP1.out HM1.out).mono ?_
      rintro e v2 ⟨rfl, hb2⟩
      have HRw2 := Qf (HRw1.out.below hb2 (Qa _))
      have HV2 := Qf (bthen HV1.out hb2)
      clear hb2 HTr1 HP1 HM1 HRw1 CX
      go_wp2_with fail
      refine (CR.out _).mono ?_
      rintro e v3 ⟨hb3, ra, rc, rfl, hra⟩
      have HRa := Qf hra
      have HRw3 := Qf (HRw2.out.below hb3 (Qa _))
      have HV3 := Qf (bthen HV2.out hb3)
      clear hb3 hra HRw2 CR
      go_wp2_with fail
      refine (CA.out _).mono ?_
      rintro e v4 ⟨rfl, hb4⟩
      have HRa4 := Qf (HRa.out.below hb4 (Qa _))
      have HRw4 := Qf (HRw3.out.below hb4 (Qa _))
      have HV4 := Qf (bthen HV3.out hb4)
      clear hb4 HRa HRw3
      go_wp2_with fail
      refine (CT.out _ _ _ HRa4.out).mono ?_
      rintro e v5 ⟨hb5, t5, rfl, ht5⟩
      obtain ⟨ta5, tc5, rfl, htr5⟩ := ht5.view
      rw [HN.out]
      have HTr5 := Qf htr5
      have HRw5 := Qf (HRw4.out.below hb5 (Qa _))
      have HV5 := Qf (bthen HV4.out hb5)
      clear hb5 ht5 htr5 HRa4 HRw4
      go_wp2_with fail
      refine (CT.out _ _ _ HRw5.out).mono ?_
      rintro e v6 ⟨hb6, t6, rfl, ht6⟩
      obtain ⟨ta6, tc6, rfl, htr6⟩ := ht6.view
      rw [HN.out]
      have HTr6 := Qf htr6
      have HTr56 := Qf (HTr5.out.below hb6 (Qa _))
      have HV6 := Qf (bthen HV5.out hb6)
      clear hb6 ht6 htr6 HRw5 HTr5
      go_wp2_with fail
      refine (CSm.out _ _ _ _ _ HTr56.out HTr6.out).mono ?_
      rintro e v7 ⟨hb7, rfl⟩
      have HV7 := Qf (bthen HV6.out hb7)
      clear hb7
      go_wp2_with fail
      go_ret
      exact ⟨rfl, bthen HB2.out HV7.out⟩
 . have hcI : ¬ (c : Int) = 0 := by omega
   clear HPR
   go_wp2_with fail
   refine (CA.out _).mono ?_
   rintro e w3 ⟨rfl, hb3⟩
   have HB3 := Qf (bthen HB2.out hb3)
   clear hb3
   go_wp2_with fail
   go_ret
   exact ⟨rfl, HB3.out⟩
end Go.Proofs.Ythehocmfpoglgaa
