/- ZipfmtIndexes: the walk. Conditions: names of at most a million bytes. -/
import Derived.Test.YthehocmfpoglgaaJphpdbo
import Derived.Test.YthehocmfpoglgaaJlfkkkj
import Derived.Test.YthehocmfpoglgaaJgphlfh
namespace Go.Proofs.Ythehocmfpoglgaa
open Go.RowKit
set_option maxRecDepth 100000
theorem OwnH.empty (w : World) (base : Nat) (hb : base <= w.heap.size) : OwnH (w.alloc (.cells #[] 26)) base (.slice (some ⟨w.heap.size, 0, none⟩) 0 0) [] :=
 ⟨rfl, .inr ⟨w.heap.size, 0, #[], rfl, hb, Blk.new w _ _, Qa _, Nat.zero_le _, rfl, rfl⟩⟩
theorem OwnH.keptR {w w' : World} {base b2 : Nat} {v v2 : Value} {L L2 : List Hd} (h : OwnH w base v L) (k : OwnHr w b2 v2 L2) (hg : w.grownBy w' v2.ownBlock) : OwnH w' base v L := by
 refine World.ownsRow.kept h hg ?_
 cases hv : v.ownBlock with
 | none => exact .inl rfl
 | some g => exact .inr fun e => own_far h k (by decide) g hv e.symm
theorem OwnHr.keptH {w w' : World} {base b2 : Nat} {v v2 : Value} {L L2 : List Hd} (h : OwnHr w base v L) (k : OwnH w b2 v2 L2) (hg : w.grownBy w' v2.ownBlock) : OwnHr w' base v L := by
 refine World.ownsRow.kept h hg ?_
 cases hv : v.ownBlock with
 | none => exact .inl rfl
 | some g => exact .inr fun e => own_far h k (by decide) g hv e.symm
theorem headsF_len {s : ByteArray} {l : List Hd} (h : headsF s = .ok l) : l.length <= 200 := (headsF_ok h).2.2.2.1
theorem clamp8 (N : Int) : ∃ (M : Int) (c : Nat), c <= 1000 /\ (∀ W, Sem.run Try.prog (Builtin.min_ #[3, 3] 3 #[.int .i64 N, .int .i64 1000]) W = .ok (.int .i64 M) W) /\ ∀ W, Sem.run Try.prog (Builtin.max_ #[3, 3] 3 #[.int .i64 0, .int .i64 M]) W = .ok (.int .i64 (c : Int)) W := by
 refine ⟨if 1000 < N then 1000 else N, (if (if 1000 < N then 1000 else N) > 0 then (if 1000 < N then 1000 else N) else 0).toNat, ?_, fun _ => rfl, fun W => ?_⟩
 . repeat' split
   all_goals omega
 . have e : (if (if 1000 < N then 1000 else N) > 0 then (if 1000 < N then 1000 else N) else 0) = (((if (if 1000 < N then 1000 else N) > 0 then (if 1000 < N then 1000 else N) else 0).toNat : Nat) : Int) := by
    have : (0 : Int) <= (if (if 1000 < N then 1000 else N) > 0 then (if 1000 < N then 1000 else N) else 0) := by
     repeat' split
     all_goals omega
    omega
   show Result.ok (Value.int .i64 (if (if 1000 < N then 1000 else N) > 0 then (if 1000 < N then 1000 else N) else 0)) W = _
   rw [e]
   simp
set_option maxHeartbeats 8000000 in
theorem idx8_any (L : List Hd) (a : Option Addr) (cap : Nat) (at' : Int) (hL : L.length <= 9223372036854775807) (hf : ∀ h ∈ L, h.crc < 4294967296 /\ h.name.size <= 1048576) (w : World) (hr : HRow w a L) :
 Calls Try.prog 3 #[.slice a L.length cap, .int .i64 at'] w fun e w' => e = .returned (.bool true) /\ Below w.heap.size w w' := by
 have HR := Qf hr
 have Hf := Qf hf
 have CA := Qf awake8_any
 have hft : ∀ h ∈ L.take 20, h.crc < 4294967296 /\ h.name.size <= 1048576 := fun h hh => hf h (List.mem_of_mem_take hh)
 have hlt20 : (L.take 20).length <= 20 := by rw [List.length_take]; omega
 have hmost : (idxH (L.take 20)).length <= 1048700 * (L.take 20).length := by
  have : ∀ M : List Hd, (∀ h ∈ M, h.name.size <= 1048576) -> (idxH M).length <= 1048700 * M.length := by
   intro M
   induction M with
   | nil => intro _; exact Qa _
   | cons x r ih =>
    intro h
    have e : idxH (x :: r) = idxL1 x ++ idxH r := rfl
    have h1 := h x (List.mem_cons_self ..)
    have h2 := ih fun y hy => h y (List.mem_cons_of_mem _ hy)
    rw [e, List.length_append, idxL1_len, List.length_cons]; omega
  exact this _ fun h hh => (hft h hh).2
 have CI := Qf (fun (oa : Option Addr) (oc : Nat) (W : World) (hr : HRow W oa (L.take 20)) => index_any (L.take 20) oa oc at' (by omega) (fun h hh => (hft h hh).1) (fun h hh => Qe (hft h hh).2 (by decide)) (by omega) W hr)
 have CJ := Qf (fun (oa : Option Addr) (oc : Nat) (W : World) (hr : HRow W oa (L.take 20)) => rindex_any (L.take 20) oa oc at' (by omega) (fun h hh => (hft h hh).1) (fun h hh => Qe (hft h hh).2 (by decide)) (by omega) W hr)
 have hiz : (⟨(indexL (L.take 20) at').toArray⟩ : ByteArray).size <= 50000000 := by
  show (indexL (L.take 20) at').toArray.size <= _
  rw [List.size_toArray, indexL_len]; omega
 obtain ⟨IX, HIX⟩ := Qi ((⟨(indexL (L.take 20) at').toArray⟩ : ByteArray))
 rw [HIX.out] at CI CJ hiz
 obtain ⟨mn, c, hc1, hmin, hmax⟩ := clamp8 at'
 obtain ⟨M, HM⟩ := Qi (L.length)
 rw [HM.out] at hL ⊢
 have hb0 := (Below.refl w.heap.size w).alloc (Qa _) (.cells #[] 26)
 have hb00 := hb0.alloc hb0.size (.cells #[] 27)
 have HO0 : Hid (OwnH ((w.alloc (.cells #[] 26)).alloc (.cells #[] 27)) w.heap.size (.slice (some ⟨w.heap.size, 0, none⟩) 0 0) (L.take 0)) := (OwnH.empty w _ (Qa _)).below ((Below.refl _ _).alloc (Qa _) _) (Qa _)
 have HM0 : Hid (OwnHr ((w.alloc (.cells #[] 26)).alloc (.cells #[] 27)) w.heap.size (.slice (some ⟨w.heap.size + 1, 0, none⟩) 0 0) (L.take 0)) := by
  have := OwnHr.empty (w.alloc (.cells #[] 26)) w.heap.size (by simp)
  show OwnHr _ _ _ _
  simpa using this
 have HBz := Qf hb00
 clear hr hf hft hmost hb0 hb00 HIX
 go_enter Try.func3, Try.ntmps3
 go_upto_region 2 with fail
 obtain ⟨w3, HW3⟩ := Qi ((w.alloc (.cells #[] 26)).alloc (.cells #[] 27))
 rw [HW3.out] at HO0 HM0 HBz ⊢
 clear HW3
 go_wp2_with fail
 go_loopw [5, 6, 7] (fun p_ m_ j_ wq => ∃ (j : Nat), j <= M /\ j <= 20 /\ j_ = .int .i64 (j : Int) /\ Hid (OwnH wq w.heap.size p_ (L.take j)) /\ Hid (OwnHr wq w.heap.size m_ (L.take j)) /\ Hid (Below w.heap.size w wq)) (fun _ _ j _ => M - (intOf j).toNat)
 case atStart => exact ⟨0, Nat.zero_le _, Nat.zero_le _, rfl, HO0, HM0, HBz⟩
 case round =>
  clear HO0 HM0 HBz
  obtain ⟨j, hjM, hj20, rfl, HO, HN, HB⟩ := hrel
  have hln : (L.take j).length = j := by rw [List.length_take, HM.out]; omega
  obtain ⟨pa, pc, rfl, hpr⟩ := HO.out.view
  obtain ⟨ma, mc, rfl, hmr⟩ := HN.out.view
  rw [hln] at HO
  rw [hln] at HN
  rw [hln]
  have HLn := Qf hln
  have HPr := Qf hpr
  have HMr := Qf hmr
  clear hln hpr hmr
  by_cases hlt : j < M /\ j < 20
  . have dj : decide ((j : Int) < (M : Int)) = true := Qg (by omega)
    have djb : decide (j < M) = true := Qg (by omega)
    have dn : decide ((j : Int) < 20) = true := Qg (by omega)
    have dnb : decide (j < 20) = true := Qg (by omega)
    have hjI : (j : Int) < (M : Int) := by omega
    have hjL : j < L.length := by rw [HM.out]; exact hlt.1
    obtain ⟨b, off, rfl, hbl, hcl⟩ := HR.out j hjL
    have hsn : Hid (L.take (j + 1) = L.take j ++ [L[j]]) := by
     show _ = _
     rw [List.take_succ_eq_append_getElem hjL]
    obtain ⟨h, Hh⟩ := Qi (L[j])
    rw [Hh.out] at hcl hsn
    have hone := hd_one h
    obtain ⟨nm, me, cr, pk, sz, pl⟩ := h
    unfold Hd.cells at hcl hone
    dsimp only at hcl hone
    have kc : ∀ i v, (#[.string nm, .int .i64 me, .int .u32 (cr : Int), .int .i64 pk, .int .i64 sz, .int .i64 pl] : Array Value)[i]? = some v -> wr.cell? ⟨b, off + j * 6 + i, none⟩ = some v := fun i v hv => (HB.out.cell (p := ⟨b, off + j * 6 + i, none⟩) hbl).trans (hcl i v hv)
    have k0 := kc 0 _ rfl
    have k1 := kc 1 _ rfl
    have k2 := kc 2 _ rfl
    have k3 := kc 3 _ rfl
    have k4 := kc 4 _ rfl
    have k5 := kc 5 _ rfl
    simp only [Nat.add_zero] at k0
    have hos : wr.ownsRow w.heap.size 26 6 (.slice pa j pc) j (hcells (L.take j)) := by
     have := HO.out
     unfold OwnH at this
     rwa [HLn.out] at this
    have hbsw : w.heap.size <= wr.heap.size := HB.out.size
    have HBL := Qf hbl
    have HKC := Qf hcl
    clear hjL hbl Hh hcl kc
    go_upto_region 6 with (first
     | (at_builtin; go_must (refine wpList_append_elem wr rfl (.tmp 27) (.tmp 32) rfl Try.underlying22 info_head rfl (by decide) w.heap.size (.slice pa j pc) j (hcells (L.take j)) [.string nm, .int .i64 me, .int .u32 (cr : Int), .int .i64 pk, .int .i64 sz, .int .i64 pl] hos rfl hone rfl rfl rfl ?_ ?_ hbsw ?_; (unfold maxLen; omega); omega; intro v8 w8 hown8 hg8; have HO8 : Hid (OwnH w8 w.heap.size v8 (L.take (j + 1))) := (by show OwnH _ _ _ _; rw [hsn.out]; exact OwnH.snoc (by rw [HLn.out]; exact hown8)); have HN8 := Qf (HN.out.keptH HO.out hg8); have HB8 := Qf (HB.out.trans (below_grown hos hg8 hbsw)); clear hown8 hg8))
     | fail)
    have kd : ∀ i v, (#[.string nm, .int .i64 me, .int .u32 (cr : Int), .int .i64 pk, .int .i64 sz, .int .i64 pl] : Array Value)[i]? = some v -> w8.cell? ⟨b, off + j * 6 + i, none⟩ = some v := fun i v hv => (HB8.out.cell (p := ⟨b, off + j * 6 + i, none⟩) HBL.out).trans (HKC.out i v hv)
    clear k0 k1 k2 k3 k4 k5
    have k0 := kd 0 _ rfl
    have k1 := kd 1 _ rfl
    have k2 := kd 2 _ rfl
    have k3 := kd 3 _ rfl
    have k4 := kd 4 _ rfl
    have k5 := kd 5 _ rfl
    simp only [Nat.add_zero] at k0
    have hosm : w8.ownsRow w.heap.size 27 6 (.slice ma j mc) j (hcells (L.take j)) := by
     have := HN8.out
     unfold OwnHr at this
     rwa [HLn.out] at this
    have hbsw8 : w.heap.size <= w8.heap.size := HB8.out.size
    clear hos hbsw kd
    go_wp2_with (first
     | (at_builtin; go_must (refine wpList_append_elem w8 rfl (.tmp 34) (.tmp 39) rfl Try.underlying23 info_rhead rfl (by decide) w.heap.size (.slice ma j mc) j (hcells (L.take j)) [.string nm, .int .i64 me, .int .u32 (cr : Int), .int .i64 pk, .int .i64 sz, .int .i64 pl] hosm rfl hone rfl rfl rfl ?_ ?_ hbsw8 ?_; (unfold maxLen; omega); omega; intro v9 w9 hown9 hg9; have HN9 : Hid (OwnHr w9 w.heap.size v9 (L.take (j + 1))) := (by show OwnHr _ _ _ _; rw [hsn.out]; exact OwnHr.snoc (by rw [HLn.out]; exact hown9)); have HO9 := Qf (HO8.out.keptR HN8.out hg9); have HB9 := Qf (HB8.out.trans (below_grown hosm hg9 hbsw8)); clear hown9 hg9))
     | fail)
    go_roundw
    case rel => exact ⟨j + 1, by omega, by omega, by go_num, HO9, HN9, HB9⟩
    case measure => simp [intOf]; omega
  . have hS : L.take j = L.take 20 := by
     rcases Nat.lt_or_ge j 20 with h | h
     . rw [List.take_of_length_le (by rw [HM.out]; omega), List.take_of_length_le (by rw [HM.out]; omega)]
     . have e1 : j = 20 := by omega
       rw [e1]
    have hnot : (decide ((j : Int) < (M : Int)) = false /\ decide (j < M) = false) \/ ((decide ((j : Int) < (M : Int)) = true /\ decide (j < M) = true) /\ (decide ((j : Int) < 20) = false /\ decide (j < 20) = false)) := by
     rcases Nat.lt_or_ge j M with h | h
     . exact .inr ⟨⟨Qg (by omega), Qg (by omega)⟩, ⟨Qh (by omega), Qh (by omega)⟩⟩
     . exact .inl ⟨Qh (by omega), Qh (by omega)⟩
    have hPr := HPr.out
    have hMr := HMr.out
    have hl20 := HLn.out
    rw [hS] at hPr hMr hl20
    rw [hl20] at CI CJ
    have HP2 := Qf hPr
    have HM2 := Qf hMr
    have hX : (runS c 0 ++ IX).size = c + IX.size := by rw [ByteArray.size_append, runS_size]
    have CH := Qf (fun W => heads_any (runS c 0 ++ IX) (by rw [hX]; omega) W)
    have CR := Qf (fun W => rheads_any (runS c 0 ++ IX) (by rw [hX]; unfold maxLen; omega) W)
    have HLen : Hid (∀ l, headsF (runS c 0 ++ IX) = .ok l -> l.length <= 200) := fun l h => headsF_len h
    have hmk := fun W => run_make_f (t := 31) (e := 5) Try.underlying31 info_u8 rfl c (c : Int) rfl (by omega) (by omega) W
    obtain ⟨ZC, HZC⟩ := Qi (fcells c (fun _ => Value.int .u8 0))
    have HCZ : Hid (∀ W g, Blk W g 5 ZC -> (convert 31 9 (.slice (some ⟨g, 0, none⟩) c c)).run Try.prog W = .ok (.string (runS c 0)) W) := fun W g h => run_runS (c := 0) (by decide) c W g (by rw [<- HZC.out] at h; exact h)
    rw [HZC.out] at hmk
    have hfz := runS_size c 0
    obtain ⟨fr, Hfr⟩ := Qi (runS c 0)
    rw [Hfr.out] at CH CR HLen HCZ hfz
    have hov : ¬ 9223372036854775807 < fr.size + IX.size := by omega
    have hov2 : ¬ 9223372036854775807 < c + IX.size := by omega
    have HMK := Qf hmk
    have hne : (!IX.toList == IX.toList) = false := by simp
    clear hPr hMr hl20 hS hX Hfr HZC hmk HPr HMr HLn HO HN hlt
    rcases hnot with ⟨d4, d4b⟩ | ⟨⟨d4, d4b⟩, d5, d5b⟩
    all_goals
     go_wp2_with fail
     refine (CI.out _ _ _ HP2.out).mono ?_
     rintro e v1 ⟨rfl, hb1⟩
     have HB1 := Qf (bthen HB.out hb1)
     have HM3 := Qf (HM2.out.below hb1 (Qa _))
     clear hb1
     go_wp2_with fail
     refine (CA.out _).mono ?_
     rintro e v2 ⟨rfl, hb2⟩
     have HB2 := Qf (bthen HB1.out hb2)
     have HM4 := Qf (HM3.out.below hb2 (Qa _))
     clear hb2 HM3
     go_wp2_with fail
     refine (CJ.out _ _ _ HM4.out).mono ?_
     rintro e v3 ⟨rfl, hb3⟩
     have HB3 := Qf (bthen HB2.out hb3)
     clear hb3 HM4
     have m1 := HMK.out v3
     have z1 := HCZ.out (v3.alloc (.cells ZC 5)) v3.heap.size (Blk.new v3 _ _)
     have HB4 := Qf (HB3.out.alloc HB3.out.size (.cells ZC 5))
     go_upto_region 11 with fail
     clear m1 z1
     obtain ⟨v4, HV4⟩ := Qi (v3.alloc (.cells ZC 5))
     rw [HV4.out] at HB4 ⊢
     clear HV4
     go_wp2_with fail
     refine (CH.out _).mono ?_
     rintro e v5 ⟨hb5, ⟨k, hk, rfl⟩ | ⟨l, v, hl, rfl, hv⟩⟩
     . have HB5 := Qf (bthen HB4.out hb5)
       clear hb5
       go_wp2_with fail
       refine (CR.out _).mono ?_
       rintro e v6 ⟨hb6, ⟨k2, hk2, rfl⟩ | ⟨l, v, hl, _, _⟩⟩
       . have HB6 := Qf (bthen HB5.out hb6)
         rw [hk] at hk2
         injection hk2 with hk2
         subst hk2
         clear hb6 hk
         go_wp2_with fail
         go_loopw [84] (fun j_ wq => j_ = .int .i64 0 /\ v6 = wq) (fun _ _ => 0)
         case atStart => exact ⟨rfl, rfl⟩
         case round =>
          obtain ⟨rfl, rfl⟩ := hrel
          go_wp2_with fail
          go_ret
          exact ⟨rfl, HB6.out⟩
       . rw [hk] at hl; cases hl
     . have hlen := HLen.out l hl
       obtain ⟨ga, gc, rfl, hgr⟩ := hv.view
       have HB5 := Qf (bthen HB4.out hb5)
       have HGr := Qf hgr
       clear hb5 hv hgr
       go_wp2_with fail
       refine (CR.out _).mono ?_
       rintro e v6 ⟨hb6, ⟨k2, hk2, _⟩ | ⟨l2, v, hl2, rfl, hv⟩⟩
       . rw [hl] at hk2; cases hk2
       . rw [hl] at hl2
         injection hl2 with hl2
         subst hl2
         obtain ⟨wa, wc, rfl, hwr⟩ := hv.view
         have HB6 := Qf (bthen HB5.out hb6)
         have HGr6 := Qf (HGr.out.below hb6 (Qa _))
         have HWr6 := Qf hwr
         have HZ := Qf (Below.refl v6.heap.size v6)
         obtain ⟨N, HN⟩ := Qi (l.length)
         rw [HN.out] at hlen ⊢
         clear hb6 hv hwr hl HGr
         go_wp2_with fail
         go_loopw [84] (fun j_ wq => ∃ j : Nat, j <= N /\ j_ = .int .i64 (j : Int) /\ Hid (Below v6.heap.size v6 wq)) (fun j _ => N - (intOf j).toNat)
         case atStart => exact ⟨0, Nat.zero_le _, rfl, HZ⟩
         case round =>
          clear HZ
          obtain ⟨i, hi, rfl, HBi⟩ := hrel
          by_cases hlt2 : i < N
          . have di : decide ((i : Int) < (N : Int)) = true := Qg (by omega)
            have dib : decide (i < N) = true := Qg (by omega)
            have hiI : (i : Int) < (N : Int) := by omega
            have hi2 : i < l.length := by rw [HN.out]; exact hlt2
            obtain ⟨b1, o1, rfl, _, q1⟩ := (HGr6.out.below HBi.out (Qa _)) i hi2
            obtain ⟨b2, o2, rfl, _, q2⟩ := (HWr6.out.below HBi.out (Qa _)) i hi2
            obtain ⟨h, Hh⟩ := Qi (l[i])
            rw [Hh.out] at q1 q2
            obtain ⟨nm, me, cr, pk, sz, pl⟩ := h
            unfold Hd.cells at q1 q2
            dsimp only at q1 q2
            have a0 := q1 0 _ rfl
            have a1 := q1 1 _ rfl
            have a2 := q1 2 _ rfl
            have a3 := q1 3 _ rfl
            have a4 := q1 4 _ rfl
            have a5 := q1 5 _ rfl
            have c0 := q2 0 _ rfl
            have c1 := q2 1 _ rfl
            have c2 := q2 2 _ rfl
            have c3 := q2 3 _ rfl
            have c4 := q2 4 _ rfl
            have c5 := q2 5 _ rfl
            simp only [Nat.add_zero] at a0 c0
            clear q1 q2 Hh hi2
            go_wp2_with fail
            go_quiet (fail)
            all_goals
             go_wp2_with fail
             go_roundw
             case rel => exact ⟨i + 1, by omega, by go_num, Qf (below_drewN HBi.out _)⟩
             case measure => simp [intOf]; omega
          . obtain rfl : i = N := by omega
            have di : decide ((i : Int) < (i : Int)) = false := Qh (by omega)
            go_wp2_with fail
            go_ret
            exact ⟨rfl, bthen HB6.out HBi.out⟩
end Go.Proofs.Ythehocmfpoglgaa
