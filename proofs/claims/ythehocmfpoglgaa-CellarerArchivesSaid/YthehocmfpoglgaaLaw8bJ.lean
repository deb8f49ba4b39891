/- CellarerArchives: what stands at each head of a written archive. Conditions: names and texts that Go can hold. -/
import Derived.Test.YthehocmfpoglgaaJiciihh
import Derived.Test.YthehocmfpoglgaaLaw8aJ
import Derived.Test.YthehocmfpoglgaaJpjgiil
namespace Go.Proofs.Ythehocmfpoglgaa
open Go.RowKit
set_option maxRecDepth 100000
theorem i64w (a b c : Nat) (h : a + b = c) (hc : c <= 9000000000000000000) : IntKind.i64.wrap ((a : Int) + (b : Int)) = (c : Int) := by rw [IntKind.wrap_i64]; omega
set_option maxHeartbeats 8000000 in
theorem arch_ok (L : List Fl) (a : Option Addr) (cap : Nat) (lv : Nat) (hlv : lv <= 9) (hn : ∀ f ∈ L, f.2.size <= maxLen) (w : World) (hr : FRow w a L) :
 Calls Try.prog 7 #[.slice a L.length cap, .int .i64 (lv : Int)] w fun e w' => e = .returned (.bool true) /\ Below w.heap.size w w' := by
 have CSt := Qf stored_ab
 have CS := Qf (fun W h => short_any L a cap 20 (by decide) hn W h)
 have HR0 := Qf hr
 have hf2 : ∀ f ∈ shortL L 20, f.2.size <= 400 := fun f h => (shortL_mem h).1
 have hl2 : (shortL L 20).length <= 20 := by rw [shortL_len]; omega
 obtain ⟨S, HS⟩ := Qi (shortL L 20)
 rw [HS.out] at CS hf2 hl2
 have CW := Qf (fun a cap W h => write_small S a cap lv hlv (by omega) hf2 W h)
 have HOK : Hid (∀ s, writeF (fun x => dflB x lv) S = .ok s -> s.size <= 20000 /\ chkF S = 0 /\ ∃ H, headsF s = .ok H /\ H.length = S.length /\ ∀ j (h1 : j < S.length) (h2 : j < H.length), ∃ n0 d, AtJ (fun x => dflB x lv) s S[j] H[j] n0 d) := fun s h => by
  obtain ⟨z1, z2⟩ := write_size h hf2
  have hD : ∀ f ∈ S, ((fun x => dflB x lv) f.2).size < f.2.size -> inflT ((fun x => dflB x lv) f.2) f.2.size = some (f.2, ((fun x => dflB x lv) f.2).size) := fun f hh _ => dflB_T f.2 lv (by have := hf2 f hh; omega)
  obtain ⟨h2, _⟩ := write_read h hD
  refine ⟨by omega, z2, _, h2, by rw [List.length_map, packL_len], fun j h3 h4 => write_at h hD j h3 h4⟩
 have HF2 := Qf hf2
 obtain ⟨N, HN⟩ := Qi (S.length)
 obtain ⟨WF, HWF⟩ := Qi (writeF (fun x => dflB x lv) S)
 rw [HWF.out] at CW HOK
 rw [HN.out] at CW hl2
 clear hr hn hf2 HS HWF
 go_enter Try.func7, Try.ntmps7
 go_wp2_with fail
 refine (CSt.out _).mono ?_
 rintro e w0 ⟨rfl, hb0⟩
 have HB0 := Qf hb0
 have hr1 := HR0.out.below hb0 (Qa _)
 have CS1 := Qf (CS.out w0 hr1)
 clear hb0 hr1 CS HR0
 go_wp2_with fail
 refine CS1.out.mono ?_
 rintro e w1 ⟨hb1, v, rfl, hv⟩
 obtain ⟨sa, sc, rfl, hrow⟩ := hv.view
 rw [HN.out]
 have HRw := Qf hrow
 have HB1 := Qf (bthen HB0.out hb1)
 clear hb1 hv hrow CS1
 go_wp2_with fail
 refine (CW.out _ _ _ HRw.out).mono ?_
 rintro e w2 ⟨hb2, ⟨er, rfl, hen, rfl⟩ | ⟨s, rfl, rfl⟩⟩
 . have HB2 := Qf (bthen HB1.out hb2)
   have heI : ¬ (er : Int) = 0 := by omega
   clear hb2 HOK CW
   go_wp2_with fail
   go_ret
   exact ⟨rfl, HB2.out⟩
 . obtain ⟨hs, hck, H, hH, hHl, hat⟩ := HOK.out s rfl
   have HB2 := Qf (bthen HB1.out hb2)
   have HR2 := Qf (HRw.out.below hb2 (Qa _))
   have HAt := Qf hat
   have HHl := Qf hHl
   have CH : Hid (∀ W, Calls Try.prog 11 #[.string s] W fun r w' => Below W.heap.size W w' /\ ∃ a cap, r = .returned (.tuple #[.slice a N cap, .int .i64 0]) /\ HRow w' a H) := fun W => by
    refine (heads_any s (by omega) W).mono ?_
    rintro r w' ⟨hb, ⟨k, hk, _⟩ | ⟨l, v, hl, he, hv⟩⟩
    . rw [hH] at hk; cases hk
    . rw [hH] at hl
      injection hl with hl
      subst hl
      obtain ⟨a, cap, rfl, hr⟩ := hv.view
      rw [hHl, HN.out] at he
      exact ⟨hb, a, cap, he, hr⟩
   clear hb2 hH hat hHl HOK CW HRw
   go_wp2_with fail
   refine (CH.out _).mono ?_
   rintro e w3 ⟨hb3, ha, hcap, rfl, hhr⟩
   have HB3 := Qf (bthen HB2.out hb3)
   have HR3 := Qf (HR2.out.below hb3 (Qa _))
   have HH3 := Qf hhr
   have HZ := Qf (Below.refl w3.heap.size w3)
   clear hb3 hhr HR2 CH
   go_wp2_with fail
   go_loopw [49] (fun j_ wq => ∃ (j : Nat), j <= N /\ j_ = .int .i64 (j : Int) /\ Hid (Below w3.heap.size w3 wq)) (fun j _ => N - (intOf j).toNat)
   case atStart => exact ⟨0, Nat.zero_le _, rfl, HZ⟩
   case round =>
    clear HZ
    obtain ⟨j, hj, rfl, HBl⟩ := hrel
    by_cases hlt : j < N
    . have dj : decide ((j : Int) < (N : Int)) = true := Qg (by omega)
      have djb : decide (j < N) = true := Qg (by omega)
      have hjI : (j : Int) < (N : Int) := by omega
      have hj1 : j < S.length := by rw [HN.out]; exact hlt
      have hj2 : j < H.length := by rw [HHl.out]; exact hj1
      obtain ⟨b, off, rfl, hbl, hcl⟩ := (HH3.out.below HBl.out (Qa _)) j hj2
      obtain ⟨b2, off2, rfl, hbl2, c0', c1'⟩ := HR3.out j hj1
      have c0 := (HBl.out.cell (p := ⟨b2, off2 + j * 2, none⟩) hbl2).trans c0'
      have c1 := (HBl.out.cell (p := ⟨b2, off2 + j * 2 + 1, none⟩) hbl2).trans c1'
      have hsz := HF2.out _ (List.getElem_mem hj1)
      have hnm := nmB_size (chkL_ok S _ (chkF_ok hck).2 _ (List.getElem_mem hj1)).2
      obtain ⟨n0, d, hat⟩ := HAt.out j hj1 hj2
      obtain ⟨⟨nm0, dt⟩, Hf⟩ : ∃ R, Hid (S[j] = R) := ⟨_, Qf (Eq.refl _)⟩
      rw [Hf.out] at c0 c1 hat hsz hnm
      obtain ⟨h, Hh⟩ := Qi (H[j])
      rw [Hh.out] at hat hcl
      obtain ⟨t1, t2, t3, t4, t5, t6, t7, t8, t9, t10⟩ := hat
      have CO := Qf (fun W => open_any s h (by omega) (by rw [t3]; exact crc0_lt _) (by rw [t1]; dsimp only at hnm ⊢; omega) W)
      rw [t9] at CO
      obtain ⟨hm, me, cr, pk', sz', pl'⟩ := h
      dsimp only at t1 t2 t3 t4 t5 t6 t7 t8 t10 c0 c1 hsz hnm CO
      subst t1 t2 t4 t5
      obtain ⟨cc, Hcc⟩ := Qi (crcOf 0 dt.data.toList)
      have CR := Qf (fun W => crc32_any dt W (by unfold maxLen; omega))
      rw [Hcc.out] at CR t3
      subst t3
      unfold Hd.cells at hcl
      unfold Hd.val Hd.cells at CO
      dsimp only at hcl CO
      have k0 := hcl 0 _ rfl
      have k1 := hcl 1 _ rfl
      have k2 := hcl 2 _ rfl
      have k3 := hcl 3 _ rfl
      have k4 := hcl 4 _ rfl
      have k5 := hcl 5 _ rfl
      simp only [Nat.add_zero] at k0
      obtain ⟨n1, Hn1⟩ := Qi (n0 + 30)
      rw [Hn1.out] at t6 t7 t8
      obtain ⟨q, Hq⟩ := Qi (n1 + hm.size)
      rw [Hq.out] at t6 t7 t8
      obtain ⟨e0, He0⟩ := Qi (q + d.size)
      rw [He0.out] at t6 t7
      have x1 : IntKind.i64.wrap ((n0 : Int) + 30) = (n1 : Int) := i64w n0 30 n1 Hn1.out (by have := Hq.out; have := He0.out; omega)
      have x2 : IntKind.i64.wrap ((n1 : Int) + (hm.size : Int)) = (q : Int) := i64w n1 hm.size q Hq.out (by have := He0.out; omega)
      have x3 : IntKind.i64.wrap ((q : Int) + (d.size : Int)) = (e0 : Int) := i64w q d.size e0 He0.out (by omega)
      have hqe : q <= e0 := by have := He0.out; omega
      have hqeI : (q : Int) <= (e0 : Int) := by omega
      have he0I : (e0 : Int) <= (s.size : Int) := by omega
      have g1 : decide ((n0 : Int) < 0) = false := Qh (by omega)
      have g2 : decide ((d.size : Int) < 0) = false := Qh (by omega)
      have g3 : decide ((s.size : Int) < (e0 : Int)) = false := Qh (by omega)
      have g3b : decide (s.size < e0) = false := Qh (by omega)
      have T8 := Qf t8
      have T10 := Qf t10
      have T7 := Qf t7
      have hal := HBl.out.alloc HBl.out.size (.cells #[.string hm, .int .i64 me, .int .u32 (cr : Int), .int .i64 (d.size : Int), .int .i64 (dt.size : Int), .int .i64 (n0 : Int)] 26)
      have hbn := Blk.new wr 26 #[.string hm, .int .i64 me, .int .u32 (cr : Int), .int .i64 (d.size : Int), .int .i64 (dt.size : Int), .int .i64 (n0 : Int)]
      have HBn := Qf hbn
      have HBa := Qf hal
      have hb0 := (Below.refl wr.heap.size wr).alloc (Qa _) (.cells #[.string hm, .int .i64 me, .int .u32 (cr : Int), .int .i64 (d.size : Int), .int .i64 (dt.size : Int), .int .i64 (n0 : Int)] 26)
      have hbl2' : b2 < wr.heap.size := Qb hbl2 HBl.out.size
      have y0 := (hb0.cell (p := ⟨b2, off2 + j * 2, none⟩) hbl2').trans c0
      have y1 := (hb0.cell (p := ⟨b2, off2 + j * 2 + 1, none⟩) hbl2').trans c1
      clear t7 t8 t9 t10 hal hbn hj1 hj2 hbl hcl Hf Hh c0' c1' hb0
      go_upto_region 13 with fail
      obtain ⟨G, HG⟩ := Qi (wr.heap.size)
      rw [HG.out] at HBn ⊢
      obtain ⟨w4, HW4⟩ := Qi (wr.alloc (.cells #[.string hm, .int .i64 me, .int .u32 (cr : Int), .int .i64 (d.size : Int), .int .i64 (dt.size : Int), .int .i64 (n0 : Int)] 26))
      have hbl4 : b2 < w4.heap.size := by rw [<- HW4.out]; exact Qb hbl2' (by simp)
      rw [HW4.out] at HBn HBa y0 y1 ⊢
      have HBL := Qf hbl4
      clear HW4 k0 k1 k2 k3 k4 k5 hbl4 hbl2' c0 c1
      have k0 : w4.cell? ⟨G, 0, none⟩ = some (.string hm) := HBn.out.cell 0
      have k1 : w4.cell? ⟨G, 1, none⟩ = some (.int .i64 me) := HBn.out.cell 1
      have k2 : w4.cell? ⟨G, 2, none⟩ = some (.int .u32 (cr : Int)) := HBn.out.cell 2
      have k3 : w4.cell? ⟨G, 3, none⟩ = some (.int .i64 (d.size : Int)) := HBn.out.cell 3
      have k4 : w4.cell? ⟨G, 4, none⟩ = some (.int .i64 (dt.size : Int)) := HBn.out.cell 4
      have k5 : w4.cell? ⟨G, 5, none⟩ = some (.int .i64 (n0 : Int)) := HBn.out.cell 5
      go_upto_region 14 with fail
      have HS4 : Hid (∀ W, Below w4.heap.size w4 W -> W.cell? ⟨G, 0, none⟩ = some (.string hm) /\ W.cell? ⟨G, 2, none⟩ = some (.int .u32 (cr : Int)) /\ W.cell? ⟨G, 3, none⟩ = some (.int .i64 (d.size : Int)) /\ W.cell? ⟨G, 4, none⟩ = some (.int .i64 (dt.size : Int)) /\ W.cell? ⟨G, 5, none⟩ = some (.int .i64 (n0 : Int)) /\ W.cell? ⟨b2, off2 + j * 2, none⟩ = some (.string hm) /\ W.cell? ⟨b2, off2 + j * 2 + 1, none⟩ = some (.string dt)) := fun W hb => by
       have h := HBn.out.below hb HBn.out.lt
       exact ⟨h.cell 0, h.cell 2, h.cell 3, h.cell 4, h.cell 5, (hb.cell (p := ⟨b2, off2 + j * 2, none⟩) HBL.out).trans y0, (hb.cell (p := ⟨b2, off2 + j * 2 + 1, none⟩) HBL.out).trans y1⟩
      obtain ⟨l0, l2, l3, l4, l5, l6, l7⟩ := HS4.out w4.drew ((Below.refl _ _).drew)
      go_region_held3 (fun W => W.cell? ⟨G, 0, none⟩ = some (.string hm) /\ W.cell? ⟨G, 2, none⟩ = some (.int .u32 (cr : Int)) /\ W.cell? ⟨G, 3, none⟩ = some (.int .i64 (d.size : Int)) /\ W.cell? ⟨G, 4, none⟩ = some (.int .i64 (dt.size : Int)) /\ W.cell? ⟨G, 5, none⟩ = some (.int .i64 (n0 : Int)) /\ W.cell? ⟨b2, off2 + j * 2, none⟩ = some (.string hm) /\ W.cell? ⟨b2, off2 + j * 2 + 1, none⟩ = some (.string dt))
       (first | (refine HS4.out _ ?_; (repeat' (first | with_reducible exact Below.refl _ _ | with_reducible assumption | with_reducible apply Below.drew | with_reducible apply below_al))))
       (first
        | (go_at_call 22; refine (CR.out _).mono ?_; rintro e w5 ⟨rfl, hb5⟩; have HB5 : Below w4.heap.size w4 w5 := bthen (by (repeat' (first | with_reducible exact Below.refl _ _ | with_reducible assumption | with_reducible apply Below.drew | with_reducible apply below_al))) hb5; clear hb5))
      all_goals
       have HX5 := Qf (HBn.out.below HB5 HBn.out.lt)
       have HB5h := Qf (bthen HBa.out HB5)
       have HLw5 : Hid (b2 < w5.heap.size) := Qb HBL.out HB5.size
       have HYw5 : Hid (w5.cell? ⟨b2, off2 + j * 2 + 1, none⟩ = some (.string dt)) := (HB5.cell (p := ⟨b2, off2 + j * 2 + 1, none⟩) HBL.out).trans y1
       clear HB5 HS4 l0 l2 l3 l4 l5 l6 l7 k0 k1 k2 k3 k4 k5 y0 y1 HBn HBa CR g1 g2 g3 g3b
       rcases T10.out with ⟨rfl, hd, hlt2⟩ | ⟨rfl, hd⟩
       . obtain ⟨vv, hvv⟩ := T8.out
         have CI := Qf (fun W => inflate_tail (s := s) (d := d) (v := vv) (x := dt) (q := q) (most := dt.size) (by omega) (by have := He0.out; omega) (by omega) hvv (by rw [hd]; exact dflB_reads dt lv dt.size (by omega) (Qa _)) W)
         clear T8 T10 hvv hd hlt2 T7
         have m0 : w5.cell? ⟨G, 0, none⟩ = some (.string hm) := HX5.out.cell 0
         have m1 : w5.cell? ⟨G, 1, none⟩ = some (.int .i64 8) := HX5.out.cell 1
         have m2 : w5.cell? ⟨G, 2, none⟩ = some (.int .u32 (cr : Int)) := HX5.out.cell 2
         have m3 : w5.cell? ⟨G, 3, none⟩ = some (.int .i64 (d.size : Int)) := HX5.out.cell 3
         have m4 : w5.cell? ⟨G, 4, none⟩ = some (.int .i64 (dt.size : Int)) := HX5.out.cell 4
         have m5 : w5.cell? ⟨G, 5, none⟩ = some (.int .i64 (n0 : Int)) := HX5.out.cell 5
         go_wp2_with fail
         refine (CI.out _).mono ?_
         rintro e w6 ⟨rfl, hb6⟩
         have HX6 := Qf (HX5.out.below hb6 HX5.out.lt)
         have HB6 := Qf (bthen HB5h.out hb6)
         have HLw6 : Hid (b2 < w6.heap.size) := Qb HLw5.out hb6.size
         have HYw6 : Hid (w6.cell? ⟨b2, off2 + j * 2 + 1, none⟩ = some (.string dt)) := (hb6.cell (p := ⟨b2, off2 + j * 2 + 1, none⟩) HLw5.out).trans HYw5.out
         clear hb6 m0 m1 m2 m3 m4 m5 CI
         have o0 : w6.cell? ⟨G, 0, none⟩ = some (.string hm) := HX6.out.cell 0
         have o1 : w6.cell? ⟨G, 1, none⟩ = some (.int .i64 8) := HX6.out.cell 1
         have o2 : w6.cell? ⟨G, 2, none⟩ = some (.int .u32 (cr : Int)) := HX6.out.cell 2
         have o3 : w6.cell? ⟨G, 3, none⟩ = some (.int .i64 (d.size : Int)) := HX6.out.cell 3
         have o4 : w6.cell? ⟨G, 4, none⟩ = some (.int .i64 (dt.size : Int)) := HX6.out.cell 4
         have o5 : w6.cell? ⟨G, 5, none⟩ = some (.int .i64 (n0 : Int)) := HX6.out.cell 5
         have z1 : w6.cell? ⟨b2, off2 + j * 2 + 1, none⟩ = some (.string dt) := HYw6.out
         go_wp2_with fail
         refine (CO.out _).mono ?_
         rintro e w7 ⟨hb7, ⟨kk, hk, _, _⟩ | ⟨x, hx, rfl⟩⟩
         . cases hk
         . injection hx with hx
           subst hx
           have u1 : w7.cell? ⟨b2, off2 + j * 2 + 1, none⟩ = some (.string dt) := (hb7.cell (p := ⟨b2, off2 + j * 2 + 1, none⟩) HLw6.out).trans z1
           have HB7 := Qf (bthen HB6.out hb7)
           clear hb7 z1 CO
           go_wp2_with fail
           go_roundw
           case rel => exact ⟨j + 1, by omega, by go_num, HB7⟩
           case measure => simp [intOf]; omega
       . subst hd
         have T7b := T7.out
         have HYw5b := HYw5
         clear T8 T10 T7
         have o0 : w5.cell? ⟨G, 0, none⟩ = some (.string hm) := HX5.out.cell 0
         have o1 : w5.cell? ⟨G, 1, none⟩ = some (.int .i64 0) := HX5.out.cell 1
         have o2 : w5.cell? ⟨G, 2, none⟩ = some (.int .u32 (cr : Int)) := HX5.out.cell 2
         have o3 : w5.cell? ⟨G, 3, none⟩ = some (.int .i64 (d.size : Int)) := HX5.out.cell 3
         have o4 : w5.cell? ⟨G, 4, none⟩ = some (.int .i64 (d.size : Int)) := HX5.out.cell 4
         have o5 : w5.cell? ⟨G, 5, none⟩ = some (.int .i64 (n0 : Int)) := HX5.out.cell 5
         have z1 : w5.cell? ⟨b2, off2 + j * 2 + 1, none⟩ = some (.string d) := HYw5.out
         go_wp2_with fail
         refine (CO.out _).mono ?_
         rintro e w7 ⟨hb7, ⟨kk, hk, _, _⟩ | ⟨x, hx, rfl⟩⟩
         . cases hk
         . injection hx with hx
           subst hx
           have u1 : w7.cell? ⟨b2, off2 + j * 2 + 1, none⟩ = some (.string d) := (hb7.cell (p := ⟨b2, off2 + j * 2 + 1, none⟩) HLw5.out).trans z1
           have HB7 := Qf (bthen HB5h.out hb7)
           clear hb7 z1 CO
           go_wp2_with fail
           go_roundw
           case rel => exact ⟨j + 1, by omega, by go_num, HB7⟩
           case measure => simp [intOf]; omega
    . obtain rfl : j = N := by omega
      have dj : decide ((j : Int) < (j : Int)) = false := Qh (by omega)
      go_wp2_with fail
      go_ret
      exact ⟨rfl, bthen HB3.out HBl.out⟩
end Go.Proofs.Ythehocmfpoglgaa
