/- The document's Sum. Conditions: at most a thousand bytes. -/
import Derived.Test.YtbccljpbnbobmaaRef2n
namespace Go.Proofs.Ytbccljpbnbobmaa
open Go.RowKit
set_option maxRecDepth 100000
set_option linter.unusedSimpArgs false

set_option maxHeartbeats 64000000 in
theorem sum2_any (s : ByteArray) (hs : s.size ≤ 1000) (w : World) :
    Calls Try.prog 39 #[.string s] w fun e w' => e = .returned (.string ⟨(shaL s.data.toList).toArray⟩) ∧ Below w.heap.size w w' := by
  have CB := Lib.hid (fun W => bits2_any s hs W)
  rw [bits_sha] at CB
  have hl : s.data.toList.length = s.size := by simp
  have hP := shaT_len s.data.toList
  obtain ⟨P, HP⟩ : ∃ R, Hid (shaT s.data.toList = R) := ⟨_, Lib.hid (Eq.refl _)⟩
  have HF : Hid (shaL s.data.toList = outB (runG shaK P (P.length / 64)) 8) := by show _ = _; rw [← HP.out]; rfl
  obtain ⟨OUT, HO⟩ : ∃ R, Hid (shaL s.data.toList = R) := ⟨_, Lib.hid (Eq.refl _)⟩
  rw [HP.out, hl] at hP
  rw [HP.out] at CB
  rw [HO.out] at HF ⊢
  have hTl : (textT P).length = 8 * P.length := textT_len P
  obtain ⟨N, hN⟩ : ∃ N, P.length = 64 * N := ⟨P.length / 64, by omega⟩
  have hN2 : P.length / 64 = N := by omega
  have hN3 : N ≤ 20 ∧ 1 ≤ N := by omega
  rw [hN2] at HF
  have hTl2 : (textT P).length = 512 * N := by omega
  have HPl := Lib.hid hN
  have HTl := Lib.hid hTl2
  have HN3 := Lib.hid hN3
  have hz := zero_word
  obtain ⟨Z, HZe⟩ : ∃ z, Hid (fcells 32 (tval fun _ => false) = z) := ⟨_, Lib.hid (Eq.refl _)⟩
  have hZs : Z.size = 32 := by rw [← HZe.out, fcells_size]
  have hZ1 : Z.all (·.oneCell') = true := by rw [← HZe.out]; exact tcells2_one _ _
  have hiZ : (Try.prog.info? 69).map (·.size) = some Z.size := by rw [info_word, hZs]
  rw [HZe.out] at hz
  have hu := Try.underlying69
  clear hs hP hTl hN hN2 hTl2 hN3 hl HP HO
  go_enter Try.func39, Try.ntmps39
  go_wp2_with fail
  refine (table2_any _).mono ?_
  rintro e w1 ⟨g1, g2, rfl, ht1, ht2, hg1, hg2, hb1⟩
  have HT1 := Lib.hid ht1
  have HT2 := Lib.hid ht2
  have HB1 := Lib.hid hb1
  have Hg1 := Lib.hid hg1
  have Hg2 := Lib.hid hg2
  have hw1 : w.heap.size ≤ w1.heap.size := hb1.size
  have HO0 : Hid (OwnWd (w1.alloc (.cells #[] 69)) w1.heap.size (.slice (some ⟨w1.heap.size, 0, none⟩) 0 0) ((tabL.take 8).take 0)) := OwnWd.empty w1 _ (Nat.le_refl _)
  have HZ := Lib.hid ((Below.refl w1.heap.size w1).alloc (Nat.le_refl _) (.cells #[] 69))
  have Hw1 := Lib.hid hw1
  clear ht1 ht2 hb1 hg1 hg2 hw1
  go_upto_region 3 with fail
  obtain ⟨w2, HW2⟩ : ∃ R, Hid (w1.alloc (.cells #[] 69) = R) := ⟨_, Lib.hid (Eq.refl _)⟩
  rw [HW2.out] at HO0 HZ ⊢
  clear HW2
  go_wp2_with fail
  go_loopw [5, 30] (fun v_ j_ wr => ∃ j : Nat, j ≤ 8 ∧ j_ = .int .i64 (j : Int) ∧ Hid (OwnWd wr w1.heap.size v_ ((tabL.take 8).take j)) ∧ Hid (Below w1.heap.size w1 wr)) (fun _ j _ => 8 - (intOf j).toNat)
  case atStart => exact ⟨0, Nat.zero_le _, rfl, HO0, HZ⟩
  case round =>
    clear HO0 HZ
    obtain ⟨j, hj, rfl, HO, HB⟩ := hrel
    have htl : (tabL.take 8).length = 8 := by decide
    by_cases hlt : j < 8
    · have dj : decide ((j : Int) < 8) = true := by rw [decide_eq_true_eq]; omega
      have djb : decide (j < 8) = true := by rw [decide_eq_true_eq]; omega
      have hjI : (j : Int) < 8 := by omega
      have hjL : j < (tabL.take 8).length := by rw [htl]; exact hlt
      have hsn : Hid ((tabL.take 8).take (j + 1) = (tabL.take 8).take j ++ [(tabL.take 8)[j]]) := by
        show _ = _
        rw [List.take_succ_eq_append_getElem hjL]
      have hxl : (tabL.take 8)[j] < 18446744073709551616 := by
        have : ∀ y ∈ tabL, y < 18446744073709551616 := by decide
        exact this _ (List.mem_of_mem_take (List.getElem_mem hjL))
      have c0 := (HT1.out.below HB.out HT1.out.lt).cell j
      have ec : (ucl (tabL.take 8)).toArray[j]? = some (.int .u64 (((tabL.take 8)[j] : Nat) : Int)) := by
        unfold ucl
        rw [List.getElem?_toArray, List.getElem?_map, List.getElem?_eq_getElem hjL]
        rfl
      rw [ec] at c0
      have hln : ((tabL.take 8).take j).length ≤ 1000 := by rw [List.length_take]; omega
      obtain ⟨x, Hx⟩ : ∃ R, Hid ((tabL.take 8)[j] = R) := ⟨_, Lib.hid (Eq.refl _)⟩
      rw [Hx.out] at hsn hxl c0
      have CO := Lib.hid (fun W => of_wl x hxl W)
      obtain ⟨TJ, HTJ⟩ : ∃ R, Hid ((tabL.take 8).take j = R) := ⟨_, Lib.hid (Eq.refl _)⟩
      obtain ⟨TK, HTK⟩ : ∃ R, Hid ((tabL.take 8).take (j + 1) = R) := ⟨_, Lib.hid (Eq.refl _)⟩
      rw [HTJ.out] at HO hln hsn
      rw [HTK.out] at hsn
      clear ec hxl hjL htl Hx HTJ
      go_wp2_with fail
      refine (CO.out _).mono ?_
      rintro e w3 ⟨rfl, hb3⟩
      have HB3 := Lib.hid (HB.out.trans (hb3.mono HB.out.size))
      have HO3 := Lib.hid (HO.out.below hb3 (Nat.le_refl _))
      have hbs : w1.heap.size ≤ w3.heap.size := HB3.out.size
      clear hb3 HO HB c0
      go_wp2_with (first
        | (with_reducible refine wpList_build_words rfl 1 _ rfl [x] rfl (by decide) (by decide) rfl ?_)
        | (at_builtin; go_must (refine wpList_append_W w3 rfl (.tmp 34) (.tmp 37) rfl w1.heap.size _ TJ x HO3.out rfl rfl rfl hln hbs ?_; intro v8 w8 ho8 hb8; rw [← hsn.out] at ho8; have HO8 := Lib.hid ho8; have HB8 := Lib.hid (HB3.out.trans hb8); clear ho8 hb8))
        | fail)
      go_roundw
      case rel => exact ⟨j + 1, by omega, by go_num, by show OwnWd _ _ _ _; rw [HTK.out]; exact HO8.out, HB8⟩
      case measure => simp [intOf]; omega
    · obtain rfl : j = 8 := by omega
      have dj : decide ((8 : Int) < 8) = false := by decide
      have hta : (tabL.take 8).take 8 = (List.range 8).map (runG shaK P 0) := by rw [List.take_of_length_le (by decide), tab_8]; rfl
      rw [hta] at HO
      obtain ⟨g5, c5, rfl, hg5, hhw⟩ := HO.out.hwd (by simp)
      have HH := Lib.hid hhw
      have Hg5 := Lib.hid hg5
      clear hta hlt hj htl hhw hg5 HO HT1
      go_wp2_with fail
      refine (CB.out _).mono ?_
      rintro e w4 ⟨hb4, v, rfl, hv⟩
      obtain ⟨a8, c8, rfl, htr⟩ := hv.view
      obtain ⟨b8, o8, rfl, hb8, _⟩ := htr 0 (by rw [HTl.out]; have := HN3.out; omega)
      have hc8 : (textT P).length ≤ c8 ∧ c8 ≤ 9223372036854775807 := by
        have := hv.cap_le
        exact this
      have hb8g : b8 ≠ g5 := by
        have h1 := (World.ownsRow.lt hv b8 rfl).1
        have h2 := HH.out.2.2
        omega
      have HTR := Lib.hid htr
      have HB4 := Lib.hid (HB.out.trans (hb4.mono HB.out.size))
      have HH4 : Hid (HWd w4 g5 ((List.range 8).map (runG shaK P 0))) := by
        obtain ⟨q1, q2, q3⟩ := HH.out
        exact ⟨fun j hj => rangeAt_bel (q1 j hj) hb4, there_bel q2 hb4 q3, Nat.lt_of_lt_of_le q3 hb4.size⟩
      have HT4 := Lib.hid (HT2.out.below HB4.out HT2.out.lt)
      have Hb8g := Lib.hid hb8g
      have hg25 : g2 ≠ g5 := by have := HT2.out.lt; have := Hg5.out; omega
      have Hg25 := Lib.hid hg25
      have hc8' := hc8
      rw [HTl.out] at hc8'
      rw [HTl.out]
      obtain ⟨n0, Hn0⟩ : ∃ R, Hid (512 * N = R) := ⟨_, Lib.hid (Eq.refl _)⟩
      rw [Hn0.out] at hc8' ⊢
      have HZ : Hid (Onl g5 w4 w4) := Onl.refl w4
      have Hn0' : Hid (n0 = 512 * (N - 0)) := by show _ = _; rw [← Hn0.out]; omega
      have Ho0' : Hid (o8 = o8 + 512 * 0) := by show _ = _; omega
      clear hb4 hv htr hb8 hc8 hb8g hg25 HB HH HT2 dj CB
      go_upto_region 9 with fail
      go_loopw [8] (fun l_ wr => ∃ (k o n c : Nat) (ad : Option Addr), k ≤ N ∧ Hid (o = o8 + 512 * k) ∧ Hid (n = 512 * (N - k)) ∧ n ≤ c ∧ c ≤ 9223372036854775807 ∧ l_ = .slice ad n c ∧ Hid (k < N → ad = some ⟨b8, o, none⟩) ∧ Hid (HWd wr g5 ((List.range 8).map (runG shaK P k))) ∧ Hid (Onl g5 w4 wr)) (fun l _ => lenV l)
      case atStart => exact ⟨0, o8, n0, c8, _, Nat.zero_le _, Ho0', Hn0', hc8'.1, hc8'.2, rfl, (fun _ => rfl), HH4, HZ⟩
      case round =>
        clear HH4 HZ Hn0 Hn0' Ho0' hc8'
        obtain ⟨k, o, n, c, ad, hk, Ho, Hn, hnc, hc, rfl, Had, HH, HOn⟩ := hrel
        rename World => wk
        by_cases hlt : k < N
        · obtain rfl := Had.out hlt
          have hn5 : 512 ≤ n := by have := Hn.out; omega
          have dn : decide ((0 : Int) < (n : Int)) = true := by rw [decide_eq_true_eq]; omega
          have dnb : decide (0 < n) = true := by rw [decide_eq_true_eq]; omega
          have HWB : Hid (∀ i q, i < 16 → q < 32 → w4.cell? ⟨b8, o + (32 * i + q), none⟩ = some (.bool (wbit (wordB ((P.drop (64 * k)).take 64) i) q))) := fun i q hi hq => by
            have := HTR.out.at (512 * k + (32 * i + q)) _ (word_bit P k i q (by have := HPl.out; omega) hi hq)
            rw [Ho.out, show o8 + 512 * k + (32 * i + q) = o8 + (512 * k + (32 * i + q)) by omega]
            exact this
          obtain ⟨p, Hp⟩ : ∃ R, Hid ((P.drop (64 * k)).take 64 = R) := ⟨_, Lib.hid (Eq.refl _)⟩
          rw [Hp.out] at HWB
          have HWR : Hid (∀ i q, i < 16 → q < 32 → wk.cell? ⟨b8, o + (32 * i + q), none⟩ = some (.bool (wbit (wordB p i) q))) := fun i q hi hq => HOn.out.cell Hb8g.out (HWB.out i q hi hq)
          have HO0 : Hid (OwnWd (wk.alloc (.cells #[] 69)) wk.heap.size (.slice (some ⟨wk.heap.size, 0, none⟩) 0 0) ((List.range 0).map (wordB p))) := OwnWd.empty wk _ (Nat.le_refl _)
          have HB0 := Lib.hid ((Below.refl wk.heap.size wk).alloc (Nat.le_refl _) (.cells #[] 69))
          have hb8r : b8 < wk.heap.size := World.block_lt_of_cell? wk _ (HWR.out 0 0 (by omega) (by omega))
          have Hb8r := Lib.hid hb8r
          clear HWB hb8r hlt
          go_upto_region 12 with fail
          obtain ⟨w5, HW5⟩ : ∃ R, Hid (wk.alloc (.cells #[] 69) = R) := ⟨_, Lib.hid (Eq.refl _)⟩
          rw [HW5.out] at HO0 HB0 ⊢
          clear HW5
          go_loopw [9, 10] (fun v_ i_ wq => ∃ i : Nat, i ≤ 16 ∧ i_ = .int .i64 (i : Int) ∧ Hid (OwnWd wq wk.heap.size v_ ((List.range i).map (wordB p))) ∧ Hid (Below wk.heap.size wk wq)) (fun _ i _ => 16 - (intOf i).toNat)
          case atStart => exact ⟨0, Nat.zero_le _, rfl, HO0, HB0⟩
          case round =>
            clear HO0 HB0
            obtain ⟨i, hi, rfl, HO, HB⟩ := hrel
            by_cases hi16 : i < 16
            · have HWQ : Hid (∀ q, q < 32 → wr.cell? ⟨b8, o + (32 * i + q), none⟩ = some (.bool (wbit (wordB p i) q))) := fun q hq => (HB.out.cell (p := ⟨b8, o + (32 * i + q), none⟩) Hb8r.out).trans (HWR.out i q hi16 hq)
              obtain ⟨x, Hx⟩ : ∃ R, Hid (wordB p i = R) := ⟨_, Lib.hid (Eq.refl _)⟩
              rw [Hx.out] at HWQ
              have hsn : Hid ((List.range (i + 1)).map (wordB p) = (List.range i).map (wordB p) ++ [x]) := by show _ = _; rw [List.range_succ, List.map_append, ← Hx.out]; rfl
              have hln : ((List.range i).map (wordB p)).length ≤ 1000 := by simp; omega
              obtain ⟨TJ, HTJ⟩ : ∃ R, Hid ((List.range i).map (wordB p) = R) := ⟨_, Lib.hid (Eq.refl _)⟩
              rw [HTJ.out] at hsn hln HO
              have hnw : (wr.alloc (.cells Z 69)).heap[wr.heap.size]? = some (.cells Z 69 (0, 0)) := Blk.new wr 69 Z
              have hb6 := below_setRow ((Below.refl wr.heap.size wr).alloc (Nat.le_refl _) (.cells Z 69)) (Nat.le_refl _) Z
              have HX0 : Hid (Blk ((wr.alloc (.cells Z 69)).setRow wr.heap.size Z) wr.heap.size 69 Z) := setRow_heap _ wr.heap.size _ Z _ _ hnw
              have HO6 := Lib.hid (HO.out.below hb6 (Nat.le_refl _))
              have HB6 := Lib.hid (HB.out.trans (hb6.mono HB.out.size))
              have HWX : Hid (∀ q, q < 32 → ((wr.alloc (.cells Z 69)).setRow wr.heap.size Z).cell? ⟨b8, o + (32 * i + q), none⟩ = some (.bool (wbit x q))) := fun q hq => (hb6.cell (p := ⟨b8, o + (32 * i + q), none⟩) (Nat.lt_of_lt_of_le Hb8r.out HB.out.size)).trans (HWQ.out q hq)
              have hgx : u9.ownBlock ≠ some wr.heap.size := fun e => by have := (World.ownsRow.lt HO.out _ e).2; omega
              have hb8q : b8 < wr.heap.size := Nat.lt_of_lt_of_le Hb8r.out HB.out.size
              have hbase := HB.out.size
              clear HTJ hb6 HO HB HWQ
              go_upto_region 15 with (first
                | (with_reducible refine wpList_store_row rfl 69 _ _ rfl wr.heap.size Z rfl rfl 69 Z hnw hiZ rfl hZ1 ?_)
                | fail)
              obtain ⟨w6, HW6⟩ : ∃ R, Hid ((wr.alloc (.cells Z 69)).setRow wr.heap.size Z = R) := ⟨_, Lib.hid (Eq.refl _)⟩
              rw [HW6.out] at HX0 HO6 HB6 HWX ⊢
              obtain ⟨gx, Hgx⟩ : ∃ R, Hid (wr.heap.size = R) := ⟨_, Lib.hid (Eq.refl _)⟩
              rw [Hgx.out] at HX0 hgx ⊢
              have hb8x : b8 ≠ gx := by rw [← Hgx.out]; omega
              have Hb8x := Lib.hid hb8x
              have Hgxo := Lib.hid hgx
              have HX1 : Hid (Blk w6 gx 69 (fcells 32 (tval (cutF (wbit x) 0)))) := by show Blk _ _ _ _; rw [← cutF_zero, HZe.out]; exact HX0.out
              have HZ6 : Hid (Onl gx w6 w6) := Onl.refl w6
              have hgxb : wr.heap.size ≤ gx := by rw [← Hgx.out]; exact Nat.le_refl _
              have Hgxb := Lib.hid (Nat.le_trans hbase hgxb)
              obtain ⟨m, Hm⟩ : ∃ R, Hid (32 * i = R) := ⟨_, Lib.hid (Eq.refl _)⟩
              have hm1 : 32 * (i : Int) = (m : Int) := by have := Hm.out; omega
              have hm2 : IntKind.i64.wrap (m : Int) = (m : Int) := by rw [IntKind.wrap_i64]; have := Hm.out; omega
              have hmn : m + 32 ≤ n := by have := Hm.out; omega
              rw [Hm.out] at HWX
              clear hnw HW6 HX0 hb8x hgx hb8q hbase hgxb Hgx Hm
              go_upto_region 16 with fail
              go_loopw [51] (fun q_ wz => ∃ q : Nat, q ≤ 32 ∧ q_ = .int .i64 (q : Int) ∧ Hid (Blk wz gx 69 (fcells 32 (tval (cutF (wbit x) q)))) ∧ Hid (Onl gx w6 wz)) (fun q _ => 32 - (intOf q).toNat)
              case atStart => exact ⟨0, Nat.zero_le _, rfl, HX1, HZ6⟩
              case round =>
                clear HX1 HZ6
                obtain ⟨q, hq, rfl, HXq, HOq⟩ := hrel
                by_cases hq32 : q < 32
                · have dq : decide ((q : Int) < 32) = true := by rw [decide_eq_true_eq]; omega
                  have hqI : (q : Int) < 32 := by omega
                  obtain ⟨y, Hy⟩ : ∃ R, Hid (m + q = R) := ⟨_, Lib.hid (Eq.refl _)⟩
                  have hy1 : (m : Int) + (q : Int) = (y : Int) := by have := Hy.out; omega
                  have hy2 : IntKind.i64.wrap (y : Int) = (y : Int) := by rw [IntKind.wrap_i64]; have := Hy.out; omega
                  have hy3 : (y : Int) < (n : Int) := by have := Hy.out; omega
                  have hqw : IntKind.i64.wrap (q : Int) = (q : Int) := by rw [IntKind.wrap_i64]; omega
                  have cb := HOq.out.cell Hb8x.out (HWX.out q hq32)
                  rw [Hy.out] at cb
                  have ck := HXq.out.cell q
                  rw [tcells2_at _ _ _ hq32] at ck
                  have fk := HXq.out.frozen q
                  have hs1 := HXq.out.set_ q (.bool (wbit x q))
                  rw [tcells2_set, cutF_succ] at hs1
                  have ho1 := HOq.out.set_ q (.bool (wbit x q))
                  obtain ⟨B, HBt⟩ : ∃ R, Hid (wbit x q = R) := ⟨_, Lib.hid (Eq.refl _)⟩
                  rw [HBt.out] at cb hs1 ho1
                  have HS1 := Lib.hid hs1
                  have HO1 := Lib.hid ho1
                  clear hs1 ho1 Hy
                  go_wp2_with fail
                  go_roundw
                  case rel => exact ⟨q + 1, by omega, by go_num, HS1, HO1⟩
                  case measure => simp [intOf]; omega
                · have hq3 : q = 32 := by omega
                  have dq : decide ((q : Int) < 32) = false := by rw [decide_eq_false_iff_not]; omega
                  rw [hq3, cutF_all] at HXq
                  have hT2 : wr.heap[gx]? = some (.cells (wl x).toArray 69 (0, 0)) := HXq.out
                  have hix : (Try.prog.info? 69).map (·.size) = some (wl x).toArray.size := info_wla x
                  have HO7 := Lib.hid (HO6.out.onl HOq.out Hgxo.out)
                  have HB7 := Lib.hid (HOq.out.old HB6.out HB6.out.size Hgxb.out)
                  have hbs := HB7.out.size
                  clear hq3 hq32 hq HOq HXq hm1 hm2
                  go_wp2_with (first
                    | (with_reducible refine wpList_load_row rfl 69 _ rfl gx rfl 69 (wl x).toArray (0, 0) _ hT2 hu rfl hix ?_)
                    | (with_reducible refine wpList_build_words rfl 1 _ rfl [x] rfl (by decide) (by decide) rfl ?_)
                    | (at_builtin; go_must (refine wpList_append_W wr rfl (.tmp 64) (.tmp 66) rfl _ _ TJ x HO7.out rfl rfl rfl hln hbs ?_; intro v8 w8 ho8 hb8; rw [← hsn.out] at ho8; have HO8 := Lib.hid ho8; have HB8 := Lib.hid (HB7.out.trans hb8); clear ho8 hb8))
                    | fail)
                  go_roundw
                  case rel => exact ⟨i + 1, by omega, by go_num, HO8, HB8⟩
                  case measure => simp [intOf]; omega
            · have hie : i = 16 := by omega
              have di : decide ((i : Int) < 16) = false := by rw [decide_eq_false_iff_not]; omega
              rw [hie] at HO
              have e16 : (List.range 16).map (wordB p) = (List.range 16).map (sched p) := List.map_congr_left fun i hi => (sched_word p i (List.mem_range.1 hi)).symm
              rw [e16] at HO
              have hn1 : ¬ (n : Int) < 512 := by omega
              have hn2 : ¬ (c : Int) < 512 := by omega
              clear e16 hi16 hi HWR hie
              go_upto_region 22 with fail
              clear hn1 hn2
              obtain ⟨ad2, Had2⟩ : ∃ R, Hid ((if c = 512 then some ⟨b8, o, none⟩ else some ⟨b8, o + 512, none⟩ : Option Addr) = R) := ⟨_, Lib.hid (Eq.refl _)⟩
              obtain ⟨n2, Hn2⟩ : ∃ R, Hid (n - 512 = R) := ⟨_, Lib.hid (Eq.refl _)⟩
              obtain ⟨c2, Hc2⟩ : ∃ R, Hid (c - 512 = R) := ⟨_, Lib.hid (Eq.refl _)⟩
              rw [Had2.out, Hn2.out, Hc2.out]
              have HAD : Hid (k + 1 < N → ad2 = some ⟨b8, o + 512, none⟩) := fun hk1 => by
                rw [← Had2.out, if_neg]
                have := Hn.out
                omega
              clear Had2
              go_upto_region 23 with fail
              go_loopw [9, 13] (fun v_ m_ wq => ∃ m : Nat, 16 ≤ m ∧ m ≤ 64 ∧ m_ = .int .i64 (m : Int) ∧ Hid (OwnWd wq wk.heap.size v_ ((List.range m).map (sched p))) ∧ Hid (Below wk.heap.size wk wq)) (fun _ m _ => 64 - (intOf m).toNat)
              case atStart => exact ⟨16, Nat.le_refl _, by omega, rfl, HO, HB⟩
              case round =>
                clear HO HB
                obtain ⟨m, hm16, hm, rfl, HO, HB⟩ := hrel
                by_cases hlt : m < 64
                · have dm : decide ((m : Int) < 64) = true := by rw [decide_eq_true_eq]; omega
                  have dmb : decide (m < 64) = true := by rw [decide_eq_true_eq]; omega
                  obtain ⟨kk, hkk⟩ : ∃ kk, m = kk + 16 := ⟨m - 16, by omega⟩
                  have hs1 := sched_sum p kk (by omega)
                  rw [← hkk] at hs1
                  have hx1 := sched_lt p (kk + 1) (by omega)
                  have hx2 := sched_lt p (kk + 14) (by omega)
                  have hlen : ((List.range m).map (sched p)).length = m := by simp
                  obtain ⟨gw, cw, hvw, hgw, _⟩ := World.ownsRow.form HO.out (by rw [hlen]; omega)
                  rw [hlen] at hvw
                  subst hvw
                  have hrows := HO.out.ranges
                  have hg16 := getD_sched p m kk (by omega)
                  have hg15 := getD_sched p m (kk + 1) (by omega)
                  have hg7 := getD_sched p m (kk + 9) (by omega)
                  have hg2 := getD_sched p m (kk + 14) (by omega)
                  have hsn : Hid ((List.range (m + 1)).map (sched p) = (List.range m).map (sched p) ++ [sched p m]) := by show _ = _; rw [List.range_succ, List.map_append]; rfl
                  obtain ⟨TL, HTL⟩ : ∃ R, Hid ((List.range m).map (sched p) = R) := ⟨_, Lib.hid (Eq.refl _)⟩
                  obtain ⟨TM, HTM⟩ : ∃ R, Hid ((List.range (m + 1)).map (sched p) = R) := ⟨_, Lib.hid (Eq.refl _)⟩
                  rw [HTL.out] at hrows hg16 hg15 hg7 hg2 hsn hlen HO
                  rw [HTM.out] at hsn
                  obtain ⟨j16, J16⟩ : ∃ R, Hid (kk = R) := ⟨_, Lib.hid (Eq.refl _)⟩
                  obtain ⟨x16, X16⟩ : ∃ R, Hid (sched p (kk) = R) := ⟨_, Lib.hid (Eq.refl _)⟩
                  have e16 : (m : Int) - 16 = (j16 : Int) := by have := J16.out; omega
                  have W16 : IntKind.i64.wrap ((m : Int) - 16) = (j16 : Int) := by rw [IntKind.wrap_i64]; have := J16.out; omega
                  have V16 : IntKind.i64.wrap (j16 : Int) = (j16 : Int) := by rw [IntKind.wrap_i64]; have := J16.out; omega
                  have q16 : (j16 : Int) < (m : Int) := by have := J16.out; omega
                  have ql16 : j16 < TL.length := by have := J16.out; omega
                  rw [X16.out] at hg16
                  rw [X16.out] at hs1
                  rw [J16.out] at hg16
                  obtain ⟨j15, J15⟩ : ∃ R, Hid (kk + 1 = R) := ⟨_, Lib.hid (Eq.refl _)⟩
                  obtain ⟨x15, X15⟩ : ∃ R, Hid (sched p (kk + 1) = R) := ⟨_, Lib.hid (Eq.refl _)⟩
                  have e15 : (m : Int) - 15 = (j15 : Int) := by have := J15.out; omega
                  have W15 : IntKind.i64.wrap ((m : Int) - 15) = (j15 : Int) := by rw [IntKind.wrap_i64]; have := J15.out; omega
                  have V15 : IntKind.i64.wrap (j15 : Int) = (j15 : Int) := by rw [IntKind.wrap_i64]; have := J15.out; omega
                  have q15 : (j15 : Int) < (m : Int) := by have := J15.out; omega
                  have ql15 : j15 < TL.length := by have := J15.out; omega
                  rw [X15.out] at hg15
                  rw [X15.out] at hs1
                  rw [J15.out] at hg15
                  obtain ⟨j7, J7⟩ : ∃ R, Hid (kk + 9 = R) := ⟨_, Lib.hid (Eq.refl _)⟩
                  obtain ⟨x7, X7⟩ : ∃ R, Hid (sched p (kk + 9) = R) := ⟨_, Lib.hid (Eq.refl _)⟩
                  have e7 : (m : Int) - 7 = (j7 : Int) := by have := J7.out; omega
                  have W7 : IntKind.i64.wrap ((m : Int) - 7) = (j7 : Int) := by rw [IntKind.wrap_i64]; have := J7.out; omega
                  have V7 : IntKind.i64.wrap (j7 : Int) = (j7 : Int) := by rw [IntKind.wrap_i64]; have := J7.out; omega
                  have q7 : (j7 : Int) < (m : Int) := by have := J7.out; omega
                  have ql7 : j7 < TL.length := by have := J7.out; omega
                  rw [X7.out] at hg7
                  rw [X7.out] at hs1
                  rw [J7.out] at hg7
                  obtain ⟨j2, J2⟩ : ∃ R, Hid (kk + 14 = R) := ⟨_, Lib.hid (Eq.refl _)⟩
                  obtain ⟨x2, X2⟩ : ∃ R, Hid (sched p (kk + 14) = R) := ⟨_, Lib.hid (Eq.refl _)⟩
                  have e2 : (m : Int) - 2 = (j2 : Int) := by have := J2.out; omega
                  have W2 : IntKind.i64.wrap ((m : Int) - 2) = (j2 : Int) := by rw [IntKind.wrap_i64]; have := J2.out; omega
                  have V2 : IntKind.i64.wrap (j2 : Int) = (j2 : Int) := by rw [IntKind.wrap_i64]; have := J2.out; omega
                  have q2 : (j2 : Int) < (m : Int) := by have := J2.out; omega
                  have ql2 : j2 < TL.length := by have := J2.out; omega
                  rw [X2.out] at hg2
                  rw [X2.out] at hs1
                  rw [J2.out] at hg2
                  rw [X15.out] at hx1
                  rw [X2.out] at hx2
                  obtain ⟨ym, Hym⟩ : ∃ R, Hid (sched p m = R) := ⟨_, Lib.hid (Eq.refl _)⟩
                  rw [Hym.out] at hs1 hsn
                  have C1 := Lib.hid (fun W => turns_wl x15 7 18 3 true hx1 (by decide) (by decide) (by decide) W)
                  have C2 := Lib.hid (fun W => turns_wl x2 17 19 10 true hx2 (by decide) (by decide) (by decide) W)
                  obtain ⟨T15, H15⟩ : ∃ R, Hid (turnN x15 7 18 3 true = R) := ⟨_, Lib.hid (Eq.refl _)⟩
                  obtain ⟨T2, H2⟩ : ∃ R, Hid (turnN x2 17 19 10 true = R) := ⟨_, Lib.hid (Eq.refl _)⟩
                  rw [H15.out] at C1 hs1
                  rw [H2.out] at C2 hs1
                  have C3 : Hid (∀ g W, Blk W g 69 (wcl [x16, T15, x7, T2]).toArray → Calls Try.prog 49 #[.slice (some ⟨g, 0, none⟩) 4 4] W fun e w' => e = .returned (.agg (wl ym).toArray) ∧ Below W.heap.size W w') := fun g W hb => by
                    have := add_wl g 4 [x16, T15, x7, T2] rfl (by decide) W hb
                    rw [hs1] at this
                    exact this
                  have HG16 := Lib.hid hg16
                  have HG15 := Lib.hid hg15
                  have HG7 := Lib.hid hg7
                  have HG2 := Lib.hid hg2
                  have HRW := Lib.hid hrows
                  have HLE := Lib.hid HB.out.size
                  have HTl2 := Lib.hid hlen
                  have Hm1000 : Hid (m ≤ 1000) := by show m ≤ 1000; omega
                  clear hg16 hg15 hg7 hg2 hrows hlen hs1 hx1 hx2 hkk J16 J15 J7 J2 X16 X15 X7 X2 Hym H15 H2 HTL hgw
                  go_upto_region 25 with fail
                  refine wp_region_noPanic ?_
                  refine wp_region_held_drew (S := fun W => SWd gw TL wk.heap.size wk W) (by kernel_rfl) (SWd.of HRW.out HB.out HLE.out (Below.refl _ _).drew) (fun hHeld => ?_)
                  refine' wpAnyH_take (i := 0) ?_ (by kernel_rfl) (by kernel_rfl) (by kernel_rfl) (fun _ _ _ h => h) ?_ hHeld ?_
                  rotate_left 2
                  · (try simp only [List.getElem?_toArray, List.getElem?_cons_succ, List.getElem?_cons_zero]); rfl
                  · refine Or.inl ⟨by rfl, ?_⟩
                    intro W0 hS0
                    go_simp
                    (try with_reducible rfl)
                  (try simp only [Act.put, List.setIfInBounds_toArray, List.set_cons_zero, List.set_cons_succ])
                  refine' wpAnyH_take (i := 1) ?_ (by kernel_rfl) (by kernel_rfl) (by kernel_rfl) (fun _ _ _ h => h) ?_ hHeld ?_
                  rotate_left 2
                  · (try simp only [List.getElem?_toArray, List.getElem?_cons_succ, List.getElem?_cons_zero]); rfl
                  · refine Or.inl ⟨by rfl, ?_⟩
                    intro W0 hS0
                    go_simp
                    (try with_reducible rfl)
                  (try simp only [Act.put, List.setIfInBounds_toArray, List.set_cons_zero, List.set_cons_succ])
                  refine' wpAnyH_take (i := 2) ?_ (by kernel_rfl) (by kernel_rfl) (by kernel_rfl) (fun _ _ _ h => h) ?_ hHeld ?_
                  rotate_left 2
                  · (try simp only [List.getElem?_toArray, List.getElem?_cons_succ, List.getElem?_cons_zero]); rfl
                  · refine Or.inl ⟨by rfl, ?_⟩
                    intro W0 hS0
                    go_simp
                    (try with_reducible rfl)
                  (try simp only [Act.put, List.setIfInBounds_toArray, List.set_cons_zero, List.set_cons_succ])
                  refine' wpAnyH_take (i := 3) ?_ (by kernel_rfl) (by kernel_rfl) (by kernel_rfl) (fun _ _ _ h => h) ?_ hHeld ?_
                  rotate_left 2
                  · (try simp only [List.getElem?_toArray, List.getElem?_cons_succ, List.getElem?_cons_zero]); rfl
                  · refine Or.inl ⟨by rfl, ?_⟩
                    intro W0 hS0
                    go_simp
                    (try with_reducible rfl)
                  (try simp only [Act.put, List.setIfInBounds_toArray, List.set_cons_zero, List.set_cons_succ])
                  refine' wpAnyH_take (i := 4) ?_ (by kernel_rfl) (by kernel_rfl) (by kernel_rfl) (fun _ _ _ h => h) ?_ hHeld ?_
                  rotate_left 2
                  · (try simp only [List.getElem?_toArray, List.getElem?_cons_succ, List.getElem?_cons_zero]); rfl
                  · refine Or.inl ⟨by rfl, ?_⟩
                    intro W0 hS0
                    go_simp
                    (try with_reducible rfl)
                  (try simp only [Act.put, List.setIfInBounds_toArray, List.set_cons_zero, List.set_cons_succ])
                  refine' wpAnyH_take (i := 5) ?_ (by kernel_rfl) (by kernel_rfl) (by kernel_rfl) (fun _ _ _ h => h) ?_ hHeld ?_
                  rotate_left 2
                  · (try simp only [List.getElem?_toArray, List.getElem?_cons_succ, List.getElem?_cons_zero]); rfl
                  · exact yieldsIf_load_mid (by rfl) _ _ rfl gw (j16 * 32) rfl (wl (x16)) _ (fun W hS => (by have hq := hS.1 j16 ql16; rw [HG16.out] at hq; exact hq)) hu rfl (info_wl _)
                  (try simp only [Act.put, List.setIfInBounds_toArray, List.set_cons_zero, List.set_cons_succ])
                  refine' wpAnyH_take (i := 6) ?_ (by kernel_rfl) (by kernel_rfl) (by kernel_rfl) (fun _ _ _ h => h) ?_ hHeld ?_
                  rotate_left 2
                  · (try simp only [List.getElem?_toArray, List.getElem?_cons_succ, List.getElem?_cons_zero]); rfl
                  · refine Or.inl ⟨by rfl, ?_⟩
                    intro W0 hS0
                    go_simp
                    (try with_reducible rfl)
                  (try simp only [Act.put, List.setIfInBounds_toArray, List.set_cons_zero, List.set_cons_succ])
                  refine' wpAnyH_take (i := 7) ?_ (by kernel_rfl) (by kernel_rfl) (by kernel_rfl) (fun _ _ _ h => h) ?_ hHeld ?_
                  rotate_left 2
                  · (try simp only [List.getElem?_toArray, List.getElem?_cons_succ, List.getElem?_cons_zero]); rfl
                  · refine Or.inl ⟨by rfl, ?_⟩
                    intro W0 hS0
                    go_simp
                    (try with_reducible rfl)
                  (try simp only [Act.put, List.setIfInBounds_toArray, List.set_cons_zero, List.set_cons_succ])
                  refine' wpAnyH_take (i := 8) ?_ (by kernel_rfl) (by kernel_rfl) (by kernel_rfl) (fun _ _ _ h => h) ?_ hHeld ?_
                  rotate_left 2
                  · (try simp only [List.getElem?_toArray, List.getElem?_cons_succ, List.getElem?_cons_zero]); rfl
                  · refine Or.inl ⟨by rfl, ?_⟩
                    intro W0 hS0
                    go_simp
                    (try with_reducible rfl)
                  (try simp only [Act.put, List.setIfInBounds_toArray, List.set_cons_zero, List.set_cons_succ])
                  refine' wpAnyH_take (i := 9) ?_ (by kernel_rfl) (by kernel_rfl) (by kernel_rfl) (fun _ _ _ h => h) ?_ hHeld ?_
                  rotate_left 2
                  · (try simp only [List.getElem?_toArray, List.getElem?_cons_succ, List.getElem?_cons_zero]); rfl
                  · refine Or.inl ⟨by rfl, ?_⟩
                    intro W0 hS0
                    go_simp
                    (try with_reducible rfl)
                  (try simp only [Act.put, List.setIfInBounds_toArray, List.set_cons_zero, List.set_cons_succ])
                  refine' wpAnyH_take (i := 10) ?_ (by kernel_rfl) (by kernel_rfl) (by kernel_rfl) (fun _ _ _ h => h) ?_ hHeld ?_
                  rotate_left 2
                  · (try simp only [List.getElem?_toArray, List.getElem?_cons_succ, List.getElem?_cons_zero]); rfl
                  · exact yieldsIf_load_mid (by rfl) _ _ rfl gw (j15 * 32) rfl (wl (x15)) _ (fun W hS => (by have hq := hS.1 j15 ql15; rw [HG15.out] at hq; exact hq)) hu rfl (info_wl _)
                  (try simp only [Act.put, List.setIfInBounds_toArray, List.set_cons_zero, List.set_cons_succ])
                  refine' wpAnyH_take (i := 12) ?_ (by kernel_rfl) (by kernel_rfl) (by kernel_rfl) (fun _ _ _ h => h) ?_ hHeld ?_
                  rotate_left 2
                  · (try simp only [List.getElem?_toArray, List.getElem?_cons_succ, List.getElem?_cons_zero]); rfl
                  · refine Or.inl ⟨by rfl, ?_⟩
                    intro W0 hS0
                    go_simp
                    (try with_reducible rfl)
                  (try simp only [Act.put, List.setIfInBounds_toArray, List.set_cons_zero, List.set_cons_succ])
                  refine' wpAnyH_take (i := 13) ?_ (by kernel_rfl) (by kernel_rfl) (by kernel_rfl) (fun _ _ _ h => h) ?_ hHeld ?_
                  rotate_left 2
                  · (try simp only [List.getElem?_toArray, List.getElem?_cons_succ, List.getElem?_cons_zero]); rfl
                  · refine Or.inl ⟨by rfl, ?_⟩
                    intro W0 hS0
                    go_simp
                    (try with_reducible rfl)
                  (try simp only [Act.put, List.setIfInBounds_toArray, List.set_cons_zero, List.set_cons_succ])
                  refine' wpAnyH_take (i := 14) ?_ (by kernel_rfl) (by kernel_rfl) (by kernel_rfl) (fun _ _ _ h => h) ?_ hHeld ?_
                  rotate_left 2
                  · (try simp only [List.getElem?_toArray, List.getElem?_cons_succ, List.getElem?_cons_zero]); rfl
                  · refine Or.inl ⟨by rfl, ?_⟩
                    intro W0 hS0
                    go_simp
                    (try with_reducible rfl)
                  (try simp only [Act.put, List.setIfInBounds_toArray, List.set_cons_zero, List.set_cons_succ])
                  refine' wpAnyH_take (i := 15) ?_ (by kernel_rfl) (by kernel_rfl) (by kernel_rfl) (fun _ _ _ h => h) ?_ hHeld ?_
                  rotate_left 2
                  · (try simp only [List.getElem?_toArray, List.getElem?_cons_succ, List.getElem?_cons_zero]); rfl
                  · refine Or.inl ⟨by rfl, ?_⟩
                    intro W0 hS0
                    go_simp
                    (try with_reducible rfl)
                  (try simp only [Act.put, List.setIfInBounds_toArray, List.set_cons_zero, List.set_cons_succ])
                  refine' wpAnyH_take (i := 16) ?_ (by kernel_rfl) (by kernel_rfl) (by kernel_rfl) (fun _ _ _ h => h) ?_ hHeld ?_
                  rotate_left 2
                  · (try simp only [List.getElem?_toArray, List.getElem?_cons_succ, List.getElem?_cons_zero]); rfl
                  · exact yieldsIf_load_mid (by rfl) _ _ rfl gw (j7 * 32) rfl (wl (x7)) _ (fun W hS => (by have hq := hS.1 j7 ql7; rw [HG7.out] at hq; exact hq)) hu rfl (info_wl _)
                  (try simp only [Act.put, List.setIfInBounds_toArray, List.set_cons_zero, List.set_cons_succ])
                  refine' wpAnyH_take (i := 17) ?_ (by kernel_rfl) (by kernel_rfl) (by kernel_rfl) (fun _ _ _ h => h) ?_ hHeld ?_
                  rotate_left 2
                  · (try simp only [List.getElem?_toArray, List.getElem?_cons_succ, List.getElem?_cons_zero]); rfl
                  · refine Or.inl ⟨by rfl, ?_⟩
                    intro W0 hS0
                    go_simp
                    (try with_reducible rfl)
                  (try simp only [Act.put, List.setIfInBounds_toArray, List.set_cons_zero, List.set_cons_succ])
                  refine' wpAnyH_take (i := 18) ?_ (by kernel_rfl) (by kernel_rfl) (by kernel_rfl) (fun _ _ _ h => h) ?_ hHeld ?_
                  rotate_left 2
                  · (try simp only [List.getElem?_toArray, List.getElem?_cons_succ, List.getElem?_cons_zero]); rfl
                  · refine Or.inl ⟨by rfl, ?_⟩
                    intro W0 hS0
                    go_simp
                    (try with_reducible rfl)
                  (try simp only [Act.put, List.setIfInBounds_toArray, List.set_cons_zero, List.set_cons_succ])
                  refine' wpAnyH_take (i := 19) ?_ (by kernel_rfl) (by kernel_rfl) (by kernel_rfl) (fun _ _ _ h => h) ?_ hHeld ?_
                  rotate_left 2
                  · (try simp only [List.getElem?_toArray, List.getElem?_cons_succ, List.getElem?_cons_zero]); rfl
                  · refine Or.inl ⟨by rfl, ?_⟩
                    intro W0 hS0
                    go_simp
                    (try with_reducible rfl)
                  (try simp only [Act.put, List.setIfInBounds_toArray, List.set_cons_zero, List.set_cons_succ])
                  refine' wpAnyH_take (i := 20) ?_ (by kernel_rfl) (by kernel_rfl) (by kernel_rfl) (fun _ _ _ h => h) ?_ hHeld ?_
                  rotate_left 2
                  · (try simp only [List.getElem?_toArray, List.getElem?_cons_succ, List.getElem?_cons_zero]); rfl
                  · refine Or.inl ⟨by rfl, ?_⟩
                    intro W0 hS0
                    go_simp
                    (try with_reducible rfl)
                  (try simp only [Act.put, List.setIfInBounds_toArray, List.set_cons_zero, List.set_cons_succ])
                  refine' wpAnyH_take (i := 21) ?_ (by kernel_rfl) (by kernel_rfl) (by kernel_rfl) (fun _ _ _ h => h) ?_ hHeld ?_
                  rotate_left 2
                  · (try simp only [List.getElem?_toArray, List.getElem?_cons_succ, List.getElem?_cons_zero]); rfl
                  · exact yieldsIf_load_mid (by rfl) _ _ rfl gw (j2 * 32) rfl (wl (x2)) _ (fun W hS => (by have hq := hS.1 j2 ql2; rw [HG2.out] at hq; exact hq)) hu rfl (info_wl _)
                  (try simp only [Act.put, List.setIfInBounds_toArray, List.set_cons_zero, List.set_cons_succ])
                  replace hHeld : Below wr.heap.size wr wr.drew := (Below.refl _ _).drew
                  obtain ⟨wd, Hwd⟩ : ∃ R, Hid (wr.drew = R) := ⟨_, Lib.hid (Eq.refl _)⟩
                  rw [Hwd.out] at hHeld ⊢
                  clear Hwd
                  refine wpAnyH_ready (rs := [11]) (by kernel_rfl) (by simp) ?_
                  refine' AllReadyH.cons ?_ (fun K hK => ?_) ?_
                  rotate_left 1
                  · (try simp only [List.getElem?_toArray, List.getElem?_cons_succ, List.getElem?_cons_zero]); rfl
                  · go_simp
                    go_at_call 50
                    refine (C1.out _).mono ?_
                    rintro e wd1 ⟨rfl, hbd2⟩
                    (try go_wp2_with fail)
                    refine hK.out _ _ ?_ (fun hHeld' => ?_)
                    · exact SWd.of HRW.out HB.out HLE.out (bthen hHeld hbd2)
                    replace hHeld := bthen hHeld hbd2
                    clear hK K hHeld'
                    (try simp only [Act.put, List.setIfInBounds_toArray, List.set_cons_zero, List.set_cons_succ])
                    refine wpAnyH_ready (rs := [22]) (by kernel_rfl) (by simp) ?_
                    refine' AllReadyH.cons ?_ (fun K hK => ?_) ?_
                    rotate_left 1
                    · (try simp only [List.getElem?_toArray, List.getElem?_cons_succ, List.getElem?_cons_zero]); rfl
                    · go_simp
                      go_at_call 50
                      refine (C2.out _).mono ?_
                      rintro e wd3 ⟨rfl, hbd4⟩
                      (try go_wp2_with fail)
                      refine hK.out _ _ ?_ (fun hHeld' => ?_)
                      · exact SWd.of HRW.out HB.out HLE.out (bthen hHeld hbd4)
                      replace hHeld := bthen hHeld hbd4
                      clear hK K hHeld'
                      (try simp only [Act.put, List.setIfInBounds_toArray, List.set_cons_zero, List.set_cons_succ])
                      refine wpAnyH_ready (rs := [23]) (by kernel_rfl) (by simp) ?_
                      refine' AllReadyH.cons ?_ (fun K hK => ?_) ?_
                      rotate_left 1
                      · (try simp only [List.getElem?_toArray, List.getElem?_cons_succ, List.getElem?_cons_zero]); rfl
                      · rw [if_pos (by rfl)]
                        refine wp_build_words 4 _ rfl [x16, T15, x7, T2] rfl (by decide) (by decide) rfl ?_
                        have ged10 : wr.heap.size ≤ wd3.heap.size := hHeld.size
                        refine hK.out _ _ ?_ (fun hHeld' => ?_)
                        · exact SWd.of HRW.out HB.out HLE.out (hHeld.alloc hHeld.size _)
                        replace hHeld := hHeld.alloc hHeld.size (.cells (wcl [x16, T15, x7, T2]).toArray 69)
                        clear hK K hHeld'
                        (try simp only [Act.put, List.setIfInBounds_toArray, List.set_cons_zero, List.set_cons_succ])
                        have Hd6 := Lib.hid (Blk.new wd3 69 (wcl [x16, T15, x7, T2]).toArray)
                        obtain ⟨gd7, Hgd9⟩ : ∃ R, Hid (wd3.heap.size = R) := ⟨_, Lib.hid (Eq.refl _)⟩
                        obtain ⟨wd5, Hwd8⟩ : ∃ R, Hid (wd3.alloc (.cells (wcl [x16, T15, x7, T2]).toArray 69) = R) := ⟨_, Lib.hid (Eq.refl _)⟩
                        rw [Hgd9.out] at Hd6 ged10 ⊢
                        rw [Hwd8.out] at Hd6 hHeld ⊢
                        clear Hwd8
                        clear Hgd9
                        refine wpAnyH_ready (rs := [24]) (by kernel_rfl) (by simp) ?_
                        refine' AllReadyH.cons ?_ (fun K hK => ?_) ?_
                        rotate_left 1
                        · (try simp only [List.getElem?_toArray, List.getElem?_cons_succ, List.getElem?_cons_zero]); rfl
                        · go_simp
                          go_at_call 49
                          refine (C3.out _ _ Hd6.out).mono ?_
                          rintro e wd11 ⟨rfl, hbd12⟩
                          (try go_wp2_with fail)
                          refine hK.out _ _ ?_ (fun hHeld' => ?_)
                          · exact SWd.of HRW.out HB.out HLE.out (bthen hHeld hbd12)
                          replace hHeld := bthen hHeld hbd12
                          clear hK K hHeld'
                          (try simp only [Act.put, List.setIfInBounds_toArray, List.set_cons_zero, List.set_cons_succ])
                          have Hd13 := Lib.hid (Hd6.out.below hbd12 Hd6.out.lt)
                          clear Hd6
                          refine wpAnyH_ready (rs := [25]) (by kernel_rfl) (by simp) ?_
                          refine' AllReadyH.cons ?_ (fun K hK => ?_) ?_
                          rotate_left 1
                          · (try simp only [List.getElem?_toArray, List.getElem?_cons_succ, List.getElem?_cons_zero]); rfl
                          · rw [if_pos (by rfl)]
                            refine wp_build_words 1 _ rfl [ym] rfl (by decide) (by decide) rfl ?_
                            have ged19 : wr.heap.size ≤ wd11.heap.size := hHeld.size
                            refine hK.out _ _ ?_ (fun hHeld' => ?_)
                            · exact SWd.of HRW.out HB.out HLE.out (hHeld.alloc hHeld.size _)
                            replace hHeld := hHeld.alloc hHeld.size (.cells (wcl [ym]).toArray 69)
                            clear hK K hHeld'
                            (try simp only [Act.put, List.setIfInBounds_toArray, List.set_cons_zero, List.set_cons_succ])
                            have Hd15 := Lib.hid (Blk.new wd11 69 (wcl [ym]).toArray)
                            have Hd20 := Lib.hid (Hd13.out.alloc (.cells (wcl [ym]).toArray 69))
                            clear Hd13
                            obtain ⟨gd16, Hgd18⟩ : ∃ R, Hid (wd11.heap.size = R) := ⟨_, Lib.hid (Eq.refl _)⟩
                            obtain ⟨wd14, Hwd17⟩ : ∃ R, Hid (wd11.alloc (.cells (wcl [ym]).toArray 69) = R) := ⟨_, Lib.hid (Eq.refl _)⟩
                            rw [Hgd18.out] at Hd15 ged19 ⊢
                            rw [Hwd17.out] at Hd15 hHeld Hd20 ⊢
                            clear Hwd17
                            clear Hgd18
                            refine wpAnyH_ready (rs := [26]) (by kernel_rfl) (by simp) ?_
                            refine' AllReadyH.cons ?_ (fun K hK => ?_) ?_
                            rotate_left 1
                            · (try simp only [List.getElem?_toArray, List.getElem?_cons_succ, List.getElem?_cons_zero]); rfl
                            · rw [if_pos (by rfl)]
                              refine wp_append_Wb _ _ _ rfl wk.heap.size gw m cw TL ym gd16 HTl2.out (HO.out.below hHeld (Nat.le_refl _)) rfl rfl Hd15.out Hm1000.out (Nat.le_trans HLE.out hHeld.size) ?_
                              intro v9 w9 ho9 hb9 hr9
                              rw [← hsn.out] at ho9
                              have HO9 := Lib.hid ho9
                              have HB9 := Lib.hid ((HB.out.trans (hHeld.mono HLE.out)).trans hb9)
                              have HS9 : Hid (SWd gw TL wk.heap.size wk w9) := ⟨fun j hj => hr9 j (by rw [← HTl2.out]; exact hj), HB9.out⟩
                              refine hK.out _ _ ?_ (fun hHeld' => ?_)
                              · exact HS9.out
                              clear hK K hHeld' ho9 hb9 hr9
                              (try simp only [Act.put, List.setIfInBounds_toArray, List.set_cons_zero, List.set_cons_succ])
                              refine wpAnyH_ready (rs := [27]) (by kernel_rfl) (by simp) ?_
                              refine' AllReadyH.cons ?_ (fun K hK => ?_) ?_
                              rotate_left 1
                              · (try simp only [List.getElem?_toArray, List.getElem?_cons_succ, List.getElem?_cons_zero]); rfl
                              · go_simp
                                refine hK.out _ _ ?_ (fun hHeld' => ?_)
                                · exact HS9.out
                                clear hK K hHeld'
                                (try simp only [Act.put, List.setIfInBounds_toArray, List.set_cons_zero, List.set_cons_succ])
                                refine wpAnyH_done (by kernel_rfl) ?_ _
                                refine NoPanic.normal ?_
                                go_wp2_with fail
                                go_roundw
                                case rel => exact ⟨m + 1, by omega, by omega, by go_num, by show OwnWd _ _ _ _; rw [HTM.out]; exact HO9.out, HB9⟩
                                case measure => simp [intOf]; omega
                              exact AllReadyH.nil
                            exact AllReadyH.nil
                          exact AllReadyH.nil
                        exact AllReadyH.nil
                      exact AllReadyH.nil
                    exact AllReadyH.nil
                  exact AllReadyH.nil
                · have hme : m = 64 := by omega
                  have dm : decide ((m : Int) < 64) = false := by rw [decide_eq_false_iff_not]; omega
                  rw [hme] at HO
                  have HCL : Hid (∀ i, i < 64 → ((List.range 64).map (sched p)).getD i 0 = sched p i) := fun i hi => getD_map _ _ _ hi
                  clear hme hlt hm hm16
                  obtain ⟨gw, cw, hvw, hgw, _⟩ := World.ownsRow.form HO.out (by simp)
                  rw [List.length_map, List.length_range] at hvw
                  subst hvw
                  have hrw : ∀ i, i < 64 → wr.rangeAt gw (i * 32) (wl (sched p i)) := fun i hi => by
                    have h1 := HO.out.ranges i (by simpa using hi)
                    rw [HCL.out i hi] at h1
                    exact h1
                  have hHr := HH.out.bel HB.out
                  have hg5k : g5 < wk.heap.size := HH.out.2.2
                  have hVl : ((List.range 8).map (runG shaK P k)).length = 8 := by simp
                  have hVv : ∀ y ∈ (List.range 8).map (runG shaK P k), y < 4294967296 := fun y hy => by
                    obtain ⟨j, hj, rfl⟩ := List.mem_map.1 hy
                    exact runG_lt shaK P (fun j _ => shaK_lt j) k j (by have := List.mem_range.1 hj; omega)
                  have HNX : Hid (∀ j, j < 8 → runG shaK P (k + 1) j = (((List.range 8).map (runG shaK P k)).getD j 0 + (stepsL (fun i => shaK (8 + i)) (sched p) ((List.range 8).map (runG shaK P k)) 64).getD j 0) % 4294967296) := fun j hj => by
                    have h1 := runG_next P k j hj
                    rw [Hp.out] at h1
                    rw [h1, getD_map _ _ _ hj]
                  have HXL := Lib.hid (fun i (hi : i < 64) => sched_lt p i hi)
                  have HKL : Hid (∀ i, i < 64 → (fun i => shaK (8 + i)) i < 18446744073709551616) := fun i hi => by
                    have := shaK_lt (8 + i)
                    exact Nat.lt_trans this (by decide)
                  have HKC : Hid (∀ i, i < 64 → (ucl (tabL.drop 8)).toArray[i]? = some (.int .u64 (((fun i => shaK (8 + i)) i : Nat) : Int))) := fun i hi => by
                    exact ucl_tab i hi
                  obtain ⟨SS, HSS⟩ : ∃ R, Hid (sched p = R) := ⟨_, Lib.hid (Eq.refl _)⟩
                  obtain ⟨KK, HKK⟩ : ∃ R, Hid ((fun i => shaK (8 + i)) = R) := ⟨_, Lib.hid (Eq.refl _)⟩
                  obtain ⟨V0, HV0⟩ : ∃ R, Hid ((List.range 8).map (runG shaK P k) = R) := ⟨_, Lib.hid (Eq.refl _)⟩
                  rw [HSS.out] at hrw HNX HXL
                  rw [HKK.out] at HNX HKL HKC
                  rw [HV0.out] at hHr hVl hVv HNX
                  have hemp := OwnWd.empty wr wr.heap.size (Nat.le_refl _)
                  have hrH : ∀ j, j < 8 → (wr.alloc (.cells #[] 69)).rangeAt g5 (j * 32) (wl (V0.getD j 0)) := fun j hj => rangeAt_bel (hHr.1 j hj) ((Below.refl _ _).alloc (Nat.le_refl _) _)
                  have hle : wr.heap.size ≤ (wr.alloc (.cells #[] 69)).heap.size := by simp
                  have HRW := Lib.hid hrw
                  have HHr := Lib.hid hHr
                  have HVl := Lib.hid hVl
                  have HVv := Lib.hid hVv
                  have Hg5k := Lib.hid hg5k
                  have HBk := Lib.hid HB.out.size
                  have hT5 := (HOn.out.blk HT4.out Hg25.out).below HB.out (Nat.lt_of_lt_of_le HT4.out.lt HOn.out.2.2.2.1)
                  have HT5 := Lib.hid hT5
                  have hV10 : ([] : List Nat).length + 8 ≤ 1000 := by decide
                  clear hrw hHr hVv hg5k HCL hT5 hgw HO
                  go_upto_region 27 with (first
                    | (at_builtin; go_must (refine wpList_append_WL (wr.alloc (.cells #[] 69)) rfl (.tmp 101) (.tmp 102) rfl wr.heap.size (.slice (some ⟨wr.heap.size, 0, none⟩) 0 0) [] V0 g5 8 c5 hVl hemp rfl rfl hrH hV10 hle ?_; intro v8 w8 ho8 hb8; rw [List.nil_append] at ho8; obtain ⟨gv, cv, rfl, hgv, hhv⟩ := ho8.hwd hVl; have HHV := Lib.hid hhv; have Hgv := Lib.hid hgv; have HB8 : Hid (Below wr.heap.size wr w8) := Lib.hid (((Below.refl wr.heap.size wr).alloc (Nat.le_refl _) (.cells #[] 69)).trans hb8); clear ho8 hb8 hhv hgv))
                    | fail)
                  clear hemp hrH hle hV10 hVl
                  have HT8 := Lib.hid (HT5.out.below HB8.out HT5.out.lt)
                  have HRS8 : Hid (∀ i, i < 64 → w8.rangeAt gw (i * 32) (wl (SS i))) := fun i hi => rangeAt_bel (HRW.out i hi) HB8.out
                  have HH8 := Lib.hid (HHr.out.bel HB8.out)
                  have HBK8 := Lib.hid (HB.out.trans (HB8.out.mono HBk.out))
                  have HWV0 : Hid (WRow w8 (some ⟨gv, 0, none⟩) 8 (fun q => (stepsL KK SS V0 0).getD q 0)) := .inr ⟨gv, 0, rfl, HHV.out.2.2, fun j hj => by
                    rw [Nat.zero_add]
                    exact HHV.out.1 j hj⟩
                  have Hgvk : Hid (wk.heap.size ≤ gv) := Nat.le_trans HBk.out Hgv.out
                  have HZ8 := Lib.hid (Below.refl w8.heap.size w8)
                  clear HB HB8 HT5 HRW HHr HHV Hgv
                  go_wp2_with fail
                  go_loopw [14, 106] (fun v_ i_ wq => ∃ (i gv cv : Nat), i ≤ 64 ∧ i_ = .int .i64 (i : Int) ∧ v_ = .slice (some ⟨gv, 0, none⟩) 8 cv ∧ Hid (WRow wq (some ⟨gv, 0, none⟩) 8 (fun q => (stepsL KK SS V0 i).getD q 0)) ∧ Hid (wk.heap.size ≤ gv) ∧ Hid (Below w8.heap.size w8 wq)) (fun _ i _ => 64 - (intOf i).toNat)
                  case atStart => exact ⟨0, gv, cv, Nat.zero_le _, rfl, rfl, HWV0, Hgvk, HZ8⟩
                  case round =>
                    clear HWV0 Hgvk HZ8
                    obtain ⟨i, gv, cv, hi, rfl, rfl, HWV, Hgvk, HB⟩ := hrel
                    by_cases hlt : i < 64
                    · have di : decide ((i : Int) < 64) = true := by rw [decide_eq_true_eq]; omega
                      have dib : decide (i < 64) = true := by rw [decide_eq_true_eq]; omega
                      have hiI : (i : Int) < 64 := by omega
                      have hiw : IntKind.i64.wrap (i : Int) = (i : Int) := by rw [IntKind.wrap_i64]; omega
                      obtain ⟨hVi, hVv⟩ := stepsL_ok KK SS V0 HVl.out HVv.out i
                      have HNi : Hid (stepsL KK SS V0 (i + 1) = stV (KK i) (SS i) (stepsL KK SS V0 i)) := rfl
                      have hxk := HKL.out i hlt
                      have hck := (HT8.out.below HB.out HT8.out.lt).cell i
                      rw [HKC.out i hlt] at hck
                      have hrs := rangeAt_bel (HRS8.out i hlt) HB.out
                      have HT9 := HT8.out.below HB.out HT8.out.lt
                      have hg2l := HT9.lt
                      obtain ⟨VN, HVN⟩ : ∃ R, Hid (stepsL KK SS V0 (i + 1) = R) := ⟨_, Lib.hid (Eq.refl _)⟩
                      obtain ⟨VI, HVI⟩ : ∃ R, Hid (stepsL KK SS V0 i = R) := ⟨_, Lib.hid (Eq.refl _)⟩
                      obtain ⟨ki, Hki⟩ : ∃ R, Hid (KK i = R) := ⟨_, Lib.hid (Eq.refl _)⟩
                      obtain ⟨xi, Hxi⟩ : ∃ R, Hid (SS i = R) := ⟨_, Lib.hid (Eq.refl _)⟩
                      rw [HVN.out, HVI.out, Hki.out, Hxi.out] at HNi
                      rw [HVI.out] at HWV hVi hVv
                      rw [Hki.out] at hxk hck
                      rw [Hxi.out] at hrs
                      have CO := Lib.hid (fun W => of_wl ki hxk W)
                      have CS := Lib.hid (fun W h => step_any VI hVi hVv (some ⟨gv, 0, none⟩) cv ki xi W h)
                      have HCK := Lib.hid hck
                      have HRS := Lib.hid hrs
                      have Hg2l := Lib.hid hg2l
                      clear hVi hVv hxk hck hrs HT9 hg2l HVI Hki Hxi
                      go_upto_region 30 with fail
                      refine wp_region_noPanic ?_
                      refine wp_region_held_drew (S := fun W => Below wr.heap.size wr W) (by kernel_rfl) (Below.refl _ _).drew (fun hHeld => ?_)
                      refine' wpAnyH_take (i := 0) ?_ (by kernel_rfl) (by kernel_rfl) (by kernel_rfl) (fun _ _ _ h => h) ?_ hHeld ?_
                      rotate_left 2
                      · (try simp only [List.getElem?_toArray, List.getElem?_cons_succ, List.getElem?_cons_zero]); rfl
                      · refine Or.inl ⟨by rfl, ?_⟩
                        intro W0 hS0
                        go_simp
                        (try with_reducible rfl)
                      (try simp only [Act.put, List.setIfInBounds_toArray, List.set_cons_zero, List.set_cons_succ])
                      refine' wpAnyH_take (i := 1) ?_ (by kernel_rfl) (by kernel_rfl) (by kernel_rfl) (fun _ _ _ h => h) ?_ hHeld ?_
                      rotate_left 2
                      · (try simp only [List.getElem?_toArray, List.getElem?_cons_succ, List.getElem?_cons_zero]); rfl
                      · refine Or.inl ⟨by rfl, ?_⟩
                        intro W0 hS0
                        go_simp
                        (try with_reducible rfl)
                      (try simp only [Act.put, List.setIfInBounds_toArray, List.set_cons_zero, List.set_cons_succ])
                      refine' wpAnyH_take (i := 2) ?_ (by kernel_rfl) (by kernel_rfl) (by kernel_rfl) (fun _ _ _ h => h) ?_ hHeld ?_
                      rotate_left 2
                      · (try simp only [List.getElem?_toArray, List.getElem?_cons_succ, List.getElem?_cons_zero]); rfl
                      · refine Or.inl ⟨by rfl, ?_⟩
                        intro W0 hS0
                        go_simp
                        (try with_reducible rfl)
                      (try simp only [Act.put, List.setIfInBounds_toArray, List.set_cons_zero, List.set_cons_succ])
                      refine' wpAnyH_take (i := 3) ?_ (by kernel_rfl) (by kernel_rfl) (by kernel_rfl) (fun _ _ _ h => h) ?_ hHeld ?_
                      rotate_left 2
                      · (try simp only [List.getElem?_toArray, List.getElem?_cons_succ, List.getElem?_cons_zero]); rfl
                      · refine Or.inl ⟨by rfl, ?_⟩
                        intro W0 hS0
                        go_simp
                        (try with_reducible rfl)
                      (try simp only [Act.put, List.setIfInBounds_toArray, List.set_cons_zero, List.set_cons_succ])
                      refine' wpAnyH_take (i := 4) ?_ (by kernel_rfl) (by kernel_rfl) (by kernel_rfl) (fun _ _ _ h => h) ?_ hHeld ?_
                      rotate_left 2
                      · (try simp only [List.getElem?_toArray, List.getElem?_cons_succ, List.getElem?_cons_zero]); rfl
                      · refine Or.inl ⟨by rfl, ?_⟩
                        intro W0 hS0
                        have c0 := ((show Below wr.heap.size wr W0 from hS0).cell (p := ⟨g2, i, none⟩) Hg2l.out).trans HCK.out
                        go_simp
                        (try with_reducible rfl)
                      (try simp only [Act.put, List.setIfInBounds_toArray, List.set_cons_zero, List.set_cons_succ])
                      refine' wpAnyH_take (i := 6) ?_ (by kernel_rfl) (by kernel_rfl) (by kernel_rfl) (fun _ _ _ h => h) ?_ hHeld ?_
                      rotate_left 2
                      · (try simp only [List.getElem?_toArray, List.getElem?_cons_succ, List.getElem?_cons_zero]); rfl
                      · refine Or.inl ⟨by rfl, ?_⟩
                        intro W0 hS0
                        go_simp
                        (try with_reducible rfl)
                      (try simp only [Act.put, List.setIfInBounds_toArray, List.set_cons_zero, List.set_cons_succ])
                      refine' wpAnyH_take (i := 7) ?_ (by kernel_rfl) (by kernel_rfl) (by kernel_rfl) (fun _ _ _ h => h) ?_ hHeld ?_
                      rotate_left 2
                      · (try simp only [List.getElem?_toArray, List.getElem?_cons_succ, List.getElem?_cons_zero]); rfl
                      · refine Or.inl ⟨by rfl, ?_⟩
                        intro W0 hS0
                        go_simp
                        (try with_reducible rfl)
                      (try simp only [Act.put, List.setIfInBounds_toArray, List.set_cons_zero, List.set_cons_succ])
                      refine' wpAnyH_take (i := 8) ?_ (by kernel_rfl) (by kernel_rfl) (by kernel_rfl) (fun _ _ _ h => h) ?_ hHeld ?_
                      rotate_left 2
                      · (try simp only [List.getElem?_toArray, List.getElem?_cons_succ, List.getElem?_cons_zero]); rfl
                      · refine Or.inl ⟨by rfl, ?_⟩
                        intro W0 hS0
                        go_simp
                        (try with_reducible rfl)
                      (try simp only [Act.put, List.setIfInBounds_toArray, List.set_cons_zero, List.set_cons_succ])
                      refine' wpAnyH_take (i := 9) ?_ (by kernel_rfl) (by kernel_rfl) (by kernel_rfl) (fun _ _ _ h => h) ?_ hHeld ?_
                      rotate_left 2
                      · (try simp only [List.getElem?_toArray, List.getElem?_cons_succ, List.getElem?_cons_zero]); rfl
                      · exact yieldsIf_load_mid (by rfl) _ _ rfl gw (i * 32) rfl (wl (xi)) _ (fun W hS => rangeAt_bel HRS.out hS) hu rfl (info_wl _)
                      (try simp only [Act.put, List.setIfInBounds_toArray, List.set_cons_zero, List.set_cons_succ])
                      obtain ⟨wd, Hwd⟩ : ∃ R, Hid (wr.drew = R) := ⟨_, Lib.hid (Eq.refl _)⟩
                      replace hHeld : Below wr.heap.size wr wr.drew := hHeld
                      rw [Hwd.out] at hHeld ⊢
                      clear Hwd
                      refine wpAnyH_ready (rs := [5]) (by kernel_rfl) (by simp) ?_
                      refine' AllReadyH.cons ?_ (fun K hK => ?_) ?_
                      rotate_left 1
                      · (try simp only [List.getElem?_toArray, List.getElem?_cons_succ, List.getElem?_cons_zero]); rfl
                      · go_simp
                        go_at_call 47
                        refine (CO.out _).mono ?_
                        rintro e we1 ⟨rfl, hbe2⟩
                        (try go_wp2_with fail)
                        refine hK.out _ _ ?_ (fun hHeld' => ?_)
                        · exact (bthen hHeld hbe2)
                        replace hHeld := bthen hHeld hbe2
                        clear hK K hHeld'
                        (try simp only [Act.put, List.setIfInBounds_toArray, List.set_cons_zero, List.set_cons_succ])
                        refine wpAnyH_ready (rs := [10]) (by kernel_rfl) (by simp) ?_
                        refine' AllReadyH.cons ?_ (fun K hK => ?_) ?_
                        rotate_left 1
                        · (try simp only [List.getElem?_toArray, List.getElem?_cons_succ, List.getElem?_cons_zero]); rfl
                        · go_simp
                          go_at_call 51
                          refine (CS.out _ (HWV.out.below hHeld (Nat.le_refl _))).mono ?_
                          rintro e w9 ⟨hb9, g9, rfl, hr9, hg9⟩
                          (try go_wp2_with fail)
                          have HB9 := Lib.hid (bthen hHeld hb9)
                          have Hg9 := Lib.hid (Nat.le_trans hHeld.size hg9)
                          have HR9 := Lib.hid hr9
                          refine hK.out _ _ ?_ (fun hHeld' => ?_)
                          · exact HB9.out
                          replace hHeld := HB9.out
                          clear hK K hHeld' hb9 hr9 hg9
                          (try simp only [Act.put, List.setIfInBounds_toArray, List.set_cons_zero, List.set_cons_succ])
                          refine wpAnyH_ready (rs := [11]) (by kernel_rfl) (by simp) ?_
                          refine' AllReadyH.cons ?_ (fun K hK => ?_) ?_
                          rotate_left 1
                          · (try simp only [List.getElem?_toArray, List.getElem?_cons_succ, List.getElem?_cons_zero]); rfl
                          · go_simp
                            refine hK.out _ _ ?_ (fun hHeld' => ?_)
                            · exact hHeld
                            clear hK K hHeld'
                            (try simp only [Act.put, List.setIfInBounds_toArray, List.set_cons_zero, List.set_cons_succ])
                            refine wpAnyH_done (by kernel_rfl) ?_ _
                            refine NoPanic.normal ?_
                            go_wp2_with fail
                            go_roundw
                            case rel => exact ⟨i + 1, g9, 8, by omega, by go_num, rfl, by show WRow _ _ _ _; rw [HVN.out, HNi.out]; exact HR9.out, Nat.le_trans (Nat.le_trans HBK8.out.size HB.out.size) Hg9.out, Lib.hid (bthen HB.out HB9.out)⟩
                            case measure => simp [intOf]; omega
                          exact AllReadyH.nil
                        exact AllReadyH.nil
                      exact AllReadyH.nil
                    · have hie : i = 64 := by omega
                      have di : decide ((i : Int) < 64) = false := by rw [decide_eq_false_iff_not]; omega
                      rw [hie] at HWV
                      clear hie hlt hi
                      have HHr := Lib.hid (HH8.out.bel HB.out)
                      have HBL := Lib.hid (bthen HBK8.out HB.out)
                      obtain ⟨VE, HVE⟩ : ∃ R, Hid (stepsL KK SS V0 64 = R) := ⟨_, Lib.hid (Eq.refl _)⟩
                      rw [HVE.out] at HWV HNX
                      have HM0 : Hid (HWd wr g5 (mixL V0 VE 0)) := HHr.out.congr fun j hj => by rw [mixL_at _ _ _ _ hj, if_neg (by omega)]
                      have HO0 : Hid (Onl g5 wr wr) := Onl.refl wr
                      have HRV : Hid (∀ j, j < 8 → wr.rangeAt gv (j * 32) (wl (VE.getD j 0))) := fun j hj => by
                        have h1 := HWV.out.range j hj
                        rw [Nat.zero_add] at h1
                        exact h1
                      have hgv5 : gv ≠ g5 := by have h1 := Hgvk.out; have h2 := Hg5k.out; omega
                      have Hgv5 := Lib.hid hgv5
                      rename World => wL
                      clear HB HH8 HHr HWV hgv5 Hgvk HT8 HRS8 HXL HKL HKC HVE HVl HVv
                      go_wp2_with fail
                      go_loopw [123] (fun i_ wq => ∃ i : Nat, i ≤ 8 ∧ i_ = .int .i64 (i : Int) ∧ Hid (HWd wq g5 (mixL V0 VE i)) ∧ Hid (Onl g5 wL wq)) (fun i _ => 8 - (intOf i).toNat)
                      case atStart => exact ⟨0, Nat.zero_le _, rfl, HM0, HO0⟩
                      case round =>
                        clear HM0 HO0
                        obtain ⟨i, hi, rfl, HHq, HOq⟩ := hrel
                        by_cases hlt : i < 8
                        · have di : decide ((i : Int) < 8) = true := by rw [decide_eq_true_eq]; omega
                          have dib : decide (i < 8) = true := by rw [decide_eq_true_eq]; omega
                          have hiI : (i : Int) < 8 := by omega
                          have hiw : IntKind.i64.wrap (i : Int) = (i : Int) := by rw [IntKind.wrap_i64]; omega
                          have r5 := HHq.out.1 i hlt
                          rw [mixL_at _ _ _ _ hlt, if_neg (by omega)] at r5
                          have r9 := HOq.out.range Hgv5.out (HRV.out i hlt)
                          have hms := mixL_set V0 VE i hlt
                          have Hlt := Lib.hid hlt
                          obtain ⟨hi_, Hhi⟩ : ∃ R, Hid (V0.getD i 0 = R) := ⟨_, Lib.hid (Eq.refl _)⟩
                          obtain ⟨vi_, Hvi⟩ : ∃ R, Hid (VE.getD i 0 = R) := ⟨_, Lib.hid (Eq.refl _)⟩
                          rw [Hhi.out] at r5 hms
                          rw [Hvi.out] at r9 hms
                          obtain ⟨yi, Hyi⟩ : ∃ R, Hid ([hi_, vi_].sum % 4294967296 = R) := ⟨_, Lib.hid (Eq.refl _)⟩
                          rw [Hyi.out] at hms
                          have Hms := Lib.hid hms
                          have CA2 : Hid (∀ g W, Blk W g 69 (wcl [hi_, vi_]).toArray → Calls Try.prog 49 #[.slice (some ⟨g, 0, none⟩) 2 2] W fun e w' => e = .returned (.agg (wl yi).toArray) ∧ Below W.heap.size W w') := fun g W hb => by
                            have := add_wl g 2 [hi_, vi_] rfl (by decide) W hb
                            rw [Hyi.out] at this
                            exact this
                          have R5 := Lib.hid r5
                          have R9 := Lib.hid r9
                          clear r5 r9 hms Hhi Hvi Hyi hlt
                          go_upto_region 35 with fail
                          refine wp_region_noPanic ?_
                          refine wp_region_held_drew (S := fun _ => True) (by kernel_rfl) (trivial) (fun hHeld => ?_)
                          refine' wpAnyH_take (i := 0) ?_ (by kernel_rfl) (by kernel_rfl) (by kernel_rfl) (fun _ _ _ h => h) ?_ hHeld ?_
                          rotate_left 2
                          · (try simp only [List.getElem?_toArray, List.getElem?_cons_succ, List.getElem?_cons_zero]); rfl
                          · refine Or.inl ⟨by rfl, ?_⟩
                            intro W0 hS0
                            go_simp
                            (try with_reducible rfl)
                          (try simp only [Act.put, List.setIfInBounds_toArray, List.set_cons_zero, List.set_cons_succ])
                          refine' wpAnyH_take (i := 1) ?_ (by kernel_rfl) (by kernel_rfl) (by kernel_rfl) (fun _ _ _ h => h) ?_ hHeld ?_
                          rotate_left 2
                          · (try simp only [List.getElem?_toArray, List.getElem?_cons_succ, List.getElem?_cons_zero]); rfl
                          · refine Or.inl ⟨by rfl, ?_⟩
                            intro W0 hS0
                            go_simp
                            (try with_reducible rfl)
                          (try simp only [Act.put, List.setIfInBounds_toArray, List.set_cons_zero, List.set_cons_succ])
                          refine' wpAnyH_take (i := 2) ?_ (by kernel_rfl) (by kernel_rfl) (by kernel_rfl) (fun _ _ _ h => h) ?_ hHeld ?_
                          rotate_left 2
                          · (try simp only [List.getElem?_toArray, List.getElem?_cons_succ, List.getElem?_cons_zero]); rfl
                          · refine Or.inl ⟨by rfl, ?_⟩
                            intro W0 hS0
                            go_simp
                            (try with_reducible rfl)
                          (try simp only [Act.put, List.setIfInBounds_toArray, List.set_cons_zero, List.set_cons_succ])
                          refine' wpAnyH_take (i := 3) ?_ (by kernel_rfl) (by kernel_rfl) (by kernel_rfl) (fun _ _ _ h => h) ?_ hHeld ?_
                          rotate_left 2
                          · (try simp only [List.getElem?_toArray, List.getElem?_cons_succ, List.getElem?_cons_zero]); rfl
                          · refine Or.inl ⟨by rfl, ?_⟩
                            intro W0 hS0
                            go_simp
                            (try with_reducible rfl)
                          (try simp only [Act.put, List.setIfInBounds_toArray, List.set_cons_zero, List.set_cons_succ])
                          refine' wpAnyH_take (i := 4) ?_ (by kernel_rfl) (by kernel_rfl) (by kernel_rfl) (fun _ _ _ h => h) ?_ hHeld ?_
                          rotate_left 2
                          · (try simp only [List.getElem?_toArray, List.getElem?_cons_succ, List.getElem?_cons_zero]); rfl
                          · refine Or.inl ⟨by rfl, ?_⟩
                            intro W0 hS0
                            go_simp
                            (try with_reducible rfl)
                          (try simp only [Act.put, List.setIfInBounds_toArray, List.set_cons_zero, List.set_cons_succ])
                          refine' wpAnyH_take (i := 6) ?_ (by kernel_rfl) (by kernel_rfl) (by kernel_rfl) (fun _ _ _ h => h) ?_ hHeld ?_
                          rotate_left 2
                          · (try simp only [List.getElem?_toArray, List.getElem?_cons_succ, List.getElem?_cons_zero]); rfl
                          · refine Or.inl ⟨by rfl, ?_⟩
                            intro W0 hS0
                            go_simp
                            (try with_reducible rfl)
                          (try simp only [Act.put, List.setIfInBounds_toArray, List.set_cons_zero, List.set_cons_succ])
                          refine' wpAnyH_take (i := 7) ?_ (by kernel_rfl) (by kernel_rfl) (by kernel_rfl) (fun _ _ _ h => h) ?_ hHeld ?_
                          rotate_left 2
                          · (try simp only [List.getElem?_toArray, List.getElem?_cons_succ, List.getElem?_cons_zero]); rfl
                          · refine Or.inl ⟨by rfl, ?_⟩
                            intro W0 hS0
                            go_simp
                            (try with_reducible rfl)
                          (try simp only [Act.put, List.setIfInBounds_toArray, List.set_cons_zero, List.set_cons_succ])
                          refine' wpAnyH_take (i := 8) ?_ (by kernel_rfl) (by kernel_rfl) (by kernel_rfl) (fun _ _ _ h => h) ?_ hHeld ?_
                          rotate_left 2
                          · (try simp only [List.getElem?_toArray, List.getElem?_cons_succ, List.getElem?_cons_zero]); rfl
                          · refine Or.inl ⟨by rfl, ?_⟩
                            intro W0 hS0
                            go_simp
                            (try with_reducible rfl)
                          (try simp only [Act.put, List.setIfInBounds_toArray, List.set_cons_zero, List.set_cons_succ])
                          replace hHeld : Below wr.heap.size wr wr.drew := (Below.refl _ _).drew
                          obtain ⟨wd, Hwd⟩ : ∃ R, Hid (wr.drew = R) := ⟨_, Lib.hid (Eq.refl _)⟩
                          rw [Hwd.out] at hHeld ⊢
                          clear Hwd
                          refine wpAnyH_ready (rs := [5, 9]) (by kernel_rfl) (by simp) ?_
                          refine' AllReadyH.cons ?_ (fun K hK => ?_) ?_
                          rotate_left 1
                          · (try simp only [List.getElem?_toArray, List.getElem?_cons_succ, List.getElem?_cons_zero]); rfl
                          · rw [if_pos (by rfl)]
                            refine wp_load_mid _ _ rfl g5 (i * 32) rfl (wl (hi_)) _ (rangeAt_bel R5.out hHeld) hu rfl (info_wl _) ?_
                            refine hK.out _ _ ?_ (fun hHeld' => ?_)
                            · exact trivial
                            clear hK K hHeld'
                            (try simp only [Act.put, List.setIfInBounds_toArray, List.set_cons_zero, List.set_cons_succ])
                            refine wpAnyH_ready (rs := [9]) (by kernel_rfl) (by simp) ?_
                            refine' AllReadyH.cons ?_ (fun K hK => ?_) ?_
                            rotate_left 1
                            · (try simp only [List.getElem?_toArray, List.getElem?_cons_succ, List.getElem?_cons_zero]); rfl
                            · rw [if_pos (by rfl)]
                              refine wp_load_mid _ _ rfl gv (i * 32) rfl (wl (vi_)) _ (rangeAt_bel R9.out hHeld) hu rfl (info_wl _) ?_
                              refine hK.out _ _ ?_ (fun hHeld' => ?_)
                              · exact trivial
                              clear hK K hHeld'
                              (try simp only [Act.put, List.setIfInBounds_toArray, List.set_cons_zero, List.set_cons_succ])
                              refine wpAnyH_ready (rs := [10]) (by kernel_rfl) (by simp) ?_
                              refine' AllReadyH.cons ?_ (fun K hK => ?_) ?_
                              rotate_left 1
                              · (try simp only [List.getElem?_toArray, List.getElem?_cons_succ, List.getElem?_cons_zero]); rfl
                              · rw [if_pos (by rfl)]
                                refine wp_build_words 2 _ rfl [hi_, vi_] rfl (by decide) (by decide) rfl ?_
                                have geh8 : wr.heap.size ≤ wd.heap.size := hHeld.size
                                refine hK.out _ _ ?_ (fun hHeld' => ?_)
                                · exact trivial
                                replace hHeld := hHeld.alloc hHeld.size (.cells (wcl [hi_, vi_]).toArray 69)
                                clear hK K hHeld'
                                (try simp only [Act.put, List.setIfInBounds_toArray, List.set_cons_zero, List.set_cons_succ])
                                have Hh4 := Lib.hid (Blk.new wd 69 (wcl [hi_, vi_]).toArray)
                                obtain ⟨gh5, Hgh7⟩ : ∃ R, Hid (wd.heap.size = R) := ⟨_, Lib.hid (Eq.refl _)⟩
                                obtain ⟨wh3, Hwh6⟩ : ∃ R, Hid (wd.alloc (.cells (wcl [hi_, vi_]).toArray 69) = R) := ⟨_, Lib.hid (Eq.refl _)⟩
                                rw [Hgh7.out] at Hh4 geh8 ⊢
                                rw [Hwh6.out] at Hh4 hHeld ⊢
                                clear Hwh6
                                clear Hgh7
                                refine wpAnyH_ready (rs := [11]) (by kernel_rfl) (by simp) ?_
                                refine' AllReadyH.cons ?_ (fun K hK => ?_) ?_
                                rotate_left 1
                                · (try simp only [List.getElem?_toArray, List.getElem?_cons_succ, List.getElem?_cons_zero]); rfl
                                · go_simp
                                  go_at_call 49
                                  refine (CA2.out _ _ Hh4.out).mono ?_
                                  rintro e wh9 ⟨rfl, hbh10⟩
                                  (try go_wp2_with fail)
                                  refine hK.out _ _ ?_ (fun hHeld' => ?_)
                                  · exact trivial
                                  replace hHeld := bthen hHeld hbh10
                                  clear hK K hHeld'
                                  (try simp only [Act.put, List.setIfInBounds_toArray, List.set_cons_zero, List.set_cons_succ])
                                  have Hh11 := Lib.hid (Hh4.out.below hbh10 Hh4.out.lt)
                                  clear Hh4
                                  refine wpAnyH_ready (rs := [12]) (by kernel_rfl) (by simp) ?_
                                  refine' AllReadyH.cons ?_ (fun K hK => ?_) ?_
                                  rotate_left 1
                                  · (try simp only [List.getElem?_toArray, List.getElem?_cons_succ, List.getElem?_cons_zero]); rfl
                                  · go_simp
                                    refine hK.out _ _ ?_ (fun hHeld' => ?_)
                                    · exact trivial
                                    clear hK K hHeld'
                                    (try simp only [Act.put, List.setIfInBounds_toArray, List.set_cons_zero, List.set_cons_succ])
                                    refine wpAnyH_ready (rs := [13]) (by kernel_rfl) (by simp) ?_
                                    refine' AllReadyH.cons ?_ (fun K hK => ?_) ?_
                                    rotate_left 1
                                    · (try simp only [List.getElem?_toArray, List.getElem?_cons_succ, List.getElem?_cons_zero]); rfl
                                    · rw [if_pos (by rfl)]
                                      refine wp_store_mid _ _ _ rfl g5 (i * 32) (wl yi).toArray rfl rfl ((HHq.out.bel hHeld).thereAt Hlt.out _ (by rw [List.size_toArray, wl_len])) (info_wla _) (wl_one _) ?_
                                      have HS9 : Hid (HWd (wh9.setCells g5 (i * 32) (wl yi)) g5 (mixL V0 VE (i + 1))) := by
                                        have h1 := (HHq.out.bel hHeld).set (y := yi) Hlt.out (mixL_len _ _ _)
                                        rw [Hms.out] at h1
                                        exact h1
                                      have HO9 : Hid (Onl g5 wL (wh9.setCells g5 (i * 32) (wl yi))) := (HOq.out.below hHeld HOq.out.2.2.2.1).setCells _ _
                                      refine hK.out _ _ ?_ (fun hHeld' => ?_)
                                      · exact trivial
                                      clear hK K hHeld'
                                      (try simp only [Act.put, List.setIfInBounds_toArray, List.set_cons_zero, List.set_cons_succ])
                                      refine wpAnyH_done (by kernel_rfl) ?_ _
                                      refine NoPanic.normal ?_
                                      go_wp2_with fail
                                      go_roundw
                                      case rel => exact ⟨i + 1, by have := Hlt.out; omega, by go_num, HS9, HO9⟩
                                      case measure => have := Hlt.out; simp [intOf]; omega
                                    exact AllReadyH.nil
                                  exact AllReadyH.nil
                                exact AllReadyH.nil
                              exact AllReadyH.nil
                            exact AllReadyH.nil
                          refine' AllReadyH.cons ?_ (fun K hK => ?_) ?_
                          rotate_left 1
                          · (try simp only [List.getElem?_toArray, List.getElem?_cons_succ, List.getElem?_cons_zero]); rfl
                          · rw [if_pos (by rfl)]
                            refine wp_load_mid _ _ rfl gv (i * 32) rfl (wl (vi_)) _ (rangeAt_bel R9.out hHeld) hu rfl (info_wl _) ?_
                            refine hK.out _ _ ?_ (fun hHeld' => ?_)
                            · exact trivial
                            clear hK K hHeld'
                            (try simp only [Act.put, List.setIfInBounds_toArray, List.set_cons_zero, List.set_cons_succ])
                            refine wpAnyH_ready (rs := [5]) (by kernel_rfl) (by simp) ?_
                            refine' AllReadyH.cons ?_ (fun K hK => ?_) ?_
                            rotate_left 1
                            · (try simp only [List.getElem?_toArray, List.getElem?_cons_succ, List.getElem?_cons_zero]); rfl
                            · rw [if_pos (by rfl)]
                              refine wp_load_mid _ _ rfl g5 (i * 32) rfl (wl (hi_)) _ (rangeAt_bel R5.out hHeld) hu rfl (info_wl _) ?_
                              refine hK.out _ _ ?_ (fun hHeld' => ?_)
                              · exact trivial
                              clear hK K hHeld'
                              (try simp only [Act.put, List.setIfInBounds_toArray, List.set_cons_zero, List.set_cons_succ])
                              refine wpAnyH_ready (rs := [10]) (by kernel_rfl) (by simp) ?_
                              refine' AllReadyH.cons ?_ (fun K hK => ?_) ?_
                              rotate_left 1
                              · (try simp only [List.getElem?_toArray, List.getElem?_cons_succ, List.getElem?_cons_zero]); rfl
                              · rw [if_pos (by rfl)]
                                refine wp_build_words 2 _ rfl [hi_, vi_] rfl (by decide) (by decide) rfl ?_
                                have geh21 : wr.heap.size ≤ wd.heap.size := hHeld.size
                                refine hK.out _ _ ?_ (fun hHeld' => ?_)
                                · exact trivial
                                replace hHeld := hHeld.alloc hHeld.size (.cells (wcl [hi_, vi_]).toArray 69)
                                clear hK K hHeld'
                                (try simp only [Act.put, List.setIfInBounds_toArray, List.set_cons_zero, List.set_cons_succ])
                                have Hh17 := Lib.hid (Blk.new wd 69 (wcl [hi_, vi_]).toArray)
                                obtain ⟨gh18, Hgh20⟩ : ∃ R, Hid (wd.heap.size = R) := ⟨_, Lib.hid (Eq.refl _)⟩
                                obtain ⟨wh16, Hwh19⟩ : ∃ R, Hid (wd.alloc (.cells (wcl [hi_, vi_]).toArray 69) = R) := ⟨_, Lib.hid (Eq.refl _)⟩
                                rw [Hgh20.out] at Hh17 geh21 ⊢
                                rw [Hwh19.out] at Hh17 hHeld ⊢
                                clear Hwh19
                                clear Hgh20
                                refine wpAnyH_ready (rs := [11]) (by kernel_rfl) (by simp) ?_
                                refine' AllReadyH.cons ?_ (fun K hK => ?_) ?_
                                rotate_left 1
                                · (try simp only [List.getElem?_toArray, List.getElem?_cons_succ, List.getElem?_cons_zero]); rfl
                                · go_simp
                                  go_at_call 49
                                  refine (CA2.out _ _ Hh17.out).mono ?_
                                  rintro e wh22 ⟨rfl, hbh23⟩
                                  (try go_wp2_with fail)
                                  refine hK.out _ _ ?_ (fun hHeld' => ?_)
                                  · exact trivial
                                  replace hHeld := bthen hHeld hbh23
                                  clear hK K hHeld'
                                  (try simp only [Act.put, List.setIfInBounds_toArray, List.set_cons_zero, List.set_cons_succ])
                                  have Hh24 := Lib.hid (Hh17.out.below hbh23 Hh17.out.lt)
                                  clear Hh17
                                  refine wpAnyH_ready (rs := [12]) (by kernel_rfl) (by simp) ?_
                                  refine' AllReadyH.cons ?_ (fun K hK => ?_) ?_
                                  rotate_left 1
                                  · (try simp only [List.getElem?_toArray, List.getElem?_cons_succ, List.getElem?_cons_zero]); rfl
                                  · go_simp
                                    refine hK.out _ _ ?_ (fun hHeld' => ?_)
                                    · exact trivial
                                    clear hK K hHeld'
                                    (try simp only [Act.put, List.setIfInBounds_toArray, List.set_cons_zero, List.set_cons_succ])
                                    refine wpAnyH_ready (rs := [13]) (by kernel_rfl) (by simp) ?_
                                    refine' AllReadyH.cons ?_ (fun K hK => ?_) ?_
                                    rotate_left 1
                                    · (try simp only [List.getElem?_toArray, List.getElem?_cons_succ, List.getElem?_cons_zero]); rfl
                                    · rw [if_pos (by rfl)]
                                      refine wp_store_mid _ _ _ rfl g5 (i * 32) (wl yi).toArray rfl rfl ((HHq.out.bel hHeld).thereAt Hlt.out _ (by rw [List.size_toArray, wl_len])) (info_wla _) (wl_one _) ?_
                                      have HS9 : Hid (HWd (wh22.setCells g5 (i * 32) (wl yi)) g5 (mixL V0 VE (i + 1))) := by
                                        have h1 := (HHq.out.bel hHeld).set (y := yi) Hlt.out (mixL_len _ _ _)
                                        rw [Hms.out] at h1
                                        exact h1
                                      have HO9 : Hid (Onl g5 wL (wh22.setCells g5 (i * 32) (wl yi))) := (HOq.out.below hHeld HOq.out.2.2.2.1).setCells _ _
                                      refine hK.out _ _ ?_ (fun hHeld' => ?_)
                                      · exact trivial
                                      clear hK K hHeld'
                                      (try simp only [Act.put, List.setIfInBounds_toArray, List.set_cons_zero, List.set_cons_succ])
                                      refine wpAnyH_done (by kernel_rfl) ?_ _
                                      refine NoPanic.normal ?_
                                      go_wp2_with fail
                                      go_roundw
                                      case rel => exact ⟨i + 1, by have := Hlt.out; omega, by go_num, HS9, HO9⟩
                                      case measure => have := Hlt.out; simp [intOf]; omega
                                    exact AllReadyH.nil
                                  exact AllReadyH.nil
                                exact AllReadyH.nil
                              exact AllReadyH.nil
                            exact AllReadyH.nil
                          exact AllReadyH.nil
                        · have hie : i = 8 := by omega
                          have di : decide ((i : Int) < 8) = false := by rw [decide_eq_false_iff_not]; omega
                          rw [hie] at HHq
                          have HH2 : Hid (HWd wr g5 ((List.range 8).map (runG shaK P (k + 1)))) := HHq.out.congr fun j hj => by
                            rw [mixL_at _ _ _ _ hj, if_pos hj, getD_map _ _ _ hj, HNX.out j hj, sum2]
                          have HOn2 := Lib.hid ((HOn.out.below HBL.out HOn.out.2.2.2.1).trans HOq.out)
                          have Ho2 : Hid (o + 512 = o8 + 512 * (k + 1)) := by show _ = _; have := Ho.out; omega
                          have Hn2' : Hid (n2 = 512 * (N - (k + 1))) := by show _ = _; have := Hn.out; have := Hn2.out; omega
                          have hnc2 : n2 ≤ c2 := by have := Hn2.out; have := Hc2.out; omega
                          have hc2 : c2 ≤ 9223372036854775807 := by have := Hc2.out; omega
                          have hk1 : k + 1 ≤ N := by
                            have h1 := Hn.out
                            omega
                          have hmz : n2 < n := by have := Hn2.out; omega
                          clear hie hi
                          go_wp2_with fail
                          go_roundw
                          case rel => exact ⟨k + 1, o + 512, n2, c2, ad2, hk1, Ho2, Hn2', hnc2, hc2, rfl, HAD, HH2, HOn2⟩
                          case measure => exact hmz
        · have hkN : k = N := by omega
          have hn0 : n = 0 := by have := Hn.out; omega
          have dn : decide ((0 : Int) < (n : Int)) = false := by rw [decide_eq_false_iff_not]; omega
          have dnb : decide (0 < n) = false := by rw [decide_eq_false_iff_not]; omega
          have HHk : Hid (HWd wk g5 ((List.range 8).map (runG shaK P N))) := by rw [← hkN]; exact HH.out
          obtain ⟨DF, HDF⟩ : ∃ R, Hid (runG shaK P N = R) := ⟨_, Lib.hid (Eq.refl _)⟩
          rw [HDF.out] at HF HHk
          have HB0 := Lib.hid ((Below.refl wk.heap.size wk).alloc (Nat.le_refl _) (.cells #[] 5))
          have HO0 : Hid (OwnB (wk.alloc (.cells #[] 5)) wk.heap.size (.slice (some ⟨wk.heap.size, 0, none⟩) 0 0) (outB DF 0)) := OwnB.empty wk _ (Nat.le_refl _)
          have HBe : Hid (Below w.heap.size w wk) := by
            have h1 := HOn.out.old (B := w1.heap.size) HB4.out HB4.out.size (Nat.le_trans Hg5.out (Nat.le_refl _))
            exact bthen HB1.out h1
          clear hkN hn0 hlt hk HH Had HDF
          go_upto_region 39 with fail
          obtain ⟨w5, HW5⟩ : ∃ R, Hid (wk.alloc (.cells #[] 5) = R) := ⟨_, Lib.hid (Eq.refl _)⟩
          rw [HW5.out] at HB0 HO0 ⊢
          clear HW5 dn dnb
          go_loopw [17, 143] (fun v_ i_ wq => ∃ i : Nat, i ≤ 8 ∧ i_ = .int .i64 (i : Int) ∧ Hid (OwnB wq wk.heap.size v_ (outB DF i)) ∧ Hid (Below wk.heap.size wk wq)) (fun _ i _ => 8 - (intOf i).toNat)
          case atStart => exact ⟨0, Nat.zero_le _, rfl, HO0, HB0⟩
          case round =>
            clear HO0 HB0
            obtain ⟨i, hi, rfl, HO, HB⟩ := hrel
            by_cases hi8 : i < 8
            · have di : decide ((i : Int) < 8) = true := by rw [decide_eq_true_eq]; omega
              have dib : decide (i < 8) = true := by rw [decide_eq_true_eq]; omega
              have hiI : (i : Int) < 8 := by omega
              have hra := (HHk.out.bel HB.out).1 i hi8
              rw [getD_map _ _ _ hi8] at hra
              have HNo : Hid (outB DF (i + 1) = outB DF i ++ be4 (DF i)) := outB_succ DF i
              have hlen : (outB DF i).length = 4 * i := outB_len DF i
              obtain ⟨x, Hx⟩ : ∃ R, Hid (DF i = R) := ⟨_, Lib.hid (Eq.refl _)⟩
              obtain ⟨BO, HBO⟩ : ∃ R, Hid (outB DF i = R) := ⟨_, Lib.hid (Eq.refl _)⟩
              obtain ⟨BN, HBN⟩ : ∃ R, Hid (outB DF (i + 1) = R) := ⟨_, Lib.hid (Eq.refl _)⟩
              rw [Hx.out] at hra HNo
              rw [HBO.out] at HNo hlen HO
              rw [HBN.out] at HNo
              have i32 := info_wl x
              have iA := info_wla x
              have hZC : Z.size = (wl x).toArray.size := by rw [hZs, List.size_toArray, wl_len]
              have hC1 := wl_one x
              have hnw : (wr.alloc (.cells Z 69)).heap[wr.heap.size]? = some (.cells Z 69 (0, 0)) := Blk.new wr 69 Z
              have hb6 := below_setRow ((Below.refl wr.heap.size wr).alloc (Nat.le_refl _) (.cells Z 69)) (Nat.le_refl _) (wl x).toArray
              have HX0 : Hid (Blk ((wr.alloc (.cells Z 69)).setRow wr.heap.size (wl x).toArray) wr.heap.size 69 (wl x).toArray) := setRow_heap _ wr.heap.size _ _ _ _ hnw
              have HO6 := Lib.hid (HO.out.belowA hb6 (Nat.le_refl _))
              have HB6 := Lib.hid (HB.out.trans (hb6.mono HB.out.size))
              clear hb6 HO HB Hx HBO
              go_upto_region 41 with (first
                | (with_reducible refine wpList_load_mid rfl 69 _ rfl g5 (i * 32) rfl (wl x) _ hra hu rfl i32 ?_)
                | (with_reducible refine wpList_store_row rfl 69 _ _ rfl wr.heap.size (wl x).toArray rfl rfl 69 Z hnw iA hZC hC1 ?_)
                | fail)
              obtain ⟨w6, HW6⟩ : ∃ R, Hid ((wr.alloc (.cells Z 69)).setRow wr.heap.size (wl x).toArray = R) := ⟨_, Lib.hid (Eq.refl _)⟩
              rw [HW6.out] at HX0 HO6 HB6 ⊢
              obtain ⟨gx, Hgx⟩ : ∃ R, Hid (wr.heap.size = R) := ⟨_, Lib.hid (Eq.refl _)⟩
              rw [Hgx.out] at HX0 ⊢
              have HO7 : Hid (OwnB w6 wk.heap.size u17 (BO ++ (be4 x).take 0)) := by show OwnB _ _ _ _; rw [List.take_zero, List.append_nil]; exact HO6.out
              have HZ6 := Lib.hid (Below.refl w6.heap.size w6)
              have HB7 : Hid (Below wk.heap.size wk w6) := HB6
              clear hra i32 iA hZC hC1 hnw HW6 Hgx HO6 HB6
              go_upto_region 42 with fail
              go_loopw [17, 20] (fun v_ i_ wq => ∃ t I : Nat, t ≤ 4 ∧ i_ = .int .i64 (I : Int) ∧ Hid (I = 8 * t) ∧ Hid (OwnB wq wk.heap.size v_ (BO ++ (be4 x).take t)) ∧ Hid (Blk wq gx 69 (wl x).toArray) ∧ Hid (Below wk.heap.size wk wq)) (fun _ i _ => 32 - (intOf i).toNat)
              case atStart => exact ⟨0, 0, Nat.zero_le _, rfl, rfl, HO7, HX0, HB7⟩
              case round =>
                clear HO7 HX0 HB7 HZ6
                obtain ⟨t, I, ht, rfl, HI, HO, HX, HB⟩ := hrel
                by_cases ht4 : t < 4
                · have hI32 : I < 32 := by have := HI.out; omega
                  have dI : decide ((I : Int) < 32) = true := by rw [decide_eq_true_eq]; omega
                  have dIb : decide (I < 32) = true := by rw [decide_eq_true_eq]; omega
                  have HIq : Hid (I = 8 * t + 0) := HI.out
                  have HA0 : Hid (0 = accN x t 0) := (accN_zero x t).symm
                  obtain ⟨U, HU⟩ : ∃ R, Hid (I + 8 = R) := ⟨_, Lib.hid (Eq.refl _)⟩
                  have hU1 : (I : Int) + 8 = (U : Int) := by have := HU.out; omega
                  have hU2 : IntKind.i64.wrap (U : Int) = (U : Int) := by rw [IntKind.wrap_i64]; have := HU.out; omega
                  have hUI : U ≤ 32 := by have := HU.out; have := HI.out; omega
                  have HUt : Hid (U = 8 * t + 8) := by show _ = _; have := HU.out; have := HI.out; omega
                  clear HU
                  rename World => w9
                  go_upto_region 46 with fail
                  go_loopw [21, 22] (fun c_ q_ wq => ∃ r C q : Nat, r ≤ 8 ∧ q_ = .int .i64 (q : Int) ∧ Hid (q = 8 * t + r) ∧ c_ = .int .u8 (C : Int) ∧ Hid (C = accN x t r) ∧ w9 = wq) (fun _ q _ => U - (intOf q).toNat)
                  case atStart => exact ⟨0, 0, I, Nat.zero_le _, rfl, HIq, rfl, HA0, rfl⟩
                  case round =>
                    clear HIq HA0
                    obtain ⟨r, C, q, hr, rfl, Hq, rfl, HC, rfl⟩ := hrel
                    by_cases hr8 : r < 8
                    · have hqU : q < U := by have := Hq.out; have := HUt.out; omega
                      have dq : decide ((q : Int) < (U : Int)) = true := by rw [decide_eq_true_eq]; omega
                      have dqb : decide (q < U) = true := by rw [decide_eq_true_eq]; omega
                      have hq32 : q < 32 := by omega
                      have hqI : (q : Int) < 32 := by omega
                      have hqw : IntKind.i64.wrap (q : Int) = (q : Int) := by rw [IntKind.wrap_i64]; omega
                      have hCl : C < 128 := by
                        have h1 := accN_lt x t r
                        have h2 : 2 ^ r ≤ 2 ^ 7 := Nat.pow_le_pow_right (by decide) (by omega)
                        rw [HC.out]
                        have h3 : (2 : Nat) ^ 7 = 128 := by decide
                        omega
                      have hs1 := accN_succ x t r ht4 hr8
                      rw [← Hq.out, ← HC.out] at hs1
                      have cq := HX.out.cell q
                      have ec : (wl x).toArray[q]? = some (.bool (wbit x q)) := by
                        unfold wl
                        rw [List.getElem?_toArray, List.getElem?_map, List.getElem?_range hq32]
                        rfl
                      rw [ec] at cq
                      obtain ⟨D, HD⟩ : ∃ R, Hid (2 * C = R) := ⟨_, Lib.hid (Eq.refl _)⟩
                      have hD1 : 2 * (C : Int) = (D : Int) := by have := HD.out; omega
                      have hD2 : IntKind.u8.wrap (D : Int) = (D : Int) := by rw [IntKind.wrap_u8]; have := HD.out; omega
                      have hq2 : Hid (q + 1 = 8 * t + (r + 1)) := by show _ = _; have := Hq.out; omega
                      rw [HD.out] at hs1
                      obtain ⟨bt, Hbt⟩ : ∃ R, Hid (wbit x q = R) := ⟨_, Lib.hid (Eq.refl _)⟩
                      rw [Hbt.out] at hs1 cq
                      have hmz : U - (q + 1) < U - q := by omega
                      cases bt with
                      | false =>
                        have HC2 : Hid (D = accN x t (r + 1)) := by show _ = _; rw [hs1]; rfl
                        clear hs1 ec HD Hbt hCl
                        go_wp2_with fail
                        go_roundw
                        case rel => exact ⟨r + 1, D, q + 1, by omega, by go_num, hq2, rfl, HC2, trivial⟩
                        case measure => simp [intOf]; omega
                      | true =>
                        obtain ⟨E, HE⟩ : ∃ R, Hid (D + 1 = R) := ⟨_, Lib.hid (Eq.refl _)⟩
                        have hE1 : (D : Int) + 1 = (E : Int) := by have := HE.out; omega
                        have hE2 : IntKind.u8.wrap (E : Int) = (E : Int) := by rw [IntKind.wrap_u8]; have := HE.out; have := HD.out; omega
                        have HC2 : Hid (E = accN x t (r + 1)) := by show _ = _; rw [hs1, ← HE.out]; rfl
                        clear hs1 ec HD Hbt hCl HE
                        go_wp2_with fail
                        go_roundw
                        case rel => exact ⟨r + 1, E, q + 1, by omega, by go_num, hq2, rfl, HC2, trivial⟩
                        case measure => simp [intOf]; omega
                    · have hr8e : r = 8 := by omega
                      have dq : decide ((q : Int) < (U : Int)) = false := by rw [decide_eq_false_iff_not]; have := Hq.out; have := HUt.out; omega
                      have dqb : decide (q < U) = false := by rw [decide_eq_false_iff_not]; have := Hq.out; have := HUt.out; omega
                      have hCb : C < 256 := by rw [HC.out, hr8e]; exact accN_lt x t 8
                      have hsn := accN_byte x t ht4
                      have hCe : C = accN x t 8 := by rw [HC.out, hr8e]
                      rw [← hCe] at hsn
                      have hll : (BO ++ (be4 x).take t).length < 100000 := by
                        have h1 : ((be4 x).take t).length ≤ 4 := by rw [List.length_take]; show min t 4 ≤ 4; omega
                        rw [List.length_append, hlen]; omega
                      have Hsn : Hid (BO ++ (be4 x).take (t + 1) = BO ++ (be4 x).take t ++ [UInt8.ofNat C]) := by show _ = _; rw [hsn, List.append_assoc]
                      have hbs := HB.out.size
                      have HI2 : Hid (U = 8 * (t + 1)) := by show _ = _; have := HUt.out; omega
                      clear hr8e hr8 hr hsn hCe Hq HC
                      go_wp2_with (first
                        | (at_builtin; go_must (refine wpList_append_B1 _ rfl (.tmp 165) (.tmp 167) rfl _ _ (BO ++ (be4 x).take t) C hCb HO.out rfl rfl rfl hll hbs ?_; intro v8 w8 ho8 hb8 hx8; rw [← Hsn.out] at ho8; have HO8 := Lib.hid ho8; have HB8 := Lib.hid (HB.out.trans hb8); have HX8 := Lib.hid (hx8 _ _ _ (by decide) HX.out); clear ho8 hb8 hx8))
                        | fail)
                      go_roundw
                      case rel => exact ⟨t + 1, U, by omega, rfl, HI2, HO8, HX8, HB8⟩
                      case measure => simp [intOf]; omega
                · have ht4e : t = 4 := by omega
                  have dI : decide ((I : Int) < 32) = false := by rw [decide_eq_false_iff_not]; have := HI.out; omega
                  have dIb : decide (I < 32) = false := by rw [decide_eq_false_iff_not]; have := HI.out; omega
                  rw [ht4e, show (be4 x).take 4 = be4 x from rfl, ← HNo.out, ← HBN.out] at HO
                  clear ht4e ht4 ht
                  go_wp2_with fail
                  go_roundw
                  case rel => exact ⟨i + 1, by omega, by go_num, HO, HB⟩
                  case measure => simp [intOf]; omega
            · have hie : i = 8 := by omega
              have di : decide ((i : Int) < 8) = false := by rw [decide_eq_false_iff_not]; omega
              rw [hie, ← HF.out] at HO
              have hst := run_string_own wr _ _ _ HO.out
              clear hie hi8 hi
              go_wp2_with fail
              go_ret
              exact ⟨rfl, bthen HBe.out HB.out⟩
end Go.Proofs.Ytbccljpbnbobmaa
