/- Texts joined: SInf Few Frame. Conditions: each theorem says its own. -/
import Derived.WalkKit
import Derived.ProofKit
import Derived.OpenShut
import Derived.ShutString
import Derived.ChangeOld
import Derived.Below
import Derived.SizedLaws
import Derived.Test.YtjnglahjngiofaaSBlkJ
import Derived.Test.YtjnglahjngiofaaJpmbidf
import Derived.Test.YtjnglahjngiofaaJabmhmi
import Derived.Test.YtjnglahjngiofaaJcmeihm
import Derived.Test.YtjnglahjngiofaaRows
namespace Go.Proofs.Ytjnglahjngiofaa
open Go.RowKit
set_option maxRecDepth 100000

theorem BSr.form {w0 wt : World} {BB : Nat} {v : Value} {l : List LBk} (h : BSr w0 BB v l wt) : ∃ a cap, Hid (v = .slice a l.length cap) ∧ ∀ k (hk : k < l.length), ∃ G, a = some ⟨G, 0, none⟩ ∧ G < wt.heap.size ∧
    wt.cell? ⟨G, k * 3, none⟩ = some (.int .i64 ((l[k]).b.kind : Int)) ∧ wt.cell? ⟨G, k * 3 + 1, none⟩ = some (.string ⟨(l[k]).b.bytes.toArray⟩) ∧ wt.cell? ⟨G, k * 3 + 2, none⟩ = some (.slice (l[k]).a (l[k]).b.toks.length (l[k]).cap) := by
  have hlt := World.ownsRow.lt h.own
  have hc := fun g hg => World.ownsRow.cells h.own (g := g) hg
  rcases h.own.2 with ⟨rfl, h0⟩ | ⟨G, cap, cur, rfl, _⟩
  · exact ⟨none, 0, by show _ = _; rw [h0], fun k hk => by omega⟩
  · refine ⟨_, _, Lib.hid rfl, fun k hk => ⟨G, rfl, (hlt G rfl).2, ?_⟩⟩
    obtain ⟨c0, c1, c2⟩ := lbcells_at l k hk
    have e0 : ∀ j, (⟨G, 0, none⟩ : Addr).add j = ⟨G, j, none⟩ := fun j => by unfold Addr.add; split <;> simp_all
    refine ⟨?_, ?_, ?_⟩
    · have := hc G rfl (k * 3) _ c0; rwa [e0] at this
    · have := hc G rfl (k * 3 + 1) _ c1; rwa [e0] at this
    · have := hc G rfl (k * 3 + 2) _ c2; rwa [e0] at this
theorem bad_seen (s : ByteArray) (q most : Int) (h : q < 0 ∨ (s.size : Int) < q ∨ most < 0 ∨ 65536 < most) (w : World) : Calls Try.prog 28 #[.string s, .int .i64 q, .int .i64 most] w fun r w' => r = .returned (.tuple #[.string ⟨#[]⟩, .int .i64 0, .int .i64 1]) ∧ w = w' := by
  have CB := Lib.hid (rblocks_bad s q most h)
  clear h
  go_enter Try.func28, Try.ntmps28
  go_wp2_with fail
  refine (CB.out _).mono ?_
  rintro r w1 ⟨rfl, rfl⟩
  go_wp2_with fail
  go_ret3
  exact ⟨rfl, rfl⟩

set_option maxHeartbeats 32000000 in
theorem rinflate_ok (s : ByteArray) (hs : s.size ≤ 12500) (q most : Nat) (hq : q ≤ s.size) (hm : most ≤ 65536) (u : ByteArray) (hu : s.extract q s.size = u) (w : World) :
    Calls Try.prog 28 #[.string s, .int .i64 (q : Int), .int .i64 (most : Int)] w fun r w' => Below w.heap.size w w' ∧
      ((∃ e, e ≠ 0 ∧ inflR u most = .error e ∧ r = .returned (.tuple #[.string ⟨#[]⟩, .int .i64 0, .int .i64 (e : Int)])) ∨
       (∃ bs p z, inflR u most = .ok (bs, sg u p z) ∧ p ≤ 8 * u.size ∧ r = .returned (.tuple #[.string ⟨(joinL [] bs).toArray⟩, .int .i64 (((p + 7) / 8 : Nat) : Int), .int .i64 0]))) := by
  have CB := Lib.hid (rblocks_ok s hs q most hq hm)
  have hus : u.size ≤ 12500 := by rw [← hu, ByteArray.size_extract]; omega
  rw [hu] at CB
  have hRs : inflR u most = blocksM most (8 * u.size + 1) (sg u 0 0) [] := rfl
  rw [← hRs] at CB
  have HRs : Hid (∀ {bs : List Bk} {σ : Sg}, inflR u most = .ok (bs, σ) → bs.length ≤ 8 * u.size + 1 ∧ blksOK 0 bs ∧ blenS bs ≤ most ∧ (∀ b ∈ bs, b.toks.length ≤ blenS bs)) := fun {bs σ} h => by
    obtain ⟨h1, h2, h3, _⟩ := infl_out h
    have h4 := blocksM_count _ (show blocksM most (8 * u.size + 1) (sg u 0 0) [] = .ok (bs, σ) from h)
    exact ⟨by have e : (sg u 0 0).n = 8 * u.size - 0 := rfl; rw [e] at h4; simp at h4; omega, h1, by omega, blks_count bs 0 h1⟩
  clear hRs hq
  go_enter Try.func28, Try.ntmps28
  go_wp2_with fail
  refine (CB.out w).mono ?_
  rintro r w1 ⟨hb1, ⟨e, he, hr, rfl⟩ | ⟨l, p, z, v, BB, hr, hp, hz, rfl, hwB, hS⟩⟩
  · have Hb1 := Lib.hid hb1
    have Hr := Lib.hid hr
    have He := Lib.hid he
    have de : ((e : Int) == 0) = false := by simp; omega
    have de2 : ((e : Int) != 0) = true := by simp; omega
    clear hb1 hr he CB HRs
    go_wp2_with fail
    go_ret3
    exact ⟨Hb1.out, .inl ⟨e, He.out, Hr.out, rfl⟩⟩
  · have Hr := Lib.hid hr
    obtain ⟨hcl, hok, hbl, htl⟩ := HRs.out hr
    rw [List.length_map] at hcl
    obtain ⟨va, vc, Hv, hget⟩ := hS.form
    have hv := Hv.out
    subst hv
    have Hget := Lib.hid hget
    have Htk := Lib.hid hS.tk
    have Htl : Hid (∀ x ∈ l, x.b.toks.length ≤ 100000) := fun x hx => Nat.le_trans (htl x.b (List.mem_map.2 ⟨x, hx, rfl⟩)) (by omega)
    obtain ⟨R, HR⟩ : ∃ R, Hid (joinL [] (l.map LBk.b) = R) := ⟨_, Lib.hid (Eq.refl _)⟩
    have HRj := HR
    obtain ⟨N, HN⟩ : ∃ N, Hid (l.length = N) := ⟨_, Lib.hid (Eq.refl _)⟩
    rw [HN.out] at hcl ⊢
    obtain ⟨kp, Hkp⟩ : ∃ R, Hid ((p + 7) / 8 = R) := ⟨_, Lib.hid (Eq.refl _)⟩
    rw [Hkp.out]
    have HB0 := Lib.hid (Below.refl w1.heap.size w1)
    have HB1 := Lib.hid hb1
    have Hok := Lib.hid hok
    have hol0 : ([] : List UInt8).length + blenS ((l.map LBk.b).drop 0) ≤ 100000 := by simp; omega
    have Hol0 := Lib.hid hol0
    have HN1 : Hid (N ≤ 200000) := by show N ≤ _; omega
    clear hget hS Hv hok htl hb1 hr hcl hbl CB HRs hol0 hwB
    go_wp2_with fail
    go_loopw [12, 31] (fun vo k_ wr => ∃ (k : Nat) (T : ByteArray), k ≤ N ∧ k_ = .int .i64 (k : Int) ∧ vo = .string T ∧ Hid (T.data.toList.length + blenS ((l.map LBk.b).drop k) ≤ 100000) ∧ Hid (joinL T.data.toList ((l.map LBk.b).drop k) = R) ∧ Hid (blksOK T.data.toList.length ((l.map LBk.b).drop k)) ∧ Hid (Below w1.heap.size w1 wr)) (fun _ i _ => N - (intOf i).toNat)
    case atStart => exact ⟨0, ⟨#[]⟩, by omega, rfl, rfl, Hol0, HR, Hok, HB0⟩
    case round =>
      clear HB0 HR Hok Hol0
      obtain ⟨k, T, hk, rfl, rfl, Hol, HR, Hok, HB⟩ := hrel
      have hkb : k ≤ 200000 := Nat.le_trans hk HN1.out
      by_cases hlt : k < N
      · have hkl : k < l.length := by rw [HN.out]; exact hlt
        obtain ⟨G, rfl, hG, c0, c1, c2⟩ := Hget.out k hkl
        have hmem := List.getElem_mem hkl
        have hTk := (Htk.out _ hmem).1
        have hTl := Htl.out _ hmem
        have hdrop : (l.map LBk.b).drop k = (l[k]).b :: (l.map LBk.b).drop (k + 1) := by
          rw [List.drop_eq_getElem_cons (by simpa using hkl)]
          simp
        obtain ⟨x, Hx⟩ : ∃ x, Hid (l[k] = x) := ⟨_, Lib.hid (Eq.refl _)⟩
        rw [Hx.out] at c0 c1 c2 hTk hTl hdrop
        rw [hdrop] at Hol HR Hok
        obtain ⟨⟨kd, bl, S⟩, ta, tc⟩ := x
        simp only at c0 c1 c2 hTk hTl
        obtain ⟨M, HM⟩ : ∃ n, Hid (S.length = n) := ⟨_, Lib.hid (Eq.refl _)⟩
        rw [HM.out] at c2 hTl
        have hTs : T.data.toList.length = T.size := by simp
        have hol2 : T.size + bl.length + tlenS S + blenS ((l.map LBk.b).drop (k + 1)) ≤ 100000 := by
          have h := Hol.out
          have e : blenS ((⟨kd, bl, S⟩ : Bk) :: (l.map LBk.b).drop (k + 1)) = (bl.length + tlenS S) + blenS ((l.map LBk.b).drop (k + 1)) := rfl
          rw [e] at h
          omega
        have HR2 : Hid (joinL (joinS (T.data.toList ++ bl) S) ((l.map LBk.b).drop (k + 1)) = R) := HR.out
        have Hok1 : Hid (toksOK (T.data.toList.length + bl.length) S) := Hok.out.1
        have Hok2 : Hid (blksOK (T.data.toList.length + (bl.length + tlenS S)) ((l.map LBk.b).drop (k + 1))) := Hok.out.2
        obtain ⟨rest, Hrest⟩ : ∃ r, Hid ((l.map LBk.b).drop (k + 1) = r) := ⟨_, Lib.hid (Eq.refl _)⟩
        rw [Hrest.out] at hol2 HR2 Hok2
        have d0 := (HB.out.cell (p := ⟨G, k * 3, none⟩) hG).trans c0
        have d1 := (HB.out.cell (p := ⟨G, k * 3 + 1, none⟩) hG).trans c1
        have d2 := (HB.out.cell (p := ⟨G, k * 3 + 2, none⟩) hG).trans c2
        have HTk := Lib.hid hTk
        have dk : decide ((k : Int) < (N : Int)) = true := by rw [decide_eq_true_eq]; omega
        have hkI : (k : Int) < (N : Int) := by omega
        have hbz : (⟨bl.toArray⟩ : ByteArray).size = bl.length := by show bl.toArray.size = _; simp
        have hov : ¬ 9223372036854775807 < T.size + (⟨bl.toArray⟩ : ByteArray).size := by omega
        have hTB : (T ++ (⟨bl.toArray⟩ : ByteArray)).data.toList = T.data.toList ++ bl := toL_append _ _
        have hTBs : (T ++ (⟨bl.toArray⟩ : ByteArray)).size = T.size + bl.length := by rw [ByteArray.size_append, hbz]
        obtain ⟨T1, HT1⟩ : ∃ R, Hid (T ++ (⟨bl.toArray⟩ : ByteArray) = R) := ⟨_, Lib.hid (Eq.refl _)⟩
        obtain ⟨BLs, HBLs⟩ : ∃ R, Hid ((⟨bl.toArray⟩ : ByteArray) = R) := ⟨_, Lib.hid (Eq.refl _)⟩
        rw [HT1.out] at hTB hTBs
        have HT1b := HT1
        rw [HBLs.out] at HT1b hov c1 d1
        have htT : T ++ BLs = T1 := HT1b.out
        have HTB := Lib.hid hTB
        have hB4 := Blk.new wr 63 #[.int .i64 (kd : Int), .string BLs, .slice ta M tc]
        have HB4 := Lib.hid (HB.out.alloc HB.out.size (.cells #[.int .i64 (kd : Int), .string BLs, .slice ta M tc] 63))
        have e0 : (wr.alloc (.cells #[.int .i64 (kd : Int), .string BLs, .slice ta M tc] 63)).cell? ⟨wr.heap.size, 1, none⟩ = some (.string BLs) := hB4.cell 1
        have e1 : (wr.alloc (.cells #[.int .i64 (kd : Int), .string BLs, .slice ta M tc] 63)).cell? ⟨wr.heap.size, 2, none⟩ = some (.slice ta M tc) := hB4.cell 2
        clear c0 c1 c2 hTk hdrop HR Hok Hx hmem hkl hB4 HB Hol hTs hbz hTB
        go_wp2_with fail
        (try rw [htT])
        obtain ⟨w4, HW4⟩ : ∃ R, Hid (wr.alloc (.cells #[.int .i64 (kd : Int), .string BLs, .slice ta M tc] 63) = R) := ⟨_, Lib.hid (Eq.refl _)⟩
        rw [HW4.out] at HB4 ⊢
        clear e0 e1 d0 d1 d2 HW4 hov htT HT1 HT1b HBLs
        obtain ⟨Q, HQ⟩ : ∃ q, Hid (joinS (T.data.toList ++ bl) S = q) := ⟨_, Lib.hid (Eq.refl _)⟩
        have hQl := joinS_len S (T.data.toList ++ bl)
        have hT1l : T1.data.toList.length = T1.size := by simp
        rw [← HTB.out] at HQ
        rw [← HTB.out, HQ.out, hT1l] at hQl
        rw [← HTB.out, HQ.out] at HR2
        have hTl2 : T.data.toList.length = T.size := by simp
        rw [hTl2] at Hok1 Hok2
        have HT0 : Hid (toksOK T1.data.toList.length (S.drop 0)) := by show toksOK _ _; rw [hT1l, hTBs]; exact Hok1.out
        have HL0 : Hid (T1.data.toList.length + tlenS (S.drop 0) ≤ 100000) := by show _ ≤ _; rw [hT1l, List.drop_zero]; omega
        have HQl : Hid (Q.length = T.size + bl.length + tlenS S) := by show _ = _; rw [hQl, hTBs]
        have HQ0 : Hid (joinS T1.data.toList (S.drop 0) = Q) := HQ
        have hMb : M ≤ 100000 := hTl
        clear Hok1 HQ hQl hT1l hTl2
        go_loopw [12, 42] (fun vo j_ wx => ∃ (j : Nat) (U : ByteArray), j ≤ M ∧ j_ = .int .i64 (j : Int) ∧ vo = .string U ∧ Hid (U.data.toList.length + tlenS (S.drop j) ≤ 100000) ∧ Hid (joinS U.data.toList (S.drop j) = Q) ∧ Hid (toksOK U.data.toList.length (S.drop j)) ∧ Hid (Below w1.heap.size w1 wx)) (fun _ i _ => M - (intOf i).toNat)
        case atStart => exact ⟨0, T1, by omega, rfl, rfl, HL0, HQ0, HT0, HB4⟩
        case round =>
          clear HL0 HQ0 HT0 HB4
          obtain ⟨j, U, hj, rfl, rfl, HL, HQ, HT, HB⟩ := hrel
          by_cases hltj : j < M
          · have hjs : j < S.length := by rw [HM.out]; exact hltj
            obtain ⟨b, off, rfl, hbl, c0, c1, c2⟩ := (HTk.out.below HB.out (Nat.le_refl _)).get j hjs
            have hd := drop_tk hjs
            obtain ⟨t, Ht⟩ : ∃ t, Hid (tk S j = t) := ⟨_, Lib.hid (Eq.refl _)⟩
            rw [Ht.out] at c0 c1 c2 hd
            rw [hd] at HQ HT HL
            obtain ⟨tb, tl, td⟩ := t
            simp only at c0 c1 c2
            have hUs : U.data.toList.length = U.size := by simp
            rw [hUs] at HT HL
            have HQ2 : Hid (joinS (tout U.data.toList ⟨tb, tl, td⟩) (S.drop (j + 1)) = Q) := HQ.out
            have hok1 : tokOK U.size ⟨tb, tl, td⟩ := HT.out.1
            have HT2 : Hid (toksOK (U.size + tlen ⟨tb, tl, td⟩) (S.drop (j + 1))) := HT.out.2
            have hjl2 : U.size + tlen ⟨tb, tl, td⟩ + tlenS (S.drop (j + 1)) ≤ 100000 := by
              have h := HL.out
              have e : tlenS ((⟨tb, tl, td⟩ : Tok) :: S.drop (j + 1)) = tlen ⟨tb, tl, td⟩ + tlenS (S.drop (j + 1)) := rfl
              rw [e] at h
              omega
            obtain ⟨rs, Hrs⟩ : ∃ r, Hid (S.drop (j + 1) = r) := ⟨_, Lib.hid (Eq.refl _)⟩
            rw [Hrs.out] at HQ2 HT2 hjl2
            have dj : decide ((j : Int) < (M : Int)) = true := by rw [decide_eq_true_eq]; omega
            have hjI : (j : Int) < (M : Int) := by omega
            have htb : tb.toNat < 256 := UInt8.toNat_lt tb
            clear hd HQ HT HL hjs hUs
            have hB5 := Blk.new wr 36 #[.int .u8 (tb.toNat : Int), .int .i64 tl, .int .i64 td]
            have HB5 := Lib.hid (HB.out.alloc HB.out.size (.cells #[.int .u8 (tb.toNat : Int), .int .i64 tl, .int .i64 td] 36))
            obtain ⟨g5, Hg5⟩ : ∃ g, Hid (wr.heap.size = g) := ⟨_, Lib.hid (Eq.refl _)⟩
            go_upto_region 12 with (fail)
            rw [Hg5.out] at hB5 ⊢
            obtain ⟨w6, HW6⟩ : ∃ R, Hid (wr.alloc (.cells #[.int .u8 (tb.toNat : Int), .int .i64 tl, .int .i64 td] 36) = R) := ⟨_, Lib.hid (Eq.refl _)⟩
            rw [HW6.out] at hB5 HB5 ⊢
            clear c0 c1 c2 HB HW6 Hg5
            have HK5 := Lib.hid hB5
            have g0 : w6.cell? ⟨g5, 0, none⟩ = some (.int .u8 (tb.toNat : Int)) := hB5.cell 0
            have g1 : w6.cell? ⟨g5, 1, none⟩ = some (.int .i64 tl) := hB5.cell 1
            have g2 : w6.cell? ⟨g5, 2, none⟩ = some (.int .i64 td) := hB5.cell 2
            clear hB5
            by_cases hl0 : tl = 0
            · subst hl0
              have hto : tout U.data.toList ⟨tb, 0, td⟩ = U.data.toList ++ [tb] := by unfold tout; rw [if_pos rfl]
              have htlen : tlen ⟨tb, 0, td⟩ = 1 := by unfold tlen; rw [if_pos rfl]
              rw [hto] at HQ2
              rw [htlen] at HT2 hjl2
              have hcv := run_string_one w6 (tb.toNat : Int)
              have HB6 := Lib.hid (HB5.out.alloc HB5.out.size (.cells #[.int .u8 (tb.toNat : Int)] 5))
              have hov : ¬ 9223372036854775807 < U.size + 1 := by omega
              have HK6 := Lib.hid (HK5.out.alloc (.cells #[.int .u8 (tb.toNat : Int)] 5))
              have k1 : (w6.alloc (.cells #[.int .u8 (tb.toNat : Int)] 5)).cell? ⟨g5, 1, none⟩ = some (.int .i64 0) := HK6.out.cell 1
              have hob : UInt8.ofNat ((tb.toNat : Int)).toNat = tb := by simp
              rw [hob] at hcv
              have hU1 : (U ++ (⟨#[tb]⟩ : ByteArray)).data.toList = U.data.toList ++ [tb] := toL_append _ _
              have hU1s : (U ++ (⟨#[tb]⟩ : ByteArray)).size = U.size + 1 := by rw [ByteArray.size_append]; rfl
              have hd0 : decide ((0 : Int) < 0) = false := by decide
              obtain ⟨U1, HU1⟩ : ∃ R, Hid (U ++ (⟨#[tb]⟩ : ByteArray) = R) := ⟨_, Lib.hid (Eq.refl _)⟩
              rw [HU1.out] at hU1 hU1s
              have hUU := HU1.out
              have HU1l := Lib.hid hU1
              have hU1t : U1.data.toList.length = U.size + 1 := by simp; exact hU1s
              have HU1t := Lib.hid hU1t
              clear hto htlen hob hU1 hU1t hU1s hok1
              go_wp2_with fail
              (try rw [hUU])
              clear hUU
              go_loop [12, 17] (fun vo i => vo = .string U1 ∧ i = .int .i64 0) (fun _ _ => 0)
              case atStart => exact ⟨rfl, rfl⟩
              case round =>
                obtain ⟨rfl, rfl⟩ := hrel
                go_wp2_with fail
                go_roundw
                case rel => exact ⟨j + 1, U1, by omega, by go_num, rfl, (by rw [HU1t.out, Hrs.out]; exact Lib.hid hjl2), (by rw [HU1l.out, Hrs.out]; exact HQ2), (by rw [HU1t.out, Hrs.out]; exact HT2), HB6⟩
                case measure => simp [intOf]; omega
            · have dl0 : (tl == 0) = false := by simpa using hl0
              obtain ⟨hl1, hl300, hd1, hdo⟩ : 0 < tl ∧ tl ≤ 300 ∧ 1 ≤ td ∧ td ≤ (U.size : Int) := hok1.resolve_left hl0
              obtain ⟨L, rfl⟩ : ∃ L : Nat, tl = (L : Int) := ⟨tl.toNat, by omega⟩
              obtain ⟨D, rfl⟩ : ∃ D : Nat, td = (D : Int) := ⟨td.toNat, by omega⟩
              have hto : tout U.data.toList ⟨tb, (L : Int), (D : Int)⟩ = rep D U.data.toList L := by unfold tout; rw [if_neg hl0]; rfl
              have htlen : tlen ⟨tb, (L : Int), (D : Int)⟩ = L := by unfold tlen; rw [if_neg hl0]; rfl
              rw [hto] at HQ2
              rw [htlen] at HT2 hjl2
              clear hto htlen hok1 hl0
              go_wp2_with fail
              go_loop [12, 17] (fun vo i => ∃ (q : Nat) (V : ByteArray), q ≤ L ∧ i = .int .i64 (q : Int) ∧ vo = .string V ∧ V.size = U.size + q ∧ Hid (V.data.toList = rep D U.data.toList q)) (fun _ i => L - (intOf i).toNat)
              case atStart => exact ⟨0, U, by omega, rfl, rfl, rfl, rfl⟩
              case round =>
                obtain ⟨y, V, hy, rfl, rfl, hV, HV⟩ := hrel
                by_cases hlty : y < L
                · obtain ⟨x, hx⟩ : ∃ x, U.size + y = D + x := ⟨U.size + y - D, by omega⟩
                  have hVx : V.size = D + x := by omega
                  have hVi : (V.size : Int) - (D : Int) = (x : Int) := by omega
                  have hx1 : (x : Int) + 1 ≤ (V.size : Int) := by omega
                  have hx0 : (0 : Int) ≤ (x : Int) := by omega
                  have hov : ¬ 9223372036854775807 < V.size + (min (x + 1) V.size - x) := by omega
                  have hov2 : ¬ 9223372036854775807 < V.size + 1 := by omega
                  have Hsucc : Hid (rep D U.data.toList (y + 1) = (V ++ V.extract x (x + 1)).data.toList) := by
                    show rep D U.data.toList y ++ [_] = _
                    rw [toL_append, extract_one V x (by omega), ← HV.out, show V.data.toList.length = V.size by simp, show V.size - D = x by omega]
                  have hsz : (V ++ V.extract x (x + 1)).size = U.size + (y + 1) := by simp; omega
                  have Hsz := Lib.hid hsz
                  have dy : decide ((y : Int) < (L : Int)) = true := by rw [decide_eq_true_eq]; omega
                  clear hsz
                  go_wp2_with fail
                  go_round
                  case rel => exact ⟨y + 1, _, by omega, by go_num, rfl, Hsz.out, by show _ = _; rw [Hsucc.out]⟩
                  case measure => simp [intOf]; omega
                · obtain rfl : y = L := by omega
                  have dy : decide ((y : Int) < (y : Int)) = false := by rw [decide_eq_false_iff_not]; omega
                  have hVt : V.data.toList.length = U.size + y := by simp; exact hV
                  have HVt := Lib.hid hVt
                  clear hVt
                  go_wp2_with fail
                  go_roundw
                  case rel => exact ⟨j + 1, V, by omega, by go_num, rfl, (by rw [HVt.out, Hrs.out]; exact Lib.hid hjl2), (by rw [HV.out, Hrs.out]; exact HQ2), (by rw [HVt.out, Hrs.out]; exact HT2), HB5⟩
                  case measure => simp [intOf]; omega
          · obtain rfl : j = M := by omega
            have dj : decide ((j : Int) < (j : Int)) = false := by rw [decide_eq_false_iff_not]; omega
            have hUQ : U.data.toList = Q := by
              rw [← HQ.out, List.drop_of_length_le (by rw [HM.out]; exact Nat.le_refl _)]; rfl
            have HUQ := Lib.hid hUQ
            clear hUQ HQ HT HL
            go_wp2_with fail
            go_roundw
            case rel => exact ⟨k + 1, U, by omega, by go_num, rfl, (by rw [HUQ.out, HQl.out, Hrest.out]; exact Lib.hid hol2), (by rw [HUQ.out, Hrest.out]; exact HR2), (by rw [HUQ.out, HQl.out, Hrest.out, Nat.add_assoc]; exact Hok2), HB⟩
            case measure => simp [intOf]; omega
      · obtain rfl : k = N := by omega
        have dk : decide ((k : Int) < (k : Int)) = false := by rw [decide_eq_false_iff_not]; omega
        have hTR : T.data.toList = R := by
          rw [← HR.out, List.drop_of_length_le (by rw [List.length_map, HN.out]; exact Nat.le_refl _)]; rfl
        have HTR := Lib.hid hTR
        clear hTR HR Hok Hol
        go_wp2_with fail
        go_ret3
        refine ⟨bthen HB1.out HB.out, .inr ⟨l.map LBk.b, p, z, Hr.out, hp, ?_⟩⟩
        rw [Hkp.out]
        have e : (⟨(joinL [] (l.map LBk.b)).toArray⟩ : ByteArray) = T := by
          apply ByteArray.ext
          apply Array.ext'
          show joinL [] (l.map LBk.b) = _
          rw [HTR.out]
          exact HRj.out
        rw [e]
        rfl
end Go.Proofs.Ytjnglahjngiofaa
namespace Go.Proofs.Ytjnglahjngiofaa
open Go.RowKit

/-- At most n bytes. -/
def few (s : ByteArray) (n : Nat) : ByteArray := if n < s.size then s.extract 0 n else s

theorem few_list (s : ByteArray) (n : Nat) : (few s n).data.toList = s.data.toList.take n := by
  unfold few
  split
  · simp
  · rw [List.take_of_length_le (by simp; omega)]

theorem few_size (s : ByteArray) (n : Nat) : (few s n).size ≤ n := by
  unfold few
  split
  · simp; omega
  · omega

theorem few_any (s : ByteArray) (n : Nat) (hn : n ≤ 100000) (_hs : s.size ≤ maxLen) (w : World) :
    Calls Try.prog 23 #[.string s, .int .i64 (n : Int)] w fun e w' => e = .returned (.string (few s n)) ∧ w = w' := by
  by_cases h : n < s.size
  · have e := Lib.hid (show few s n = s.extract 0 n by unfold few; rw [if_pos h])
    go_enter Try.func23, Try.ntmps23
    go_wp2
    go_ret
    exact ⟨by rw [e.out]; rfl, rfl⟩
  · have e := Lib.hid (show few s n = s by unfold few; rw [if_neg h])
    go_enter Try.func23, Try.ntmps23
    go_wp2
    go_ret
    exact ⟨by rw [e.out]; rfl, rfl⟩
end Go.Proofs.Ytjnglahjngiofaa
namespace Go.Proofs.Ytjnglahjngiofaa
open Go.ChangeShapes Go.WideShapes Go.ChangeAt Go.RowKit

theorem own : ownKnob Try.prog.godebug = none := by kernel_rfl
theorem laidOut : laidOutB Try.prog = true := by kernel_rfl

theorem nat_u64 {a : Int} (h : (Lit.int .u64 a).wf = true) : ∃ n : Nat, a = (n : Int) ∧ n < 18446744073709551616 := by
  have h1 : IntKind.u64.min = 0 := rfl
  have h2 : IntKind.u64.max = 18446744073709551615 := rfl
  simp only [Lit.wf, Bool.and_eq_true, decide_eq_true_eq, h1, h2] at h
  exact ⟨a.toNat, by omega, by omega⟩
theorem nat_u32 {a : Int} (h : (Lit.int .u32 a).wf = true) : ∃ n : Nat, a = (n : Int) ∧ n < 4294967296 := by
  have h1 : IntKind.u32.min = 0 := rfl
  have h2 : IntKind.u32.max = 4294967295 := rfl
  simp only [Lit.wf, Bool.and_eq_true, decide_eq_true_eq, h1, h2] at h
  exact ⟨a.toNat, by omega, by omega⟩
theorem nat_u8 {a : Int} (h : (Lit.int .u8 a).wf = true) : ∃ n : Nat, a = (n : Int) ∧ n < 256 := by
  have h1 : IntKind.u8.min = 0 := rfl
  have h2 : IntKind.u8.max = 255 := rfl
  simp only [Lit.wf, Bool.and_eq_true, decide_eq_true_eq, h1, h2] at h
  exact ⟨a.toNat, by omega, by omega⟩
theorem bd_i64 {a : Int} (h : (Lit.int .i64 a).wf = true) : -9223372036854775808 ≤ a ∧ a ≤ 9223372036854775807 := by
  have h1 : IntKind.i64.min = -9223372036854775808 := rfl
  have h2 : IntKind.i64.max = 9223372036854775807 := rfl
  simpa only [Lit.wf, Bool.and_eq_true, decide_eq_true_eq, h1, h2] using h
theorem data_len (s : ByteArray) : s.data.toList.length = s.size := by simp
end Go.Proofs.Ytjnglahjngiofaa
