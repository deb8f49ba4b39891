/- Texts joined: JoinW Infl Opn Rd KeepT PK Def1 Def2 TokW Def4 StepP StepD DynP SortP SortW SortB PmP PmQ FixN. Conditions: each theorem says its own. -/
import Derived.Lib.AppendStr
import Derived.Deep.Cut
import Derived.Deep.RegionHeld3
import Derived.Test.YthehocmfpoglgaaRBlkJ
import Derived.Test.YthehocmfpoglgaaJcamjjk
import Derived.Test.YthehocmfpoglgaaJphpdbo
import Derived.Test.YthehocmfpoglgaaJkcmgfp
namespace Go.Proofs.Ythehocmfpoglgaa
open Go.RowKit
set_option maxRecDepth 100000
theorem strCells_b (l : List UInt8) : Lib.strCells ⟨l.toArray⟩ = bcells l := by
 unfold Lib.strCells bcells
 rfl
theorem lbcells_at (l : List LBk) (k : Nat) (hk : k < l.length) : (lbcells l)[k * 3]? = some (.int .i64 ((l[k]).b.kind : Int)) /\ (lbcells l)[k * 3 + 1]? = some (.string ⟨(l[k]).b.bytes.toArray⟩) /\ (lbcells l)[k * 3 + 2]? = some (.slice (l[k]).a (l[k]).b.toks.length (l[k]).cap) := by
 induction l generalizing k with
 | nil => cases hk
 | cons x r ih =>
  have e : lbcells (x :: r) = .int .i64 (x.b.kind : Int) :: .string ⟨x.b.bytes.toArray⟩ :: .slice x.a x.b.toks.length x.cap :: lbcells r := rfl
  rw [e]
  cases k with
  | zero => exact ⟨rfl, rfl, rfl⟩
  | succ k =>
   rw [List.length_cons] at hk
   have := ih k (by omega)
   rw [show (k + 1) * 3 = k * 3 + 1 + 1 + 1 by omega]
   simp only [List.getElem?_cons_succ, List.getElem_cons_succ]
   exact this
theorem BS.form {w0 wt : World} {BB : Nat} {v : Value} {l : List LBk} (h : BS w0 BB v l wt) : ∃ a cap, Hid (v = .slice a l.length cap) /\ ∀ k (hk : k < l.length), ∃ G, a = some ⟨G, 0, none⟩ /\ G < wt.heap.size /\
 wt.cell? ⟨G, k * 3, none⟩ = some (.int .i64 ((l[k]).b.kind : Int)) /\ wt.cell? ⟨G, k * 3 + 1, none⟩ = some (.string ⟨(l[k]).b.bytes.toArray⟩) /\ wt.cell? ⟨G, k * 3 + 2, none⟩ = some (.slice (l[k]).a (l[k]).b.toks.length (l[k]).cap) := by
 have hlt := World.ownsRow.lt h.own
 have hc := fun g hg => World.ownsRow.cells h.own (g := g) hg
 rcases h.own.2 with ⟨rfl, h0⟩ | ⟨G, cap, cur, rfl, _⟩
 . exact ⟨none, 0, by show _ = _; rw [h0], fun k hk => by omega⟩
 . refine ⟨_, _, Qf rfl, fun k hk => ⟨G, rfl, (hlt G rfl).2, ?_⟩⟩
   obtain ⟨c0, c1, c2⟩ := lbcells_at l k hk
   have e0 : ∀ j, (⟨G, 0, none⟩ : Addr).add j = ⟨G, j, none⟩ := fun j => by unfold Addr.add; split <;> simp_all
   refine ⟨?_, ?_, ?_⟩
   . have := hc G rfl (k * 3) _ c0; rwa [e0] at this
   . have := hc G rfl (k * 3 + 1) _ c1; rwa [e0] at this
   . have := hc G rfl (k * 3 + 2) _ c2; rwa [e0] at this
set_option maxHeartbeats 32000000 in
theorem join_any (w0 : World) (BB : Nat) (v : Value) (l : List LBk) (w : World) (hS : BS w0 BB v l w) (hok : blksOK 0 (l.map LBk.b)) (hlen : blenS (l.map LBk.b) <= 1000000) (hl : l.length <= 1000000) (htl : ∀ x ∈ l, x.b.toks.length <= 1000000) :
 Calls Try.prog 49 #[v] w fun r w' => r = .returned (.string ⟨(joinL [] (l.map LBk.b)).toArray⟩) /\ Below w.heap.size w w' := by
 obtain ⟨va, vc, Hv, hget⟩ := hS.form
 have hv := Hv.out
 subst hv
 have Hget := Qf hget
 have Htk := Qf hS.tk
 have Htl := Qf htl
 obtain ⟨R, HR⟩ := Qi (joinL [] (l.map LBk.b))
 obtain ⟨N, HN⟩ := Qi (l.length)
 rw [HR.out]
 rw [HN.out] at hl ⊢
 have HB0 := Qf (Below.refl w.heap.size w)
 have HO0 := Qf (OwnB.nil w w.heap.size)
 have Hok := Qf hok
 clear hget hS Hv hok htl
 go_enter Try.func49, Try.ntmps49
 go_wp2_with fail
 go_loopw [3, 10] (fun vo k_ wr => ∃ (k : Nat) (o : List UInt8), k <= N /\ k_ = .int .i64 (k : Int) /\ o.length + blenS ((l.map LBk.b).drop k) <= 1000000 /\ Hid (joinL o ((l.map LBk.b).drop k) = R) /\ Hid (blksOK o.length ((l.map LBk.b).drop k)) /\ Hid (OwnB wr w.heap.size vo o) /\ Hid (Below w.heap.size w wr)) (fun _ i _ => N - (intOf i).toNat)
 case atStart => exact ⟨0, [], by omega, rfl, by simpa using hlen, HR, Hok, HO0, HB0⟩
 case round =>
  clear HB0 HO0 HR Hok
  obtain ⟨k, o, hk, rfl, hol, HR, Hok, HO, HB⟩ := hrel
  by_cases hlt : k < N
  . have hkl : k < l.length := by rw [HN.out]; exact hlt
    obtain ⟨G, rfl, hG, c0, c1, c2⟩ := Hget.out k hkl
    have hmem := List.getElem_mem hkl
    have hTk := (Htk.out _ hmem).1
    have hTl := Htl.out _ hmem
    have hdrop : (l.map LBk.b).drop k = (l[k]).b :: (l.map LBk.b).drop (k + 1) := by
     rw [List.drop_eq_getElem_cons (by simpa using hkl)]
     simp
    obtain ⟨x, Hx⟩ := Qi (l[k])
    rw [Hx.out] at c0 c1 c2 hTk hTl hdrop
    rw [hdrop] at hol HR Hok
    obtain ⟨⟨kd, bl, S⟩, ta, tc⟩ := x
    simp only at c0 c1 c2 hTk hTl
    obtain ⟨M, HM⟩ := Qi (S.length)
    rw [HM.out] at c2 hTl
    have hol2 : o.length + bl.length + tlenS S + blenS ((l.map LBk.b).drop (k + 1)) <= 1000000 := by
     have e : blenS ((⟨kd, bl, S⟩ : Bk) :: (l.map LBk.b).drop (k + 1)) = (bl.length + tlenS S) + blenS ((l.map LBk.b).drop (k + 1)) := rfl
     rw [e] at hol
     omega
    have HR2 : Hid (joinL (joinS (o ++ bl) S) ((l.map LBk.b).drop (k + 1)) = R) := HR.out
    have Hok1 : Hid (toksOK (o.length + bl.length) S) := Hok.out.1
    have Hok2 : Hid (blksOK (o.length + (bl.length + tlenS S)) ((l.map LBk.b).drop (k + 1))) := Hok.out.2
    obtain ⟨rest, Hrest⟩ := Qi ((l.map LBk.b).drop (k + 1))
    rw [Hrest.out] at hol2 HR2 Hok2
    have d0 := (HB.out.cell (p := ⟨G, k * 3, none⟩) hG).trans c0
    have d1 := (HB.out.cell (p := ⟨G, k * 3 + 1, none⟩) hG).trans c1
    have d2 := (HB.out.cell (p := ⟨G, k * 3 + 2, none⟩) hG).trans c2
    have HTk := Qf hTk
    obtain ⟨ol, Hol⟩ := Qi (o.length)
    rw [Hol.out] at hol2 Hok1 Hok2
    have dk : decide ((k : Int) < (N : Int)) = true := Qg (by omega)
    have hkI : (k : Int) < (N : Int) := by omega
    clear c0 c1 c2 hTk hol hdrop HR Hok Hx hmem hkl
    go_upto_region 5 with (fail)
    have hB4 := Blk.new wr 129 #[.int .i64 (kd : Int), .string ⟨bl.toArray⟩, .slice ta M tc]
    have HB4 := Qf (HB.out.alloc HB.out.size (.cells #[.int .i64 (kd : Int), .string ⟨bl.toArray⟩, .slice ta M tc] 129))
    have HO4 := Qf (HO.out.below ((Below.refl wr.heap.size wr).alloc (Qa _) (.cells #[.int .i64 (kd : Int), .string ⟨bl.toArray⟩, .slice ta M tc] 129)) (Qa _))
    obtain ⟨g4, Hg4⟩ := Qi (wr.heap.size)
    rw [Hg4.out] at hB4 ⊢
    generalize wr.alloc (.cells #[.int .i64 (kd : Int), .string ⟨bl.toArray⟩, .slice ta M tc] 129) = w4 at *
    clear d0 d1 d2 HB HO
    obtain ⟨av, cv, rfl⟩ := HO4.out.slice
    rw [Hol.out] at HO4 ⊢
    have q1 := hB4.cell 1
    simp at q1
    have HK4 := Qf hB4
    have hbz : (⟨bl.toArray⟩ : ByteArray).size = bl.length := by show bl.toArray.size = _; simp
    obtain ⟨i0, hi, hz0, hz1, hz2⟩ := info_parts info_u8
    have hi' : Try.prog.info? 5 = some i0 := hi
    have hos : w4.ownsRow w.heap.size 5 1 (.slice av ol cv) ol (bcells o) := by
     have h := HO4.out
     unfold OwnB at h
     rwa [Hol.out] at h
    have hbsw : w.heap.size <= w4.heap.size := HB4.out.size
    go_wp2_with (first
     | (at_builtin; go_must (refine Lib.wpList_append_own_string _ rfl (.tmp 14) (.tmp 16) 31 9 rfl w.heap.size 5 i0 Try.underlying31 Try.underlying9 hi' hz0 hz1 hz2 (.slice av ol cv) ol (bcells o) rfl hos ⟨bl.toArray⟩ rfl ?_ ?_ hbsw ?_; (rw [hbz]; unfold maxLen; omega); (rw [hbz]; omega); intro v5 w5 hown5 hg5 hn5; have Hb5 := Qf (HB4.out.trans (below_grown hos hg5 hbsw)); rw [hbz, strCells_b] at hown5; have HO5 := Qf hown5; have HK5 := Qf (HK4.out.grown hg5 (fun e => by rcases row_blk hos HK4.out (by decide) with h | h; (rw [h] at e; cases e); exact h e.symm)); have k2 := HK5.out.cell 2; simp at k2; clear hown5 hg5 hn5 hos))
     | fail)
    obtain ⟨Q, HQ⟩ := Qi (joinS (o ++ bl) S)
    have hQl := joinS_len S (o ++ bl)
    rw [HQ.out, List.length_append, Hol.out] at hQl
    have HQl := Qf hQl
    rw [HQ.out] at HR2
    have HO5b : Hid (OwnB w5 w.heap.size v5 (o ++ bl)) := by
     show OwnB _ _ _ _
     unfold OwnB
     rw [List.length_append, Hol.out, bcells_append]
     exact HO5.out
    have hl5 : (o ++ bl).length = ol + bl.length := by rw [List.length_append, Hol.out]
    have HT0 : Hid (toksOK (o ++ bl).length (S.drop 0)) := by rw [hl5]; exact Hok1.out
    have hL0 : (o ++ bl).length + tlenS (S.drop 0) <= 1000000 := by rw [hl5, List.drop_zero]; omega
    clear HO5 HK5 k2 HK4 HB4 HO4 hB4 q1 Hok1 hl5 hQl
    go_loopw [3, 21] (fun vo j_ wx => ∃ (j : Nat) (o : List UInt8), j <= M /\ j_ = .int .i64 (j : Int) /\ o.length + tlenS (S.drop j) <= 1000000 /\ Hid (joinS o (S.drop j) = Q) /\ Hid (toksOK o.length (S.drop j)) /\ Hid (OwnB wx w.heap.size vo o) /\ Hid (Below w.heap.size w wx)) (fun _ i _ => M - (intOf i).toNat)
    case atStart => exact ⟨0, o ++ bl, by omega, rfl, hL0, HQ, HT0, HO5b, Hb5⟩
    case round =>
     clear HO5b Hb5 HQ HT0 hL0 Hol
     obtain ⟨j, o, hj, rfl, hjl, HQ, HT, HO, HB⟩ := hrel
     by_cases hltj : j < M
     . have hjs : j < S.length := by rw [HM.out]; exact hltj
       obtain ⟨b, off, rfl, hbl, c0, c1, c2⟩ := (HTk.out.below HB.out (Qa _)).get j hjs
       have hd := drop_tk hjs
       obtain ⟨t, Ht⟩ := Qi (tk S j)
       rw [Ht.out] at c0 c1 c2 hd
       rw [hd] at HQ HT hjl
       obtain ⟨tb, tl, td⟩ := t
       simp only at c0 c1 c2
       have htb : tb.toNat < 256 := UInt8.toNat_lt tb
       have HQ2 : Hid (joinS (tout o ⟨tb, tl, td⟩) (S.drop (j + 1)) = Q) := HQ.out
       have hok1 : tokOK o.length ⟨tb, tl, td⟩ := HT.out.1
       have HT2 : Hid (toksOK (o.length + tlen ⟨tb, tl, td⟩) (S.drop (j + 1))) := HT.out.2
       have hjl2 : o.length + tlen ⟨tb, tl, td⟩ + tlenS (S.drop (j + 1)) <= 1000000 := by
        have e : tlenS ((⟨tb, tl, td⟩ : Tok) :: S.drop (j + 1)) = tlen ⟨tb, tl, td⟩ + tlenS (S.drop (j + 1)) := rfl
        rw [e] at hjl
        omega
       obtain ⟨ol, Hol⟩ := Qi (o.length)
       rw [Hol.out] at hok1 HT2 hjl2
       obtain ⟨rs, Hrs⟩ := Qi (S.drop (j + 1))
       rw [Hrs.out] at HQ2 HT2 hjl2
       have dj : decide ((j : Int) < (M : Int)) = true := Qg (by omega)
       have hjI : (j : Int) < (M : Int) := by omega
       clear hd HQ HT hjl hjs
       go_upto_region 9 with (fail)
       have hB4 := Blk.new wr 110 #[.int .u8 (tb.toNat : Int), .int .i64 tl, .int .i64 td]
       have HB4 := Qf (HB.out.alloc HB.out.size (.cells #[.int .u8 (tb.toNat : Int), .int .i64 tl, .int .i64 td] 110))
       have HO4 := Qf (HO.out.below ((Below.refl wr.heap.size wr).alloc (Qa _) (.cells #[.int .u8 (tb.toNat : Int), .int .i64 tl, .int .i64 td] 110)) (Qa _))
       obtain ⟨g5, Hg5⟩ := Qi (wr.heap.size)
       rw [Hg5.out] at hB4 ⊢
       generalize wr.alloc (.cells #[.int .u8 (tb.toNat : Int), .int .i64 tl, .int .i64 td] 110) = w6 at *
       clear c0 c1 c2 HB HO
       obtain ⟨av, cv, rfl⟩ := HO4.out.slice
       rw [Hol.out] at HO4 ⊢
       have g0 := hB4.cell 0
       have g1 := hB4.cell 1
       have g2 := hB4.cell 2
       simp at g0 g1 g2
       by_cases hl0 : tl = 0
       . subst hl0
         have hto : tout o ⟨tb, 0, td⟩ = o ++ [tb] := by unfold tout; rw [if_pos rfl]
         have htlen : tlen ⟨tb, 0, td⟩ = 1 := by unfold tlen; rw [if_pos rfl]
         rw [hto] at HQ2
         rw [htlen] at HT2 hjl2
         have hos := HO4.out
         have hbsw : w.heap.size <= _ := HB4.out.size
         have hl1 : (o ++ [tb]).length = ol + 1 := by rw [List.length_append, Hol.out]; rfl
         have HT3 : Hid (toksOK (o ++ [tb]).length rs) := by rw [hl1]; exact HT2.out
         have hjl3 : (o ++ [tb]).length + tlenS rs <= 1000000 := by rw [hl1]; exact hjl2
         clear hto htlen HT2 hl1
         go_wp2_with (first
          | (at_builtin; go_must (refine wpList_append_byte _ rfl (.tmp 28) (.tmp 31) rfl w.heap.size (.slice av ol cv) o (tb.toNat : Int) hos rfl rfl rfl ?_ ?_ ?_ hbsw ?_; omega; omega; (rw [Hol.out]; omega); intro v5 w5 hown5 hb5; have HO5 := Qf hown5; have Hb5 := Qf (HB4.out.trans hb5); clear hown5 hb5 hos))
          | fail)
         go_roundw
         case rel =>
          refine ⟨j + 1, o ++ [tb], by omega, by go_num, ?_, ?_, ?_, ?_, Hb5⟩
          . rw [Hrs.out]; exact hjl3
          . rw [Hrs.out]; exact HQ2
          . rw [Hrs.out]; exact HT3
          . show OwnB _ _ _ _
            have h := HO5.out
            simp only [Int.toNat_natCast, UInt8.ofNat_toNat] at h
            exact h
         case measure => simp [intOf]; omega
       . have dl0 : (tl == 0) = false := by simpa using hl0
         obtain ⟨hl1, hl300, hd1, hdo⟩ : 0 < tl /\ tl <= 300 /\ 1 <= td /\ td <= (ol : Int) := hok1.resolve_left hl0
         obtain ⟨L, rfl⟩ : ∃ L : Nat, tl = (L : Int) := ⟨tl.toNat, by omega⟩
         obtain ⟨D, rfl⟩ : ∃ D : Nat, td = (D : Int) := ⟨td.toNat, by omega⟩
         have hto : tout o ⟨tb, (L : Int), (D : Int)⟩ = rep D o L := by unfold tout; rw [if_neg hl0]; rfl
         have htlen : tlen ⟨tb, (L : Int), (D : Int)⟩ = L := by unfold tlen; rw [if_neg hl0]; rfl
         rw [hto] at HQ2
         rw [htlen] at HT2 hjl2
         have dd1 : decide ((D : Int) < 1) = false := Qh (by omega)
         have dd2 : decide ((ol : Int) < (D : Int)) = false := Qh (by omega)
         have dd2b : decide (ol < D) = false := Qh (by omega)
         have HK0 := Qf hB4
         clear hto htlen hok1 hl0
         go_wp2_with fail
         go_loopw [3, 45] (fun vo i wx => ∃ q : Nat, q <= L /\ i = .int .i64 (q : Int) /\ Hid (OwnB wx w.heap.size vo (rep D o q)) /\ Hid (Below w.heap.size w wx) /\ Hid (Blk wx g5 110 #[.int .u8 (tb.toNat : Int), .int .i64 (L : Int), .int .i64 (D : Int)])) (fun _ i _ => L - (intOf i).toNat)
         case atStart => exact ⟨0, by omega, rfl, HO4, HB4, HK0⟩
         case round =>
          clear HO4 HB4 HK0 hB4 g0 g1 g2
          obtain ⟨q, hq, rfl, HO, HB, HK⟩ := hrel
          have hrl := rep_len D o q
          rw [Hol.out] at hrl
          by_cases hltq : q < L
          . obtain ⟨g, cg, rfl, _⟩ := HO.out.form (by omega)
            have hc := HO.out.cell (ol + q - D) (by omega)
            obtain ⟨y, Hy⟩ := Qi ((rep D o q)[ol + q - D]'(by omega))
            have Hsucc : Hid (rep D o (q + 1) = rep D o q ++ [y]) := by
             show rep D o q ++ [_] = _
             rw [hrl, <- Hy.out]
             simp [List.getD, show ol + q - D < (rep D o q).length by omega]
            rw [Hy.out] at hc
            have hyl : y.toNat < 256 := UInt8.toNat_lt y
            obtain ⟨qq, Hqq⟩ := Qi (ol + q - D)
            have hqi : ((ol + q : Nat) : Int) - (D : Int) = (qq : Int) := by have := Hqq.out; omega
            have hql : qq < ol + q := by have := Hqq.out; omega
            rw [Hqq.out] at hc
            rw [hrl] at HO ⊢
            have k2 := HK.out.cell 2
            simp at k2
            have hgl := HK.out.lt
            obtain ⟨PP, HPl⟩ := Qi (ol + q)
            rw [HPl.out] at hqi hql hrl HO ⊢
            have hPl : PP <= 1000000 := by have := HPl.out; omega
            have hos2 := HO.out
            unfold OwnB at hos2
            rw [hrl] at hos2
            have hbsw : w.heap.size <= _ := HB.out.size
            have HKx := HK
            clear HK
            go_wp2_with (first
             | (at_builtin; go_must (refine wpList_append_elem _ rfl (.tmp 47) (.tmp 56) rfl Try.underlying31 info_u8 rfl (by decide) w.heap.size (.slice (some ⟨g, 0, none⟩) PP cg) PP (bcells (rep D o q)) [.int .u8 (y.toNat : Int)] hos2 rfl ?_ rfl rfl rfl ?_ ?_ hbsw ?_; (intro z hz; simp at hz; subst hz; rfl); (unfold maxLen; omega); omega; intro v5 w5 hown5 hg5; have HO5 := Qf hown5; have Hb5 := Qf (HB.out.trans (below_grown hos2 hg5 hbsw)); have HK5 := Qf (HKx.out.grown hg5 (fun e => by rcases row_blk hos2 HKx.out (by decide) with h | h; (rw [h] at e; cases e); exact h e.symm)); clear hown5 hg5 hos2))
             | fail)
            go_roundw
            case rel =>
             refine ⟨q + 1, by omega, by go_num, ?_, Hb5, HK5⟩
             show OwnB _ _ _ _
             rw [Hsucc.out]
             unfold OwnB
             rw [List.length_append, hrl, bcells_append]
             exact HO5.out
            case measure => simp [intOf]; omega
          . obtain rfl : q = L := by omega
            have k1 := HK.out.cell 1
            simp at k1
            have hl1 : (rep D o q).length = ol + q := hrl
            have HT3 : Hid (toksOK (rep D o q).length rs) := by rw [hl1]; exact HT2.out
            have hjl3 : (rep D o q).length + tlenS rs <= 1000000 := by rw [hl1]; exact hjl2
            clear HT2 hl1
            go_wp2_with fail
            go_roundw
            case rel => exact ⟨j + 1, rep D o q, by omega, by go_num, (by rw [Hrs.out]; exact hjl3), (by rw [Hrs.out]; exact HQ2), (by rw [Hrs.out]; exact HT3), HO, HB⟩
            case measure => simp [intOf]; omega
     . obtain rfl : j = M := by omega
       have hoQ : o = Q := by
        have h := HQ.out
        rw [List.drop_of_length_le (by rw [HM.out]; exact Qa _)] at h
        exact h
       have HoQ := Qf hoQ
       clear hoQ
       go_wp2_with fail
       go_roundw
       case rel =>
        refine ⟨k + 1, o, by omega, by go_num, ?_, ?_, ?_, HO, HB⟩
        . rw [Hrest.out, HoQ.out, HQl.out]; omega
        . rw [Hrest.out, HoQ.out]; exact HR2
        . rw [Hrest.out, HoQ.out, HQl.out]
          have := Hok2.out
          rwa [Nat.add_assoc]
       case measure => simp [intOf]; omega
  . obtain rfl : k = N := by omega
    have hRd : o = R := by
     rw [<- HR.out, List.drop_of_length_le (by rw [List.length_map, HN.out]; exact Qa _)]; rfl
    have hcv := run_string_own _ _ _ _ HO.out
    have HRd := Qf hRd
    clear hRd
    go_wp2_with fail
    go_ret
    exact ⟨by rw [<- HRd.out]; rfl, HB.out⟩
theorem inflate_any (s : ByteArray) (hs : s.size <= 100000) (q most : Nat) (hq : q <= s.size) (hm : most <= 65536) (u : ByteArray) (hu : s.extract q s.size = u) (w : World) :
 Calls Try.prog 23 #[.string s, .int .i64 (q : Int), .int .i64 (most : Int)] w fun r w' => Below w.heap.size w w' /\
  (
   (∃ e, e ≠ 0 /\ inflR u most = .error e /\ r = .returned (.tuple #[.string ⟨#[]⟩, .int .i64 0, .int .i64 (e : Int)])) \/
   (∃ bs p z, inflR u most = .ok (bs, sg u p z) /\ p <= 8 * u.size /\ r = .returned (.tuple #[.string ⟨(joinL [] bs).toArray⟩, .int .i64 (((p + 7) / 8 : Nat) : Int), .int .i64 0]))) := by
 have CB := Qf (blocks_ok s hs q most hq hm w)
 have hus : u.size <= 100000 := by rw [<- hu, ByteArray.size_extract]; omega
 rw [hu] at CB
 obtain ⟨RES, HRES⟩ := Qi (inflR u most)
 have e0 : blocksM most (8 * u.size + 1) (sg u 0 0) [] = RES := HRES.out
 rw [e0] at CB
 rw [HRES.out]
 clear hu e0
 go_enter Try.func23, Try.ntmps23
 go_wp2_with fail
 refine CB.out.mono ?_
 rintro r w1 ⟨hb, ⟨e, he, hr, rfl⟩ | ⟨l, p, z, v, BB, hr, hp, hz, rfl, hBB, hS⟩⟩
 . have Hb := Qf hb
   have Hr := Qf hr
   have de : ((e : Int) == 0) = false := by simp; omega
   have de2 : ((e : Int) != 0) = true := by simp; omega
   clear hb hr CB
   go_wp2_with fail
   go_ret3
   exact ⟨Hb.out, .inl ⟨e, he, Hr.out, rfl⟩⟩
 . have Hb := Qf hb
   have Hr := Qf hr
   have ho := HRES.out.trans hr
   obtain ⟨k1, k2, k3, _⟩ := infl_out ho
   have k4 := blocksM_count _ (show blocksM most (8 * u.size + 1) (sg u 0 0) [] = _ from ho)
   have k5 := blks_count _ _ k1
   have k6 : blenS (l.map LBk.b) <= 1000000 := by rw [<- k2]; omega
   have k7 : l.length <= 1000000 := by
    rw [List.length_map] at k4
    have e1 : (sg u 0 0).n = 8 * u.size := rfl
    have e2 : ([] : List Bk).length = 0 := rfl
    omega
   have k8 : ∀ x ∈ l, x.b.toks.length <= 1000000 := fun x hx => Qe (k5 x.b (List.mem_map_of_mem hx)) k6
   have CJ := Qf (join_any w BB v l w1 hS k1 k6 k7 k8)
   obtain ⟨T, HT⟩ := Qi ((⟨(joinL [] (l.map LBk.b)).toArray⟩ : ByteArray))
   rw [HT.out] at CJ
   obtain ⟨pl, Hpl⟩ := Qi ((p + 7) / 8)
   rw [Hpl.out]
   clear hb hr ho k1 k2 k3 k4 k5 k6 k7 k8 hS CB
   go_wp2_with fail
   refine CJ.out.mono ?_
   rintro r w2 ⟨rfl, hb2⟩
   have Hb2 := Qf (bthen Hb.out hb2)
   clear hb2
   go_wp2_with fail
   go_ret3
   exact ⟨Hb2.out, .inr ⟨l.map LBk.b, p, z, Hr.out, hp, by rw [Hpl.out, HT.out]; rfl⟩⟩
theorem extract_all (s : ByteArray) : s.extract 0 s.size = s := by simp
def OpenPost (w : World) (res : Except Nat ByteArray) (r : Ending) (w' : World) : Prop :=
 Below w.heap.size w w' /\ ((∃ e : Nat, res = .error e /\ e ≠ 0 /\ r = .returned (.tuple #[.string ⟨#[]⟩, .int .i64 (e : Int)])) \/ (∃ x, res = .ok x /\ r = .returned (.tuple #[.string x, .int .i64 0])))
theorem crcF_lt (l : List UInt8) : crcOf 0 l < 4294967296 := by unfold crcOf; omega
theorem begB_iff (r L : ByteArray) : begB r L = true ↔ ¬ (r.size < L.size \/ r.extract 0 L.size ≠ L) := by
 unfold begB
 rw [Bool.and_eq_true, decide_eq_true_eq, ByteArray.toList_eq, ByteArray.toList_eq]
 constructor
 . rintro ⟨h1, h2⟩ (h | h)
   . omega
   . exact h (ByteArray.ext (Array.ext' (by simpa using h2)))
 . intro h
   refine ⟨by omega, ?_⟩
   have : r.extract 0 L.size = L := Classical.byContradiction fun g => h (.inr g)
   rw [this]; simp
theorem inflT_none {d : ByteArray} {m e : Nat} (h : inflR d m = .error e) : inflT d m = none := by unfold inflT; rw [h]
theorem inflT_some {d : ByteArray} {m : Nat} {bs : List Bk} {p z : Nat} (h : inflR d m = .ok (bs, sg d p z)) (hp : p <= 8 * d.size) : inflT d m = some (⟨(joinL [] bs).toArray⟩, (p + 7) / 8) := by
 unfold inflT
 rw [h]
 dsimp only
 have : 8 * d.size - (sg d p z).n = p := by show 8 * d.size - (8 * d.size - p) = p; omega
 rw [this]
theorem inflate_T (d : ByteArray) (hs : d.size <= 100000) (most : Nat) (hm : most <= 65536) (w : World) :
 Calls Try.prog 23 #[.string d, .int .i64 0, .int .i64 (most : Int)] w fun r w' => Below w.heap.size w w' /\
  (
   (∃ e : Nat, e ≠ 0 /\ inflT d most = none /\ r = .returned (.tuple #[.string ⟨#[]⟩, .int .i64 0, .int .i64 (e : Int)])) \/
   (∃ t n, inflT d most = some (t, n) /\ n <= 100000 /\ r = .returned (.tuple #[.string t, .int .i64 (n : Int), .int .i64 0]))) := by
 refine (inflate_any d hs 0 most (Nat.zero_le _) hm d (extract_all d) w).mono ?_
 rintro r w' ⟨hb, ⟨e, h1, h2, h3⟩ | ⟨bs, p, z, h1, h2, h3⟩⟩
 . exact ⟨hb, .inl ⟨e, h1, inflT_none h2, h3⟩⟩
 . exact ⟨hb, .inr ⟨_, _, inflT_some h1 h2, by omega, h3⟩⟩
theorem inflT_size {d : ByteArray} {m : Nat} {t : ByteArray} {n : Nat} (h : inflT d m = some (t, n)) : t.size <= m := by
 unfold inflT at h
 cases hR : inflR d m with
 | error e => rw [hR] at h; cases h
 | ok x =>
  obtain ⟨bs, σ⟩ := x
  rw [hR] at h
  injection h with h
  injection h with h1 h2
  obtain ⟨_, a2, a3, a4⟩ := infl_out hR
  rw [<- h1]
  show (joinL [] bs).toArray.size <= m
  rw [List.size_toArray]; omega
set_option maxHeartbeats 8000000 in
theorem open_any (s : ByteArray) (h : Hd) (hs : s.size <= 100000) (hc : h.crc < 4294967296) (hn : h.name.size <= 9223372036854775000) (w : World) :
 Calls Try.prog 24 #[.string s, h.val] w (OpenPost w (openF s h)) := by
 have CL := Qf (fun W => local_any h hc hn W)
 have e0 : (⟨(localL h).toArray⟩ : ByteArray) = locB h := rfl
 rw [e0] at CL
 have HF : Hid (openF s h = if h.place < 0 \/ (s.size : Int) < h.place \/ h.packed < 0 \/ h.size < 0 then .error 1 else openR (s.extract h.place.toNat s.size) h) := rfl
 have HFR : Hid (∀ r, openR r h = if begB r (locB h) = true then openS (r.extract (locB h).size r.size) h else .error 3) := fun r => by
  show (if _ then _ else _) = _
  by_cases hb : begB r (locB h) = true
  . rw [if_pos hb, if_neg ((begB_iff r (locB h)).1 hb)]
  . rw [if_neg hb, if_pos (Classical.byContradiction fun g => hb ((begB_iff r (locB h)).2 g))]
 have HFS : Hid (∀ u, openS u h = if (u.size : Int) < h.packed then .error 3 else if 65536 < h.size then .error 2 else openD (u.extract 0 h.packed.toNat) h) := fun u => rfl
 have HFD : Hid (∀ d, openD d h = if h.method = 0 then openC d h else if h.method = 8 then (match inflT d h.size.toNat with | none => .error 3 | some (t, n) => if n = d.size then openC t h else .error 3) else .error 12) := fun d => rfl
 have HFC : Hid (∀ t, openC t h = if (t.size : Int) ≠ h.size then .error 3 else if crcOf 0 t.data.toList ≠ h.crc then .error 5 else .ok t) := fun t => rfl
 obtain ⟨L, HL⟩ := Qi (locB h)
 obtain ⟨RES, HR⟩ := Qi (openF s h)
 rw [HL.out] at CL HFR
 rw [HR.out] at HF ⊢
 obtain ⟨fR, HfR⟩ : ∃ f : ByteArray -> Except Nat ByteArray, Hid ((fun r => openR r h) = f) := ⟨_, Qf (Eq.refl _)⟩
 obtain ⟨fS, HfS⟩ : ∃ f : ByteArray -> Except Nat ByteArray, Hid ((fun r => openS r h) = f) := ⟨_, Qf (Eq.refl _)⟩
 obtain ⟨fD, HfD⟩ : ∃ f : ByteArray -> Except Nat ByteArray, Hid ((fun r => openD r h) = f) := ⟨_, Qf (Eq.refl _)⟩
 obtain ⟨fC, HfC⟩ : ∃ f : ByteArray -> Except Nat ByteArray, Hid ((fun r => openC r h) = f) := ⟨_, Qf (Eq.refl _)⟩
 have gR := fun r => congrFun HfR.out r
 have gS := fun r => congrFun HfS.out r
 have gD := fun r => congrFun HfD.out r
 have gC := fun r => congrFun HfC.out r
 have HF2 : Hid (RES = if h.place < 0 \/ (s.size : Int) < h.place \/ h.packed < 0 \/ h.size < 0 then .error 1 else fR (s.extract h.place.toNat s.size)) := by show _ = _; rw [HF.out, gR]
 have HFR2 : Hid (∀ r, fR r = if begB r L = true then fS (r.extract L.size r.size) else .error 3) := fun r => by rw [<- gR, HFR.out, gS]
 have HFS2 : Hid (∀ u, fS u = if (u.size : Int) < h.packed then .error 3 else if 65536 < h.size then .error 2 else fD (u.extract 0 h.packed.toNat)) := fun u => by rw [<- gS, HFS.out, gD]
 have HFD2 : Hid (∀ d, fD d = if h.method = 0 then fC d else if h.method = 8 then (match inflT d h.size.toNat with | none => .error 3 | some (t, n) => if n = d.size then fC t else .error 3) else .error 12) := fun d => by
  rw [<- gD, HFD.out]
  simp only [gC]
 have HFC2 : Hid (∀ t, fC t = if (t.size : Int) ≠ h.size then .error 3 else if crcOf 0 t.data.toList ≠ h.crc then .error 5 else .ok t) := fun t => by rw [<- gC, HFC.out]
 clear HF HFR HFS HFD HFC HL HR HfR HfS HfD HfC gR gS gD gC e0
 obtain ⟨nm, me, cr, pk, sz, pl⟩ := h
 dsimp only at HF2 HFS2 HFD2 HFC2 hc hn
 unfold Hd.val Hd.cells at CL ⊢
 dsimp only at CL ⊢
 have hbb := (Below.refl w.heap.size w).alloc (Qa _) (.cells #[.string nm, .int .i64 me, .int .u32 (cr : Int), .int .i64 pk, .int .i64 sz, .int .i64 pl] 26)
 have HBB := Qf hbb
 clear hbb
 by_cases b0 : pl < 0
 . have hr : RES = .error 1 := by rw [HF2.out, if_pos (by omega)]
   subst hr
   have d0 : decide (pl < 0) = true := Qg (by omega)
   clear HF2 HFR2 HFS2 HFD2 HFC2 CL hs hn hc b0
   go_enter Try.func24, Try.ntmps24
   go_wp2_with fail
   go_ret2
   exact ⟨HBB.out, .inl ⟨1, rfl, by decide, rfl⟩⟩
 by_cases b1 : (s.size : Int) < pl
 . have hr : RES = .error 1 := by rw [HF2.out, if_pos (by omega)]
   subst hr
   have d0 : decide (pl < 0) = false := Qh (by omega)
   have d1 : decide ((s.size : Int) < pl) = true := Qg (by omega)
   clear HF2 HFR2 HFS2 HFD2 HFC2 CL hs hn hc b0 b1
   go_enter Try.func24, Try.ntmps24
   go_wp2_with fail
   go_ret2
   exact ⟨HBB.out, .inl ⟨1, rfl, by decide, rfl⟩⟩
 by_cases b2 : pk < 0
 . have hr : RES = .error 1 := by rw [HF2.out, if_pos (by omega)]
   subst hr
   have d0 : decide (pl < 0) = false := Qh (by omega)
   have d1 : decide ((s.size : Int) < pl) = false := Qh (by omega)
   have d2 : decide (pk < 0) = true := Qg (by omega)
   clear HF2 HFR2 HFS2 HFD2 HFC2 CL hs hn hc b0 b1 b2
   go_enter Try.func24, Try.ntmps24
   go_wp2_with fail
   go_ret2
   exact ⟨HBB.out, .inl ⟨1, rfl, by decide, rfl⟩⟩
 by_cases b3 : sz < 0
 . have hr : RES = .error 1 := by rw [HF2.out, if_pos (by omega)]
   subst hr
   have d0 : decide (pl < 0) = false := Qh (by omega)
   have d1 : decide ((s.size : Int) < pl) = false := Qh (by omega)
   have d2 : decide (pk < 0) = false := Qh (by omega)
   have d3 : decide (sz < 0) = true := Qg (by omega)
   clear HF2 HFR2 HFS2 HFD2 HFC2 CL hs hn hc b0 b1 b2 b3
   go_enter Try.func24, Try.ntmps24
   go_wp2_with fail
   go_ret2
   exact ⟨HBB.out, .inl ⟨1, rfl, by decide, rfl⟩⟩
 obtain ⟨p, rfl⟩ : ∃ p : Nat, pl = (p : Int) := ⟨pl.toNat, by omega⟩
 obtain ⟨k, rfl⟩ : ∃ k : Nat, pk = (k : Int) := ⟨pk.toNat, by omega⟩
 obtain ⟨z, rfl⟩ : ∃ z : Nat, sz = (z : Int) := ⟨sz.toNat, by omega⟩
 have HF3 : Hid (RES = fR (s.extract p s.size)) := by show _ = _; rw [HF2.out, if_neg (by omega), Int.toNat_natCast]
 rw [HFR2.out] at HF3
 have d0 : decide ((p : Int) < 0) = false := Qh (by omega)
 have d1 : decide ((s.size : Int) < (p : Int)) = false := Qh (by omega)
 have d1b : decide (s.size < p) = false := Qh (by omega)
 have d2 : decide ((k : Int) < 0) = false := Qh (by omega)
 have d3 : decide ((z : Int) < 0) = false := Qh (by omega)
 have hps : p <= s.size := by omega
 have hpsI : (p : Int) <= (s.size : Int) := by omega
 have CP := Qf (cutp_any (s.extract p s.size) L)
 have hrs : (s.extract p s.size).size <= 100000 := by rw [ByteArray.size_extract]; omega
 have hbx := Blk.new w 26 #[.string nm, .int .i64 me, .int .u32 (cr : Int), .int .i64 (k : Int), .int .i64 (z : Int), .int .i64 (p : Int)]
 have HBX := Qf hbx
 obtain ⟨b, Hb⟩ := Qi (begB (s.extract p s.size) L)
 obtain ⟨u, Hu⟩ := Qi ((s.extract p s.size).extract L.size (s.extract p s.size).size)
 have hus : u.size <= 100000 := by rw [<- Hu.out, ByteArray.size_extract]; omega
 rw [Hb.out, Hu.out] at CP HF3
 obtain ⟨G, HG⟩ := Qi (w.heap.size)
 rw [HG.out] at HBX
 clear HF2 HFR2 hrs hbx b0 b1 b2 b3 Hb Hu hs hn
 cases b with
 | false =>
  have hr : RES = .error 3 := HF3.out
  subst hr
  have CP2 := Qf (fun W => CP.out W)
  simp only [Bool.false_eq_true, if_false] at CP2
  clear CP
  have CP := CP2
  clear CP2 HF3 HFS2 HFD2 HFC2
  go_enter Try.func24, Try.ntmps24
  go_wp2_with fail
  rw [HG.out]
  obtain ⟨w1, HW1⟩ := Qi (w.alloc (.cells #[.string nm, .int .i64 me, .int .u32 (cr : Int), .int .i64 (k : Int), .int .i64 (z : Int), .int .i64 (p : Int)] 26))
  rw [HW1.out] at HBX HBB ⊢
  clear HW1
  have k0 : w1.drew.cell? ⟨G, 0, none⟩ = some (.string nm) := HBX.out.cell 0
  have k1 : w1.drew.cell? ⟨G, 1, none⟩ = some (.int .i64 me) := HBX.out.cell 1
  have k2 : w1.drew.cell? ⟨G, 2, none⟩ = some (.int .u32 (cr : Int)) := HBX.out.cell 2
  have k3 : w1.drew.cell? ⟨G, 3, none⟩ = some (.int .i64 (k : Int)) := HBX.out.cell 3
  have k4 : w1.drew.cell? ⟨G, 4, none⟩ = some (.int .i64 (z : Int)) := HBX.out.cell 4
  have k5 : w1.drew.cell? ⟨G, 5, none⟩ = some (.int .i64 (p : Int)) := HBX.out.cell 5
  go_region_held3 (fun W => W.cell? ⟨G, 0, none⟩ = some (.string nm) /\ W.cell? ⟨G, 1, none⟩ = some (.int .i64 me) /\ W.cell? ⟨G, 2, none⟩ = some (.int .u32 (cr : Int)) /\ W.cell? ⟨G, 3, none⟩ = some (.int .i64 (k : Int)) /\ W.cell? ⟨G, 4, none⟩ = some (.int .i64 (z : Int)) /\ W.cell? ⟨G, 5, none⟩ = some (.int .i64 (p : Int)))
   (first | exact ⟨by assumption, by assumption, by assumption, by assumption, by assumption, by assumption⟩ | go_keep)
   (first
    | (go_at_call 50; refine (CP.out _).mono ?_; rintro e w9 ⟨rfl, rfl⟩)
    | (go_at_call 42; refine (CL.out _).mono ?_; rintro e w8 ⟨rfl, hb8⟩; have HX8 := Qf (Blk.below (w := w1.drew) HBX.out hb8 HBX.out.lt); have HB8 := Qf (bthen HBB.out.drew hb8); have q0 : w8.cell? ⟨G, 0, none⟩ = some (.string nm) := HX8.out.cell 0; have q1 : w8.cell? ⟨G, 1, none⟩ = some (.int .i64 me) := HX8.out.cell 1; have q2 : w8.cell? ⟨G, 2, none⟩ = some (.int .u32 (cr : Int)) := HX8.out.cell 2; have q3 : w8.cell? ⟨G, 3, none⟩ = some (.int .i64 (k : Int)) := HX8.out.cell 3; have q4 : w8.cell? ⟨G, 4, none⟩ = some (.int .i64 (z : Int)) := HX8.out.cell 4; have q5 : w8.cell? ⟨G, 5, none⟩ = some (.int .i64 (p : Int)) := HX8.out.cell 5; clear hb8))
  all_goals
   go_wp2_with fail
   go_ret2
   exact ⟨HB8.out, .inl ⟨3, rfl, by decide, rfl⟩⟩
 | true =>
  have HF4 : Hid (RES = fS u) := HF3.out
  rw [HFS2.out] at HF4
  have CP2 := Qf (fun W => CP.out W)
  simp only [if_true] at CP2
  clear CP
  have CP := CP2
  clear CP2 HF3 HFS2
  go_enter Try.func24, Try.ntmps24
  go_wp2_with fail
  rw [HG.out]
  obtain ⟨w1, HW1⟩ := Qi (w.alloc (.cells #[.string nm, .int .i64 me, .int .u32 (cr : Int), .int .i64 (k : Int), .int .i64 (z : Int), .int .i64 (p : Int)] 26))
  rw [HW1.out] at HBX HBB ⊢
  clear HW1
  have k0 : w1.drew.cell? ⟨G, 0, none⟩ = some (.string nm) := HBX.out.cell 0
  have k1 : w1.drew.cell? ⟨G, 1, none⟩ = some (.int .i64 me) := HBX.out.cell 1
  have k2 : w1.drew.cell? ⟨G, 2, none⟩ = some (.int .u32 (cr : Int)) := HBX.out.cell 2
  have k3 : w1.drew.cell? ⟨G, 3, none⟩ = some (.int .i64 (k : Int)) := HBX.out.cell 3
  have k4 : w1.drew.cell? ⟨G, 4, none⟩ = some (.int .i64 (z : Int)) := HBX.out.cell 4
  have k5 : w1.drew.cell? ⟨G, 5, none⟩ = some (.int .i64 (p : Int)) := HBX.out.cell 5
  go_region_held3 (fun W => W.cell? ⟨G, 0, none⟩ = some (.string nm) /\ W.cell? ⟨G, 1, none⟩ = some (.int .i64 me) /\ W.cell? ⟨G, 2, none⟩ = some (.int .u32 (cr : Int)) /\ W.cell? ⟨G, 3, none⟩ = some (.int .i64 (k : Int)) /\ W.cell? ⟨G, 4, none⟩ = some (.int .i64 (z : Int)) /\ W.cell? ⟨G, 5, none⟩ = some (.int .i64 (p : Int)))
   (first | exact ⟨by assumption, by assumption, by assumption, by assumption, by assumption, by assumption⟩ | go_keep)
   (first
    | (go_at_call 50; refine (CP.out _).mono ?_; rintro e w9 ⟨rfl, rfl⟩)
    | (go_at_call 42; refine (CL.out _).mono ?_; rintro e w8 ⟨rfl, hb8⟩; have HX8 := Qf (Blk.below (w := w1.drew) HBX.out hb8 HBX.out.lt); have HB8 := Qf (bthen HBB.out.drew hb8); have q0 : w8.cell? ⟨G, 0, none⟩ = some (.string nm) := HX8.out.cell 0; have q1 : w8.cell? ⟨G, 1, none⟩ = some (.int .i64 me) := HX8.out.cell 1; have q2 : w8.cell? ⟨G, 2, none⟩ = some (.int .u32 (cr : Int)) := HX8.out.cell 2; have q3 : w8.cell? ⟨G, 3, none⟩ = some (.int .i64 (k : Int)) := HX8.out.cell 3; have q4 : w8.cell? ⟨G, 4, none⟩ = some (.int .i64 (z : Int)) := HX8.out.cell 4; have q5 : w8.cell? ⟨G, 5, none⟩ = some (.int .i64 (p : Int)) := HX8.out.cell 5; clear hb8))
  all_goals
   clear k0 k1 k2 k3 k4 k5 CP CL
   by_cases hk : u.size < k
   . have d4 : decide ((u.size : Int) < (k : Int)) = true := Qg (by omega)
     have d4b : decide (u.size < k) = true := Qg (by omega)
     have hr : RES = .error 3 := by rw [HF4.out, if_pos (by omega)]
     subst hr
     clear HF4 HFD2 HFC2
     go_wp2_with fail
     go_ret2
     exact ⟨HB8.out, .inl ⟨3, rfl, by decide, rfl⟩⟩
   . have d4 : decide ((u.size : Int) < (k : Int)) = false := Qh (by omega)
     have d4b : decide (u.size < k) = false := Qh (by omega)
     by_cases hz : 65536 < z
     . have d5 : decide ((65536 : Int) < (z : Int)) = true := Qg (by omega)
       have d5b : decide (65536 < z) = true := Qg (by omega)
       have hr : RES = .error 2 := by rw [HF4.out, if_neg (by omega), if_pos (by omega)]
       subst hr
       clear HF4 HFD2 HFC2
       go_wp2_with fail
       go_ret2
       exact ⟨HB8.out, .inl ⟨2, rfl, by decide, rfl⟩⟩
     . have d5 : decide ((65536 : Int) < (z : Int)) = false := Qh (by omega)
       have d5b : decide (65536 < z) = false := Qh (by omega)
       have HF5 : Hid (RES = fD (u.extract 0 k)) := by show _ = _; rw [HF4.out, if_neg (by omega), if_neg (by omega), Int.toNat_natCast]
       rw [HFD2.out, Int.toNat_natCast] at HF5
       have hdz : (u.extract 0 k).size = k := by rw [ByteArray.size_extract]; omega
       have hku : k <= u.size := by omega
       have hkuI : (k : Int) <= (u.size : Int) := by omega
       obtain ⟨d, Hd0⟩ := Qi (u.extract 0 k)
       rw [Hd0.out] at HF5 hdz
       have hks : k <= 100000 := by omega
       have HDZ := Qf hdz
       clear HF4 HFD2 hk hdz
       by_cases hm0 : me = 0
       . have m0 : (me == 0) = true := by rw [beq_iff_eq]; exact hm0
         have HF6 : Hid (RES = fC d) := by show _ = _; rw [HF5.out, if_pos hm0]
         subst hm0
         clear HF5
         go_upto_region 17 with fail
         rw [Hd0.out]
         rw [HFC2.out] at HF6
         have CC := Qf (fun W => crc32_any d W (by have := HDZ.out; unfold maxLen; omega))
         have CRL : crcOf 0 d.data.toList < 4294967296 := crcF_lt _
         obtain ⟨cc, Hcc⟩ := Qi (crcOf 0 d.data.toList)
         rw [Hcc.out] at HF6 CC CRL
         clear HFC2
         by_cases hts : d.size = z
         . by_cases hcc : cc = cr
           . have hr : RES = .ok d := by rw [HF6.out, if_neg (by omega), if_neg (fun g => g hcc)]
             subst hr
             subst hcc
             have hts1 : (d.size : Int) = (z : Int) := by omega
             clear HF6
             have n2 : w8.drew.cell? ⟨G, 2, none⟩ = some (.int .u32 (cc : Int)) := HX8.out.cell 2
             go_upto_region 19 with fail
             go_region_held3 (fun W => W.cell? ⟨G, 2, none⟩ = some (.int .u32 (cc : Int))) (first | exact n2 | exact n7 | assumption)
              (first
               | (go_at_call 22; refine (CC.out _).mono ?_; rintro e w7 ⟨rfl, hb7⟩; have n7 : w7.cell? ⟨G, 2, none⟩ = some (.int .u32 (cc : Int)) := (Blk.below (w := w8.drew) HX8.out hb7 HX8.out.lt).cell 2; have HB7 := Qf (bthen HB8.out.drew hb7); clear hb7))
             all_goals
              go_wp2_with fail
              go_ret2
              exact ⟨HB7.out, .inr ⟨d, rfl, rfl⟩⟩
           . have hr : RES = .error 5 := by rw [HF6.out, if_neg (by omega), if_pos hcc]
             subst hr
             have hts1 : (d.size : Int) = (z : Int) := by omega
             have n2 : w8.drew.cell? ⟨G, 2, none⟩ = some (.int .u32 (cr : Int)) := HX8.out.cell 2
             have hcc1 : ((cc : Int) == (cr : Int)) = false := by rw [beq_eq_false_iff_ne]; omega
             have hcc2 : ¬ (cc : Int) = (cr : Int) := by omega
             clear HF6
             go_upto_region 19 with fail
             go_region_held3 (fun W => W.cell? ⟨G, 2, none⟩ = some (.int .u32 (cr : Int))) (first | exact n2 | exact n7 | assumption)
              (first
               | (go_at_call 22; refine (CC.out _).mono ?_; rintro e w7 ⟨rfl, hb7⟩; have n7 : w7.cell? ⟨G, 2, none⟩ = some (.int .u32 (cr : Int)) := (Blk.below (w := w8.drew) HX8.out hb7 HX8.out.lt).cell 2; have HB7 := Qf (bthen HB8.out.drew hb7); clear hb7))
             all_goals
              go_wp2_with fail
              go_ret2
              exact ⟨HB7.out, .inl ⟨5, rfl, by decide, rfl⟩⟩
         . have hr : RES = .error 3 := by rw [HF6.out, if_pos (by omega)]
           subst hr
           have t1 : (d.size == z) = false := by rw [beq_eq_false_iff_ne]; omega
           have t2 : ¬ (d.size : Int) = (z : Int) := by omega
           have t3 : ((d.size : Int) == (z : Int)) = false := by rw [beq_eq_false_iff_ne]; omega
           clear HF6 CC
           go_wp2_with fail
           go_ret2
           exact ⟨HB8.out, .inl ⟨3, rfl, by decide, rfl⟩⟩
       . by_cases hm8 : me = 8
         . have HF6 : Hid (RES = (match inflT d z with | none => .error 3 | some (t, n) => if n = d.size then fC t else .error 3)) := by show _ = _; rw [HF5.out, if_neg hm0, if_pos hm8]
           subst hm8
           have CI := Qf (fun W => inflate_T d (by have := HDZ.out; omega) z (by omega) W)
           clear HF5 hm0
           go_upto_region 13 with fail
           rw [Hd0.out]
           go_wp2_with fail
           refine (CI.out _).mono ?_
           rintro e w9 ⟨hb9, ⟨er, he1, he2, rfl⟩ | ⟨t, n, ht, hn9, rfl⟩⟩
           . have hr : RES = .error 3 := by rw [HF6.out, he2]
             subst hr
             have HB9 := Qf (bthen HB8.out hb9)
             have hX9 := HX8.out.below hb9 HX8.out.lt
             have g3 : w9.cell? ⟨G, 3, none⟩ = some (.int .i64 (k : Int)) := hX9.cell 3
             have heI : ¬ (er : Int) = 0 := by omega
             clear HF6 HFC2 hb9 hX9 q0 q1 q2 q3 q4 q5 CI
             go_wp2_with fail
             go_ret2
             exact ⟨HB9.out, .inl ⟨3, rfl, by decide, rfl⟩⟩
           . have HB9 := Qf (bthen HB8.out hb9)
             have HX9 := Qf (HX8.out.below hb9 HX8.out.lt)
             have HF7 : Hid (RES = if n = d.size then fC t else .error 3) := by show _ = _; rw [HF6.out, ht]
             have g2 : w9.cell? ⟨G, 2, none⟩ = some (.int .u32 (cr : Int)) := HX9.out.cell 2
             have g3 : w9.cell? ⟨G, 3, none⟩ = some (.int .i64 (k : Int)) := HX9.out.cell 3
             have g4 : w9.cell? ⟨G, 4, none⟩ = some (.int .i64 (z : Int)) := HX9.out.cell 4
             have HTS := Qf (inflT_size ht)
             clear HF6 hb9 q0 q1 q2 q3 q4 q5 CI ht
             by_cases hnk : n = k
             . have HF8 : Hid (RES = fC t) := by show _ = _; rw [HF7.out, if_pos (by rw [HDZ.out]; exact hnk)]
               subst hnk
               clear HF7
               go_upto_region 17 with fail
               rw [HFC2.out] at HF8
               have CC := Qf (fun W => crc32_any t W (by have := HTS.out; unfold maxLen; omega))
               have CRL : crcOf 0 t.data.toList < 4294967296 := crcF_lt _
               obtain ⟨cc, Hcc⟩ := Qi (crcOf 0 t.data.toList)
               rw [Hcc.out] at HF8 CC CRL
               clear HFC2
               by_cases hts : t.size = z
               . by_cases hcc : cc = cr
                 . have hr : RES = .ok t := by rw [HF8.out, if_neg (by omega), if_neg (fun g => g hcc)]
                   subst hr
                   subst hcc
                   have hts1 : (t.size : Int) = (z : Int) := by omega
                   clear HF8
                   have n2 : w9.drew.cell? ⟨G, 2, none⟩ = some (.int .u32 (cc : Int)) := HX9.out.cell 2
                   go_upto_region 19 with fail
                   go_region_held3 (fun W => W.cell? ⟨G, 2, none⟩ = some (.int .u32 (cc : Int))) (first | exact n2 | exact n7 | assumption)
                    (first
                     | (go_at_call 22; refine (CC.out _).mono ?_; rintro e w7 ⟨rfl, hb7⟩; have n7 : w7.cell? ⟨G, 2, none⟩ = some (.int .u32 (cc : Int)) := (Blk.below (w := w9.drew) HX9.out hb7 HX9.out.lt).cell 2; have HB7 := Qf (bthen HB9.out.drew hb7); clear hb7))
                   all_goals
                    go_wp2_with fail
                    go_ret2
                    exact ⟨HB7.out, .inr ⟨t, rfl, rfl⟩⟩
                 . have hr : RES = .error 5 := by rw [HF8.out, if_neg (by omega), if_pos hcc]
                   subst hr
                   have hts1 : (t.size : Int) = (z : Int) := by omega
                   have n2 : w9.drew.cell? ⟨G, 2, none⟩ = some (.int .u32 (cr : Int)) := HX9.out.cell 2
                   have hcc1 : ((cc : Int) == (cr : Int)) = false := by rw [beq_eq_false_iff_ne]; omega
                   have hcc2 : ¬ (cc : Int) = (cr : Int) := by omega
                   clear HF8
                   go_upto_region 19 with fail
                   go_region_held3 (fun W => W.cell? ⟨G, 2, none⟩ = some (.int .u32 (cr : Int))) (first | exact n2 | exact n7 | assumption)
                    (first
                     | (go_at_call 22; refine (CC.out _).mono ?_; rintro e w7 ⟨rfl, hb7⟩; have n7 : w7.cell? ⟨G, 2, none⟩ = some (.int .u32 (cr : Int)) := (Blk.below (w := w9.drew) HX9.out hb7 HX9.out.lt).cell 2; have HB7 := Qf (bthen HB9.out.drew hb7); clear hb7))
                   all_goals
                    go_wp2_with fail
                    go_ret2
                    exact ⟨HB7.out, .inl ⟨5, rfl, by decide, rfl⟩⟩
               . have hr : RES = .error 3 := by rw [HF8.out, if_pos (by omega)]
                 subst hr
                 have t1 : (t.size == z) = false := by rw [beq_eq_false_iff_ne]; omega
                 have t2 : ¬ (t.size : Int) = (z : Int) := by omega
                 have t3 : ((t.size : Int) == (z : Int)) = false := by rw [beq_eq_false_iff_ne]; omega
                 clear HF8 CC
                 go_wp2_with fail
                 go_ret2
                 exact ⟨HB9.out, .inl ⟨3, rfl, by decide, rfl⟩⟩
             . have hr : RES = .error 3 := by rw [HF7.out, if_neg (by rw [HDZ.out]; exact hnk)]
               subst hr
               have hnkI : ¬ (n : Int) = (k : Int) := by omega
               have hnkb : ((n : Int) == (k : Int)) = false := by rw [beq_eq_false_iff_ne]; omega
               clear HF7 HFC2
               go_wp2_with fail
               go_ret2
               exact ⟨HB9.out, .inl ⟨3, rfl, by decide, rfl⟩⟩
         . have hr : RES = .error 12 := by rw [HF5.out, if_neg hm0, if_neg hm8]
           subst hr
           have m0 : (me == 0) = false := by rw [beq_eq_false_iff_ne]; exact hm0
           have m8 : (me == 8) = false := by rw [beq_eq_false_iff_ne]; exact hm8
           clear HF5 HFC2
           go_wp2_with fail
           go_ret2
           exact ⟨HB8.out, .inl ⟨12, rfl, by decide, rfl⟩⟩
def ReadPost (w : World) (res : Except Nat (List Fl)) (r : Ending) (w' : World) : Prop :=
 Below w.heap.size w w' /\ ((∃ e : Nat, res = .error e /\ e ≠ 0 /\ r = .returned (.tuple #[.slice none 0 0, .int .i64 (e : Int)])) \/ (∃ l v, res = .ok l /\ r = .returned (.tuple #[v, .int .i64 0]) /\ OwnFl w' w.heap.size v l))
theorem own_mono {w : World} {base base' e n z : Nat} {v : Value} {xs : List Value} (h : w.ownsRow base e z v n xs) (hb : base' <= base) : w.ownsRow base' e z v n xs := by
 refine ⟨h.1, ?_⟩
 rcases h.2 with h2 | ⟨g, cap, cur, rfl, h3, h4⟩
 . exact .inl h2
 . exact .inr ⟨g, cap, cur, rfl, Qe hb h3, h4⟩
def readE (fr : Nat) : Except Nat (List Fl × Nat) -> Except Nat (List Fl)
 | .error e => .error e
 | .ok (out, p) => if p ≠ fr then .error 3 else .ok out
theorem readF_err {s : ByteArray} {e : Nat} (h : headsF s = .error e) : readF s = .error e := by unfold readF; rw [h]
theorem readF_ok {s : ByteArray} {l : List Hd} (h : headsF s = .ok l) : readF s = readE (atN s (s.size - 22 + 16) 4) (readL s l 0 []) := by
 unfold readF; rw [h]
 dsimp only
 cases readL s l 0 [] <;> rfl
theorem headsF_err {s : ByteArray} {e : Nat} (h : headsF s = .error e) : e ≠ 0 := by
 unfold headsF at h
 repeat' split at h
 all_goals (cases h <;> decide)
theorem openF_fits {s : ByteArray} {g : Hd} {x : ByteArray} {p k : Nat} (h : openF s g = .ok x) (hp : g.place = (p : Int)) (hk : g.packed = (k : Int)) : p + 30 + g.name.size + k <= s.size := by
 obtain ⟨h1, h2, q, h3, h4, h5⟩ := openF_ok h
 rw [hp, Int.toNat_natCast] at h3 h5
 have := congrArg List.length h3
 have hl : s.data.toList.length = s.size := by simp
 rw [List.length_drop, List.length_append, localL_len, hl] at this
 omega
set_option maxHeartbeats 8000000 in
theorem read_any (s : ByteArray) (hs : s.size <= 100000) (w : World) :
 Calls Try.prog 16 #[.string s] w (ReadPost w (readF s)) := by
 have CH := Qf (fun W => heads_any s (by omega) W)
 have HFE : Hid (∀ e, headsF s = .error e -> readF s = .error e) := fun e h => readF_err h
 have HFO : Hid (∀ l, headsF s = .ok l -> readF s = readE (atN s (s.size - 22 + 16) 4) (readL s l 0 [])) := fun l h => readF_ok h
 obtain ⟨RES, HR⟩ := Qi (readF s)
 have HHE : Hid (∀ e, headsF s = .error e -> e ≠ 0) := fun e h => headsF_err h
 have HHO : Hid (∀ l, headsF s = .ok l -> (∀ x ∈ l, x.Fit) /\ l.length <= 200 /\ 22 <= s.size) := fun l h => by
  obtain ⟨_, h2, _, h4, p, h5, _⟩ := headsF_ok h
  refine ⟨h2, h4, ?_⟩
  have hl : s.data.toList.length = s.size := by simp
  rw [<- hl, h5, List.length_append, indexL_len]; omega
 obtain ⟨HS, HHS⟩ := Qi (headsF s)
 rw [HHS.out] at CH HFE HFO HHE HHO
 rw [HR.out] at HFE HFO ⊢
 clear HR HHS
 go_enter Try.func16, Try.ntmps16
 go_wp2_with fail
 refine (CH.out _).mono ?_
 rintro r w1 ⟨hb1, ⟨e, rfl, rfl⟩ | ⟨l, v, rfl, rfl, hv⟩⟩
 . have he := HHE.out e rfl
   have heI : ¬ (e : Int) = 0 := by omega
   have hr : RES = .error e := HFE.out e rfl
   subst hr
   have HB1 := Qf hb1
   clear hb1 HFE HFO HHE HHO CH
   go_wp2_with fail
   go_ret2
   exact ⟨HB1.out, .inl ⟨e, rfl, he, rfl⟩⟩
 . obtain ⟨hfit, hlen, hs22⟩ := HHO.out l rfl
   have Hfit := Qf hfit
   have HB1 := Qf hb1
   obtain ⟨a, cap, rfl, hrow⟩ := hv.view
   have HRw := Qf hrow
   obtain ⟨e, he⟩ : ∃ e, s.size = e + 22 := ⟨s.size - 22, by omega⟩
   have hes : s.size - 22 = e := by omega
   obtain ⟨LR, HLR⟩ := Qi (readL s (l.drop 0) 0 [])
   have HF2 : Hid (RES = readE (atN s (e + 16) 4) LR) := by
    show _ = _
    rw [HFO.out l rfl, <- HLR.out, hes]; rfl
   have C16 := Qf (fun W => at_any s (e + 16) 4 (by decide) (by omega) (by omega) W)
   have hc16 : ((e + 16 : Nat) : Int) = (e : Int) + 16 := by omega
   have hn4 : ((4 : Nat) : Int) = 4 := rfl
   rw [hc16, hn4] at C16
   have hfrlt := atN_lt s (e + 16) 4 (by decide)
   obtain ⟨fr, Hfr⟩ := Qi (atN s (e + 16) 4)
   rw [Hfr.out] at C16 HF2 hfrlt
   have heI : (s.size : Int) - 22 = (e : Int) := by omega
   have HE := Qf he
   have HeI := Qf heI
   obtain ⟨M, HM⟩ := Qi (l.length)
   rw [HM.out] at hlen ⊢
   have HO0 : Hid (OwnFl w1 w1.heap.size (.slice none 0 0) []) := World.ownsRow_nil _ _ _ _
   have HZ := Qf (Below.refl w1.heap.size w1)
   have hw1 : w.heap.size <= w1.heap.size := hb1.size
   have Hw1 := Qf hw1
   clear hb1 HFE HFO HHE HHO CH hfit hrow hv hc16 hn4 he hes hs22 hw1 heI Hfr
   go_wp2_with fail
   go_loopw [6, 7, 22] (fun v_ p_ j_ wq => ∃ (j p : Nat) (out : List Fl), j <= M /\ p <= s.size /\ out.length = j /\ j_ = .int .i64 (j : Int) /\ p_ = .int .i64 (p : Int) /\ Hid (readL s (l.drop j) p out = LR) /\ Hid (OwnFl wq w1.heap.size v_ out) /\ Hid (Below w1.heap.size w1 wq)) (fun _ _ j _ => M - (intOf j).toNat)
   case atStart => exact ⟨0, 0, [], Nat.zero_le _, Nat.zero_le _, rfl, rfl, rfl, HLR, HO0, HZ⟩
   case round =>
    clear HLR HO0 HZ
    obtain ⟨j, p, out, hj, hps, Hj, rfl, rfl, HL, HO, HBl⟩ := hrel
    have HJ := Qf Hj
    clear Hj
    obtain ⟨oa, ocap, rfl, -⟩ := HO.out.view
    rw [HJ.out] at HO ⊢
    by_cases hlt : j < M
    . have dj : decide ((j : Int) < (M : Int)) = true := Qg (by omega)
      have djb : decide (j < M) = true := Qg (by omega)
      have hjI : (j : Int) < (M : Int) := by omega
      have hjL : j < l.length := by rw [HM.out]; exact hlt
      obtain ⟨b, off, rfl, hbl, hcl⟩ := (HRw.out.below HBl.out (Qa _)) j hjL
      have hL := HL.out
      rw [List.drop_eq_getElem_cons hjL, readL] at hL
      have hft := Hfit.out _ (List.getElem_mem hjL)
      obtain ⟨h, Hh⟩ := Qi (l[j])
      rw [Hh.out] at hcl hL hft
      obtain ⟨f1, f2, f3, f4, f5, f6⟩ := hft
      have CO := Qf (fun W => open_any s h hs f2 (by omega) W)
      have HOE : Hid (∀ x, openF s h = .ok x -> ∀ p k : Nat, h.place = (p : Int) -> h.packed = (k : Int) -> p + 30 + h.name.size + k <= s.size) := fun x hx p k h1 h2 => openF_fits hx h1 h2
      obtain ⟨OR, HOR⟩ := Qi (openF s h)
      rw [HOR.out] at CO HOE hL
      have HL2 := Qf hL
      obtain ⟨nm, me, cr, pk, sz, pl⟩ := h
      obtain ⟨kk, rfl⟩ : ∃ k : Nat, pk = (k : Int) := ⟨pk.toNat, by dsimp only at f3; omega⟩
      obtain ⟨pp, rfl⟩ : ∃ k : Nat, pl = (k : Int) := ⟨pl.toNat, by dsimp only at f5; omega⟩
      unfold Hd.val Hd.cells at CO
      unfold Hd.cells at hcl
      dsimp only at hcl CO HOE HL2 f2 f6 f3 f5
      have hkb : kk <= 4294967296 := by omega
      have hpb : pp <= 4294967296 := by omega
      have k0 := hcl 0 _ rfl
      have k1 := hcl 1 _ rfl
      have k2 := hcl 2 _ rfl
      have k3 := hcl 3 _ rfl
      have k4 := hcl 4 _ rfl
      have k5 := hcl 5 _ rfl
      simp only [Nat.add_zero] at k0
      have hal := HBl.out.alloc HBl.out.size (.cells #[.string nm, .int .i64 me, .int .u32 (cr : Int), .int .i64 (kk : Int), .int .i64 sz, .int .i64 (pp : Int)] 26)
      have hbn := Blk.new wr 26 #[.string nm, .int .i64 me, .int .u32 (cr : Int), .int .i64 (kk : Int), .int .i64 sz, .int .i64 (pp : Int)]
      have HOa := Qf (HO.out.below (B := wr.heap.size) ((Below.refl wr.heap.size wr).alloc (Qa _) (.cells #[.string nm, .int .i64 me, .int .u32 (cr : Int), .int .i64 (kk : Int), .int .i64 sz, .int .i64 (pp : Int)] 26)) (Qa _))
      have HBa := Qf hal
      have HBn := Qf hbn
      clear hL HL hal hbn hjL hbl Hh hcl f1 f3 f4 f5 HO
      go_upto_region 9 with fail
      obtain ⟨G, HG⟩ := Qi (wr.heap.size)
      rw [HG.out] at HBn ⊢
      obtain ⟨w2, HW2⟩ := Qi (wr.alloc (.cells #[.string nm, .int .i64 me, .int .u32 (cr : Int), .int .i64 (kk : Int), .int .i64 sz, .int .i64 (pp : Int)] 26))
      rw [HW2.out] at HBn HBa HOa ⊢
      clear HW2 k0 k1 k2 k3 k4 k5
      have k0 : w2.cell? ⟨G, 0, none⟩ = some (.string nm) := HBn.out.cell 0
      have k1 : w2.cell? ⟨G, 1, none⟩ = some (.int .i64 me) := HBn.out.cell 1
      have k2 : w2.cell? ⟨G, 2, none⟩ = some (.int .u32 (cr : Int)) := HBn.out.cell 2
      have k3 : w2.cell? ⟨G, 3, none⟩ = some (.int .i64 (kk : Int)) := HBn.out.cell 3
      have k4 : w2.cell? ⟨G, 4, none⟩ = some (.int .i64 sz) := HBn.out.cell 4
      have k5 : w2.cell? ⟨G, 5, none⟩ = some (.int .i64 (pp : Int)) := HBn.out.cell 5
      go_wp2_with fail
      refine (CO.out _).mono ?_
      rintro r w3 ⟨hb3, ⟨er, rfl, hen, rfl⟩ | ⟨x, rfl, rfl⟩⟩
      . have heI : ¬ (er : Int) = 0 := by omega
        have hr : RES = .error er := by rw [HF2.out, <- HL2.out]; rfl
        subst hr
        have HB3 := Qf (bthen HBa.out hb3)
        clear hb3 HF2 HL2 k0 k1 k2 k3 k4 k5 HOE
        go_wp2_with fail
        go_ret2
        exact ⟨bthen HB1.out HB3.out, .inl ⟨er, rfl, hen, rfl⟩⟩
      . have HB3 := Qf (bthen HBa.out hb3)
        have HX3 := Qf (HBn.out.below hb3 HBn.out.lt)
        have HO3 := Qf (HOa.out.below hb3 (Qa _))
        have q0 : w3.cell? ⟨G, 0, none⟩ = some (.string nm) := HX3.out.cell 0
        have q3 : w3.cell? ⟨G, 3, none⟩ = some (.int .i64 (kk : Int)) := HX3.out.cell 3
        have q5 : w3.cell? ⟨G, 5, none⟩ = some (.int .i64 (pp : Int)) := HX3.out.cell 5
        have HL3 : Hid ((if ((pp : Nat) : Int) ≠ (p : Int) then .error 3 else readL s (l.drop (j + 1)) (p + 30 + nm.size + kk) (out ++ [(nm, x)])) = LR) := HL2.out
        have hfs := HOE.out x rfl pp kk rfl rfl
        clear hb3 HL2 k0 k1 k2 k3 k4 k5 HOE HBn HOa HBa
        by_cases hpp : pp = p
        . have HL4 : Hid (readL s (l.drop (j + 1)) (p + 30 + nm.size + kk) (out ++ [(nm, x)]) = LR) := by show _ = _; rw [<- HL3.out, if_neg (by omega)]
          subst hpp
          have hos := HO3.out
          unfold OwnFl at hos
          rw [HJ.out] at hos
          have hbsw : w1.heap.size <= w3.heap.size := HB3.out.size
          have hone := fl_one nm x
          have hne : (Value.slice oa j ocap).ownBlock ≠ some G := by
           rcases row_blk hos HX3.out (by decide) with h | h
           . rw [h]; simp
           . exact h
          have Hne := Qf hne
          clear HL3 hne
          go_wp2_with (first
           | (at_builtin; go_must (refine wpList_append_elem _ rfl (.tmp 43) (.tmp 48) rfl Try.underlying38 info_file rfl (by decide) w1.heap.size (.slice oa j ocap) j (flcells out) [.string nm, .string x] hos rfl hone rfl rfl rfl ?_ ?_ hbsw ?_; (unfold maxLen; omega); omega; intro v8 w8 hown8 hg8; have HO8 := Qf hown8; have HB8 := Qf (HB3.out.trans (below_grown hos hg8 hbsw)); have hX8 := HX3.out.grown hg8 (fun e => Hne.out e.symm); have n0 : w8.cell? ⟨G, 0, none⟩ = some (.string nm) := hX8.cell 0; have n3 : w8.cell? ⟨G, 3, none⟩ = some (.int .i64 (kk : Int)) := hX8.cell 3; clear hown8 hg8 hX8))
           | fail)
          go_roundw
          case rel => exact ⟨j + 1, pp + 30 + nm.size + kk, out ++ [(nm, x)], by omega, hfs, by rw [List.length_append, HJ.out]; rfl, by go_num, by go_num, HL4, OwnFl.snoc (by rw [HJ.out]; exact HO8.out), HB8⟩
          case measure => simp [intOf]; omega
        . have hr : RES = .error 3 := by rw [HF2.out, <- HL3.out, if_pos (by omega)]; rfl
          subst hr
          have hpI : ¬ (pp : Int) = (p : Int) := by omega
          have hpb2 : ((pp : Int) == (p : Int)) = false := by rw [beq_eq_false_iff_ne]; omega
          clear HF2 HL3
          go_wp2_with fail
          go_ret2
          exact ⟨bthen HB1.out HB3.out, .inl ⟨3, rfl, by decide, rfl⟩⟩
    . obtain rfl : j = M := by omega
      have dj : decide ((j : Int) < (j : Int)) = false := Qh (by omega)
      have hlr : LR = .ok (out, p) := by rw [<- HL.out, List.drop_of_length_le (by rw [HM.out]; exact Qa _), readL]
      have HF3 : Hid (RES = if p ≠ fr then .error 3 else .ok out) := by show _ = _; rw [HF2.out, hlr]; rfl
      have HO9 : Hid (OwnFl wr w.heap.size (.slice oa j ocap) out) := own_mono HO.out Hw1.out
      have heI := HeI.out
      clear HF2 hlr HL HO
      by_cases hpf : p = fr
      . have hr : RES = .ok out := by rw [HF3.out, if_neg (fun g => g hpf)]
        subst hr
        have hpI : (p : Int) = (fr : Int) := by omega
        have hpb : ((p : Int) == (fr : Int)) = true := by rw [beq_iff_eq]; omega
        clear HF3
        go_wp2_with fail
        refine (C16.out _).mono ?_
        rintro r w9 ⟨rfl, rfl⟩
        go_wp2_with fail
        go_ret2
        exact ⟨bthen HB1.out HBl.out, .inr ⟨out, _, rfl, rfl, HO9.out⟩⟩
      . have hr : RES = .error 3 := by rw [HF3.out, if_pos hpf]
        subst hr
        have hpI : ¬ (p : Int) = (fr : Int) := by omega
        have hpb : ((p : Int) == (fr : Int)) = false := by rw [beq_eq_false_iff_ne]; omega
        clear HF3
        go_wp2_with fail
        refine (C16.out _).mono ?_
        rintro r w9 ⟨rfl, rfl⟩
        go_wp2_with fail
        go_ret2
        exact ⟨bthen HB1.out HBl.out, .inl ⟨3, rfl, by decide, rfl⟩⟩
def KeepT (W W' : World) : Prop := ∀ B t cs, t ≠ 87 -> t ≠ 5 -> Blk W B t cs -> Blk W' B t cs
theorem KeepT.trans {W W1 W2 : World} (h : KeepT W W1) (k : KeepT W1 W2) : KeepT W W2 := fun B t cs h1 h2 h3 => k B t cs h1 h2 (h B t cs h1 h2 h3)
theorem KeepT.below {W W' : World} (h : Below W.heap.size W W') : KeepT W W' := fun _ _ _ _ _ h3 => h3.below h h3.lt
theorem pk_ne {w : World} {A P t u : Nat} {cs ds : Array Value} (h : Blk w A t cs) (k : Blk w P u ds) (hne : t ≠ u) : A ≠ P := by
 rintro rfl
 have h1 : w.heap[A]? = some (.cells cs t) := h
 have h2 : w.heap[A]? = some (.cells ds u) := k
 rw [h1] at h2
 simp only [Option.some.injEq, Obj.cells.injEq] at h2
 exact hne h2.2.1
theorem pk_row {w : World} {b e s n A t : Nat} {v : Value} {x : List Value} {cs : Array Value} (h : w.ownsRow b e s v n x) (hB : Blk w A t cs) (hne : e ≠ t) : v.ownBlock ≠ some A := by
 rcases trow_blk h hB hne with e | e
 . rw [e]; simp
 . exact e
theorem pk_keep {W W' : World} {P V c : Nat} {v : Value} (hS : SinkAt W P v V c) (hc : Chg W W' P v) : KeepT W W' := fun A _ _ h1 h2 h3 =>
 (hc.2.2 A h3.lt (pk_ne h3 hS.1 h1) (pk_row hS.2.1 h3 (Ne.symm h2))).trans h3
def PK (w0 W : World) (P : Nat) (v : Value) (l : List (Nat × Nat)) : Prop := SinkAt W P v (encV l) (encN l) /\ Below w0.heap.size w0 W /\ w0.heap.size <= P
theorem PK.below {w0 W W' : World} {P : Nat} {v : Value} {l : List (Nat × Nat)} (h : PK w0 W P v l) (hb : Below W.heap.size W W') : PK w0 W' P v l := by
 have hlt := World.ownsRow.lt h.1.2.1
 refine ⟨⟨h.1.1.below hb h.1.1.lt, ⟨h.1.2.1.1, ?_⟩, h.1.2.2⟩, h.2.1.trans (hb.mono h.2.1.size), h.2.2⟩
 rcases h.1.2.1.2 with h2 | ⟨g, cap, cur, rfl, h3, h4, h5⟩
 . exact .inl h2
 . exact .inr ⟨g, cap, cur, rfl, h3, (hb.block g (hlt g rfl).2).trans h4, h5⟩
theorem PK.drew {w0 W : World} {P : Nat} {v : Value} {l : List (Nat × Nat)} (h : PK w0 W P v l) : PK w0 W.drew P v l := h.below ⟨rfl, rfl, rfl, Qa _, fun _ _ => rfl⟩
theorem PK.drewN {w0 W : World} {P : Nat} {v : Value} {l : List (Nat × Nat)} (h : PK w0 W P v l) (n : Nat) : PK w0 (W.drewN n) P v l := h.below ⟨rfl, rfl, rfl, Qa _, fun _ _ => rfl⟩
theorem PK.new (w : World) : PK w (w.alloc (.cells #[.slice none 0 0, .int .u64 0, .int .i64 0] 87)) w.heap.size (.slice none 0 0) [] :=
 ⟨⟨Blk.new w 87 _, World.ownsRow_nil _ _ _ _, by decide⟩, (Below.refl w.heap.size w).alloc (Qa _) _, Qa _⟩
theorem PK.chg {w0 W W' : World} {P : Nat} {v v' : Value} {l l' : List (Nat × Nat)} (h : PK w0 W P v l) (hS : SinkAt W' P v' (encV l') (encN l')) (hc : Chg W W' P v) : PK w0 W' P v' l' :=
 ⟨hS, hc.below h.2.1 h.2.2 fun g e => by have := (World.ownsRow.lt h.1.2.1 g e).1; have := h.2.2; omega, h.2.2⟩
theorem put_pk (w0 : World) (P : Nat) (v : Value) (l : List (Nat × Nat)) (x k : Nat) (N : Int) (hx : x < 4294967296) (hN : Clamp N k) (hc : encN l <= 900000000) (W : World) (h : PK w0 W P v l) :
 Calls Try.prog 43 #[.pointer (some ⟨P, 0, none⟩), .int .u32 (x : Int), .int .i64 N] W fun e W' => e = .returned (.tuple #[]) /\ ∃ v', PK w0 W' P v' (l ++ [(x, k)]) /\ KeepT W W' :=
 (sinkPut_any P v _ _ x k N hx hN (by omega) W h.1).mono fun e W' ⟨h1, v', h2, h3, _⟩ => ⟨h1, v', h.chg (by rw [encV_snoc, encN_snoc]; exact h2) h3, pk_keep h.1 h3⟩
theorem turn_pk (w0 : World) (P : Nat) (v : Value) (l : List (Nat × Nat)) (x k : Nat) (N : Int) (hx : x < 4294967296) (hN : Clamp N k) (hc : encN l <= 900000000) (W : World) (h : PK w0 W P v l) :
 Calls Try.prog 95 #[.pointer (some ⟨P, 0, none⟩), .int .u32 (x : Int), .int .i64 N] W fun e W' => e = .returned (.tuple #[]) /\ ∃ v', PK w0 W' P v' (l ++ [(rev x k, k)]) /\ KeepT W W' :=
 (sinkTurn_any P v _ _ x k N hx hN (by omega) W h.1).mono fun e W' ⟨h1, v', h2, h3, _⟩ => ⟨h1, v', h.chg (by rw [encV_snoc, encN_snoc]; exact h2) h3, pk_keep h.1 h3⟩
theorem all_pk (w0 : World) (P : Nat) (v : Value) (l : List (Nat × Nat)) (hc : encN l <= 900000000) (W : World) (h : PK w0 W P v l) :
 Calls Try.prog 46 #[.pointer (some ⟨P, 0, none⟩)] W fun e W' => e = .returned (.string (encB l)) /\ Below W.heap.size W W' :=
 sinkAll_any P v _ _ (by omega) W h.1
theorem size_lim (far : Bool) (i : Nat) (h : i <= 29) : (sizeS far (i : Int)).1 <= 100000 /\ (sizeS far (i : Int)).2 <= 14 := by
 have key : ∀ i : Nat, i < 30 -> ((sizeS false (i : Int)).1 <= 100000 /\ (sizeS false (i : Int)).2 <= 14) /\ ((sizeS true (i : Int)).1 <= 100000 /\ (sizeS true (i : Int)).2 <= 14) := by decide
 cases far
 . exact (key i (by omega)).1
 . exact (key i (by omega)).2
theorem tokE_le (L : Nat -> Nat) (c : Nat) (D : Nat -> Nat) (d : Nat) (t : Tok) (hL : ∀ i, L i <= 15) (hD : ∀ i, D i <= 15) (h : (t.l = 0 /\ t.d = 0) \/ (t.l ≠ 0 /\ t.b = 0 /\ 3 <= t.l /\ t.l <= 258 /\ 1 <= t.d /\ t.d <= 32768)) : encN (tokE L c D d t) <= 60 := by
 unfold tokE
 rcases h with ⟨h0, _⟩ | ⟨h0, _, h1⟩
 . rw [if_pos h0]
   have := hL t.b.toNat
   simp only [encN, symE]; omega
 . rw [if_neg h0]
   obtain ⟨a, b⟩ := tok_syms t h1
   have := hL (257 + lsym t)
   have := hD (dsym t)
   have := (size_lim false (lsym t) (by omega)).2
   have := (size_lim true (dsym t) (by omega)).2
   simp only [encN, symE]; omega
theorem toksE_le (L : Nat -> Nat) (c : Nat) (D : Nat -> Nat) (d : Nat) (S : List Tok) (hL : ∀ i, L i <= 15) (hD : ∀ i, D i <= 15) (h : ∀ t ∈ S, (t.l = 0 /\ t.d = 0) \/ (t.l ≠ 0 /\ t.b = 0 /\ 3 <= t.l /\ t.l <= 258 /\ 1 <= t.d /\ t.d <= 32768)) : encN (toksE L c D d S) <= 60 * S.length := by
 induction S with
 | nil => exact Nat.zero_le _
 | cons t S ih =>
  rw [toksE_cons, encN_app, List.length_cons]
  have := tokE_le L c D d t hL hD (h t (List.mem_cons_self ..))
  have := ih fun x hx => h x (List.mem_cons_of_mem _ hx)
  omega
theorem size_any (far : Bool) (i : Int) (w : World) : Calls Try.prog 90 #[.int .i64 i, .bool far] w fun e w' => e = .returned (.tuple #[.int .i64 ((sizeS far i).1 : Int), .int .i64 ((sizeS far i).2 : Int)]) /\ ∃ n, w' = w.drewN n := by
 cases far
 . exact size_near i w
 . exact size_far i w
set_option maxHeartbeats 8000000 in
theorem symbol_any (far : Bool) (n : Nat) (h0 : 0 < (sizeS far 0).1 /\ (sizeS far 0).1 <= n) (hn : n <= 40000) (w : World) :
 Calls Try.prog 78 #[.int .i64 (n : Int), .bool far] w fun e w' => e = .returned (.tuple #[.int .i64 ((symF far n 30 : Nat) : Int), .int .u32 ((n - (sizeS far (symF far n 30 : Nat)).1 : Nat) : Int), .int .i64 ((sizeS far (symF far n 30 : Nat)).2 : Int)]) /\ ∃ m, w' = w.drewN m := by
 obtain ⟨Y, HY⟩ := Qi (symF far n 30)
 rw [HY.out]
 have H0 := Qf h0
 clear h0
 go_enter Try.func78, Try.ntmps78
 go_wp2_with fail
 go_loopw [7] (fun i_ wr => ∃ j m : Nat, j <= 29 /\ i_ = .int .i64 (j : Int) /\ Hid (symF far n (j + 1) = Y) /\ wr = w.drewN m) (fun i _ => (intOf i).toNat)
 case atStart => exact ⟨29, 0, Qa _, rfl, HY, by first | rfl | trivial⟩
 case round =>
  obtain ⟨j, m, hj, rfl, HS, hwr⟩ := hrel
  have CS := Qf (size_any far (j : Int) wr)
  obtain ⟨⟨b, mo⟩, Hsz⟩ : ∃ R, Hid (sizeS far (j : Int) = R) := ⟨_, Qf (Eq.refl _)⟩
  rw [Hsz.out] at CS
  dsimp only at CS
  have hlim := size_lim far j hj
  rw [Hsz.out] at hlim
  dsimp only at hlim
  have hb : b <= 100000 := hlim.1
  have Hwr := Qf hwr
  clear hlim hwr
  go_wp2_with fail
  refine CS.out.mono ?_
  rintro e w2 ⟨rfl, m2, rfl⟩
  by_cases hb0 : 0 < b
  . have d0 : decide ((0 : Int) < (b : Int)) = true := Qg (by omega)
    have d0b : decide (0 < b) = true := Qg (by omega)
    by_cases hbn : b <= n
    . have d1 : decide ((b : Int) <= (n : Int)) = true := Qg (by omega)
      have d1b : decide (b <= n) = true := Qg (by omega)
      have hY : Y = j := by
       rw [<- HS.out]
       exact if_pos ⟨by rw [Hsz.out]; exact hb0, by rw [Hsz.out]; exact hbn⟩
      obtain ⟨x, Hx⟩ := Qi (n - b)
      have hxv := Hx.out
      have v1 : IntKind.i64.wrap ((n : Int) - (b : Int)) = (x : Int) := by rw [IntKind.wrap_i64]; omega
      have v2 : (n : Int) - (b : Int) = (x : Int) := by omega
      have v3 : IntKind.u32.wrap (x : Int) = (x : Int) := by rw [IntKind.wrap_u32]; omega
      have hx4 : x <= 40000 := by omega
      have v4 : (x : Int) % 4294967296 = (x : Int) := by omega
      clear hxv
      go_wp2_with fail
      go_ret3
      refine ⟨?_, m + m2, by rw [Hwr.out, World.drewN_drewN]⟩
      rw [hY, Hsz.out]
      dsimp only
      rw [Hx.out]
      rfl
    . have d1 : decide ((b : Int) <= (n : Int)) = false := Qh (by omega)
      have d1b : decide (b <= n) = false := Qh (by omega)
      have hstep : symF far n j = Y := by
       rw [<- HS.out]
       exact (if_neg (fun h => hbn (by have := h.2; rw [Hsz.out] at this; exact this))).symm
      obtain ⟨q, rfl⟩ : ∃ q, j = q + 1 := by
       by_cases hj0 : j = 0
       . subst hj0
         have := H0.out.2
         have e : sizeS far 0 = (b, mo) := Hsz.out
         rw [e] at this
         exact absurd this hbn
       . exact ⟨j - 1, by omega⟩
      have Hstep := Qf hstep
      have v5 : ((q + 1 : Nat) : Int) - 1 = (q : Int) := by omega
      clear hstep
      go_wp2_with fail
      go_roundw
      case rel => exact ⟨q, m + m2, by omega, by go_num, Hstep, by rw [Hwr.out, World.drewN_drewN]⟩
      case measure => simp [intOf]
  . have d0 : decide ((0 : Int) < (b : Int)) = false := Qh (by omega)
    have d0b : decide (0 < b) = false := Qh (by omega)
    have hstep : symF far n j = Y := by
     rw [<- HS.out]
     exact (if_neg (fun h => hb0 (by have := h.1; rw [Hsz.out] at this; exact this))).symm
    obtain ⟨q, rfl⟩ : ∃ q, j = q + 1 := by
     by_cases hj0 : j = 0
     . subst hj0
       have := H0.out.1
       have e : sizeS far 0 = (b, mo) := Hsz.out
       rw [e] at this
       exact absurd this hb0
     . exact ⟨j - 1, by omega⟩
    have Hstep := Qf hstep
    clear hstep
    go_wp2_with fail
    go_roundw
    case rel => exact ⟨q, m + m2, by omega, by go_num, Hstep, by rw [Hwr.out, World.drewN_drewN]⟩
    case measure => simp [intOf]
theorem symF_30 (n : Nat) : symF false n 30 = symF false n 29 := by
 show (if 0 < (sizeS false ((29 : Nat) : Int)).1 /\ _ then 29 else symF false n 29) = _
 rw [if_neg (fun h => absurd h.1 (by decide))]
set_option maxHeartbeats 8000000 in
theorem put_any7 (w0 : World) (P : Nat) (v : Value) (l : List (Nat × Nat)) (gc n cap s : Nat) (F L : Nat -> Nat) (hs : s < n) (_hn : n <= 1000) (hL : L s <= 15) (hF : F s < 4294967296) (hc : encN l <= 900000000) (W : World) (h : PK w0 W P v l) (hB : Blk W gc 139 (ccells n F L)) :
 Calls Try.prog 77 #[.pointer (some ⟨P, 0, none⟩), .slice (some ⟨gc, 0, none⟩) n cap, .int .i64 (s : Int)] W fun e W' => e = .returned (.tuple #[]) /\ ∃ v', PK w0 W' P v' (l ++ [(rev (F s) (L s), L s)]) /\ KeepT W W' := by
 have HB := Qf hB
 have hBk := hB
 have k0 := hBk.cell (s * 2)
 rw [ccells_bits n F L s (s * 2) rfl hs] at k0
 have k1 := hBk.cell (s * 2 + 1)
 rw [ccells_len n F L s (s * 2 + 1) rfl hs] at k1
 obtain ⟨k, Hk⟩ := Qi (L s)
 obtain ⟨f, Hf⟩ := Qi (F s)
 rw [Hf.out] at k0 hF ⊢
 rw [Hk.out] at k1 hL ⊢
 have HTn := Qf (turn_pk w0 P v l f k (k : Int) hF (.inr (.inl ⟨rfl, by omega⟩)) hc W.drew h.drew)
 obtain ⟨l2, Hl2⟩ := Qi (l ++ [(rev f k, k)])
 rw [Hl2.out] at HTn ⊢
 have k0d : W.drew.cell? ⟨gc, s * 2, none⟩ = some (.int .u32 (f : Int)) := k0
 have k1d : W.drew.cell? ⟨gc, s * 2 + 1, none⟩ = some (.int .i64 (k : Int)) := k1
 have hsI : (s : Int) < (n : Int) := by omega
 clear hBk k0 k1 h hB
 go_enter Try.func77, Try.ntmps77
 go_wp2_with fail
 go_region_held3 (fun W => W.cell? ⟨gc, s * 2, none⟩ = some (.int .u32 (f : Int)) /\ W.cell? ⟨gc, s * 2 + 1, none⟩ = some (.int .i64 (k : Int)))
  (first | exact ⟨by assumption, by assumption⟩ | go_keep)
  (first
   | (go_at_call 95; refine HTn.out.mono ?_; rintro e w8 ⟨rfl, v8, hp8, hkt8⟩; have q3 := hp8; have hBk8 := hkt8 gc 139 _ (by decide) (by decide) HB.out.drew; have q0 := hBk8.cell (s * 2); have q1 := hBk8.cell (s * 2 + 1); rw [ccells_bits n F L s (s * 2) rfl hs, Hf.out] at q0; rw [ccells_len n F L s (s * 2 + 1) rfl hs, Hk.out] at q1))
 have HP8 := Qf q3
 have HK8 : Hid (KeepT W w8) := fun B t cs h1 h2 h3 => hkt8 B t cs h1 h2 h3
 clear q0 q1 q3 hBk8 hp8 hkt8
 go_wp2_with fail
 (try simp only [Exit.inBlock, Exit.then]); refine bodyPost_end (results_none rfl _ _ _) rfl ?_
 exact ⟨rfl, v8, HP8.out, HK8.out⟩
theorem tok_upd7 (S : List Tok) (j : Nat) (hj : j < S.length) (L : Nat -> Nat) (c : Nat) (D : Nat -> Nat) (d : Nat) : toksE L c D d (S.take (j + 1)) = toksE L c D d (S.take j) ++ tokE L c D d (tk S j) := by
 rw [List.take_succ_eq_append_getElem hj, <- tk_get hj, toksE_app]
 congr 1
 show tokE L c D d (tk S j) ++ [] = _
 rw [List.append_nil]
def TokW (n1 n2 : Nat) (t : Tok) : Prop := (t.l = 0 /\ t.d = 0 /\ t.b.toNat < n1) \/ (t.l ≠ 0 /\ t.b = 0 /\ 3 <= t.l /\ t.l <= 258 /\ 1 <= t.d /\ t.d <= 32768 /\ 257 + lsym t < n1 /\ dsym t < n2)
theorem TokW.ok {n1 n2 : Nat} {t : Tok} (h : TokW n1 n2 t) : (t.l = 0 /\ t.d = 0) \/ (t.l ≠ 0 /\ t.b = 0 /\ 3 <= t.l /\ t.l <= 258 /\ 1 <= t.d /\ t.d <= 32768) := by
 rcases h with ⟨a, b, _⟩ | ⟨a, b, c, d, e, f, _⟩
 . exact .inl ⟨a, b⟩
 . exact .inr ⟨a, b, c, d, e, f⟩
set_option maxHeartbeats 32000000 in
theorem body_any (w0 : World) (P : Nat) (v : Value) (l : List (Nat × Nat)) (S : List Tok) (a : Option Addr) (cap G1 n1 c1 G2 n2 c2 : Nat) (L D : Nat -> Nat) (hS : S.length <= 100000) (hn1 : 257 <= n1 /\ n1 <= 320) (hn2 : n2 <= 320) (hL : ∀ i, L i <= 15) (hD : ∀ i, D i <= 15)
 (hF : ∀ i, i < n1 -> bitsF L n1 i < 4294967296) (hE : ∀ i, i < n2 -> bitsF D n2 i < 4294967296) (hc : encN l <= 1000000) (ht : ∀ t ∈ S, TokW n1 n2 t)
 (W : World) (h : PK w0 W P v l) (hr : TkRow w0 a S) (hB1 : Blk W G1 139 (ccells n1 (bitsF L n1) L)) (hB2 : Blk W G2 139 (ccells n2 (bitsF D n2) D)) :
 Calls Try.prog 60 #[.pointer (some ⟨P, 0, none⟩), .slice a S.length cap, .slice (some ⟨G1, 0, none⟩) n1 c1, .slice (some ⟨G2, 0, none⟩) n2 c2] W fun e W' => e = .returned (.tuple #[]) /\ ∃ v', PK w0 W' P v' (l ++ toksE L n1 D n2 S ++ [symE L n1 256]) /\ KeepT W W' := by
 have HR := Qf hr
 have Ht := Qf ht
 have HL15 := Qf hL
 have HD15 := Qf hD
 obtain ⟨F, HFd⟩ := Qi (bitsF L n1)
 obtain ⟨E, HEd⟩ := Qi (bitsF D n2)
 rw [HFd.out] at hF hB1
 rw [HEd.out] at hE hB2
 have HF := Qf hF
 have HE := Qf hE
 have HsE : Hid (∀ i, symE L n1 i = (rev (F i) (L i), L i)) := by show ∀ i, _; rw [<- HFd.out]; exact fun i => rfl
 have HsD : Hid (∀ i, symE D n2 i = (rev (E i) (D i), D i)) := by show ∀ i, _; rw [<- HEd.out]; exact fun i => rfl
 have CP1 : Hid (∀ (s : Nat) (v : Value) (l : List (Nat × Nat)) (W : World), s < n1 -> encN l <= 900000000 -> PK w0 W P v l -> Blk W G1 139 (ccells n1 F L) -> Calls Try.prog 77 #[.pointer (some ⟨P, 0, none⟩), .slice (some ⟨G1, 0, none⟩) n1 c1, .int .i64 (s : Int)] W fun e W' => e = .returned (.tuple #[]) /\ ∃ v', PK w0 W' P v' (l ++ [(rev (F s) (L s), L s)]) /\ KeepT W W') :=
  fun s v l W h1 h2 h3 h4 => put_any7 w0 P v l G1 n1 c1 s F L h1 (by omega) (HL15.out s) (HF.out s h1) h2 W h3 h4
 have CP2 : Hid (∀ (s : Nat) (v : Value) (l : List (Nat × Nat)) (W : World), s < n2 -> encN l <= 900000000 -> PK w0 W P v l -> Blk W G2 139 (ccells n2 E D) -> Calls Try.prog 77 #[.pointer (some ⟨P, 0, none⟩), .slice (some ⟨G2, 0, none⟩) n2 c2, .int .i64 (s : Int)] W fun e W' => e = .returned (.tuple #[]) /\ ∃ v', PK w0 W' P v' (l ++ [(rev (E s) (D s), D s)]) /\ KeepT W W') :=
  fun s v l W h1 h2 h3 h4 => put_any7 w0 P v l G2 n2 c2 s E D h1 (by omega) (HD15.out s) (HE.out s h1) h2 W h3 h4
 have CPu := Qf (put_pk w0 P)
 obtain ⟨M, HM⟩ := Qi (S.length)
 rw [HM.out] at hS ⊢
 obtain ⟨l0, Hl0⟩ : ∃ l0, Hid (l0 = l ++ toksE L n1 D n2 (S.take 0)) := ⟨l, by show l = l ++ []; rw [List.append_nil]⟩
 have hl0 : l0 = l := by rw [Hl0.out]; exact List.append_nil l
 have HP0 : Hid (PK w0 W P v l0) := by rw [hl0]; exact h
 have Hle0 : Hid (encN l0 <= encN l + 60 * 0) := by rw [hl0]; exact Qa _
 have HK0 : Hid (KeepT W W) := fun _ _ _ _ _ x => x
 have HB1 := Qf hB1
 have HB2 := Qf hB2
 clear hr ht hL hD hF hE hB1 hB2 h hl0
 go_enter Try.func60, Try.ntmps60
 go_wp2_with fail
 go_loopw [15] (fun j_ wr => ∃ (j : Nat) (v : Value) (lx : List (Nat × Nat)), j <= M /\ j_ = .int .i64 (j : Int) /\ Hid (PK w0 wr P v lx) /\ Hid (lx = l ++ toksE L n1 D n2 (S.take j)) /\ Hid (encN lx <= encN l + 60 * j) /\ Hid (KeepT W wr)) (fun j _ => M - (intOf j).toNat)
 case atStart => exact ⟨0, v, l0, by omega, rfl, HP0, Hl0, Hle0, HK0⟩
 case round =>
  clear HP0 Hl0 Hle0 HK0
  obtain ⟨j, v, lx, hj, rfl, HPl, Hl, Hle, HK⟩ := hrel
  by_cases hlt : j < M
  . have dj : decide ((j : Int) < (M : Int)) = true := Qg (by omega)
    have hlI : (j : Int) < (M : Int) := by omega
    have hjS : j < S.length := by rw [HM.out]; exact hlt
    obtain ⟨b, off, rfl, _, c0, c1', c2'⟩ := (HR.out.below HPl.out.2.1 (Qa _)).get j hjS
    have hmem : tk S j ∈ S := by rw [tk_get hjS]; exact List.getElem_mem _
    have htk := tok_upd7 S j hjS L n1 D n2
    have hok := Ht.out _ hmem
    have hle60 := tokE_le L n1 D n2 (tk S j) HL15.out HD15.out hok.ok
    obtain ⟨⟨tb, tl, td⟩, Htt⟩ : ∃ R, Hid (tk S j = R) := ⟨_, Qf (Eq.refl _)⟩
    rw [Htt.out] at c0 c1' c2' htk hok hle60
    dsimp only at c0 c1' c2'
    have Htk := Qf htk
    have Hle60 := Qf hle60
    have hBA := Blk.new wr 110 #[.int .u8 (tb.toNat : Int), .int .i64 tl, .int .i64 td]
    have HBA := Qf hBA
    have hal := (Below.refl wr.heap.size wr).alloc (Qa _) (.cells #[.int .u8 (tb.toNat : Int), .int .i64 tl, .int .i64 td] 110)
    have HPa := Qf (HPl.out.below hal)
    have HKa := Qf (HK.out.trans (KeepT.below hal))
    have ht0 : (wr.alloc (.cells #[.int .u8 (tb.toNat : Int), .int .i64 tl, .int .i64 td] 110)).cell? ⟨wr.heap.size, 0, none⟩ = some (.int .u8 (tb.toNat : Int)) := hBA.cell 0
    have ht1 : (wr.alloc (.cells #[.int .u8 (tb.toNat : Int), .int .i64 tl, .int .i64 td] 110)).cell? ⟨wr.heap.size, 1, none⟩ = some (.int .i64 tl) := hBA.cell 1
    have hbyte := tb.toNat_lt
    clear htk hle60 hmem hBA hal HPl HK
    by_cases hl0 : tl = 0
    . subst hl0
      have d1 : ((0 : Int) == 0) = true := rfl
      obtain ⟨σ, Hσ⟩ := Qi (tb.toNat)
      have hσn : σ < n1 := by
       rw [<- Hσ.out]
       rcases hok with ⟨_, _, h⟩ | ⟨h, _⟩
       . exact h
       . exact absurd rfl h
      rw [Hσ.out] at c0 HBA HPa HKa ht0 ht1 hbyte
      have w20 : wrap64 (σ : Int) = (σ : Int) := by unfold wrap64; omega
      have CPs := Qf (CP1.out σ v lx _ hσn (by have := Hle.out; omega) HPa.out (HKa.out G1 139 _ (by decide) (by decide) HB1.out))
      obtain ⟨l2, Hl2⟩ := Qi (lx ++ [(rev (F σ) (L σ), L σ)])
      rw [Hl2.out] at CPs
      have hll : Hid (l2 = l ++ toksE L n1 D n2 (S.take (j + 1))) := by
       show _ = _
       rw [Htk.out, <- Hl2.out, Hl.out, List.append_assoc]
       congr 2
       show _ = [symE L n1 tb.toNat]
       rw [HsE.out, Hσ.out]
      have hlen2 : Hid (encN l2 <= encN l + 60 * (j + 1)) := by
       show _ <= _
       rw [<- Hl2.out, encN_snoc]
       have := Hle.out
       have := HL15.out σ
       omega
      clear hok
      go_wp2_with fail
      refine CPs.out.mono ?_
      rintro e w8 ⟨rfl, v8, hp8, hk8⟩
      have HP8 := Qf hp8
      have HK8 := Qf (HKa.out.trans hk8)
      clear hp8 hk8 CPs
      go_wp2_with fail
      go_roundw
      case rel => exact ⟨j + 1, v8, l2, by omega, by go_num, HP8, hll, hlen2, HK8⟩
      case measure => simp [intOf]; omega
    . have d1 : (tl == 0) = false := by simp; exact hl0
      obtain ⟨_, htb, h3, h258, hd1, hd32, hs1, hs2⟩ := hok.resolve_left fun h => hl0 h.1
      obtain ⟨n, rfl⟩ : ∃ n : Nat, tl = (n : Int) := ⟨tl.toNat, by dsimp only at h3; omega⟩
      obtain ⟨dd, rfl⟩ : ∃ n : Nat, td = (n : Int) := ⟨td.toNat, by dsimp only at hd1; omega⟩
      dsimp only at h3 h258 hd1 hd32
      have CS1 := Qf (fun W => symbol_any false n ⟨by decide, by show 3 <= n; omega⟩ (by omega) W)
      have CS2 := Qf (fun W => symbol_any true dd ⟨by decide, by show 1 <= dd; omega⟩ (by omega) W)
      have e1 : symF false n 30 = lsym ⟨tb, (n : Int), (dd : Int)⟩ := symF_30 n
      have e2 : symF true dd 30 = dsym ⟨tb, (n : Int), (dd : Int)⟩ := rfl
      rw [e1] at CS1
      rw [e2] at CS2
      obtain ⟨i1, Hi1⟩ := Qi (lsym ⟨tb, (n : Int), (dd : Int)⟩)
      obtain ⟨i2, Hi2⟩ := Qi (dsym ⟨tb, (n : Int), (dd : Int)⟩)
      rw [Hi1.out] at CS1 hs1
      rw [Hi2.out] at CS2 hs2
      have hlims := tok_syms ⟨tb, (n : Int), (dd : Int)⟩ ⟨by dsimp only; omega, by dsimp only; omega, by dsimp only; omega, by dsimp only; omega⟩
      rw [Hi1.out, Hi2.out] at hlims
      have hm1 := (size_lim false i1 (by omega)).2
      have hm2 := (size_lim true i2 (by omega)).2
      obtain ⟨⟨b1, m1⟩, Hb1⟩ : ∃ R, Hid (sizeS false (i1 : Int) = R) := ⟨_, Qf (Eq.refl _)⟩
      obtain ⟨⟨b2, m2⟩, Hb2⟩ : ∃ R, Hid (sizeS true (i2 : Int) = R) := ⟨_, Qf (Eq.refl _)⟩
      rw [Hb1.out] at CS1 hm1
      rw [Hb2.out] at CS2 hm2
      dsimp only at CS1 CS2 hm1 hm2
      obtain ⟨x1, Hx1⟩ := Qi (n - b1)
      obtain ⟨x2, Hx2⟩ := Qi (dd - b2)
      have hx1 : x1 < 4294967296 := by have := Hx1.out; omega
      have hx2 : x2 < 4294967296 := by have := Hx2.out; omega
      rw [Hx1.out] at CS1
      rw [Hx2.out] at CS2
      obtain ⟨q, Hq⟩ := Qi (257 + i1)
      have hqv := Hq.out
      have v1 : IntKind.i64.wrap ((257 : Int) + (i1 : Int)) = (q : Int) := by rw [IntKind.wrap_i64]; omega
      have hqn : q < n1 := by omega
      obtain ⟨la, Hla⟩ := Qi (lx ++ [(rev (F q) (L q), L q)])
      obtain ⟨lb, Hlb⟩ := Qi (la ++ [(x1, m1)])
      obtain ⟨lc, Hlc⟩ := Qi (lb ++ [(rev (E i2) (D i2), D i2)])
      obtain ⟨ld, Hld⟩ := Qi (lc ++ [(x2, m2)])
      have g0 := Hle.out
      have ga : encN la <= encN lx + 15 := by rw [<- Hla.out, encN_snoc]; have := HL15.out q; omega
      have gb : encN lb <= encN la + 14 := by rw [<- Hlb.out, encN_snoc]; omega
      have gc : encN lc <= encN lb + 15 := by rw [<- Hlc.out, encN_snoc]; have := HD15.out i2; omega
      have gd : encN ld <= encN lc + 14 := by rw [<- Hld.out, encN_snoc]; omega
      have Hga : Hid (encN la <= 900000000) := by show _ <= _; omega
      have Hgb : Hid (encN lb <= 900000000) := by show _ <= _; omega
      have Hgc : Hid (encN lc <= 900000000) := by show _ <= _; omega
      have Hgx : Hid (encN lx <= 900000000) := by show _ <= _; omega
      have hlen2 : Hid (encN ld <= encN l + 60 * (j + 1)) := by show _ <= _; omega
      have hll : Hid (ld = l ++ toksE L n1 D n2 (S.take (j + 1))) := by
       show _ = _
       have ht : tokE L n1 D n2 ⟨tb, (n : Int), (dd : Int)⟩ = [symE L n1 (257 + lsym ⟨tb, (n : Int), (dd : Int)⟩), (n - (sizeS false (lsym ⟨tb, (n : Int), (dd : Int)⟩ : Nat)).1, (sizeS false (lsym ⟨tb, (n : Int), (dd : Int)⟩ : Nat)).2), symE D n2 (dsym ⟨tb, (n : Int), (dd : Int)⟩), (dd - (sizeS true (dsym ⟨tb, (n : Int), (dd : Int)⟩ : Nat)).1, (sizeS true (dsym ⟨tb, (n : Int), (dd : Int)⟩ : Nat)).2)] := if_neg (by show ¬ (n : Int) = 0; omega)
       rw [Htk.out, <- Hld.out, <- Hlc.out, <- Hlb.out, <- Hla.out, Hl.out, ht, HsE.out, HsD.out, Hi1.out, Hi2.out, Hb1.out, Hb2.out, Hq.out]
       dsimp only
       rw [Hx1.out, Hx2.out]
       simp only [List.append_assoc, List.cons_append, List.nil_append]
      obtain ⟨Bx, HBx⟩ := Qi (wr.heap.size)
      clear hok htb hlims hqv g0 ga gb gc gd e1 e2 ht0 h3 h258 hd1 hd32
      go_wp2_with fail
      obtain ⟨W9, HW9⟩ := Qi ((wr.alloc (.cells #[.int .u8 (tb.toNat : Int), .int .i64 (n : Int), .int .i64 (dd : Int)] 110)))
      rw [HW9.out] at HPa HBA HKa ht1 ⊢
      rw [HBx.out] at HBA ht1 ⊢
      clear HW9 HBx
      refine (CS1.out _).mono ?_
      rintro e wa ⟨rfl, na, rfl⟩
      have HPb := Qf (HPa.out.drewN na)
      have HTb := Qf (HBA.out.drewN na)
      have HKb := Qf (HKa.out.trans (KeepT.below (below_drewN (Below.refl _ _) na)))
      have tc2 : (W9.drewN na).cell? ⟨Bx, 2, none⟩ = some (.int .i64 (dd : Int)) := HTb.out.cell 2
      clear HPa HBA HKa ht1
      go_wp2_with fail
      refine (CP1.out q v lx _ hqn Hgx.out HPb.out (HKb.out G1 139 _ (by decide) (by decide) HB1.out)).mono ?_
      rw [Hla.out]
      rintro e wb ⟨rfl, vb, hpb, hkb⟩
      have HPc := Qf hpb
      have HTc := Qf (hkb Bx 110 _ (by decide) (by decide) HTb.out)
      have HKc := Qf (HKb.out.trans hkb)
      clear hpb hkb HPb HTb HKb tc2
      go_wp2_with fail
      refine (CPu.out vb la x1 m1 (m1 : Int) hx1 (.inr (.inl ⟨rfl, by omega⟩)) Hga.out _ HPc.out).mono ?_
      rw [Hlb.out]
      rintro e wc ⟨rfl, vc, hpb, hkb⟩
      have HPd := Qf hpb
      have HTd := Qf (hkb Bx 110 _ (by decide) (by decide) HTc.out)
      have HKd := Qf (HKc.out.trans hkb)
      have tc2 : wc.cell? ⟨Bx, 2, none⟩ = some (.int .i64 (dd : Int)) := HTd.out.cell 2
      clear hpb hkb HPc HTc HKc
      go_wp2_with fail
      refine (CS2.out _).mono ?_
      rintro e wd ⟨rfl, nb, rfl⟩
      have HPe := Qf (HPd.out.drewN nb)
      have HKe := Qf (HKd.out.trans (KeepT.below (below_drewN (Below.refl _ _) nb)))
      clear HPd HTd HKd tc2
      go_wp2_with fail
      refine (CP2.out i2 vc lb _ hs2 Hgb.out HPe.out (HKe.out G2 139 _ (by decide) (by decide) HB2.out)).mono ?_
      rw [Hlc.out]
      rintro e we ⟨rfl, ve, hpb, hkb⟩
      have HPf := Qf hpb
      have HKf := Qf (HKe.out.trans hkb)
      clear hpb hkb HPe HKe
      go_wp2_with fail
      refine (CPu.out ve lc x2 m2 (m2 : Int) hx2 (.inr (.inl ⟨rfl, by omega⟩)) Hgc.out _ HPf.out).mono ?_
      rw [Hld.out]
      rintro e wf ⟨rfl, vf, hpb, hkb⟩
      have HPg := Qf hpb
      have HKg := Qf (HKf.out.trans hkb)
      clear hpb hkb HPf HKf
      go_wp2_with fail
      go_roundw
      case rel => exact ⟨j + 1, vf, ld, by omega, by go_num, HPg, hll, hlen2, HKg⟩
      case measure => simp [intOf]; omega
  . obtain rfl : j = M := by omega
    have dj : decide ((j : Int) < (j : Int)) = false := Qh (by omega)
    have hfull : S.take j = S := by rw [List.take_of_length_le (by rw [HM.out]; exact Qa _)]
    have CPs := Qf (CP1.out 256 v lx wr (by omega) (by have := Hle.out; omega) HPl.out (HK.out G1 139 _ (by decide) (by decide) HB1.out))
    have hlE : lx ++ [(rev (F 256) (L 256), L 256)] = l ++ toksE L n1 D n2 S ++ [symE L n1 256] := by
     rw [Hl.out, hfull, HsE.out]
    rw [hlE] at CPs
    clear hlE hfull
    go_wp2_with fail
    refine CPs.out.mono ?_
    rintro e w8 ⟨rfl, v8, hp8, hk8⟩
    have HP8 := Qf hp8
    have HK8 := Qf (HK.out.trans hk8)
    clear hp8 hk8 CPs
    go_wp2_with fail
    (try simp only [Exit.inBlock, Exit.then]); refine bodyPost_end (results_none rfl _ _ _) rfl ?_
    exact ⟨rfl, v8, HP8.out, HK8.out⟩
theorem tokW_of {most : Int} {S : List Tok} {T : List UInt8} (h : texp most [] S = (T, 0)) : ∀ t ∈ S, TokW 286 30 t /\ TokW 288 32 t := by
 intro t ht
 rcases texp_toks most S [] T h t ht with ⟨a, b⟩ | ⟨a, b, c⟩
 . have := t.b.toNat_lt
   exact ⟨.inl ⟨a, b, by omega⟩, .inl ⟨a, b, by omega⟩⟩
 . have := tok_syms t c
   exact ⟨.inr ⟨a, b, c.1, c.2.1, c.2.2.1, c.2.2.2, by omega, by omega⟩, .inr ⟨a, b, c.1, c.2.1, c.2.2.1, c.2.2.2, by omega, by omega⟩⟩
theorem codes_fixed7 (m : Nat -> Int) (n : Nat) (hn : n <= 320) (h15 : ∀ i, i < n -> 0 <= m i /\ m i <= 15) (hf : Fits (parts (lens m) n) (someOf (lens m) n)) (a : Option Addr) (cap : Nat) (w : World) (hr : IRow w a n m) :
 Calls Try.prog 59 #[.slice a n cap] w fun e w' => ∃ g, e = .returned (.tuple #[.slice (some ⟨g, 0, none⟩) n n, .int .i64 0]) /\ Blk w' g 139 (ccells n (bitsF (lens m) n) (lens m)) /\ Below w.heap.size w w' := by
 refine (codes_any a n cap m (by omega) w hr).mono ?_
 rintro e w' ⟨hb, ⟨h1, _⟩ | ⟨_, ⟨i, h1, h2⟩, _⟩ | ⟨_, _, h1, _⟩ | ⟨_, _, _, v, rfl, g, rfl, hg, hB⟩⟩
 . omega
 . exact absurd (h15 i h1) h2
 . exact absurd hf h1
 . exact ⟨g, rfl, hB, hb⟩
theorem fixL_rng7 (i : Nat) : 0 <= fixL i /\ fixL i <= 15 := by
 unfold fixL
 (repeat' split) <;> omega
set_option maxHeartbeats 16000000 in
theorem packed_fix (S : List Tok) (hS : S.length <= 4000) (b off cap : Nat) (hcap : S.length <= cap) (ht : ∀ t ∈ S, TokW 288 32 t) (w : World) (hr : TkRow w (some ⟨b, off, none⟩) S) :
 Calls Try.prog 40 #[.slice (some ⟨b, off, none⟩) S.length cap, .bool true] w fun e w' => e = .returned (.string (encB (fixE S))) /\ Below w.heap.size w w' := by
 have CL := Qf lengths_any
 have CC1 := Qf (codes_fixed7 fixL 288 (by decide) (fun i _ => fixL_rng7 i) (by decide +kernel))
 have CC2 := Qf (codes_fixed7 (fun _ => 5) 32 (by decide) (fun i _ => by omega) (by decide +kernel))
 obtain ⟨L, HL⟩ := Qi (lens fixL)
 obtain ⟨D, HD⟩ := Qi ((lens fun _ => 5))
 have hL15 : ∀ i, L i <= 15 := by rw [<- HL.out]; exact fun i => lens_15 fixL (i + 1) fixL_15 i (Nat.lt_succ_self i)
 have hD15 : ∀ i, D i <= 15 := by rw [<- HD.out]; exact fun i => by show 5 <= 15; decide
 have hF32 : ∀ i, i < 288 -> bitsF L 288 i < 4294967296 := by
  rw [<- HL.out]
  exact fun i hi => Qb (bitsF_lt _ _ i hi codes_fix.l15 codes_fix.lp) (Qe (Nat.pow_le_pow_right (by decide) (codes_fix.l15 i hi)) (by decide))
 have hE32 : ∀ i, i < 32 -> bitsF D 32 i < 4294967296 := by
  rw [<- HD.out]
  exact fun i hi => Qb (bitsF_lt _ _ i hi codes_fix.d15 codes_fix.dp) (Qe (Nat.pow_le_pow_right (by decide) (codes_fix.d15 i hi)) (by decide))
 have HfE : Hid ([(1, 1), (1, 2)] ++ toksE L 288 D 32 S ++ [symE L 288 256] = fixE S) := by
  show _ = _
  rw [<- HL.out, <- HD.out]
  rfl
 have hlenE : encN (fixE S) <= 300000 := by
  have h1 := toksE_le L 288 D 32 S hL15 hD15 (fun t h => (ht t h).ok)
  rw [<- HfE.out, encN_app, encN_app]
  have h2 := hL15 256
  have e1 : encN [(1, 1), (1, 2)] = 3 := rfl
  have e2 : encN [symE L 288 256] = L 256 + 0 := rfl
  omega
 rw [HL.out] at CC1
 rw [HD.out] at CC2
 have CBody : Hid (∀ (W : World) (v : Value) (G1 G2 : Nat), PK w W w.heap.size v [(1, 1), (1, 2)] -> Blk W G1 139 (ccells 288 (bitsF L 288) L) -> Blk W G2 139 (ccells 32 (bitsF D 32) D) ->
  Calls Try.prog 60 #[.pointer (some ⟨w.heap.size, 0, none⟩), .slice (some ⟨b, off, none⟩) S.length cap, .slice (some ⟨G1, 0, none⟩) 288 288, .slice (some ⟨G2, 0, none⟩) 32 32] W fun e W' => e = .returned (.tuple #[]) /\ ∃ v', PK w W' w.heap.size v' (fixE S) /\ KeepT W W') := by
  intro W v G1 G2 h1 h2 h3
  rw [<- HfE.out]
  exact body_any w w.heap.size v [(1, 1), (1, 2)] S (some ⟨b, off, none⟩) cap G1 288 288 G2 32 32 L D (by omega) ⟨by decide, by decide⟩ (by decide) hL15 hD15 hF32 hE32 (by decide) ht W h1 hr h2 h3
 obtain ⟨M, HM⟩ := Qi (S.length)
 rw [HM.out] at CBody hS hcap ⊢
 obtain ⟨F1, HF1⟩ := Qi (ccells 288 (bitsF L 288) L)
 obtain ⟨F2, HF2⟩ := Qi (ccells 32 (bitsF D 32) D)
 rw [HF1.out] at CC1 CBody
 rw [HF2.out] at CC2 CBody
 obtain ⟨FE, HFE⟩ := Qi (fixE S)
 rw [HFE.out] at CBody hlenE ⊢
 have HP0 := Qf (PK.new w)
 obtain ⟨P, HP⟩ := Qi (w.heap.size)
 rw [HP.out] at CBody HP0
 have CP1 : Hid (∀ W v, PK w W P v [] -> Calls Try.prog 43 #[.pointer (some ⟨P, 0, none⟩), .int .u32 1, .int .i64 1] W fun e W' => e = .returned (.tuple #[]) /\ ∃ v', PK w W' P v' [(1, 1)] /\ KeepT W W') :=
  fun W v h => put_pk w P v [] 1 1 1 (by decide) (.inr (.inl ⟨rfl, by decide⟩)) (by decide) W h
 have CP2 : Hid (∀ W v, PK w W P v [(1, 1)] -> Calls Try.prog 43 #[.pointer (some ⟨P, 0, none⟩), .int .u32 1, .int .i64 2] W fun e W' => e = .returned (.tuple #[]) /\ ∃ v', PK w W' P v' [(1, 1), (1, 2)] /\ KeepT W W') :=
  fun W v h => put_pk w P v [(1, 1)] 1 2 2 (by decide) (.inr (.inl ⟨rfl, by decide⟩)) (by decide) W h
 have CAl := Qf (fun W v h => all_pk w P v FE (by omega) W h)
 have hmin : ∀ W, Sem.run Try.prog (Builtin.min_ #[3, 3] 3 #[.int .i64 (M : Int), .int .i64 4000]) W = .ok (.int .i64 (M : Int)) W := fun W => by
  have e : (if (4000 : Int) < (M : Int) then 4000 else (M : Int)) = (M : Int) := by rw [if_neg (by omega)]
  show Result.ok (Value.int .i64 (if (4000 : Int) < (M : Int) then 4000 else (M : Int))) W = _
  rw [e]
 have dM : ((M : Int) == (M : Int)) = true := by simp
 have hMc : (M : Int) <= (cap : Int) := by omega
 clear hL15 hD15 hF32 hE32 hr ht hcap
 go_enter Try.func40, Try.ntmps40
 go_wp2_with fail
 rw [HP.out]
 refine (CL.out _).mono ?_
 rintro e w3 ⟨g1, c1, g2, rfl, hI1, hI2, -, -, hb3⟩
 have HI1 := Qf hI1
 have HI2 := Qf hI2
 have HP3 := Qf (HP0.out.below hb3)
 clear hI1 hI2 hb3 HP0
 go_wp2_with fail
 refine (CC1.out _ _ _ HI1.out).mono ?_
 rintro e w4 ⟨G1, rfl, hk1, hb4⟩
 have HI2b := Qf (HI2.out.below hb4)
 have HP4 := Qf (HP3.out.below hb4)
 have HK1 := Qf hk1
 clear hk1 hb4 HP3 HI1 HI2
 go_wp2_with fail
 refine (CC2.out _ _ _ HI2b.out).mono ?_
 rintro e w5 ⟨G2, rfl, hk2, hb5⟩
 have HP5 := Qf (HP4.out.below hb5)
 have HK1b := Qf (HK1.out.below hb5 HK1.out.lt)
 have HK2 := Qf hk2
 clear hk2 hb5 HP4 HI2b HK1
 go_wp2_with fail
 go_loopw [0] (fun l_ wr => l_ = .slice (some ⟨b, off, none⟩) M cap /\ Hid (wr = w5)) (fun _ _ => 0)
 case atStart => exact ⟨rfl, Qf (Eq.refl _)⟩
 case round =>
  obtain ⟨rfl, hwr⟩ := hrel
  have hw2 := hwr.out
  subst hw2
  clear hwr
  go_wp2_with fail
  refine (CP1.out _ _ HP5.out).mono ?_
  rintro e w6 ⟨rfl, v6, hp6, hk6⟩
  have HP6 := Qf hp6
  have HK6 := Qf hk6
  clear hp6 hk6
  go_wp2_with fail
  refine (CP2.out _ _ HP6.out).mono ?_
  rintro e w7 ⟨rfl, v7, hp7, hk7⟩
  have HP7 := Qf hp7
  have HK7 := Qf (HK6.out.trans hk7)
  clear hp7 hk7
  go_wp2_with fail
  refine (CBody.out _ v7 G1 G2 HP7.out (HK7.out G1 139 _ (by decide) (by decide) HK1b.out) (HK7.out G2 139 _ (by decide) (by decide) HK2.out)).mono ?_
  rintro e w8 ⟨rfl, v8, hp8, -⟩
  have HP8 := Qf hp8
  clear hp8
  go_wp2_with fail
  all_goals
   refine (CAl.out _ v8 HP8.out).mono ?_
   rintro e w9 ⟨rfl, hb9⟩
   have HB9 := Qf ((HP8.out.below hb9).2.1)
   clear hb9
   go_wp2_with fail
   go_ret
   exact ⟨rfl, HB9.out⟩
def ln (L : List Int) (i : Nat) : Int := L.getD i 0
def runN (L : List Int) (i : Nat) : Nat := ((L.drop i).takeWhile fun x => x == ln L i).length
structure Stp where
 sym : Int
 more : Int
def stepAt (L : List Int) (i : Nat) : Stp × Nat :=
 if ln L i = 0 /\ 11 <= runN L i then (⟨18, ((min (runN L i) 138 : Nat) : Int) - 11⟩, min (runN L i) 138)
 else if ln L i = 0 /\ 3 <= runN L i then (⟨17, ((min (runN L i) 10 : Nat) : Int) - 3⟩, min (runN L i) 10)
 else if 0 < i /\ ln L i = ln L (i - 1) /\ 3 <= runN L i then (⟨16, ((min (runN L i) 6 : Nat) : Int) - 3⟩, min (runN L i) 6)
 else (⟨ln L i, 0⟩, 1)
theorem stepAt_pos (L : List Int) (i : Nat) : 1 <= (stepAt L i).2 := by
 unfold stepAt
 split
 . simp only; omega
 . split
   . simp only; omega
   . split
     . simp only; omega
     . exact Qa _
def stepsFrom (L : List Int) (i : Nat) : List Stp :=
 if i < L.length then (stepAt L i).1 :: stepsFrom L (i + (stepAt L i).2) else []
termination_by L.length - i
decreasing_by
 have := stepAt_pos L i
 omega
theorem stepsFrom_in (L : List Int) (i : Nat) (h : i < L.length) : stepsFrom L i = (stepAt L i).1 :: stepsFrom L (i + (stepAt L i).2) := by
 rw [stepsFrom, if_pos h]
theorem stepsFrom_out (L : List Int) (i : Nat) (h : ¬ i < L.length) : stepsFrom L i = [] := by
 rw [stepsFrom, if_neg h]
theorem tw_len (x : Int) (M : List Int) (n : Nat) (hn : n <= M.length) (h1 : ∀ j, j < n -> M.getD j 0 = x) (h2 : n = M.length \/ M.getD n 0 ≠ x) : (M.takeWhile fun y => y == x).length = n := by
 induction M generalizing n with
 | nil => simp at hn; subst hn; rfl
 | cons y r ih =>
  cases n with
  | zero =>
   have h3 : y ≠ x := by
    rcases h2 with h | h
    . simp at h
    . simpa using h
   have : (y == x) = false := by simpa using h3
   simp [List.takeWhile, this]
  | succ n =>
   have h0 : y = x := by simpa using h1 0 (by omega)
   have : (y == x) = true := by simpa using h0
   simp only [List.takeWhile, this, List.length_cons]
   rw [ih n (by simpa using hn) (fun j hj => by simpa using h1 (j + 1) (by omega)) (by
    rcases h2 with h | h
    . left; simpa using h
    . right; simpa using h)]
theorem runN_eq (L : List Int) (i n : Nat) (hn : i + n <= L.length) (h1 : ∀ j, j < n -> ln L (i + j) = ln L i) (h2 : i + n = L.length \/ ln L (i + n) ≠ ln L i) : runN L i = n := by
 have hd : ∀ j, (L.drop i).getD j 0 = ln L (i + j) := fun j => by simp [ln, List.getD]
 refine tw_len (ln L i) (L.drop i) n (by rw [List.length_drop]; omega) (fun j hj => by rw [hd]; exact h1 j hj) ?_
 rw [hd, List.length_drop]
 rcases h2 with h | h
 . left; omega
 . exact .inr h
def stepE (K : Nat -> Nat) (t : Stp) : List (Nat × Nat) :=
 symE K 19 t.sym.toNat :: (if t.sym = 16 then [(t.more.toNat, 2)] else if t.sym = 17 then [(t.more.toNat, 3)] else if t.sym = 18 then [(t.more.toNat, 7)] else [])
def nL (L : List Int) : List Nat := L.map Int.toNat
def headE (nl nd nc : Nat) (K : Nat -> Nat) (L : List Int) : List (Nat × Nat) :=
 (nl - 257, 5) :: (nd - 1, 5) :: (nc - 4, 4) :: ((ordL.take nc).map (fun s => (K s, 3)) ++ (stepsFrom L 0).flatMap (stepE K))
noncomputable def litN (L : List Int) (nl : Nat) : Nat -> Nat := lens (lenF ((nL L).take nl))
noncomputable def dstN (L : List Int) (nl : Nat) : Nat -> Nat := lens (lenF ((nL L).drop nl))
noncomputable def dynE (nl nd nc : Nat) (K : Nat -> Nat) (L : List Int) (S : List Tok) : List (Nat × Nat) := (1, 1) :: (2, 2) :: (headE nl nd nc K L ++ (toksE (litN L nl) nl (dstN L nl) nd S ++ [symE (litN L nl) nl 256]))
def mrg {α : Type} (w : α -> Int) : List α -> List α -> List α
 | [], r => r
 | a :: l, [] => a :: l
 | a :: l, b :: r => if w b < w a then b :: mrg w (a :: l) r else a :: mrg w l (b :: r)
termination_by l r => l.length + r.length
section
variable {α : Type} (w : α -> Int)
theorem mrg_nil (l : List α) : mrg w [] l = l := by unfold mrg; rfl
theorem mrg_nil' (l : List α) : mrg w l [] = l := by cases l <;> unfold mrg <;> rfl
theorem mrg_cons (a b : α) (l r : List α) : mrg w (a :: l) (b :: r) = if w b < w a then b :: mrg w (a :: l) r else a :: mrg w l (b :: r) := by rw [mrg]
theorem mrg_assoc : ∀ (n : Nat) (a b c : List α), a.length + b.length + c.length <= n -> mrg w (mrg w a b) c = mrg w a (mrg w b c) := by
 intro n
 induction n with
 | zero =>
  intro a b c h
  have : a = [] := List.eq_nil_of_length_eq_zero (by omega)
  subst this
  rw [mrg_nil, mrg_nil]
 | succ n ih =>
  intro a b c h
  cases a with
  | nil => rw [mrg_nil, mrg_nil]
  | cons x l =>
   cases b with
   | nil => rw [mrg_nil', mrg_nil]
   | cons y r =>
    cases c with
    | nil => rw [mrg_nil', mrg_nil']
    | cons z s =>
     simp only [List.length_cons] at h
     rw [mrg_cons w x y l r, mrg_cons w y z r s]
     by_cases h1 : w y < w x
     . rw [if_pos h1]
       by_cases h2 : w z < w y
       . rw [if_pos h2, mrg_cons w y z, if_pos h2, mrg_cons w x z, if_pos (by omega)]
         have := ih (x :: l) (y :: r) s (by simp only [List.length_cons]; omega)
         rw [mrg_cons w x y l r, if_pos h1] at this
         rw [this]
       . rw [if_neg h2, mrg_cons w y z, if_neg h2, mrg_cons w x y, if_pos h1]
         rw [ih (x :: l) r (z :: s) (by simp only [List.length_cons]; omega)]
     . rw [if_neg h1]
       by_cases h2 : w z < w y
       . rw [if_pos h2]
         by_cases h3 : w z < w x
         . rw [mrg_cons w x z, if_pos h3, mrg_cons w x z, if_pos h3]
           have := ih (x :: l) (y :: r) s (by simp only [List.length_cons]; omega)
           rw [mrg_cons w x y l r, if_neg h1] at this
           rw [this]
         . rw [mrg_cons w x z, if_neg h3, mrg_cons w x z, if_neg h3]
           have := ih l (y :: r) (z :: s) (by simp only [List.length_cons]; omega)
           rw [mrg_cons w y z r s, if_pos h2] at this
           rw [this]
       . rw [if_neg h2, mrg_cons w x z, if_neg (by omega), mrg_cons w x y, if_neg h1]
         have := ih l (y :: r) (z :: s) (by simp only [List.length_cons]; omega)
         rw [mrg_cons w y z r s, if_neg h2] at this
         rw [this]
theorem mrg_perm : ∀ (n : Nat) (a b : List α), a.length + b.length <= n -> List.Perm (mrg w a b) (a ++ b) := by
 intro n
 induction n with
 | zero =>
  intro a b h
  have : a = [] := List.eq_nil_of_length_eq_zero (by omega)
  subst this
  rw [mrg_nil]; exact List.Perm.refl _
 | succ n ih =>
  intro a b h
  cases a with
  | nil => rw [mrg_nil]; exact List.Perm.refl _
  | cons x l =>
   cases b with
   | nil => rw [mrg_nil', List.append_nil]
   | cons y r =>
    simp only [List.length_cons] at h
    rw [mrg_cons]
    split
    . refine ((ih (x :: l) r (by simp only [List.length_cons]; omega)).cons y).trans ?_
      exact (List.perm_middle (a := y) (l₁ := x :: l) (l₂ := r)).symm
    . exact (ih l (y :: r) (by simp only [List.length_cons]; omega)).cons x
theorem mrg_len (a b : List α) : (mrg w a b).length = a.length + b.length := by
 rw [(mrg_perm w _ a b (Qa _)).length_eq, List.length_append]
theorem mem_mrg (a b : List α) (x : α) : x ∈ mrg w a b ↔ x ∈ a \/ x ∈ b := by
 rw [(mrg_perm w _ a b (Qa _)).mem_iff, List.mem_append]
def Srt (l : List α) : Prop := l.Pairwise fun a b => w a <= w b
theorem mrg_srt : ∀ (n : Nat) (a b : List α), a.length + b.length <= n -> Srt w a -> Srt w b -> Srt w (mrg w a b) := by
 intro n
 induction n with
 | zero =>
  intro a b h ha hb
  have : a = [] := List.eq_nil_of_length_eq_zero (by omega)
  subst this
  rw [mrg_nil]; exact hb
 | succ n ih =>
  intro a b h ha hb
  cases a with
  | nil => rw [mrg_nil]; exact hb
  | cons x l =>
   cases b with
   | nil => rw [mrg_nil']; exact ha
   | cons y r =>
    simp only [List.length_cons] at h
    have ha' := List.pairwise_cons.1 ha
    have hb' := List.pairwise_cons.1 hb
    rw [mrg_cons]
    split
    . refine List.pairwise_cons.2 ⟨fun z hz => ?_, ih _ _ (by simp only [List.length_cons]; omega) ha hb'.2⟩
      rcases (mem_mrg w _ _ z).1 hz with h1 | h1
      . rcases List.mem_cons.1 h1 with rfl | h1
        . omega
        . have := ha'.1 z h1; omega
      . exact hb'.1 z h1
    . refine List.pairwise_cons.2 ⟨fun z hz => ?_, ih _ _ (by simp only [List.length_cons]; omega) ha'.2 hb⟩
      rcases (mem_mrg w _ _ z).1 hz with h1 | h1
      . exact ha'.1 z h1
      . rcases List.mem_cons.1 h1 with rfl | h1
        . omega
        . have := hb'.1 z h1; omega
theorem mrg_split : ∀ (n : Nat) (l1 l2 r1 r2 : List α), l1.length + r1.length <= n -> (∀ x ∈ l2, ∀ y ∈ r1, w y < w x) -> (∀ x ∈ l1, ∀ y ∈ r2, w x <= w y) -> mrg w (l1 ++ l2) (r1 ++ r2) = mrg w l1 r1 ++ mrg w l2 r2 := by
 intro n
 induction n with
 | zero =>
  intro l1 l2 r1 r2 h _ _
  have e1 : l1 = [] := List.eq_nil_of_length_eq_zero (by omega)
  have e2 : r1 = [] := List.eq_nil_of_length_eq_zero (by omega)
  subst e1 e2
  rw [mrg_nil]; rfl
 | succ n ih =>
  intro l1 l2 r1 r2 h h1 h2
  cases l1 with
  | nil =>
   cases r1 with
   | nil => rw [mrg_nil]; rfl
   | cons y r1 =>
    rw [mrg_nil, List.nil_append]
    have hy : ∀ x ∈ l2, w y < w x := fun x hx => h1 x hx y (List.mem_cons_self ..)
    have := ih [] l2 r1 r2 (by simp only [List.length_cons, List.length_nil] at h ⊢; omega) (fun x hx z hz => h1 x hx z (List.mem_cons_of_mem _ hz)) (fun x hx => by cases hx)
    rw [mrg_nil, List.nil_append] at this
    cases l2 with
    | nil => rw [mrg_nil, mrg_nil]
    | cons x l2 =>
     rw [List.cons_append, mrg_cons, if_pos (hy x (List.mem_cons_self ..)), this]; rfl
  | cons x l1 =>
   cases r1 with
   | nil =>
    rw [mrg_nil', List.nil_append]
    have := ih l1 l2 [] r2 (by simp only [List.length_cons, List.length_nil] at h ⊢; omega) (fun x hx z hz => by cases hz) (fun z hz => h2 z (List.mem_cons_of_mem _ hz))
    rw [mrg_nil', List.nil_append] at this
    cases r2 with
    | nil => rw [mrg_nil', mrg_nil']
    | cons y r2 =>
     have hxy := h2 x (List.mem_cons_self ..) y (List.mem_cons_self ..)
     rw [List.cons_append, mrg_cons, if_neg (by omega), this]; rfl
   | cons y r1 =>
    simp only [List.length_cons] at h
    rw [List.cons_append, List.cons_append, mrg_cons, mrg_cons]
    split
    . have := ih (x :: l1) l2 r1 r2 (by simp only [List.length_cons]; omega) (fun x hx z hz => h1 x hx z (List.mem_cons_of_mem _ hz)) h2
      rw [List.cons_append] at this
      rw [this]; rfl
    . have := ih l1 l2 (y :: r1) r2 (by simp only [List.length_cons]; omega) h1 (fun z hz => h2 z (List.mem_cons_of_mem _ hz))
      rw [List.cons_append] at this
      rw [this]; rfl
def isort (l : List α) : List α := l.foldl (fun acc x => mrg w acc [x]) []
theorem isort_nil : isort w [] = [] := rfl
theorem isort_snoc (l : List α) (x : α) : isort w (l ++ [x]) = mrg w (isort w l) [x] := by unfold isort; rw [List.foldl_append]; rfl
theorem isort_app (a b : List α) : isort w (a ++ b) = mrg w (isort w a) (isort w b) := by
 have key : ∀ (n : Nat) (b : List α), b.length = n -> isort w (a ++ b) = mrg w (isort w a) (isort w b) := by
  intro n
  induction n with
  | zero =>
   intro b h
   have : b = [] := List.eq_nil_of_length_eq_zero h
   subst this
   rw [List.append_nil, isort_nil, mrg_nil']
  | succ n ih =>
   intro b h
   have hne : b ≠ [] := by intro e; subst e; simp at h
   obtain ⟨c, x, rfl⟩ : ∃ c x, b = c ++ [x] := ⟨b.dropLast, b.getLast hne, (List.dropLast_concat_getLast hne).symm⟩
   rw [List.length_append] at h
   simp only [List.length_cons, List.length_nil] at h
   rw [<- List.append_assoc, isort_snoc, ih c (by omega), isort_snoc, mrg_assoc w _ _ _ _ (Qa _)]
 exact key _ b rfl
theorem isort_perm (l : List α) : List.Perm (isort w l) l := by
 have key : ∀ (n : Nat) (b : List α), b.length = n -> List.Perm (isort w b) b := by
  intro n
  induction n with
  | zero =>
   intro b h
   have : b = [] := List.eq_nil_of_length_eq_zero h
   subst this
   exact List.Perm.refl _
  | succ n ih =>
   intro b h
   have hne : b ≠ [] := by intro e; subst e; simp at h
   obtain ⟨c, x, rfl⟩ : ∃ c x, b = c ++ [x] := ⟨b.dropLast, b.getLast hne, (List.dropLast_concat_getLast hne).symm⟩
   rw [List.length_append] at h
   simp only [List.length_cons, List.length_nil] at h
   rw [isort_snoc]
   exact (mrg_perm w _ _ _ (Qa _)).trans ((ih c (by omega)).append (List.Perm.refl _))
 exact key _ l rfl
theorem isort_srt (l : List α) : Srt w (isort w l) := by
 have key : ∀ (n : Nat) (b : List α), b.length = n -> Srt w (isort w b) := by
  intro n
  induction n with
  | zero =>
   intro b h
   have : b = [] := List.eq_nil_of_length_eq_zero h
   subst this
   exact List.Pairwise.nil
  | succ n ih =>
   intro b h
   have hne : b ≠ [] := by intro e; subst e; simp at h
   obtain ⟨c, x, rfl⟩ : ∃ c x, b = c ++ [x] := ⟨b.dropLast, b.getLast hne, (List.dropLast_concat_getLast hne).symm⟩
   rw [List.length_append] at h
   simp only [List.length_cons, List.length_nil] at h
   rw [isort_snoc]
   exact mrg_srt w _ _ _ (Qa _) (ih c (by omega)) (List.pairwise_cons.2 ⟨fun z hz => (by cases hz), List.Pairwise.nil⟩)
 exact key _ l rfl
theorem mrg_single (l1 l2 : List α) (x : α) (h1 : ∀ y ∈ l1, w y <= w x) (h2 : ∀ y ∈ l2, w x < w y) : mrg w (l1 ++ l2) [x] = l1 ++ x :: l2 := by
 have e : mrg w (l1 ++ l2) ([] ++ [x]) = mrg w l1 [] ++ mrg w l2 [x] := mrg_split w _ l1 l2 [] [x] (Qa _) (fun _ _ y hy => by cases hy) (fun y hy z hz => by
  rcases List.mem_cons.1 hz with rfl | hz
  . exact h1 y hy
  . cases hz)
 rw [List.nil_append, mrg_nil'] at e
 rw [e]
 congr 1
 cases l2 with
 | nil => rw [mrg_nil]
 | cons y r => rw [mrg_cons, if_pos (h2 y (List.mem_cons_self ..)), mrg_nil']
theorem single_mrg (r1 r2 : List α) (x : α) (h1 : ∀ y ∈ r1, w y < w x) (h2 : ∀ y ∈ r2, w x <= w y) : mrg w [x] (r1 ++ r2) = r1 ++ x :: r2 := by
 have e : mrg w ([] ++ [x]) (r1 ++ r2) = mrg w [] r1 ++ mrg w [x] r2 := mrg_split w _ [] [x] r1 r2 (Qa _) (fun y hy z hz => by
  rcases List.mem_cons.1 hy with rfl | hy
  . exact h1 z hz
  . cases hy) (fun _ hy => by cases hy)
 rw [List.nil_append, mrg_nil] at e
 rw [e]
 congr 1
 cases r2 with
 | nil => rw [mrg_nil']
 | cons y r => rw [mrg_cons, if_neg (by have := h2 y (List.mem_cons_self ..); omega), mrg_nil]
theorem srt_isort : ∀ (l : List α), Srt w l -> isort w l = l := by
 intro l h
 have key : ∀ (n : Nat) (b : List α), b.length = n -> Srt w b -> isort w b = b := by
  intro n
  induction n with
  | zero =>
   intro b h _
   have : b = [] := List.eq_nil_of_length_eq_zero h
   subst this
   rfl
  | succ n ih =>
   intro b h hs
   have hne : b ≠ [] := by intro e; subst e; simp at h
   obtain ⟨c, x, rfl⟩ : ∃ c x, b = c ++ [x] := ⟨b.dropLast, b.getLast hne, (List.dropLast_concat_getLast hne).symm⟩
   rw [List.length_append] at h
   simp only [List.length_cons, List.length_nil] at h
   have hs' := List.pairwise_append.1 hs
   rw [isort_snoc, ih c (by omega) hs'.1]
   have := mrg_single w c [] x (fun y hy => hs'.2.2 y hy x (List.mem_cons_self ..)) (fun y hy => by cases hy)
   rw [List.append_nil] at this
   exact this
 exact key _ l rfl h
def seg (f : Nat -> α) (a b : Nat) : List α := (List.range (b - a)).map fun k => f (a + k)
theorem seg_len (f : Nat -> α) (a b : Nat) : (seg f a b).length = b - a := by simp [seg]
theorem seg_get (f : Nat -> α) (a b k : Nat) (h : k < b - a) : (seg f a b)[k]? = some (f (a + k)) := by simp [seg, h]
theorem seg_app (f : Nat -> α) (a m b : Nat) (h1 : a <= m) (h2 : m <= b) : seg f a b = seg f a m ++ seg f m b := by
 unfold seg
 rw [show b - a = (m - a) + (b - m) by omega, List.range_add, List.map_append, List.map_map]
 congr 1
 apply List.map_congr_left
 intro k _
 show f (a + (m - a + k)) = f (m + k)
 congr 1
 omega
theorem seg_like (f g : Nat -> α) (a b c d : Nat) (hl : b - a = d - c) (h : ∀ k, k < b - a -> f (a + k) = g (c + k)) : seg f a b = seg g c d := by
 unfold seg
 rw [<- hl]
 apply List.map_congr_left
 intro k hk
 exact h k (List.mem_range.1 hk)
theorem seg_one (f : Nat -> α) (a : Nat) : seg f a (a + 1) = [f a] := by
 unfold seg
 rw [show a + 1 - a = 1 by omega]
 rfl
theorem seg_self (f : Nat -> α) (a b : Nat) (h : b <= a) : seg f a b = [] := by
 unfold seg
 rw [show b - a = 0 by omega]
 rfl
theorem mem_seg (f : Nat -> α) (a b : Nat) (x : α) (h : x ∈ seg f a b) : ∃ p, a <= p /\ p < b /\ x = f p := by
 unfold seg at h
 obtain ⟨k, hk, rfl⟩ := List.mem_map.1 h
 have := List.mem_range.1 hk
 exact ⟨a + k, by omega, by omega, rfl⟩
theorem seg_srt (f : Nat -> α) (a b : Nat) : Srt w (seg f a b) ↔ ∀ p q, a <= p -> p < q -> q < b -> w (f p) <= w (f q) := by
 constructor
 . intro h p q h1 h2 h3
   have e1 := seg_get f a b (p - a) (by omega)
   have e2 := seg_get f a b (q - a) (by omega)
   rw [show a + (p - a) = p by omega] at e1
   rw [show a + (q - a) = q by omega] at e2
   have hl := seg_len f a b
   have := (List.pairwise_iff_getElem.1 h) (p - a) (q - a) (by omega) (by omega) (by omega)
   rw [List.getElem?_eq_getElem (by omega)] at e1 e2
   injection e1 with e1
   injection e2 with e2
   rw [e1, e2] at this
   exact this
 . intro h
   refine List.pairwise_iff_getElem.2 fun i j hi hj hij => ?_
   have hl := seg_len f a b
   have e1 := seg_get f a b i (by omega)
   have e2 := seg_get f a b j (by omega)
   rw [List.getElem?_eq_getElem (by omega)] at e1 e2
   injection e1 with e1
   injection e2 with e2
   rw [e1, e2]
   exact h _ _ (by omega) (by omega) (by omega)
def sw (f : Nat -> α) (i j : Nat) : Nat -> α := fun p => if p = i then f j else if p = j then f i else f p
def mvL (f : Nat -> α) (i j : Nat) : Nat -> α := fun p => if p = j then f i else if j < p /\ p <= i then f (p - 1) else f p
theorem mvL_same (f : Nat -> α) (i : Nat) : mvL f i i = f := by
 funext p
 unfold mvL
 (repeat' split) <;> first | (exfalso; omega) | rfl | (congr 1; omega) | (congr 1)
theorem mvL_sw (f : Nat -> α) (i j : Nat) (h : j < i) : sw (mvL f i (j + 1)) (j + 1) j = mvL f i j := by
 funext p
 unfold sw mvL
 (repeat' split) <;> first | (exfalso; omega) | rfl | (congr 1; omega) | (congr 1)
def mvR (f : Nat -> α) (i j : Nat) : Nat -> α := fun p => if p = j then f i else if i <= p /\ p < j then f (p + 1) else f p
theorem mvR_same (f : Nat -> α) (i : Nat) : mvR f i i = f := by
 funext p
 unfold mvR
 (repeat' split) <;> first | (exfalso; omega) | rfl | (congr 1; omega) | (congr 1)
theorem mvR_sw (f : Nat -> α) (i j : Nat) (h : i <= j) : sw (mvR f i j) j (j + 1) = mvR f i (j + 1) := by
 funext p
 unfold sw mvR
 (repeat' split) <;> first | (exfalso; omega) | rfl | (congr 1; omega) | (congr 1)
def rot (f : Nat -> α) (a m b : Nat) : Nat -> α := fun p => if a <= p /\ p < a + (b - m) then f (p + (m - a)) else if a + (b - m) <= p /\ p < b then f (p - (b - m)) else f p
def swN (f : Nat -> α) (i j n : Nat) : Nat -> α := fun p => if i <= p /\ p < i + n then f (p - i + j) else if j <= p /\ p < j + n then f (p - j + i) else f p
theorem swN_zero (f : Nat -> α) (i j : Nat) : swN f i j 0 = f := by
 funext p
 unfold swN
 (repeat' split) <;> first | (exfalso; omega) | rfl | (congr 1; omega) | (congr 1)
theorem swN_succ (f : Nat -> α) (i j n : Nat) (h : i + n < j) : sw (swN f i j n) (i + n) (j + n) = swN f i j (n + 1) := by
 funext p
 unfold sw swN
 (repeat' split) <;> first | (exfalso; omega) | rfl | (congr 1; omega) | (congr 1)
theorem rot_even (f : Nat -> α) (m i : Nat) (h : i <= m) : swN f (m - i) m i = rot f (m - i) m (m + i) := by
 funext p
 unfold swN rot
 (repeat' split) <;> first | (exfalso; omega) | rfl | (congr 1; omega) | (congr 1)
theorem rot_left (f : Nat -> α) (m i j : Nat) (h : i <= m) (hj : j < i) : rot (swN f (m - i) m j) (m - (i - j)) m (m + j) = rot f (m - i) m (m + j) := by
 funext p
 unfold rot swN
 (repeat' split) <;> first | (exfalso; omega) | rfl | (congr 1; omega) | (congr 1)
theorem rot_right (f : Nat -> α) (m i j : Nat) (h : i <= m) (hj : i < j) : rot (swN f (m - i) (m + j - i) i) (m - i) m (m + (j - i)) = rot f (m - i) m (m + j) := by
 funext p
 unfold rot swN
 (repeat' split) <;> first | (exfalso; omega) | rfl | (congr 1; omega) | (congr 1)
end
structure Pr where
 k : Int
 a : Option Addr
 n : Nat
 c : Nat
def Pr.s (x : Pr) : Value := .slice x.a x.n x.c
def pcell (x : Nat -> Pr) (i : Nat) : Value := if i % 2 = 0 then .int .i64 (x (i / 2)).k else (x (i / 2)).s
def pcells (C : Nat) (x : Nat -> Pr) : Array Value := fcells (2 * C) (pcell x)
theorem pcells_k (C : Nat) (x : Nat -> Pr) (t i : Nat) (hi : i = t * 2) (ht : t < C) : (pcells C x)[i]? = some (.int .i64 (x t).k) := by
 subst hi
 unfold pcells
 rw [fcells_at _ _ _ (by omega)]
 unfold pcell
 rw [if_pos (by omega), show t * 2 / 2 = t by omega]
theorem pcells_s (C : Nat) (x : Nat -> Pr) (t i : Nat) (hi : i = t * 2 + 1) (ht : t < C) : (pcells C x)[i]? = some ((x t).s) := by
 subst hi
 unfold pcells
 rw [fcells_at _ _ _ (by omega)]
 unfold pcell
 rw [if_neg (by omega), show (t * 2 + 1) / 2 = t by omega]
theorem pcells_sw (C : Nat) (x : Nat -> Pr) (i j : Nat) (hij : i ≠ j) :
 ((((pcells C x).setIfInBounds (i * 2) (.int .i64 (x j).k)).setIfInBounds (i * 2 + 1) ((x j).s)).setIfInBounds (j * 2) (.int .i64 (x i).k)).setIfInBounds (j * 2 + 1) ((x i).s) = pcells C (sw x i j) := by
 unfold pcells
 rw [fcells_set, fcells_set, fcells_set, fcells_set]
 refine fcells_congr _ _ _ fun p _ => ?_
 unfold pcell sw
 by_cases h0 : p % 2 = 0
 . rw [if_neg (by omega)]
   by_cases h1 : p / 2 = j
   . rw [if_pos (by omega), if_pos h0, if_neg (by omega), if_pos h1]
   . rw [if_neg (by omega), if_neg (by omega), if_pos h0]
     by_cases h2 : p / 2 = i
     . rw [if_pos (by omega), if_pos h2]; first | rw [if_pos h0] | rw [if_neg h0]
     . rw [if_neg (by omega), if_neg h2, if_neg h1, if_pos h0]
 . by_cases h1 : p / 2 = j
   . rw [if_pos (by omega), if_neg h0, if_neg (by omega), if_pos h1]
   . rw [if_neg (by omega), if_neg (by omega), if_neg h0]
     by_cases h2 : p / 2 = i
     . rw [if_pos (by omega), if_pos h2]; first | rw [if_pos h0] | rw [if_neg h0]
     . rw [if_neg (by omega), if_neg (by omega), if_neg h2, if_neg h1, if_neg h0]
def PB (w : World) (g C : Nat) (x : Nat -> Pr) : Prop := ∃ R : Array Value, Blk w g 165 (pcells C x ++ R)
theorem pcells_size (C : Nat) (x : Nat -> Pr) : (pcells C x).size = 2 * C := fcells_size _ _
theorem papp_at (C : Nat) (x : Nat -> Pr) (R : Array Value) (i : Nat) (hi : i < 2 * C) : (pcells C x ++ R)[i]? = (pcells C x)[i]? := by
 rw [Array.getElem?_append_left (by rw [pcells_size]; exact hi)]
theorem papp_set2 (C : Nat) (A : Array Value) (hA : A.size = 2 * C) (R : Array Value) (i : Nat) (v : Value) (hi : i < 2 * C) : (A ++ R).setIfInBounds i v = A.setIfInBounds i v ++ R :=
 Array.setIfInBounds_append_left (by omega)
theorem papp_set (C : Nat) (x : Nat -> Pr) (R : Array Value) (i : Nat) (v : Value) (hi : i < 2 * C) : (pcells C x ++ R).setIfInBounds i v = (pcells C x).setIfInBounds i v ++ R := papp_set2 C _ (pcells_size C x) R i v hi
def KB (x : Nat -> Pr) (C : Nat) : Prop := ∀ i, i < C -> -1000000000000000 <= (x i).k /\ (x i).k <= 1000000000000000
section
variable {w w' : World} {g C : Nat} {x : Nat -> Pr}
theorem PB.k (h : PB w g C x) (i : Nat) (hi : i < C) : w.cell? ⟨g, i * 2, none⟩ = some (.int .i64 (x i).k) := by
 obtain ⟨R, h⟩ := h
 exact (Blk.cell h (i * 2)).trans ((papp_at C x R _ (by omega)).trans (pcells_k C x i _ rfl hi))
theorem PB.s (h : PB w g C x) (i : Nat) (hi : i < C) : w.cell? ⟨g, i * 2 + 1, none⟩ = some (x i).s := by
 obtain ⟨R, h⟩ := h
 exact (Blk.cell h (i * 2 + 1)).trans ((papp_at C x R _ (by omega)).trans (pcells_s C x i _ rfl hi))
theorem PB.lt (h : PB w g C x) : g < w.heap.size := by obtain ⟨R, h⟩ := h; exact Blk.lt h
theorem PB.frozen (h : PB w g C x) (i : Nat) : w.frozen? ⟨g, i, none⟩ = false := by obtain ⟨R, h⟩ := h; exact Blk.frozen h i
theorem PB.sw (h : PB w g C x) (i j : Nat) (hij : i ≠ j) (hi : i < C) (hj : j < C) : PB ((((w.setCell ⟨g, i * 2, none⟩ (.int .i64 (x j).k)).setCell ⟨g, i * 2 + 1, none⟩ (x j).s).setCell ⟨g, j * 2, none⟩ (.int .i64 (x i).k)).setCell ⟨g, j * 2 + 1, none⟩ (x i).s) g C (Go.Proofs.Ythehocmfpoglgaa.sw x i j) := by
 obtain ⟨R, h⟩ := h
 refine ⟨R, ?_⟩
 have h4 := (((Blk.set_ h (i * 2) (.int .i64 (x j).k)).set_ (i * 2 + 1) (x j).s).set_ (j * 2) (.int .i64 (x i).k)).set_ (j * 2 + 1) (x i).s
 rw [papp_set C x R _ _ (by omega), papp_set2 C _ (by rw [Array.size_setIfInBounds, pcells_size]) R _ _ (by omega), papp_set2 C _ (by rw [Array.size_setIfInBounds, Array.size_setIfInBounds, pcells_size]) R _ _ (by omega), papp_set2 C _ (by rw [Array.size_setIfInBounds, Array.size_setIfInBounds, Array.size_setIfInBounds, pcells_size]) R _ _ (by omega), pcells_sw C x i j hij] at h4
 exact h4
theorem PB.grown {r : Option Nat} (h : PB w g C x) (hg : w.grownBy w' r) (hr : some g ≠ r) : PB w' g C x := by obtain ⟨R, h⟩ := h; exact ⟨R, Blk.grown h hg hr⟩
theorem PB.below {B : Nat} (h : PB w g C x) (hb : Below B w w') (hB : g < B) : PB w' g C x := by obtain ⟨R, h⟩ := h; exact ⟨R, Blk.below h hb hB⟩
end
def Ch1 (w w' : World) (g : Nat) : Prop := w.grownBy w' (some g)
theorem Ch1.refl (w : World) (g : Nat) : Ch1 w w g := ⟨rfl, rfl, rfl, Qa _, fun _ _ _ => rfl⟩
theorem Ch1.trans {w w1 w2 : World} {g : Nat} (h : Ch1 w w1 g) (k : Ch1 w1 w2 g) : Ch1 w w2 g :=
 ⟨k.os.trans h.os, k.tape.trans h.tape, k.output.trans h.output, Qe h.size k.size, fun b hb hr => (k.block b (Qb hb h.size) hr).trans (h.block b hb hr)⟩
theorem Ch1.below {w w1 w2 : World} {g : Nat} (h : Ch1 w w1 g) (k : Below w1.heap.size w1 w2) : Ch1 w w2 g :=
 ⟨k.os.trans h.os, k.tape.trans h.tape, k.output.trans h.output, Qe h.size k.size, fun b hb hr => (k.block b (Qb hb h.size)).trans (h.block b hb hr)⟩
theorem Ch1.set {w w1 : World} {g : Nat} (h : Ch1 w w1 g) (i : Nat) (u : Value) : Ch1 w (w1.setCell ⟨g, i, none⟩ u) g :=
 ⟨h.os, h.tape, h.output, by simpa [World.setCell] using h.size, fun b hb hr => (Below.heap_setCell w1 ⟨g, i, none⟩ u b (fun e => hr (congrArg some e))).trans (h.block b hb hr)⟩
theorem Ch1.drewN {w w1 : World} {g : Nat} (h : Ch1 w w1 g) (n : Nat) : Ch1 w (w1.drewN n) g := ⟨h.os, h.tape, h.output, h.size, h.block⟩
theorem Ch1.drew {w w1 : World} {g : Nat} (h : Ch1 w w1 g) : Ch1 w w1.drew g := ⟨h.os, h.tape, h.output, h.size, h.block⟩
theorem weigh_any (k1 k2 : Int) (v1 v2 : Value) (h1 : -1000000000000000 <= k1 /\ k1 <= 1000000000000000) (h2 : -1000000000000000 <= k2 /\ k2 <= 1000000000000000) (w : World) :
 Calls Try.prog 97 #[.agg #[.int .i64 k1, v1], .agg #[.int .i64 k2, v2]] w fun e w' => e = .returned (.int .i64 (k1 - k2)) /\ Below w.heap.size w w' := by
 have B1 := Blk.new w 165 #[.int .i64 k1, v1]
 have B2 := Blk.new (w.alloc (.cells #[.int .i64 k1, v1] 165)) 165 #[.int .i64 k2, v2]
 have c1 := (B1.alloc (.cells #[.int .i64 k2, v2] 165)).cell 0
 have c2 := B2.cell 0
 have hb := ((Below.refl w.heap.size w).alloc (Qa _) (.cells #[.int .i64 k1, v1] 165)).alloc (by simp) (.cells #[.int .i64 k2, v2] 165)
 simp at c1 c2
 have Hb := Qf hb
 clear hb B1 B2
 go_enter Try.func97, Try.ntmps97
 go_wp2_with fail
 go_ret
 exact ⟨by congr 3, Hb.out⟩
set_option maxHeartbeats 16000000 in
theorem swaps_any (fv : Value) (g C N cap a b n : Nat) (hab : a + n <= b) (hb : b + n <= N) (hN : N <= C) (hC : C <= 1000000) (x : Nat -> Pr) (w : World) (hx : PB w g C x) :
 Calls Try.prog 108 #[.slice (some ⟨g, 0, none⟩) N cap, .int .i64 (a : Int), .int .i64 (b : Int), .int .i64 (n : Int), fv] w fun e w' => e = .returned (.tuple #[]) /\ Ch1 w w' g /\ PB w' g C (swN x a b n) := by
 have HX0 : Hid (PB w g C (swN x a b 0)) := by show PB _ _ _ _; rw [swN_zero]; exact hx
 have HG0 := Qf (Ch1.refl w g)
 clear hx
 go_enter Try.func108, Try.ntmps108
 go_wp2_with fail
 go_loopw [10] (fun i_ wr => ∃ i : Nat, i <= n /\ i_ = .int .i64 (i : Int) /\ Hid (PB wr g C (swN x a b i)) /\ Hid (Ch1 w wr g)) (fun i _ => n - (intOf i).toNat)
 case atStart => exact ⟨0, by omega, by first | rfl | go_num, HX0, HG0⟩
 case round =>
  clear HX0 HG0
  obtain ⟨i, hi, rfl, HX, HG⟩ := hrel
  by_cases hlt : i < n
  . have d1 : decide ((i : Int) < (n : Int)) = true := Qg (by omega)
    obtain ⟨p, Hp⟩ := Qi (a + i)
    obtain ⟨q, Hq⟩ := Qi (b + i)
    have hpv := Hp.out
    have hqv := Hq.out
    have w1 : IntKind.i64.wrap ((a : Int) + (i : Int)) = (p : Int) := by rw [IntKind.wrap_i64]; omega
    have w2 : IntKind.i64.wrap ((b : Int) + (i : Int)) = (q : Int) := by rw [IntKind.wrap_i64]; omega
    have hpN : (p : Int) < (N : Int) := by omega
    have hqN : (q : Int) < (N : Int) := by omega
    have hc1 := HX.out.k p (by omega)
    have hs1 := HX.out.s p (by omega)
    have hc2 := HX.out.k q (by omega)
    have hs2 := HX.out.s q (by omega)
    have hf1 := PB.frozen HX.out (p * 2)
    have hf2 := PB.frozen HX.out (p * 2 + 1)
    have hf3 := PB.frozen HX.out (q * 2)
    have hf4 := PB.frozen HX.out (q * 2 + 1)
    have ne1 : ¬ (q * 2 = p * 2) := by omega
    have ne2 : ¬ (q * 2 = p * 2 + 1) := by omega
    have ne3 : ¬ (q * 2 + 1 = p * 2) := by omega
    have ne4 : ¬ (q * 2 + 1 = p * 2 + 1) := by omega
    have ne5 : ¬ (p * 2 = q * 2) := by omega
    have ne6 : ¬ (p * 2 = q * 2 + 1) := by omega
    have ne7 : ¬ (p * 2 + 1 = q * 2) := by omega
    have ne8 : ¬ (p * 2 + 1 = q * 2 + 1) := by omega
    have hS := HX.out.sw p q (by omega) (by omega) (by omega)
    rw [<- hpv, <- hqv, swN_succ x a b i (by omega), hpv, hqv] at hS
    obtain ⟨X, HXp⟩ := Qi (swN x a b i p)
    obtain ⟨Y, HYq⟩ := Qi (swN x a b i q)
    rw [HXp.out] at hc1 hs1 hS
    rw [HYq.out] at hc2 hs2 hS
    obtain ⟨k1, a1, n1, c1⟩ := X
    obtain ⟨k2, a2, n2, c2⟩ := Y
    unfold Pr.s at hs1 hs2 hS
    dsimp only at hc1 hs1 hc2 hs2 hS
    have HPS : Hid (∀ m, PB (((((wr.setCell ⟨g, p * 2, none⟩ (.int .i64 k2)).setCell ⟨g, p * 2 + 1, none⟩ (.slice a2 n2 c2)).setCell ⟨g, q * 2, none⟩ (.int .i64 k1)).setCell ⟨g, q * 2 + 1, none⟩ (.slice a1 n1 c1)).drewN m) g C (swN x a b (i + 1))) := fun m => hS
    have HGS : Hid (∀ m, Ch1 w (((((wr.setCell ⟨g, p * 2, none⟩ (.int .i64 k2)).setCell ⟨g, p * 2 + 1, none⟩ (.slice a2 n2 c2)).setCell ⟨g, q * 2, none⟩ (.int .i64 k1)).setCell ⟨g, q * 2 + 1, none⟩ (.slice a1 n1 c1)).drewN m) g) := fun m =>
     ((((HG.out.set _ _).set _ _).set _ _).set _ _).drewN m
    clear hS HX HG hpv hqv HXp HYq
    go_wp2_with fail
    go_region
    all_goals
     go_wp2_with fail
     go_roundw
     case rel => exact ⟨i + 1, by omega, by go_num, HPS.out 1, HGS.out 1⟩
     case measure => simp [intOf]; omega
  . obtain rfl : i = n := by omega
    have d1 : decide ((i : Int) < (i : Int)) = false := Qh (by omega)
    go_wp2_with fail
    (try simp only [Exit.inBlock, Exit.then]); refine bodyPost_end (results_none rfl _ _ _) rfl ?_
    exact ⟨rfl, HG.out, HX.out⟩
set_option maxHeartbeats 16000000 in
theorem rotate_any (fv : Value) (g C N cap a m b : Nat) (ha : a < m) (hm : m < b) (hb : b <= N) (hN : N <= C) (hC : C <= 1000000) (x : Nat -> Pr) (w : World) (hx : PB w g C x) :
 Calls Try.prog 107 #[.slice (some ⟨g, 0, none⟩) N cap, .int .i64 (a : Int), .int .i64 (m : Int), .int .i64 (b : Int), fv] w fun e w' => e = .returned (.tuple #[]) /\ Ch1 w w' g /\ PB w' g C (rot x a m b) := by
 obtain ⟨i0, hi0⟩ : ∃ i, i = m - a := ⟨_, rfl⟩
 obtain ⟨j0, hj0⟩ : ∃ i, i = b - m := ⟨_, rfl⟩
 have w1 : IntKind.i64.wrap ((m : Int) - (a : Int)) = (i0 : Int) := by rw [IntKind.wrap_i64]; omega
 have w2 : IntKind.i64.wrap ((b : Int) - (m : Int)) = (j0 : Int) := by rw [IntKind.wrap_i64]; omega
 obtain ⟨y0, HX0⟩ : ∃ y, Hid (PB w g C y /\ rot y (m - i0) m (m + j0) = rot x a m b) := ⟨x, hx, by rw [show m - i0 = a by omega, show m + j0 = b by omega]⟩
 have HG0 := Qf (Ch1.refl w g)
 have hi1 : 1 <= i0 := by omega
 have hj1 : 1 <= j0 := by omega
 have him : i0 <= m := by omega
 have hmj : m + j0 <= N := by omega
 clear hx hi0 hj0
 go_enter Try.func107, Try.ntmps107
 go_wp2_with fail
 go_loopw [10, 11] (fun i_ j_ wr => ∃ (i j : Nat) (y : Nat -> Pr), 1 <= i /\ 1 <= j /\ i <= m /\ m + j <= N /\ i_ = .int .i64 (i : Int) /\ j_ = .int .i64 (j : Int) /\ Hid (PB wr g C y /\ rot y (m - i) m (m + j) = rot x a m b) /\ Hid (Ch1 w wr g)) (fun i j _ => (intOf i).toNat + (intOf j).toNat)
 case atStart => exact ⟨i0, j0, y0, hi1, hj1, him, hmj, by first | rfl | go_num, by first | rfl | go_num, HX0, HG0⟩
 case round =>
  clear HX0 HG0 hi1 hj1 him hmj w1 w2
  obtain ⟨i, j, y, hi1, hj1, him, hmj, rfl, rfl, HX, HG⟩ := hrel
  obtain ⟨p, Hp⟩ := Qi (m - i)
  have hpv := Hp.out
  have w1 : IntKind.i64.wrap ((m : Int) - (i : Int)) = (p : Int) := by rw [IntKind.wrap_i64]; omega
  by_cases hne : i = j
  . subst hne
    have d1 : ((i : Int) != (i : Int)) = false := by simp
    have CS := Qf (swaps_any fv g C N cap p m i (by omega) (by omega) hN hC y wr HX.out.1)
    have HE : Hid (swN y p m i = rot x a m b) := by show _ = _; rw [<- hpv, rot_even y m i him, HX.out.2]
    rw [HE.out] at CS
    clear hpv HX
    go_wp2_with fail
    refine CS.out.mono ?_
    rintro e w2 ⟨rfl, h1, h2⟩
    have H1 := Qf (HG.out.trans h1)
    have H2 := Qf h2
    clear h1 h2
    go_wp2_with fail
    (try simp only [Exit.inBlock, Exit.then]); refine bodyPost_end (results_none rfl _ _ _) rfl ?_
    exact ⟨rfl, H1.out, H2.out⟩
  . have d1 : ((i : Int) != (j : Int)) = true := by simp; omega
    by_cases hgt : j < i
    . have d2 : decide ((j : Int) < (i : Int)) = true := Qg (by omega)
      have d3 : decide (j < i) = true := Qg (by omega)
      obtain ⟨q, Hq⟩ := Qi (i - j)
      have hqv := Hq.out
      have w2 : IntKind.i64.wrap ((i : Int) - (j : Int)) = (q : Int) := by rw [IntKind.wrap_i64]; omega
      have CS := Qf (swaps_any fv g C N cap p m j (by omega) (by omega) hN hC y wr HX.out.1)
      have HE : Hid (rot (swN y p m j) (m - q) m (m + j) = rot x a m b) := by show _ = _; rw [<- hpv, <- hqv, rot_left y m i j him hgt, HX.out.2]
      have hq1 : 1 <= q := by omega
      have hqm : q <= m := by omega
      have hqi : q < i := by omega
      clear hpv hqv HX
      go_wp2_with fail
      refine CS.out.mono ?_
      rintro e w2 ⟨rfl, h1, h2⟩
      have H1 := Qf (HG.out.trans h1)
      have H2 := Qf h2
      clear h1 h2
      go_wp2_with fail
      go_roundw
      case rel => exact ⟨q, j, _, hq1, hj1, hqm, hmj, by first | rfl | go_num, rfl, Qf ⟨H2.out, HE.out⟩, H1⟩
      case measure => simp [intOf]; omega
    . have d2 : decide ((j : Int) < (i : Int)) = false := Qh (by omega)
      have d3 : decide (j < i) = false := Qh (by omega)
      obtain ⟨q, Hq⟩ := Qi (j - i)
      have hqv := Hq.out
      have w2 : IntKind.i64.wrap ((j : Int) - (i : Int)) = (q : Int) := by rw [IntKind.wrap_i64]; omega
      obtain ⟨s, Hs⟩ := Qi (m + j)
      have hsv := Hs.out
      have w3 : IntKind.i64.wrap ((m : Int) + (j : Int)) = (s : Int) := by rw [IntKind.wrap_i64]; omega
      obtain ⟨u, Hu⟩ := Qi (s - i)
      have huv := Hu.out
      have w4 : IntKind.i64.wrap ((s : Int) - (i : Int)) = (u : Int) := by rw [IntKind.wrap_i64]; omega
      have CS := Qf (swaps_any fv g C N cap p u i (by omega) (by omega) hN hC y wr HX.out.1)
      have HE : Hid (rot (swN y p u i) (m - i) m (m + q) = rot x a m b) := by show _ = _; rw [<- hpv, <- hqv, <- huv, <- hsv, rot_right y m i j him (by omega), HX.out.2]
      have hq1 : 1 <= q := by omega
      have hqm : m + q <= N := by omega
      have hqi : q < j := by omega
      clear hpv hqv HX hsv huv
      go_wp2_with fail
      refine CS.out.mono ?_
      rintro e w2 ⟨rfl, h1, h2⟩
      have H1 := Qf (HG.out.trans h1)
      have H2 := Qf h2
      clear h1 h2
      go_wp2_with fail
      go_roundw
      case rel => exact ⟨i, q, _, hi1, hq1, him, hqm, rfl, by first | rfl | go_num, Qf ⟨H2.out, HE.out⟩, H1⟩
      case measure => simp [intOf]; omega
structure It where
 k : Int
 l : List Nat
def ik (x : It) : Int := x.k
def pairs : List It -> List It
 | a :: b :: r => ⟨a.k + b.k, a.l ++ b.l⟩ :: pairs r
 | _ => []
theorem pairs_len : ∀ (n : Nat) (R : List It), R.length <= n -> (pairs R).length = R.length / 2 := by
 intro n
 induction n using Nat.strongRecOn with
 | ind n ih =>
  intro R h
  cases R with
  | nil => rfl
  | cons a R =>
   cases R with
   | nil => exact (show 0 = 1 / 2 by decide)
   | cons b R =>
    simp only [List.length_cons] at h
    show (pairs R).length + 1 = (R.length + 1 + 1) / 2
    rw [ih R.length (by omega) R (Qa _)]
    omega
theorem pairs_take : ∀ (q : Nat) (R : List It), (pairs R).take q = pairs (R.take (2 * q)) := by
 intro q
 induction q with
 | zero => intro R; rw [List.take_zero, Nat.mul_zero, List.take_zero]; rfl
 | succ q ih =>
  intro R
  cases R with
  | nil => rw [List.take_nil]; rfl
  | cons a R =>
   cases R with
   | nil => rw [show 2 * (q + 1) = 2 * q + 1 + 1 by omega, List.take_succ_cons, List.take_nil]; rfl
   | cons b R =>
    rw [show 2 * (q + 1) = 2 * q + 1 + 1 by omega, List.take_succ_cons, List.take_succ_cons]
    show _ = _ :: pairs (R.take (2 * q))
    rw [<- ih R]
    rfl
theorem pairs_get : ∀ (q : Nat) (R : List It) (h : 2 * q + 1 < R.length), (pairs R)[q]? = some ⟨R[2 * q].k + R[2 * q + 1].k, R[2 * q].l ++ R[2 * q + 1].l⟩ := by
 intro q
 induction q with
 | zero =>
  intro R h
  match R, h with
  | a :: b :: R, _ => rfl
 | succ q ih =>
  intro R h
  match R, h with
  | a :: b :: R, h =>
   simp only [List.length_cons] at h
   have e := ih R (by omega)
   show (pairs R)[q]? = _
   rw [e]
   rfl
theorem perm_sum {a b : List Int} (h : List.Perm a b) : a.sum = b.sum := by
 induction h with
 | nil => rfl
 | cons x _ ih => simp only [List.sum_cons, ih]
 | swap x y l => simp only [List.sum_cons]; omega
 | trans _ _ ih1 ih2 => exact ih1.trans ih2
def syms (R : List It) : List Nat := R.flatMap It.l
def wsum (R : List It) : Int := (R.map It.k).sum
theorem pairs_syms : ∀ (q : Nat) (R : List It), R.length = 2 * q -> syms (pairs R) = syms R /\ wsum (pairs R) = wsum R := by
 intro q
 induction q with
 | zero =>
  intro R h
  have : R = [] := List.eq_nil_of_length_eq_zero (by omega)
  subst this
  exact ⟨rfl, rfl⟩
 | succ q ih =>
  intro R h
  match R, h with
  | a :: b :: R, h =>
   simp only [List.length_cons] at h
   obtain ⟨h1, h2⟩ := ih R (by omega)
   refine ⟨?_, ?_⟩
   . show (a.l ++ b.l) ++ syms (pairs R) = a.l ++ (b.l ++ syms R)
     rw [h1, List.append_assoc]
   . show (a.k + b.k) + wsum (pairs R) = a.k + (b.k + wsum R)
     rw [h2, Int.add_assoc]
theorem pairs_srt : ∀ (n : Nat) (R : List It), R.length <= n -> Srt ik R -> Srt ik (pairs R) /\ ∀ a b r, R = a :: b :: r -> ∀ x ∈ pairs r, a.k + b.k <= x.k := by
 intro n
 induction n using Nat.strongRecOn with
 | ind n ih =>
  intro R h hs
  match R, h, hs with
  | [], _, _ => exact ⟨List.Pairwise.nil, fun a b r e => by cases e⟩
  | [a], _, _ => exact ⟨List.Pairwise.nil, fun a b r e => by cases e⟩
  | a :: b :: R, h, hs =>
   simp only [List.length_cons] at h
   obtain ⟨ha, hs2⟩ := List.pairwise_cons.1 hs
   obtain ⟨hb, hs3⟩ := List.pairwise_cons.1 hs2
   obtain ⟨h1, h2⟩ := ih R.length (by omega) R (Qa _) hs3
   have key : ∀ x ∈ pairs R, a.k + b.k <= x.k := by
    intro x hx
    match R, hx, ha, hb, h2, h1 with
    | c :: d :: R, hx, ha, hb, h2, h1 =>
     have h3 : b.k <= c.k := hb c (List.mem_cons_self ..)
     have h4 : a.k <= d.k := ha d (by simp)
     rcases List.mem_cons.1 hx with rfl | hx
     . show a.k + b.k <= c.k + d.k; omega
     . have := h2 c d R rfl x hx; omega
   refine ⟨List.pairwise_cons.2 ⟨fun x hx => key x hx, h1⟩, fun a' b' r e => ?_⟩
   injection e with e1 e
   injection e with e2 e3
   subst e1 e2 e3
   exact key
theorem mrg_take : ∀ (p : Nat) (A B : List It), Srt ik A -> p <= A.length + B.length -> ∃ c q, c + q = p /\ c <= A.length /\ q <= B.length /\ List.Perm ((mrg ik A B).take p) (A.take c ++ B.take q) /\
 (∀ x ∈ B.take q, ∀ y ∈ A.drop c, x.k < y.k) := by
 intro p
 induction p with
 | zero => intro A B _ _; exact ⟨0, 0, rfl, Nat.zero_le _, Nat.zero_le _, by simp, fun x hx => by simp at hx⟩
 | succ p ih =>
  intro A B hs h
  match A, B, hs, h with
  | [], B, hs, h =>
   refine ⟨0, p + 1, by omega, Nat.zero_le _, by simpa using h, ?_, fun _ _ y hy => by simp at hy⟩
   rw [mrg_nil, List.take_nil, List.nil_append]
  | a :: A, [], hs, h =>
   refine ⟨p + 1, 0, by omega, by simpa using h, Nat.zero_le _, ?_, fun x hx => by simp at hx⟩
   rw [mrg_nil', List.take_zero, List.append_nil]
  | a :: A, b :: B, hs, h =>
   simp only [List.length_cons] at h
   have hs' := List.pairwise_cons.1 hs
   rw [mrg_cons]
   by_cases hlt : ik b < ik a
   . rw [if_pos hlt, List.take_succ_cons]
     obtain ⟨c, q, h1, h2, h3, h4, h5⟩ := ih (a :: A) B hs (by simp only [List.length_cons]; omega)
     refine ⟨c, q + 1, by omega, h2, by simp only [List.length_cons]; omega, ?_, fun x hx y hy => ?_⟩
     . rw [List.take_succ_cons]
       exact (h4.cons b).trans List.perm_middle.symm
     . rw [List.take_succ_cons] at hx
       rcases List.mem_cons.1 hx with rfl | hx
       . have hy2 := List.mem_of_mem_drop hy
         have hxa : x.k < a.k := hlt
         rcases List.mem_cons.1 hy2 with rfl | hy2
         . exact hxa
         . have : a.k <= y.k := hs'.1 y hy2
           omega
       . exact h5 x hx y hy
   . rw [if_neg hlt, List.take_succ_cons]
     obtain ⟨c, q, h1, h2, h3, h4, h5⟩ := ih A (b :: B) hs'.2 (by simp only [List.length_cons]; omega)
     refine ⟨c + 1, q, by omega, by simp only [List.length_cons]; omega, h3, ?_, fun x hx y hy => ?_⟩
     . rw [List.take_succ_cons]
       exact h4.cons a
     . rw [List.drop_succ_cons] at hy
       exact h5 x hx y hy
def rowN (A : List It) : Nat -> List It
 | 0 => []
 | k + 1 => mrg ik A (pairs (rowN A k))
theorem rowN_srt (A : List It) (hA : Srt ik A) : ∀ k, Srt ik (rowN A k) := by
 intro k
 induction k with
 | zero => exact List.Pairwise.nil
 | succ k ih => exact mrg_srt ik _ _ _ (Qa _) hA (pairs_srt _ _ (Qa _) ih).1
theorem rowN_pos (A : List It) (hA : ∀ x ∈ A, 0 < x.k) : ∀ k, ∀ x ∈ rowN A k, 0 < x.k := by
 have key : ∀ (n : Nat) (R : List It), R.length <= n -> (∀ x ∈ R, 0 < x.k) -> ∀ x ∈ pairs R, 0 < x.k := by
  intro n
  induction n using Nat.strongRecOn with
  | ind n ih =>
   intro R h hR x hx
   match R, h, hR, hx with
   | a :: b :: R, h, hR, hx =>
    simp only [List.length_cons] at h
    rcases List.mem_cons.1 hx with rfl | hx
    . have h1 := hR a (List.mem_cons_self ..)
      have h2 := hR b (by simp)
      show 0 < a.k + b.k
      omega
    . exact ih R.length (by omega) R (Qa _) (fun y hy => hR y (by simp [hy])) x hx
 intro k
 induction k with
 | zero => intro x hx; cases hx
 | succ k ih =>
  intro x hx
  rcases (mem_mrg ik _ _ x).1 hx with h | h
  . exact hA x h
  . exact key _ _ (Qa _) ih x h
theorem rowN_len (A : List It) (k : Nat) : (rowN A (k + 1)).length = A.length + (rowN A k).length / 2 := by
 show (mrg ik A (pairs (rowN A k))).length = _
 rw [mrg_len, pairs_len _ _ (Qa _)]
theorem rowN_enough (A : List It) (hA : 1 <= A.length) : ∀ k, (2 * A.length - 1 - (rowN A (k + 1)).length) = (A.length - 1) / 2 ^ k /\ (rowN A (k + 1)).length <= 2 * A.length - 1 := by
 intro k
 induction k with
 | zero =>
  rw [rowN_len]
  show 2 * A.length - 1 - (A.length + 0 / 2) = (A.length - 1) / 1 /\ _
  rw [Nat.div_one]
  exact ⟨by omega, by show A.length + 0 / 2 <= _; omega⟩
 | succ k ih =>
  obtain ⟨h1, h2⟩ := ih
  rw [rowN_len, Nat.pow_succ, <- Nat.div_div_eq_div_mul, <- h1]
  omega
def valC : List Nat -> Nat
 | [] => 0
 | c :: r => c * 2 ^ r.length + valC r
theorem levels (A : List It) (hA : Srt ik A) (hp : ∀ x ∈ A, 0 < x.k) : ∀ k p, p <= (rowN A k).length -> ∃ cs : List Nat, cs.length = k /\ cs.Pairwise (fun a b => b <= a) /\ (∀ c ∈ cs, c <= A.length) /\ 2 * valC cs = p * 2 ^ k /\
 List.Perm (syms ((rowN A k).take p)) (cs.flatMap fun c => syms (A.take c)) /\ wsum ((rowN A k).take p) = (cs.map fun c => wsum (A.take c)).sum /\ (∀ c r, cs = c :: r -> ∀ x ∈ A.take c, x ∈ (rowN A k).take p) := by
 intro k
 induction k with
 | zero =>
  intro p h
  have hp0 : p = 0 := by simpa [rowN] using h
  subst hp0
  exact ⟨[], rfl, List.Pairwise.nil, fun c hc => (by cases hc), (by show 2 * 0 = 0 * 2 ^ 0; omega), List.Perm.refl _, rfl, fun c r e => (by cases e)⟩
 | succ k ih =>
  intro p h
  have hl : p <= A.length + (pairs (rowN A k)).length := by rw [<- mrg_len ik]; exact h
  obtain ⟨c, q, h1, h2, h3, h4, h5⟩ := mrg_take p A (pairs (rowN A k)) hA hl
  have hq : 2 * q <= (rowN A k).length := by rw [pairs_len _ _ (Qa _)] at h3; omega
  obtain ⟨cs, k1, k2, k3, k4, k5, k6, k7⟩ := ih (2 * q) hq
  have htl : ((rowN A k).take (2 * q)).length = 2 * q := by rw [List.length_take]; omega
  obtain ⟨s1, s2⟩ := pairs_syms q ((rowN A k).take (2 * q)) htl
  rw [<- pairs_take] at s1 s2
  have hsy : List.Perm (syms ((mrg ik A (pairs (rowN A k))).take p)) (syms (A.take c) ++ syms ((rowN A k).take (2 * q))) := by
   have := h4.flatMap_right It.l
   rw [List.flatMap_append] at this
   show List.Perm (syms _) _
   rw [<- s1]
   exact this
  have hws : wsum ((mrg ik A (pairs (rowN A k))).take p) = wsum (A.take c) + wsum ((rowN A k).take (2 * q)) := by
   have := perm_sum (h4.map It.k)
   rw [List.map_append, List.sum_append] at this
   rw [<- s2]
   exact this
  refine ⟨c :: cs, by rw [List.length_cons, k1], List.pairwise_cons.2 ⟨?_, k2⟩, ?_, ?_, ?_, ?_, ?_⟩
  . -- each earlier round brings no more
    have key : ∀ c' r, cs = c' :: r -> c' <= c := by
     intro c' r e
     by_cases hcc : c' <= c
     . exact hcc
     . exfalso
       have hc' := k3 c' (by rw [e]; exact List.mem_cons_self ..)
       have hclt : c < A.length := by omega
       have hmem : A[c] ∈ A.take c' := by
        refine List.mem_take_iff_getElem.2 ⟨c, by omega, rfl⟩
       have hin := k7 c' r e _ hmem
       obtain ⟨i, hi, he⟩ := List.mem_take_iff_getElem.1 hin
       have hi2 : i < 2 * q := by omega
       have hq1 : 1 <= q := by omega
       have hR := rowN_srt A hA k
       have hpos := rowN_pos A hp k
       have hb : 2 * (q - 1) + 1 < (rowN A k).length := by omega
       have hg := pairs_get (q - 1) (rowN A k) hb
       have hbm : (⟨(rowN A k)[2 * (q - 1)].k + (rowN A k)[2 * (q - 1) + 1].k, (rowN A k)[2 * (q - 1)].l ++ (rowN A k)[2 * (q - 1) + 1].l⟩ : It) ∈ (pairs (rowN A k)).take q := by
        have hlt : q - 1 < (pairs (rowN A k)).length := by omega
        rw [List.getElem?_eq_getElem hlt] at hg
        injection hg with hg
        rw [<- hg]
        exact List.mem_take_iff_getElem.2 ⟨q - 1, by omega, rfl⟩
       have hAd : A[c] ∈ A.drop c := by
        rw [List.drop_eq_getElem_cons hclt]
        exact List.mem_cons_self ..
       have h6 := h5 _ hbm _ hAd
       have h7 : (rowN A k)[i].k <= (rowN A k)[2 * (q - 1) + 1].k := by
        by_cases ei : i = 2 * (q - 1) + 1
        . simp only [ei]; exact Int.le_refl _
        . exact (List.pairwise_iff_getElem.1 hR) i (2 * (q - 1) + 1) (by omega) hb (by omega)
       have h8 := hpos _ (List.getElem_mem (l := rowN A k) (n := 2 * (q - 1)) (by omega))
       rw [he] at h7
       have h9 : (rowN A k)[2 * (q - 1)].k + (rowN A k)[2 * (q - 1) + 1].k < A[c].k := h6
       omega
    intro d hd
    cases cs with
    | nil => cases hd
    | cons c' r =>
     have hc' := key c' r rfl
     rcases List.mem_cons.1 hd with rfl | hd
     . exact hc'
     . exact Qe ((List.pairwise_cons.1 k2).1 d hd) hc'
  . intro d hd
    rcases List.mem_cons.1 hd with rfl | hd
    . exact h2
    . exact k3 d hd
  . show 2 * (c * 2 ^ cs.length + valC cs) = _
    rw [k1, Nat.mul_add, k4, Nat.pow_succ, <- h1, Nat.add_mul, Nat.mul_comm 2 q, Nat.mul_assoc q 2, Nat.mul_comm 2 (2 ^ k)]
    congr 1
    rw [Nat.mul_comm 2, Nat.mul_assoc]
  . show List.Perm (syms ((mrg ik A (pairs (rowN A k))).take p)) (syms (A.take c) ++ cs.flatMap fun c => syms (A.take c))
    exact hsy.trans (k5.append_left _)
  . show wsum ((mrg ik A (pairs (rowN A k))).take p) = wsum (A.take c) + (cs.map fun c => wsum (A.take c)).sum
    rw [hws, k6]
  . intro d r e x hx
    injection e with e1 e2
    subst e1
    exact h4.symm.subset (List.mem_append_left _ hx)
def hC (cs : List Nat) (j : Nat) : Nat := cs.countP fun c => decide (j < c)
theorem hC_cons (c : Nat) (r : List Nat) (j : Nat) : hC (c :: r) j = hC r j + if j < c then 1 else 0 := by
 unfold hC
 rw [List.countP_cons]
 by_cases h : j < c
 . simp [h]
 . simp [h]
theorem hC_le (cs : List Nat) (j : Nat) : hC cs j <= cs.length := List.countP_le_length
theorem hC_mono (cs : List Nat) (i j : Nat) (h : i <= j) : hC cs j <= hC cs i := by
 induction cs with
 | nil => exact Qa _
 | cons c r ih =>
  rw [hC_cons, hC_cons]
  by_cases h1 : j < c
  . rw [if_pos h1, if_pos (by omega)]; omega
  . rw [if_neg h1]; omega
def valI : List Nat -> Nat -> Nat
 | [], _ => 0
 | c :: r, j => (if j < c then 2 ^ r.length else 0) + valI r j
theorem valI_zero : ∀ (cs : List Nat) (j : Nat), (∀ c ∈ cs, c <= j) -> valI cs j = 0 /\ hC cs j = 0 := by
 intro cs
 induction cs with
 | nil => intro j _; exact ⟨rfl, rfl⟩
 | cons c r ih =>
  intro j h
  obtain ⟨h1, h2⟩ := ih j fun d hd => h d (List.mem_cons_of_mem _ hd)
  have hc := h c (List.mem_cons_self ..)
  rw [hC_cons, h2, if_neg (by omega)]
  refine ⟨?_, rfl⟩
  show (if j < c then _ else 0) + valI r j = 0
  rw [if_neg (by omega), h1]
theorem valI_eq : ∀ (cs : List Nat) (j : Nat), cs.Pairwise (fun a b => b <= a) -> valI cs j + 2 ^ (cs.length - hC cs j) = 2 ^ cs.length := by
 intro cs
 induction cs with
 | nil => intro j _; rfl
 | cons c r ih =>
  intro j h
  obtain ⟨h1, h2⟩ := List.pairwise_cons.1 h
  by_cases hj : j < c
  . rw [hC_cons, if_pos hj]
    show (if j < c then 2 ^ r.length else 0) + valI r j + 2 ^ (r.length + 1 - (hC r j + 1)) = 2 ^ (r.length + 1)
    rw [if_pos hj, Nat.add_sub_add_right, Nat.add_assoc, ih j h2, Nat.pow_succ]
    omega
  . obtain ⟨k1, k2⟩ := valI_zero (c :: r) j (fun d hd => by
     rcases List.mem_cons.1 hd with rfl | hd
     . omega
     . have := h1 d hd; omega)
    rw [k1, k2, Nat.zero_add, Nat.sub_zero]
theorem sumTo_mul (f : Nat -> Nat) (d : Nat) (k : Nat) : sumTo (fun j => f j * d) k = sumTo f k * d := by
 induction k with
 | zero => exact (Nat.zero_mul d).symm
 | succ k ih => simp only [sumTo, ih, Nat.add_mul]
theorem sumTo_below (c v : Nat) : ∀ n, c <= n -> sumTo (fun j => if j < c then v else 0) n = c * v := by
 intro n
 induction n with
 | zero =>
  intro h; have : c = 0 := by omega
  subst this; exact (Nat.zero_mul v).symm
 | succ n ih =>
  intro h
  by_cases hc : c = n + 1
  . subst hc
    have e : ∀ m, m <= n + 1 -> sumTo (fun j => if j < n + 1 then v else 0) m = m * v := by
     intro m
     induction m with
     | zero => intro _; exact (Nat.zero_mul v).symm
     | succ m ih2 =>
      intro hm
      simp only [sumTo]
      rw [ih2 (by omega), if_pos (by omega), Nat.succ_mul]
    exact e (n + 1) (Qa _)
  . simp only [sumTo]
    rw [ih (by omega), if_neg (by omega)]
    rfl
theorem valC_sum (n : Nat) : ∀ (cs : List Nat), (∀ c ∈ cs, c <= n) -> valC cs = sumTo (valI cs) n := by
 intro cs
 induction cs with
 | nil =>
  intro _
  have : ∀ m, sumTo (valI []) m = 0 := by
   intro m
   induction m with
   | zero => rfl
   | succ m ih => show sumTo (valI []) m + 0 = 0; rw [ih]
  rw [this]; rfl
 | cons c r ih =>
  intro h
  have e : sumTo (valI (c :: r)) n = sumTo (fun j => (if j < c then 2 ^ r.length else 0) + valI r j) n := rfl
  rw [e, sumTo_add, sumTo_below c _ n (h c (List.mem_cons_self ..)), <- ih fun d hd => h d (List.mem_cons_of_mem _ hd)]
  rfl
theorem kraftC (n : Nat) (cs : List Nat) (hd : cs.Pairwise (fun a b => b <= a)) (hn : ∀ c ∈ cs, c <= n) : valC cs + sumTo (fun j => 2 ^ (cs.length - hC cs j)) n = n * 2 ^ cs.length := by
 rw [valC_sum n cs hn, <- sumTo_add, sumTo_congr _ (fun _ => 2 ^ cs.length) n fun j _ => valI_eq cs j hd]
 have : ∀ m, sumTo (fun _ => 2 ^ cs.length) m = m * 2 ^ cs.length := by
  intro m
  induction m with
  | zero => exact (Nat.zero_mul _).symm
  | succ m ih => simp only [sumTo, ih, Nat.succ_mul]
 exact this n
theorem kraft_one (n : Nat) (h1 : 1 <= n) (cs : List Nat) (hd : cs.Pairwise (fun a b => b <= a)) (hn : ∀ c ∈ cs, c <= n) (hv : 2 * valC cs = (2 * n - 2) * 2 ^ cs.length) : sumTo (fun j => 2 ^ (cs.length - hC cs j)) n = 2 ^ cs.length := by
 have hk := kraftC n cs hd hn
 have e1 : 2 * valC cs = 2 * ((n - 1) * 2 ^ cs.length) := by rw [hv, <- Nat.mul_assoc]; congr 1; omega
 have e2 : n * 2 ^ cs.length = (n - 1) * 2 ^ cs.length + 2 ^ cs.length := by rw [<- Nat.succ_mul]; congr 1; omega
 omega
theorem sumTo_term (f : Nat -> Nat) (n j : Nat) (h : j < n) : f j <= sumTo f n := by
 induction n with
 | zero => omega
 | succ n ih =>
  simp only [sumTo]
  by_cases e : j = n
  . subst e; omega
  . have := ih (by omega); omega
theorem sumTo_two (f : Nat -> Nat) (n i j : Nat) (hi : i < n) (hj : j < n) (h : i ≠ j) : f i + f j <= sumTo f n := by
 induction n with
 | zero => omega
 | succ n ih =>
  simp only [sumTo]
  by_cases e1 : i = n
  . subst e1
    have := sumTo_term f i j (by omega)
    omega
  . by_cases e2 : j = n
    . subst e2
      have := sumTo_term f j i (by omega)
      omega
    . have := ih (by omega) (by omega); omega
theorem all_used (n : Nat) (h2 : 2 <= n) (cs : List Nat) (hs : sumTo (fun j => 2 ^ (cs.length - hC cs j)) n = 2 ^ cs.length) (j : Nat) (hj : j < n) : 0 < hC cs j := by
 by_cases h : 0 < hC cs j
 . exact h
 . exfalso
   have h0 : hC cs j = 0 := by omega
   obtain ⟨i, hi, hne⟩ : ∃ i, i < n /\ i ≠ j := by
    by_cases e : j = 0
    . exact ⟨1, by omega, by omega⟩
    . exact ⟨0, by omega, by omega⟩
   have := sumTo_two (fun j => 2 ^ (cs.length - hC cs j)) n i j hi hj hne
   simp only [h0, Nat.sub_zero] at this
   have hp : 0 < 2 ^ (cs.length - hC cs i) := Nat.pow_pos (by decide)
   omega
def coinsB (cnt : Nat -> Int) : Nat -> List It
 | 0 => []
 | n + 1 => coinsB cnt n ++ if 0 < cnt n then [⟨cnt n, [n]⟩] else []
theorem coinsB_mem (cnt : Nat -> Int) (n : Nat) (x : It) (h : x ∈ coinsB cnt n) : ∃ s, s < n /\ 0 < cnt s /\ x = ⟨cnt s, [s]⟩ := by
 induction n with
 | zero => cases h
 | succ n ih =>
  rcases List.mem_append.1 h with h | h
  . obtain ⟨s, h1, h2⟩ := ih h
    exact ⟨s, by omega, h2⟩
  . by_cases h0 : 0 < cnt n
    . rw [if_pos h0] at h
      rcases List.mem_cons.1 h with rfl | h
      . exact ⟨n, by omega, h0, rfl⟩
      . cases h
    . rw [if_neg h0] at h; cases h
theorem coinsB_sum (cnt : Nat -> Int) (f : Nat -> Nat) (n : Nat) : ((coinsB cnt n).map fun x => f (x.l.headD 0)).sum = sumTo (fun s => if 0 < cnt s then f s else 0) n := by
 induction n with
 | zero => rfl
 | succ n ih =>
  show ((coinsB cnt n ++ _).map _).sum = _
  rw [List.map_append, List.sum_append, ih]
  simp only [sumTo]
  congr 1
  by_cases h0 : 0 < cnt n
  . rw [if_pos h0, if_pos h0]; simp
  . rw [if_neg h0, if_neg h0]; rfl
theorem coinsB_count (cnt : Nat -> Int) (n : Nat) : (syms (coinsB cnt n)).Nodup /\ ∀ s, s ∈ syms (coinsB cnt n) ↔ (s < n /\ 0 < cnt s) := by
 induction n with
 | zero => exact ⟨List.nodup_nil, fun s => by simp [syms, coinsB]⟩
 | succ n ih =>
  obtain ⟨h1, h2⟩ := ih
  have e : syms (coinsB cnt (n + 1)) = syms (coinsB cnt n) ++ (if 0 < cnt n then [n] else []) := by
   show (coinsB cnt n ++ _).flatMap It.l = _
   rw [List.flatMap_append]
   congr 1
   by_cases h0 : 0 < cnt n
   . rw [if_pos h0, if_pos h0]; rfl
   . rw [if_neg h0, if_neg h0]; rfl
  rw [e]
  refine ⟨?_, fun s => ?_⟩
  . by_cases h0 : 0 < cnt n
    . rw [if_pos h0]
      refine List.nodup_append.2 ⟨h1, by simp, fun a ha b hb => ?_⟩
      have := (h2 a).1 ha
      rcases List.mem_cons.1 hb with rfl | hb
      . omega
      . cases hb
    . rw [if_neg h0, List.append_nil]; exact h1
  . rw [List.mem_append, h2]
    by_cases h0 : 0 < cnt n
    . rw [if_pos h0]
      constructor
      . rintro (⟨a, b⟩ | h)
        . exact ⟨by omega, b⟩
        . rcases List.mem_cons.1 h with rfl | h
          . exact ⟨by omega, h0⟩
          . cases h
      . rintro ⟨a, b⟩
        by_cases es : s = n
        . right; rw [es]; exact List.mem_cons_self ..
        . left; exact ⟨by omega, b⟩
    . rw [if_neg h0]
      constructor
      . rintro (⟨a, b⟩ | h)
        . exact ⟨by omega, b⟩
        . cases h
      . rintro ⟨a, b⟩
        left
        refine ⟨?_, b⟩
        by_cases es : s = n
        . subst es; exact absurd b h0
        . omega
def finL (cnt : Nat -> Int) (n most : Nat) (s : Nat) : Nat :=
 if (coinsB cnt n).length = 1 then (if s < n /\ 0 < cnt s then 1 else 0)
 else (syms ((rowN (isort ik (coinsB cnt n)) most).take (2 * (coinsB cnt n).length - 2))).count s
section
variable {cnt : Nat -> Int} {n most : Nat}
theorem srt_A : Srt ik (isort ik (coinsB cnt n)) := isort_srt ik _
theorem perm_A : List.Perm (isort ik (coinsB cnt n)) (coinsB cnt n) := isort_perm ik _
theorem pos_A : ∀ x ∈ isort ik (coinsB cnt n), 0 < x.k := by
 intro x hx
 obtain ⟨s, _, h, rfl⟩ := coinsB_mem cnt n x (perm_A.mem_iff.1 hx)
 exact h
theorem nodup_A : (syms (isort ik (coinsB cnt n))).Nodup := (perm_A.flatMap_right It.l).nodup_iff.2 (coinsB_count cnt n).1
def symA (A : List It) (j : Nat) : Nat := ((A[j]?.map It.l).getD []).headD 0
theorem syms_eq (A : List It) (hA : ∀ x ∈ A, ∃ s, x.l = [s]) : syms A = (List.range A.length).map (symA A) := by
 induction A with
 | nil => rfl
 | cons a A ih =>
  obtain ⟨s, hs⟩ := hA a (List.mem_cons_self ..)
  rw [List.length_cons, List.range_succ_eq_map, List.map_cons, List.map_map]
  show a.l ++ syms A = _
  rw [ih fun x hx => hA x (List.mem_cons_of_mem _ hx), hs]
  have e0 : symA (a :: A) 0 = s := by unfold symA; simp [hs]
  rw [e0]
  rfl
theorem single_A : ∀ x ∈ isort ik (coinsB cnt n), ∃ s, x.l = [s] := by
 intro x hx
 obtain ⟨s, _, _, rfl⟩ := coinsB_mem cnt n x (perm_A.mem_iff.1 hx)
 exact ⟨s, rfl⟩
theorem count_take (A : List It) (hA : ∀ x ∈ A, ∃ s, x.l = [s]) (hn : (syms A).Nodup) (c j : Nat) (hj : j < A.length) : (syms (A.take c)).count (symA A j) = if j < c then 1 else 0 := by
 have e1 : syms (A.take c) = (syms A).take c := by
  rw [syms_eq _ fun x hx => hA x (List.mem_of_mem_take hx), syms_eq A hA, <- List.map_take, List.take_range, List.length_take]
  refine List.map_congr_left fun i hi => ?_
  have := List.mem_range.1 hi
  unfold symA
  rw [List.getElem?_take, if_pos (by omega)]
 have hl : (syms A).length = A.length := by rw [syms_eq A hA]; simp
 have hg : (syms A)[j]'(by omega) = symA A j := by
  have h : (syms A)[j]? = some (symA A j) := by rw [syms_eq A hA]; simp [hj]
  rw [List.getElem?_eq_getElem (by omega)] at h
  injection h
 rw [e1]
 by_cases hjc : j < c
 . rw [if_pos hjc]
   have h1 := (List.nodup_iff_count.1 (hn.sublist (List.take_sublist c _))) (symA A j)
   have h2 : 0 < ((syms A).take c).count (symA A j) := List.count_pos_iff.2 (by
    rw [<- hg]
    exact List.mem_take_iff_getElem.2 ⟨j, by omega, rfl⟩)
   omega
 . rw [if_neg hjc]
   refine List.count_eq_zero.2 fun hm => ?_
   obtain ⟨i, hi, he⟩ := List.mem_take_iff_getElem.1 hm
   have := (List.getElem_inj (h₀ := by omega) (h₁ := by omega) hn).1 (he.trans hg.symm)
   omega
theorem count_flat (A : List It) (hA : ∀ x ∈ A, ∃ s, x.l = [s]) (hn : (syms A).Nodup) (j : Nat) (hj : j < A.length) : ∀ cs : List Nat, (cs.flatMap fun c => syms (A.take c)).count (symA A j) = hC cs j := by
 intro cs
 induction cs with
 | nil => rfl
 | cons c r ih => rw [List.flatMap_cons, List.count_append, ih, count_take A hA hn c j hj, hC_cons]; omega
theorem sum_range (A : List It) (f : Nat -> Nat) : (A.map fun x => f (x.l.headD 0)).sum = sumTo (fun j => f (symA A j)) A.length := by
 have key : ∀ (m : Nat), m <= A.length -> ((A.take m).map fun x => f (x.l.headD 0)).sum = sumTo (fun j => f (symA A j)) m := by
  intro m
  induction m with
  | zero => intro _; rfl
  | succ m ih =>
   intro hm
   rw [List.take_succ_eq_append_getElem (by omega), List.map_append, List.sum_append, ih (by omega)]
   simp only [sumTo]
   congr 1
   have : symA A m = A[m].l.headD 0 := by unfold symA; rw [List.getElem?_eq_getElem (by omega)]; rfl
   rw [this]
   simp
 have := key A.length (Qa _)
 rw [List.take_length] at this
 exact this
theorem perm_sumN {a b : List Nat} (h : List.Perm a b) : a.sum = b.sum := by
 induction h with
 | nil => rfl
 | cons x _ ih => simp only [List.sum_cons, ih]
 | swap x y l => simp only [List.sum_cons]; omega
 | trans _ _ ih1 ih2 => exact ih1.trans ih2
theorem sumTo_if_pos (f : Nat -> Nat) (n : Nat) : sumTo (fun s => if 0 < cnt s then f s else 0) n = sumTo (fun j => f (symA (isort ik (coinsB cnt n)) j)) (coinsB cnt n).length := by
 rw [<- coinsB_sum, <- (perm_A (cnt := cnt) (n := n)).length_eq, <- sum_range]
 exact (perm_sumN ((perm_A (cnt := cnt) (n := n)).map _)).symm
theorem symA_mem {j : Nat} (hj : j < (coinsB cnt n).length) : symA (isort ik (coinsB cnt n)) j < n /\ 0 < cnt (symA (isort ik (coinsB cnt n)) j) := by
 have hl := (perm_A (cnt := cnt) (n := n)).length_eq
 have hm : (isort ik (coinsB cnt n))[j]'(by omega) ∈ coinsB cnt n := perm_A.mem_iff.1 (List.getElem_mem _)
 obtain ⟨s, h1, h2, h3⟩ := coinsB_mem cnt n _ hm
 have : symA (isort ik (coinsB cnt n)) j = s := by unfold symA; rw [List.getElem?_eq_getElem (by omega), h3]; rfl
 rw [this]
 exact ⟨h1, h2⟩
theorem symA_k {j : Nat} (hj : j < (coinsB cnt n).length) : ((isort ik (coinsB cnt n))[j]'(by have := (perm_A (cnt := cnt) (n := n)).length_eq; omega)).k = cnt (symA (isort ik (coinsB cnt n)) j) := by
 have hl := (perm_A (cnt := cnt) (n := n)).length_eq
 have hm : (isort ik (coinsB cnt n))[j]'(by omega) ∈ coinsB cnt n := perm_A.mem_iff.1 (List.getElem_mem _)
 obtain ⟨s, h1, h2, h3⟩ := coinsB_mem cnt n _ hm
 have : symA (isort ik (coinsB cnt n)) j = s := by unfold symA; rw [List.getElem?_eq_getElem (by omega), h3]; rfl
 rw [this, h3]
theorem symA_all {s : Nat} (h1 : s < n) (h2 : 0 < cnt s) : ∃ j, j < (coinsB cnt n).length /\ symA (isort ik (coinsB cnt n)) j = s := by
 have hm : s ∈ syms (isort ik (coinsB cnt n)) := ((perm_A (cnt := cnt) (n := n)).flatMap_right It.l).mem_iff.2 (((coinsB_count cnt n).2 s).2 ⟨h1, h2⟩)
 rw [syms_eq _ single_A] at hm
 obtain ⟨j, hj, he⟩ := List.mem_map.1 hm
 exact ⟨j, by have := (perm_A (cnt := cnt) (n := n)).length_eq; have := List.mem_range.1 hj; omega, he⟩
theorem fin_rounds (h2 : 2 <= (coinsB cnt n).length) (hm : 1 <= most) (hbig : (coinsB cnt n).length <= 2 ^ most) : ∃ cs : List Nat, cs.length = most /\ cs.Pairwise (fun a b => b <= a) /\ (∀ c ∈ cs, c <= (coinsB cnt n).length) /\ 2 * valC cs = (2 * (coinsB cnt n).length - 2) * 2 ^ cs.length /\
 (∀ j, j < (coinsB cnt n).length -> finL cnt n most (symA (isort ik (coinsB cnt n)) j) = hC cs j) /\ (∀ s, ¬ (s < n /\ 0 < cnt s) -> finL cnt n most s = 0) /\
 wsum ((rowN (isort ik (coinsB cnt n)) most).take (2 * (coinsB cnt n).length - 2)) = (cs.map fun c => wsum ((isort ik (coinsB cnt n)).take c)).sum := by
 have hl := (perm_A (cnt := cnt) (n := n)).length_eq
 obtain ⟨k, rfl⟩ : ∃ k, most = k + 1 := ⟨most - 1, by omega⟩
 have hen := rowN_enough (isort ik (coinsB cnt n)) (by omega) k
 have hlen : 2 * (coinsB cnt n).length - 2 <= (rowN (isort ik (coinsB cnt n)) (k + 1)).length := by
  have h3 : ((isort ik (coinsB cnt n)).length - 1) / 2 ^ k <= 1 := by
   have : ((isort ik (coinsB cnt n)).length - 1) / 2 ^ k < 2 := by
    rw [Nat.div_lt_iff_lt_mul (Nat.pow_pos (by decide))]
    have e : 2 ^ (k + 1) = 2 * 2 ^ k := by rw [Nat.pow_succ, Nat.mul_comm]
    omega
   omega
  omega
 obtain ⟨cs, k1, k2, k3, k4, k5, k6, _⟩ := levels (isort ik (coinsB cnt n)) srt_A pos_A (k + 1) _ hlen
 have hfin : ∀ s, finL cnt n (k + 1) s = (cs.flatMap fun c => syms ((isort ik (coinsB cnt n)).take c)).count s := fun s => by
  unfold finL
  rw [if_neg (by omega), k5.count_eq]
 refine ⟨cs, k1, k2, fun c hc => by have := k3 c hc; omega, by rw [k4, k1], fun j hj => ?_, fun s hs => ?_, k6⟩
 . rw [hfin, count_flat _ single_A nodup_A j (by omega)]
 . rw [hfin]
   refine List.count_eq_zero.2 fun hmem => hs ?_
   obtain ⟨c, _, hc⟩ := List.mem_flatMap.1 hmem
   have : s ∈ syms (isort ik (coinsB cnt n)) := by
    obtain ⟨x, hx, hx2⟩ := List.mem_flatMap.1 hc
    exact List.mem_flatMap.2 ⟨x, List.mem_of_mem_take hx, hx2⟩
   exact ((coinsB_count cnt n).2 s).1 (((perm_A (cnt := cnt) (n := n)).flatMap_right It.l).mem_iff.1 this)
theorem cnt_some (n : Nat) : (coinsB cnt n).length = cntTo (fun s => decide (0 < cnt s)) n := by
 induction n with
 | zero => rfl
 | succ n ih =>
  show (coinsB cnt n ++ _).length = cntTo (fun s => decide (0 < cnt s)) n + if decide (0 < cnt n) = true then 1 else 0
  rw [List.length_append, ih]
  by_cases h : 0 < cnt n
  . rw [if_pos h, decide_eq_true h]; rfl
  . rw [if_neg h, decide_eq_false h]; rfl
structure LenOK (cnt : Nat -> Int) (n most : Nat) (L : Nat -> Nat) : Prop where
 zero : ∀ s, ¬ (s < n /\ 0 < cnt s) -> L s = 0
 pos : ∀ s, s < n -> 0 < cnt s -> 0 < L s
 le : ∀ s, L s <= most
 mono : ∀ i j, i < n -> j < n -> 0 < cnt j -> cnt j < cnt i -> L i <= L j
 some : someOf L n = (coinsB cnt n).length
 parts : parts L n = if (coinsB cnt n).length = 0 then 0 else if (coinsB cnt n).length = 1 then 16384 else 32768
theorem cntTo_congr (p q : Nat -> Bool) (n : Nat) (h : ∀ j, j < n -> p j = q j) : cntTo p n = cntTo q n := by
 induction n with
 | zero => rfl
 | succ n ih =>
  simp only [cntTo]
  rw [ih fun j hj => h j (by omega), h n (by omega)]
theorem lenOK_some {L : Nat -> Nat} (hz : ∀ s, ¬ (s < n /\ 0 < cnt s) -> L s = 0) (hp : ∀ s, s < n -> 0 < cnt s -> 0 < L s) : someOf L n = (coinsB cnt n).length := by
 rw [cnt_some]
 refine cntTo_congr _ _ n fun s hs => ?_
 by_cases h : 0 < cnt s
 . rw [decide_eq_true h, decide_eq_true (hp s hs h)]
 . rw [decide_eq_false h, hz s (fun x => h x.2)]; rfl
theorem lenOK_parts {L : Nat -> Nat} (hz : ∀ s, ¬ (s < n /\ 0 < cnt s) -> L s = 0) : parts L n = sumTo (fun j => pt (L (symA (isort ik (coinsB cnt n)) j))) (coinsB cnt n).length := by
 rw [<- sumTo_if_pos (fun s => pt (L s)) n]
 refine sumTo_congr _ _ n fun s hs => ?_
 by_cases h : 0 < cnt s
 . rw [if_pos h]
 . rw [if_neg h, hz s (fun x => h x.2)]; rfl
theorem fin_ok (hm : 1 <= most) (hm15 : most <= 15) (hbig : (coinsB cnt n).length <= 2 ^ most) : LenOK cnt n most (finL cnt n most) := by
 by_cases h1 : (coinsB cnt n).length = 1
 . have e : ∀ s, finL cnt n most s = if s < n /\ 0 < cnt s then 1 else 0 := fun s => by unfold finL; rw [if_pos h1]
   have hz : ∀ s, ¬ (s < n /\ 0 < cnt s) -> finL cnt n most s = 0 := fun s hs => by rw [e, if_neg hs]
   have hp : ∀ s, s < n -> 0 < cnt s -> 0 < finL cnt n most s := fun s a b => by rw [e, if_pos ⟨a, b⟩]; decide
   refine ⟨hz, hp, fun s => ?_, fun i j hi hj hcj hij => ?_, lenOK_some hz hp, ?_⟩
   . rw [e]; split <;> omega
   . rw [e i, e j, if_pos (show j < n /\ 0 < cnt j from ⟨hj, hcj⟩)]; split <;> omega
   . rw [lenOK_parts hz, h1, if_neg (by decide), if_pos rfl]
     have hs := symA_mem (cnt := cnt) (n := n) (j := 0) (by omega)
     show 0 + pt _ = 16384
     rw [e, if_pos hs]
     rfl
 . by_cases h0 : (coinsB cnt n).length = 0
   . have hnil : coinsB cnt n = [] := List.eq_nil_of_length_eq_zero h0
     have e : ∀ s, finL cnt n most s = 0 := fun s => by
      unfold finL
      rw [if_neg h1, h0]
      rfl
     have hno : ∀ s, s < n -> ¬ 0 < cnt s := fun s hs h => by
      have := ((coinsB_count cnt n).2 s).2 ⟨hs, h⟩
      rw [hnil] at this
      cases this
     refine ⟨fun s _ => e s, fun s a b => absurd b (hno s a), fun s => by rw [e]; omega, fun i j _ _ _ _ => by rw [e]; omega, lenOK_some (fun s _ => e s) (fun s a b => absurd b (hno s a)), ?_⟩
     rw [lenOK_parts fun s _ => e s, h0, if_pos rfl]
     rfl
   . obtain ⟨cs, k1, k2, k3, k4, k5, k6, _⟩ := fin_rounds (cnt := cnt) (n := n) (most := most) (by omega) hm hbig
     have hk := kraft_one (coinsB cnt n).length (by omega) cs k2 k3 k4
     have hp : ∀ s, s < n -> 0 < cnt s -> 0 < finL cnt n most s := fun s a b => by
      obtain ⟨j, hj, rfl⟩ := symA_all a b
      rw [k5 j hj]
      exact all_used _ (by omega) cs hk j hj
     have hle : ∀ s, finL cnt n most s <= most := fun s => by
      by_cases hs : s < n /\ 0 < cnt s
      . obtain ⟨j, hj, rfl⟩ := symA_all hs.1 hs.2
        rw [k5 j hj]
        have := hC_le cs j
        omega
      . rw [k6 s hs]; omega
     refine ⟨k6, hp, hle, fun i j hi hj hcj hij => ?_, lenOK_some k6 hp, ?_⟩
     . obtain ⟨a, ha, rfl⟩ := symA_all (cnt := cnt) hi (by omega)
       obtain ⟨b, hb, rfl⟩ := symA_all (cnt := cnt) hj hcj
       rw [k5 a ha, k5 b hb]
       refine hC_mono cs b a ?_
       by_cases hab : b <= a
       . exact hab
       . exfalso
         have hl := (perm_A (cnt := cnt) (n := n)).length_eq
         have h3 := (List.pairwise_iff_getElem.1 (srt_A (cnt := cnt) (n := n))) a b (by omega) (by omega) (by omega)
         have h4 := symA_k (cnt := cnt) (n := n) ha
         have h5 := symA_k (cnt := cnt) (n := n) hb
         have h6 : ((isort ik (coinsB cnt n))[a]'(by omega)).k <= ((isort ik (coinsB cnt n))[b]'(by omega)).k := h3
         rw [h4, h5] at h6
         omega
     . rw [lenOK_parts k6, if_neg h0, if_neg h1]
       have e : sumTo (fun j => pt (finL cnt n most (symA (isort ik (coinsB cnt n)) j))) (coinsB cnt n).length = sumTo (fun j => 2 ^ (cs.length - hC cs j) * 2 ^ (15 - most)) (coinsB cnt n).length := by
        refine sumTo_congr _ _ _ fun j hj => ?_
        have h3 := k5 j hj
        have h4 := hC_le cs j
        have h5 := symA_mem (cnt := cnt) (n := n) hj
        have h6 := hp _ h5.1 h5.2
        rw [h3] at h6 ⊢
        unfold pt
        rw [if_pos h6, <- Nat.pow_add]
        congr 1
        omega
       rw [e, sumTo_mul, hk, <- Nat.pow_add, show cs.length + (15 - most) = 15 by omega]
theorem lenOK_fits {cnt : Nat -> Int} {n most : Nat} {L : Nat -> Nat} (h : LenOK cnt n most L) : parts L n <= 32768 /\ (parts L n = 32768 \/ someOf L n = 0 \/ someOf L n = 1 /\ parts L n = 16384) := by
 rw [h.some, h.parts]
 by_cases h0 : (coinsB cnt n).length = 0
 . rw [if_pos h0]; omega
 . rw [if_neg h0]
   by_cases h1 : (coinsB cnt n).length = 1
   . rw [if_pos h1]; omega
   . rw [if_neg h1]; omega
end
end Go.Proofs.Ythehocmfpoglgaa
