/- Texts joined: SBlkK JoinW Infl. Conditions: each theorem says its own. -/
import Derived.Lib.AppendStr
import Derived.Deep.Cut
import Derived.Test.YtjnglahjngiofaaJpoggce
import Derived.Test.YtjnglahjngiofaaSeenDJ
import Derived.Test.YtjnglahjngiofaaRBlkJ
import Derived.Test.YtjnglahjngiofaaJabmhmi
namespace Go.Proofs.Ytjnglahjngiofaa
open Go.RowKit
set_option maxRecDepth 100000

theorem info_blkR : (Try.prog.info? 63).map (fun i => (i.zero, i.size, i.bytes)) = some (some (.agg #[.int .i64 0, .string ⟨#[]⟩, .slice none 0 0]), 3, 48) := by kernel_rfl
/-- The row v owns the blocks l; the world is w but for what is newer than base. -/
structure BSr (w0 : World) (BB : Nat) (v : Value) (l : List LBk) (wt : World) : Prop where
  own : wt.ownsRow BB 63 3 v l.length (lbcells l)
  tk : ∀ x ∈ l, LTk wt BB x
  far : ∀ x ∈ l, 0 < x.b.toks.length → ∀ b off sp, x.a = some ⟨b, off, sp⟩ → v.ownBlock ≠ some b
  bel : Below w0.heap.size w0 wt
  sz : BB ≤ wt.heap.size
section
variable {w0 wt w' : World} {R P BB : Nat} {v v' : Value} {l : List LBk}
theorem BSr.rch (h : BSr w0 BB v l wt) (hc : Rch R P wt w') (hR : R < BB) (hP : P < BB) (h0R : w0.heap.size ≤ R) (h0P : w0.heap.size ≤ P) : BSr w0 BB v l w' :=
  ⟨ownsRow_rch h.own hc hR hP, fun x hx => ⟨(h.tk x hx).1.rch hc fun b off sp e => by have := (h.tk x hx).2 b off sp e; omega, (h.tk x hx).2⟩, h.far,
    hc.old h.bel h.bel.size h0R h0P, Nat.le_trans h.sz hc.2.2.2.1⟩
theorem BSr.app {x : LBk} {wa : World} (h : BSr w0 BB v l wt) (h0 : w0.heap.size ≤ BB) (hg : wt.grownBy w' v.ownBlock) (hown : w'.ownsRow BB 63 3 v' (l.length + 1) (lbcells l ++ lbc x)) (hnew : ∀ g, g < wt.heap.size → v.ownBlock ≠ some g → v'.ownBlock ≠ some g)
    (hx : LTk wt BB x) (hA : ∀ g, v.ownBlock = some g → g < wa.heap.size) (hxa : ∀ b off sp, x.a = some ⟨b, off, sp⟩ → wa.heap.size ≤ b) : BSr w0 BB v' (l ++ [x]) w' := by
  have hlt := World.ownsRow.lt h.own
  have hxf : ∀ b off sp, x.a = some ⟨b, off, sp⟩ → v.ownBlock ≠ some b := fun b off sp e e2 => by
    have := hA b e2
    have := hxa b off sp e
    omega
  refine ⟨?_, ?_, ?_, ?_, Nat.le_trans h.sz hg.size⟩
  · rw [List.length_append, lbcells_append]
    have e : lbcells [x] = lbc x := by unfold lbcells; simp
    rw [e]
    exact hown
  · intro y hy
    rcases List.mem_append.1 hy with hy | hy
    · exact ⟨(h.tk y hy).1.grown hg fun h0 b off sp e e2 => h.far y hy h0 b off sp e e2.symm, (h.tk y hy).2⟩
    · rw [List.mem_singleton.1 hy]
      exact ⟨hx.1.grown hg fun _ b off sp e e2 => hxf b off sp e e2.symm, hx.2⟩
  · intro y hy h0 b off sp e
    have hin : ∀ y : LBk, TkRow wt y.a y.b.toks → 0 < y.b.toks.length → y.a = some ⟨b, off, sp⟩ → b < wt.heap.size := fun y hy h0 e => by
      rcases hy with h | ⟨b', off', e', hb, _⟩
      · omega
      · rw [e'] at e
        injection e with e
        injection e with e
        omega
    rcases List.mem_append.1 hy with hy | hy
    · exact hnew b (hin y (h.tk y hy).1 h0 e) (h.far y hy h0 b off sp e)
    · rw [List.mem_singleton.1 hy] at e h0
      exact hnew b (hin x hx.1 h0 e) (hxf b off sp e)
  · exact ⟨hg.os.trans h.bel.os, hg.tape.trans h.bel.tape, hg.output.trans h.bel.output, Nat.le_trans h.bel.size hg.size, fun g hgl => (hg.block g (Nat.lt_of_lt_of_le hgl h.bel.size) (fun e => by
      have := (hlt g e.symm).1
      omega)).trans (h.bel.block g hgl)⟩
end
theorem rblocks_bad (s : ByteArray) (q most : Int) (h : q < 0 ∨ (s.size : Int) < q ∨ most < 0 ∨ 65536 < most) (w : World) : Calls Try.prog 26 #[.string s, .int .i64 q, .int .i64 most] w fun r w' => r = .returned (.tuple #[.slice none 0 0, .int .i64 0, .int .i64 1]) ∧ w = w' := by
  obtain ⟨N, HN⟩ : ∃ N, Hid (s.size = N) := ⟨_, Lib.hid (Eq.refl _)⟩
  rw [HN.out] at h
  by_cases h1 : q < 0
  · have d1 : decide (q < 0) = true := by rw [decide_eq_true_eq]; exact h1
    clear h h1
    go_enter Try.func26, Try.ntmps26
    go_wp2_with fail
    go_ret3
    exact ⟨rfl, rfl⟩
  · have d1 : decide (q < 0) = false := by rw [decide_eq_false_iff_not]; exact h1
    by_cases h2 : (N : Int) < q
    · have d2 : decide ((s.size : Int) < q) = true := by rw [decide_eq_true_eq, HN.out]; exact h2
      clear h h1 h2
      go_enter Try.func26, Try.ntmps26
      go_wp2_with fail
      go_ret3
      exact ⟨rfl, rfl⟩
    · have d2 : decide ((s.size : Int) < q) = false := by rw [decide_eq_false_iff_not, HN.out]; exact h2
      by_cases h3 : most < 0
      · have d3 : decide (most < 0) = true := by rw [decide_eq_true_eq]; exact h3
        clear h h1 h2 h3
        go_enter Try.func26, Try.ntmps26
        go_wp2_with fail
        go_ret3
        exact ⟨rfl, rfl⟩
      · have d3 : decide (most < 0) = false := by rw [decide_eq_false_iff_not]; exact h3
        have d4 : decide (65536 < most) = true := by rw [decide_eq_true_eq]; omega
        clear h h1 h2 h3
        go_enter Try.func26, Try.ntmps26
        go_wp2_with fail
        go_ret3
        exact ⟨rfl, rfl⟩
end Go.Proofs.Ytjnglahjngiofaa
namespace Go.Proofs.Ytjnglahjngiofaa
open Go.RowKit
set_option maxRecDepth 100000

theorem strCells_b (l : List UInt8) : Lib.strCells ⟨l.toArray⟩ = bcells l := by
  unfold Lib.strCells bcells
  rfl
theorem lbcells_at (l : List LBk) (k : Nat) (hk : k < l.length) : (lbcells l)[k * 3]? = some (.int .i64 ((l[k]).b.kind : Int)) ∧ (lbcells l)[k * 3 + 1]? = some (.string ⟨(l[k]).b.bytes.toArray⟩) ∧ (lbcells l)[k * 3 + 2]? = some (.slice (l[k]).a (l[k]).b.toks.length (l[k]).cap) := by
  induction l generalizing k with
  | nil => cases hk
  | cons x r ih =>
    have e : lbcells (x :: r) = .int .i64 (x.b.kind : Int) :: .string ⟨x.b.bytes.toArray⟩ :: .slice x.a x.b.toks.length x.cap :: lbcells r := rfl
    rw [e]
    cases k with
    | zero => exact ⟨rfl, rfl, rfl⟩
    | succ k =>
      rw [List.length_cons] at hk
      have := ih k (by omega)
      rw [show (k + 1) * 3 = k * 3 + 1 + 1 + 1 by omega]
      simp only [List.getElem?_cons_succ, List.getElem_cons_succ]
      exact this
theorem BS.form {w0 wt : World} {BB : Nat} {v : Value} {l : List LBk} (h : BS w0 BB v l wt) : ∃ a cap, Hid (v = .slice a l.length cap) ∧ ∀ k (hk : k < l.length), ∃ G, a = some ⟨G, 0, none⟩ ∧ G < wt.heap.size ∧
    wt.cell? ⟨G, k * 3, none⟩ = some (.int .i64 ((l[k]).b.kind : Int)) ∧ wt.cell? ⟨G, k * 3 + 1, none⟩ = some (.string ⟨(l[k]).b.bytes.toArray⟩) ∧ wt.cell? ⟨G, k * 3 + 2, none⟩ = some (.slice (l[k]).a (l[k]).b.toks.length (l[k]).cap) := by
  have hlt := World.ownsRow.lt h.own
  have hc := fun g hg => World.ownsRow.cells h.own (g := g) hg
  rcases h.own.2 with ⟨rfl, h0⟩ | ⟨G, cap, cur, rfl, _⟩
  · exact ⟨none, 0, by show _ = _; rw [h0], fun k hk => by omega⟩
  · refine ⟨_, _, Lib.hid rfl, fun k hk => ⟨G, rfl, (hlt G rfl).2, ?_⟩⟩
    obtain ⟨c0, c1, c2⟩ := lbcells_at l k hk
    have e0 : ∀ j, (⟨G, 0, none⟩ : Addr).add j = ⟨G, j, none⟩ := fun j => by unfold Addr.add; split <;> simp_all
    refine ⟨?_, ?_, ?_⟩
    · have := hc G rfl (k * 3) _ c0; rwa [e0] at this
    · have := hc G rfl (k * 3 + 1) _ c1; rwa [e0] at this
    · have := hc G rfl (k * 3 + 2) _ c2; rwa [e0] at this

set_option maxHeartbeats 32000000 in
theorem join_any (w0 : World) (BB : Nat) (v : Value) (l : List LBk) (w : World) (hS : BS w0 BB v l w) (hok : blksOK 0 (l.map LBk.b)) (hlen : blenS (l.map LBk.b) ≤ 1000000) (hl : l.length ≤ 1000000) (htl : ∀ x ∈ l, x.b.toks.length ≤ 1000000) :
    Calls Try.prog 30 #[v] w fun r w' => r = .returned (.string ⟨(joinL [] (l.map LBk.b)).toArray⟩) ∧ Below w.heap.size w w' := by
  obtain ⟨va, vc, Hv, hget⟩ := hS.form
  have hv := Hv.out
  subst hv
  have Hget := Lib.hid hget
  have Htk := Lib.hid hS.tk
  have Htl := Lib.hid htl
  obtain ⟨R, HR⟩ : ∃ R, Hid (joinL [] (l.map LBk.b) = R) := ⟨_, Lib.hid (Eq.refl _)⟩
  obtain ⟨N, HN⟩ : ∃ N, Hid (l.length = N) := ⟨_, Lib.hid (Eq.refl _)⟩
  rw [HR.out]
  rw [HN.out] at hl ⊢
  have HB0 := Lib.hid (Below.refl w.heap.size w)
  have HO0 := Lib.hid (OwnB.nil w w.heap.size)
  have Hok := Lib.hid hok
  clear hget hS Hv hok htl
  go_enter Try.func30, Try.ntmps30
  go_wp2_with fail
  go_loopw [3, 10] (fun vo k_ wr => ∃ (k : Nat) (o : List UInt8), k ≤ N ∧ k_ = .int .i64 (k : Int) ∧ o.length + blenS ((l.map LBk.b).drop k) ≤ 1000000 ∧ Hid (joinL o ((l.map LBk.b).drop k) = R) ∧ Hid (blksOK o.length ((l.map LBk.b).drop k)) ∧ Hid (OwnB wr w.heap.size vo o) ∧ Hid (Below w.heap.size w wr)) (fun _ i _ => N - (intOf i).toNat)
  case atStart => exact ⟨0, [], by omega, rfl, by simpa using hlen, HR, Hok, HO0, HB0⟩
  case round =>
    clear HB0 HO0 HR Hok
    obtain ⟨k, o, hk, rfl, hol, HR, Hok, HO, HB⟩ := hrel
    by_cases hlt : k < N
    · have hkl : k < l.length := by rw [HN.out]; exact hlt
      obtain ⟨G, rfl, hG, c0, c1, c2⟩ := Hget.out k hkl
      have hmem := List.getElem_mem hkl
      have hTk := (Htk.out _ hmem).1
      have hTl := Htl.out _ hmem
      have hdrop : (l.map LBk.b).drop k = (l[k]).b :: (l.map LBk.b).drop (k + 1) := by
        rw [List.drop_eq_getElem_cons (by simpa using hkl)]
        simp
      obtain ⟨x, Hx⟩ : ∃ x, Hid (l[k] = x) := ⟨_, Lib.hid (Eq.refl _)⟩
      rw [Hx.out] at c0 c1 c2 hTk hTl hdrop
      rw [hdrop] at hol HR Hok
      obtain ⟨⟨kd, bl, S⟩, ta, tc⟩ := x
      simp only at c0 c1 c2 hTk hTl
      obtain ⟨M, HM⟩ : ∃ n, Hid (S.length = n) := ⟨_, Lib.hid (Eq.refl _)⟩
      rw [HM.out] at c2 hTl
      have hol2 : o.length + bl.length + tlenS S + blenS ((l.map LBk.b).drop (k + 1)) ≤ 1000000 := by
        have e : blenS ((⟨kd, bl, S⟩ : Bk) :: (l.map LBk.b).drop (k + 1)) = (bl.length + tlenS S) + blenS ((l.map LBk.b).drop (k + 1)) := rfl
        rw [e] at hol
        omega
      have HR2 : Hid (joinL (joinS (o ++ bl) S) ((l.map LBk.b).drop (k + 1)) = R) := HR.out
      have Hok1 : Hid (toksOK (o.length + bl.length) S) := Hok.out.1
      have Hok2 : Hid (blksOK (o.length + (bl.length + tlenS S)) ((l.map LBk.b).drop (k + 1))) := Hok.out.2
      obtain ⟨rest, Hrest⟩ : ∃ r, Hid ((l.map LBk.b).drop (k + 1) = r) := ⟨_, Lib.hid (Eq.refl _)⟩
      rw [Hrest.out] at hol2 HR2 Hok2
      have d0 := (HB.out.cell (p := ⟨G, k * 3, none⟩) hG).trans c0
      have d1 := (HB.out.cell (p := ⟨G, k * 3 + 1, none⟩) hG).trans c1
      have d2 := (HB.out.cell (p := ⟨G, k * 3 + 2, none⟩) hG).trans c2
      have HTk := Lib.hid hTk
      obtain ⟨ol, Hol⟩ : ∃ n, Hid (o.length = n) := ⟨_, Lib.hid (Eq.refl _)⟩
      rw [Hol.out] at hol2 Hok1 Hok2
      have dk : decide ((k : Int) < (N : Int)) = true := by rw [decide_eq_true_eq]; omega
      have hkI : (k : Int) < (N : Int) := by omega
      clear c0 c1 c2 hTk hol hdrop HR Hok Hx hmem hkl
      go_upto_region 5 with (fail)
      have hB4 := Blk.new wr 61 #[.int .i64 (kd : Int), .string ⟨bl.toArray⟩, .slice ta M tc]
      have HB4 := Lib.hid (HB.out.alloc HB.out.size (.cells #[.int .i64 (kd : Int), .string ⟨bl.toArray⟩, .slice ta M tc] 61))
      have HO4 := Lib.hid (HO.out.below ((Below.refl wr.heap.size wr).alloc (Nat.le_refl _) (.cells #[.int .i64 (kd : Int), .string ⟨bl.toArray⟩, .slice ta M tc] 61)) (Nat.le_refl _))
      obtain ⟨g4, Hg4⟩ : ∃ g, Hid (wr.heap.size = g) := ⟨_, Lib.hid (Eq.refl _)⟩
      rw [Hg4.out] at hB4 ⊢
      generalize wr.alloc (.cells #[.int .i64 (kd : Int), .string ⟨bl.toArray⟩, .slice ta M tc] 61) = w4 at *
      clear d0 d1 d2 HB HO
      obtain ⟨av, cv, rfl⟩ := HO4.out.slice
      rw [Hol.out] at HO4 ⊢
      have q1 := hB4.cell 1
      simp at q1
      have HK4 := Lib.hid hB4
      have hbz : (⟨bl.toArray⟩ : ByteArray).size = bl.length := by show bl.toArray.size = _; simp
      obtain ⟨i0, hi, hz0, hz1, hz2⟩ := info_parts info_u8
      have hi' : Try.prog.info? 5 = some i0 := hi
      have hos : w4.ownsRow w.heap.size 5 1 (.slice av ol cv) ol (bcells o) := by
        have h := HO4.out
        unfold OwnB at h
        rwa [Hol.out] at h
      have hbsw : w.heap.size ≤ w4.heap.size := HB4.out.size
      go_wp2_with (first
        | (at_builtin; go_must (refine Lib.wpList_append_own_string _ rfl (.tmp 14) (.tmp 16) 47 9 rfl w.heap.size 5 i0 Try.underlying47 Try.underlying9 hi' hz0 hz1 hz2 (.slice av ol cv) ol (bcells o) rfl hos ⟨bl.toArray⟩ rfl ?_ ?_ hbsw ?_; (rw [hbz]; unfold maxLen; omega); (rw [hbz]; omega); intro v5 w5 hown5 hg5 hn5; have Hb5 := Lib.hid (HB4.out.trans (below_grown hos hg5 hbsw)); rw [hbz, strCells_b] at hown5; have HO5 := Lib.hid hown5; have HK5 := Lib.hid (HK4.out.grown hg5 (fun e => by rcases row_blk hos HK4.out (by decide) with h | h; (rw [h] at e; cases e); exact h e.symm)); have k2 := HK5.out.cell 2; simp at k2; clear hown5 hg5 hn5 hos))
        | fail)
      obtain ⟨Q, HQ⟩ : ∃ q, Hid (joinS (o ++ bl) S = q) := ⟨_, Lib.hid (Eq.refl _)⟩
      have hQl := joinS_len S (o ++ bl)
      rw [HQ.out, List.length_append, Hol.out] at hQl
      have HQl := Lib.hid hQl
      rw [HQ.out] at HR2
      have HO5b : Hid (OwnB w5 w.heap.size v5 (o ++ bl)) := by
        show OwnB _ _ _ _
        unfold OwnB
        rw [List.length_append, Hol.out, bcells_append]
        exact HO5.out
      have hl5 : (o ++ bl).length = ol + bl.length := by rw [List.length_append, Hol.out]
      have HT0 : Hid (toksOK (o ++ bl).length (S.drop 0)) := by rw [hl5]; exact Hok1.out
      have hL0 : (o ++ bl).length + tlenS (S.drop 0) ≤ 1000000 := by rw [hl5, List.drop_zero]; omega
      clear HO5 HK5 k2 HK4 HB4 HO4 hB4 q1 Hok1 hl5 hQl
      go_loopw [3, 21] (fun vo j_ wx => ∃ (j : Nat) (o : List UInt8), j ≤ M ∧ j_ = .int .i64 (j : Int) ∧ o.length + tlenS (S.drop j) ≤ 1000000 ∧ Hid (joinS o (S.drop j) = Q) ∧ Hid (toksOK o.length (S.drop j)) ∧ Hid (OwnB wx w.heap.size vo o) ∧ Hid (Below w.heap.size w wx)) (fun _ i _ => M - (intOf i).toNat)
      case atStart => exact ⟨0, o ++ bl, by omega, rfl, hL0, HQ, HT0, HO5b, Hb5⟩
      case round =>
        clear HO5b Hb5 HQ HT0 hL0 Hol
        obtain ⟨j, o, hj, rfl, hjl, HQ, HT, HO, HB⟩ := hrel
        by_cases hltj : j < M
        · have hjs : j < S.length := by rw [HM.out]; exact hltj
          obtain ⟨b, off, rfl, hbl, c0, c1, c2⟩ := (HTk.out.below HB.out (Nat.le_refl _)).get j hjs
          have hd := drop_tk hjs
          obtain ⟨t, Ht⟩ : ∃ t, Hid (tk S j = t) := ⟨_, Lib.hid (Eq.refl _)⟩
          rw [Ht.out] at c0 c1 c2 hd
          rw [hd] at HQ HT hjl
          obtain ⟨tb, tl, td⟩ := t
          simp only at c0 c1 c2
          have htb : tb.toNat < 256 := UInt8.toNat_lt tb
          have HQ2 : Hid (joinS (tout o ⟨tb, tl, td⟩) (S.drop (j + 1)) = Q) := HQ.out
          have hok1 : tokOK o.length ⟨tb, tl, td⟩ := HT.out.1
          have HT2 : Hid (toksOK (o.length + tlen ⟨tb, tl, td⟩) (S.drop (j + 1))) := HT.out.2
          have hjl2 : o.length + tlen ⟨tb, tl, td⟩ + tlenS (S.drop (j + 1)) ≤ 1000000 := by
            have e : tlenS ((⟨tb, tl, td⟩ : Tok) :: S.drop (j + 1)) = tlen ⟨tb, tl, td⟩ + tlenS (S.drop (j + 1)) := rfl
            rw [e] at hjl
            omega
          obtain ⟨ol, Hol⟩ : ∃ n, Hid (o.length = n) := ⟨_, Lib.hid (Eq.refl _)⟩
          rw [Hol.out] at hok1 HT2 hjl2
          obtain ⟨rs, Hrs⟩ : ∃ r, Hid (S.drop (j + 1) = r) := ⟨_, Lib.hid (Eq.refl _)⟩
          rw [Hrs.out] at HQ2 HT2 hjl2
          have dj : decide ((j : Int) < (M : Int)) = true := by rw [decide_eq_true_eq]; omega
          have hjI : (j : Int) < (M : Int) := by omega
          clear hd HQ HT hjl hjs
          go_upto_region 9 with (fail)
          have hB4 := Blk.new wr 35 #[.int .u8 (tb.toNat : Int), .int .i64 tl, .int .i64 td]
          have HB4 := Lib.hid (HB.out.alloc HB.out.size (.cells #[.int .u8 (tb.toNat : Int), .int .i64 tl, .int .i64 td] 35))
          have HO4 := Lib.hid (HO.out.below ((Below.refl wr.heap.size wr).alloc (Nat.le_refl _) (.cells #[.int .u8 (tb.toNat : Int), .int .i64 tl, .int .i64 td] 35)) (Nat.le_refl _))
          obtain ⟨g5, Hg5⟩ : ∃ g, Hid (wr.heap.size = g) := ⟨_, Lib.hid (Eq.refl _)⟩
          rw [Hg5.out] at hB4 ⊢
          generalize wr.alloc (.cells #[.int .u8 (tb.toNat : Int), .int .i64 tl, .int .i64 td] 35) = w6 at *
          clear c0 c1 c2 HB HO
          obtain ⟨av, cv, rfl⟩ := HO4.out.slice
          rw [Hol.out] at HO4 ⊢
          have g0 := hB4.cell 0
          have g1 := hB4.cell 1
          have g2 := hB4.cell 2
          simp at g0 g1 g2
          by_cases hl0 : tl = 0
          · subst hl0
            have hto : tout o ⟨tb, 0, td⟩ = o ++ [tb] := by unfold tout; rw [if_pos rfl]
            have htlen : tlen ⟨tb, 0, td⟩ = 1 := by unfold tlen; rw [if_pos rfl]
            rw [hto] at HQ2
            rw [htlen] at HT2 hjl2
            have hos := HO4.out
            have hbsw : w.heap.size ≤ _ := HB4.out.size
            have hl1 : (o ++ [tb]).length = ol + 1 := by rw [List.length_append, Hol.out]; rfl
            have HT3 : Hid (toksOK (o ++ [tb]).length rs) := by rw [hl1]; exact HT2.out
            have hjl3 : (o ++ [tb]).length + tlenS rs ≤ 1000000 := by rw [hl1]; exact hjl2
            clear hto htlen HT2 hl1
            go_wp2_with (first
              | (at_builtin; go_must (refine wpList_append_byte _ rfl (.tmp 28) (.tmp 31) rfl w.heap.size (.slice av ol cv) o (tb.toNat : Int) hos rfl rfl rfl ?_ ?_ ?_ hbsw ?_; omega; omega; (rw [Hol.out]; omega); intro v5 w5 hown5 hb5; have HO5 := Lib.hid hown5; have Hb5 := Lib.hid (HB4.out.trans hb5); clear hown5 hb5 hos))
              | fail)
            go_roundw
            case rel =>
              refine ⟨j + 1, o ++ [tb], by omega, by go_num, ?_, ?_, ?_, ?_, Hb5⟩
              · rw [Hrs.out]; exact hjl3
              · rw [Hrs.out]; exact HQ2
              · rw [Hrs.out]; exact HT3
              · show OwnB _ _ _ _
                have h := HO5.out
                simp only [Int.toNat_natCast, UInt8.ofNat_toNat] at h
                exact h
            case measure => simp [intOf]; omega
          · have dl0 : (tl == 0) = false := by simpa using hl0
            obtain ⟨hl1, hl300, hd1, hdo⟩ : 0 < tl ∧ tl ≤ 300 ∧ 1 ≤ td ∧ td ≤ (ol : Int) := hok1.resolve_left hl0
            obtain ⟨L, rfl⟩ : ∃ L : Nat, tl = (L : Int) := ⟨tl.toNat, by omega⟩
            obtain ⟨D, rfl⟩ : ∃ D : Nat, td = (D : Int) := ⟨td.toNat, by omega⟩
            have hto : tout o ⟨tb, (L : Int), (D : Int)⟩ = rep D o L := by unfold tout; rw [if_neg hl0]; rfl
            have htlen : tlen ⟨tb, (L : Int), (D : Int)⟩ = L := by unfold tlen; rw [if_neg hl0]; rfl
            rw [hto] at HQ2
            rw [htlen] at HT2 hjl2
            have dd1 : decide ((D : Int) < 1) = false := by rw [decide_eq_false_iff_not]; omega
            have dd2 : decide ((ol : Int) < (D : Int)) = false := by rw [decide_eq_false_iff_not]; omega
            have dd2b : decide (ol < D) = false := by rw [decide_eq_false_iff_not]; omega
            have HK0 := Lib.hid hB4
            clear hto htlen hok1 hl0
            go_wp2_with fail
            go_loopw [3, 45] (fun vo i wx => ∃ q : Nat, q ≤ L ∧ i = .int .i64 (q : Int) ∧ Hid (OwnB wx w.heap.size vo (rep D o q)) ∧ Hid (Below w.heap.size w wx) ∧ Hid (Blk wx g5 35 #[.int .u8 (tb.toNat : Int), .int .i64 (L : Int), .int .i64 (D : Int)])) (fun _ i _ => L - (intOf i).toNat)
            case atStart => exact ⟨0, by omega, rfl, HO4, HB4, HK0⟩
            case round =>
              clear HO4 HB4 HK0 hB4 g0 g1 g2
              obtain ⟨q, hq, rfl, HO, HB, HK⟩ := hrel
              have hrl := rep_len D o q
              rw [Hol.out] at hrl
              by_cases hltq : q < L
              · obtain ⟨g, cg, rfl, _⟩ := HO.out.form (by omega)
                have hc := HO.out.cell (ol + q - D) (by omega)
                obtain ⟨y, Hy⟩ : ∃ y, Hid ((rep D o q)[ol + q - D]'(by omega) = y) := ⟨_, Lib.hid (Eq.refl _)⟩
                have Hsucc : Hid (rep D o (q + 1) = rep D o q ++ [y]) := by
                  show rep D o q ++ [_] = _
                  rw [hrl, ← Hy.out]
                  simp [List.getD, show ol + q - D < (rep D o q).length by omega]
                rw [Hy.out] at hc
                have hyl : y.toNat < 256 := UInt8.toNat_lt y
                obtain ⟨qq, Hqq⟩ : ∃ x, Hid (ol + q - D = x) := ⟨_, Lib.hid (Eq.refl _)⟩
                have hqi : ((ol + q : Nat) : Int) - (D : Int) = (qq : Int) := by have := Hqq.out; omega
                have hql : qq < ol + q := by have := Hqq.out; omega
                rw [Hqq.out] at hc
                rw [hrl] at HO ⊢
                have k2 := HK.out.cell 2
                simp at k2
                have hgl := HK.out.lt
                obtain ⟨PP, HPl⟩ : ∃ n, Hid (ol + q = n) := ⟨_, Lib.hid (Eq.refl _)⟩
                rw [HPl.out] at hqi hql hrl HO ⊢
                have hPl : PP ≤ 1000000 := by have := HPl.out; omega
                have hos2 := HO.out
                unfold OwnB at hos2
                rw [hrl] at hos2
                have hbsw : w.heap.size ≤ _ := HB.out.size
                have HKx := HK
                clear HK
                go_wp2_with (first
                  | (at_builtin; go_must (refine wpList_append_elem _ rfl (.tmp 47) (.tmp 56) rfl Try.underlying47 info_u8 rfl (by decide) w.heap.size (.slice (some ⟨g, 0, none⟩) PP cg) PP (bcells (rep D o q)) [.int .u8 (y.toNat : Int)] hos2 rfl ?_ rfl rfl rfl ?_ ?_ hbsw ?_; (intro z hz; simp at hz; subst hz; rfl); (unfold maxLen; omega); omega; intro v5 w5 hown5 hg5; have HO5 := Lib.hid hown5; have Hb5 := Lib.hid (HB.out.trans (below_grown hos2 hg5 hbsw)); have HK5 := Lib.hid (HKx.out.grown hg5 (fun e => by rcases row_blk hos2 HKx.out (by decide) with h | h; (rw [h] at e; cases e); exact h e.symm)); clear hown5 hg5 hos2))
                  | fail)
                go_roundw
                case rel =>
                  refine ⟨q + 1, by omega, by go_num, ?_, Hb5, HK5⟩
                  show OwnB _ _ _ _
                  rw [Hsucc.out]
                  unfold OwnB
                  rw [List.length_append, hrl, bcells_append]
                  exact HO5.out
                case measure => simp [intOf]; omega
              · obtain rfl : q = L := by omega
                have k1 := HK.out.cell 1
                simp at k1
                have hl1 : (rep D o q).length = ol + q := hrl
                have HT3 : Hid (toksOK (rep D o q).length rs) := by rw [hl1]; exact HT2.out
                have hjl3 : (rep D o q).length + tlenS rs ≤ 1000000 := by rw [hl1]; exact hjl2
                clear HT2 hl1
                go_wp2_with fail
                go_roundw
                case rel => exact ⟨j + 1, rep D o q, by omega, by go_num, (by rw [Hrs.out]; exact hjl3), (by rw [Hrs.out]; exact HQ2), (by rw [Hrs.out]; exact HT3), HO, HB⟩
                case measure => simp [intOf]; omega
        · obtain rfl : j = M := by omega
          have hoQ : o = Q := by
            have h := HQ.out
            rw [List.drop_of_length_le (by rw [HM.out]; exact Nat.le_refl _)] at h
            exact h
          have HoQ := Lib.hid hoQ
          clear hoQ
          go_wp2_with fail
          go_roundw
          case rel =>
            refine ⟨k + 1, o, by omega, by go_num, ?_, ?_, ?_, HO, HB⟩
            · rw [Hrest.out, HoQ.out, HQl.out]; omega
            · rw [Hrest.out, HoQ.out]; exact HR2
            · rw [Hrest.out, HoQ.out, HQl.out]
              have := Hok2.out
              rwa [Nat.add_assoc]
          case measure => simp [intOf]; omega
    · obtain rfl : k = N := by omega
      have hRd : o = R := by
        rw [← HR.out, List.drop_of_length_le (by rw [List.length_map, HN.out]; exact Nat.le_refl _)]; rfl
      have hcv := run_string_own _ _ _ _ HO.out
      have HRd := Lib.hid hRd
      clear hRd
      go_wp2_with fail
      go_ret
      exact ⟨by rw [← HRd.out]; rfl, HB.out⟩
end Go.Proofs.Ytjnglahjngiofaa
namespace Go.Proofs.Ytjnglahjngiofaa
open Go.RowKit
set_option maxRecDepth 100000

theorem inflate_bad (s : ByteArray) (q most : Int) (h : q < 0 ∨ (s.size : Int) < q ∨ most < 0 ∨ 65536 < most) (w : World) : Calls Try.prog 27 #[.string s, .int .i64 q, .int .i64 most] w fun r w' => r = .returned (.tuple #[.string ⟨#[]⟩, .int .i64 0, .int .i64 1]) ∧ w = w' := by
  have CB := Lib.hid (blocks_bad s q most h w)
  clear h
  go_enter Try.func27, Try.ntmps27
  go_wp2_with fail
  refine CB.out.mono ?_
  rintro r w1 ⟨rfl, rfl⟩
  go_wp2_with fail
  go_ret3
  exact ⟨rfl, rfl⟩

theorem inflate_any (s : ByteArray) (hs : s.size ≤ 100000) (q most : Nat) (hq : q ≤ s.size) (hm : most ≤ 65536) (u : ByteArray) (hu : s.extract q s.size = u) (w : World) :
    Calls Try.prog 27 #[.string s, .int .i64 (q : Int), .int .i64 (most : Int)] w fun r w' => Below w.heap.size w w' ∧
      ((∃ e, e ≠ 0 ∧ inflR u most = .error e ∧ r = .returned (.tuple #[.string ⟨#[]⟩, .int .i64 0, .int .i64 (e : Int)])) ∨
       (∃ bs p z, inflR u most = .ok (bs, sg u p z) ∧ p ≤ 8 * u.size ∧ r = .returned (.tuple #[.string ⟨(joinL [] bs).toArray⟩, .int .i64 (((p + 7) / 8 : Nat) : Int), .int .i64 0]))) := by
  have CB := Lib.hid (blocks_ok s hs q most hq hm w)
  have hus : u.size ≤ 100000 := by rw [← hu, ByteArray.size_extract]; omega
  rw [hu] at CB
  obtain ⟨RES, HRES⟩ : ∃ x, Hid (inflR u most = x) := ⟨_, Lib.hid (Eq.refl _)⟩
  have e0 : blocksM most (8 * u.size + 1) (sg u 0 0) [] = RES := HRES.out
  rw [e0] at CB
  rw [HRES.out]
  clear hu e0
  go_enter Try.func27, Try.ntmps27
  go_wp2_with fail
  refine CB.out.mono ?_
  rintro r w1 ⟨hb, ⟨e, he, hr, rfl⟩ | ⟨l, p, z, v, BB, hr, hp, hz, rfl, hBB, hS⟩⟩
  · have Hb := Lib.hid hb
    have Hr := Lib.hid hr
    have de : ((e : Int) == 0) = false := by simp; omega
    have de2 : ((e : Int) != 0) = true := by simp; omega
    clear hb hr CB
    go_wp2_with fail
    go_ret3
    exact ⟨Hb.out, .inl ⟨e, he, Hr.out, rfl⟩⟩
  · have Hb := Lib.hid hb
    have Hr := Lib.hid hr
    have ho := HRES.out.trans hr
    obtain ⟨k1, k2, k3, _⟩ := infl_out ho
    have k4 := blocksM_count _ (show blocksM most (8 * u.size + 1) (sg u 0 0) [] = _ from ho)
    have k5 := blks_count _ _ k1
    have k6 : blenS (l.map LBk.b) ≤ 1000000 := by rw [← k2]; omega
    have k7 : l.length ≤ 1000000 := by
      rw [List.length_map] at k4
      have e1 : (sg u 0 0).n = 8 * u.size := rfl
      have e2 : ([] : List Bk).length = 0 := rfl
      omega
    have k8 : ∀ x ∈ l, x.b.toks.length ≤ 1000000 := fun x hx => Nat.le_trans (k5 x.b (List.mem_map_of_mem hx)) k6
    have CJ := Lib.hid (join_any w BB v l w1 hS k1 k6 k7 k8)
    obtain ⟨T, HT⟩ : ∃ x, Hid ((⟨(joinL [] (l.map LBk.b)).toArray⟩ : ByteArray) = x) := ⟨_, Lib.hid (Eq.refl _)⟩
    rw [HT.out] at CJ
    obtain ⟨pl, Hpl⟩ : ∃ x, Hid ((p + 7) / 8 = x) := ⟨_, Lib.hid (Eq.refl _)⟩
    rw [Hpl.out]
    clear hb hr ho k1 k2 k3 k4 k5 k6 k7 k8 hS CB
    go_wp2_with fail
    refine CJ.out.mono ?_
    rintro r w2 ⟨rfl, hb2⟩
    have Hb2 := Lib.hid (bthen Hb.out hb2)
    clear hb2
    go_wp2_with fail
    go_ret3
    exact ⟨Hb2.out, .inr ⟨l.map LBk.b, p, z, Hr.out, hp, by rw [Hpl.out, HT.out]; rfl⟩⟩

theorem inflate_is_ok {s : ByteArray} (hs : s.size ≤ 100000) {q most : Nat} (hq : q ≤ s.size) (hm : most ≤ 65536) {u : ByteArray} (hu : s.extract q s.size = u) {bs : List Bk} {σ : Sg} (h : inflR u most = .ok (bs, σ)) (w : World) :
    Calls Try.prog 27 #[.string s, .int .i64 (q : Int), .int .i64 (most : Int)] w fun r w' => r = .returned (.tuple #[.string ⟨(joinL [] bs).toArray⟩, .int .i64 (((8 * u.size - σ.n + 7) / 8 : Nat) : Int), .int .i64 0]) ∧ Below w.heap.size w w' := by
  refine (inflate_any s hs q most hq hm u hu w).mono ?_
  rintro r w' ⟨hb, ⟨e, _, h2, _⟩ | ⟨bs', p, z, h2, hp, rfl⟩⟩
  · rw [h] at h2; cases h2
  · rw [h] at h2
    injection h2 with h2; injection h2 with h3 h2
    subst h3 h2
    refine ⟨?_, hb⟩
    have e : 8 * u.size - (sg u p z).n = p := by show 8 * u.size - (8 * u.size - p) = p; omega
    rw [e]
theorem inflate_is_err {s : ByteArray} (hs : s.size ≤ 100000) {q most : Nat} (hq : q ≤ s.size) (hm : most ≤ 65536) {u : ByteArray} (hu : s.extract q s.size = u) {e : Nat} (h : inflR u most = .error e) (w : World) :
    Calls Try.prog 27 #[.string s, .int .i64 (q : Int), .int .i64 (most : Int)] w fun r w' => r = .returned (.tuple #[.string ⟨#[]⟩, .int .i64 0, .int .i64 (e : Int)]) ∧ Below w.heap.size w w' := by
  refine (inflate_any s hs q most hq hm u hu w).mono ?_
  rintro r w' ⟨hb, ⟨e', _, h2, rfl⟩ | ⟨bs', p, z, h2, hp, rfl⟩⟩
  · rw [h] at h2
    injection h2 with h2
    subst h2
    exact ⟨rfl, hb⟩
  · rw [h] at h2; cases h2
theorem extract_all (s : ByteArray) : s.extract 0 s.size = s := by simp
end Go.Proofs.Ytjnglahjngiofaa
