/- ChunkerParts' walk. Conditions: texts that Go can hold. -/
import Derived.Test.YtgjofpefglbjjaaLaw10a
import Derived.Test.YtgjofpefglbjjaaSRow
namespace Go.Proofs.Ytgjofpefglbjjaa
open Go.RowKit
set_option maxRecDepth 100000

theorem ownsRow_below {w w' : World} {b e s n : Nat} {v : Value} {x : List Value} (h : w.ownsRow b e s v n x) (hb : Below w.heap.size w w') : w'.ownsRow b e s v n x := by
  have hlt := World.ownsRow.lt h
  refine ⟨h.1, ?_⟩
  rcases h.2 with h2 | ⟨g, cap, cur, rfl, h3, h4, h5⟩
  · exact .inl h2
  · exact .inr ⟨g, cap, cur, rfl, h3, (hb.block g (hlt g rfl).2).trans h4, h5⟩
theorem ownsRow_chg {w w' : World} {b e s n P : Nat} {v v0 : Value} {x : List Value} (h : w.ownsRow b e s v n x) (hc : KChg w w' P v0) (hP : v.ownBlock = none ∨ v.ownBlock ≠ some P) (hv : v.ownBlock = none ∨ v.ownBlock ≠ v0.ownBlock) : w'.ownsRow b e s v n x := by
  have hlt := World.ownsRow.lt h
  refine ⟨h.1, ?_⟩
  rcases h.2 with h2 | ⟨g, cap, cur, rfl, h3, h4, h5⟩
  · exact .inl h2
  · have e : (Value.slice (some ⟨g, 0, none⟩) n cap).ownBlock = some g := rfl
    rw [e] at hP hv
    refine .inr ⟨g, cap, cur, rfl, h3, (hc.2.2 g (hlt g rfl).2 (fun e2 => ?_) (fun e2 => ?_)).trans h4, h5⟩
    · rcases hP with h | h
      · cases h
      · exact h (by rw [e2])
    · rcases hv with h | h
      · cases h
      · exact h e2.symm
theorem KAt.below {w w' : World} {P base mn b mx : Nat} {h g : List UInt8} {v : Value} {cl : Bool} (k : KAt w P base mn b mx h g v cl) (hb : Below w.heap.size w w') : KAt w' P base mn b mx h g v cl := by
  obtain ⟨ring, t, hB, hR, hO⟩ := k
  exact ⟨ring, t, hB.below hb hB.lt, hR, ownsRow_below hO hb⟩
theorem KAt.strs {w w' : World} {P base b2 mn b mx : Nat} {h g : List UInt8} {v vo : Value} {cl : Bool} {l : List (List UInt8)} (k : KAt w P base mn b mx h g v cl) (ho : OwnS w b2 vo l) (hg : w.grownBy w' vo.ownBlock) : KAt w' P base mn b mx h g v cl := by
  obtain ⟨ring, t, hB, hR, hO⟩ := k
  refine ⟨ring, t, hB.grown hg ?_, hR, World.ownsRow.kept hO hg (rows_apart hO ho (by decide))⟩
  rcases row_blk ho hB (by decide) with e | e
  · rw [e]; simp
  · exact fun e2 => e e2.symm
theorem KAt.blk {w : World} {P base mn b mx : Nat} {h g : List UInt8} {v : Value} {cl : Bool} (k : KAt w P base mn b mx h g v cl) : ∃ cs, Blk w P 74 cs := by
  obtain ⟨ring, t, hB, _⟩ := k
  exact ⟨_, hB⟩
theorem blk_ne {w : World} {P Q t u : Nat} {cs ds : Array Value} (h : Blk w P t cs) (k : Blk w Q u ds) (hne : t ≠ u) : P ≠ Q := by
  rintro rfl
  unfold Blk at h k
  rw [h] at k
  simp only [Option.some.injEq, Obj.cells.injEq] at k
  exact hne k.2.1
theorem conf_chg {w w' : World} {P Q base mn b mx : Nat} {h g : List UInt8} {v : Value} {cl : Bool} {ds : Array Value} (k : KAt w P base mn b mx h g v cl) (hc : KChg w w' P v) (hQ : Blk w Q 41 ds) : Blk w' Q 41 ds := by
  obtain ⟨ring, t, hB, hR, hO⟩ := k
  refine (hc.2.2 Q hQ.lt (blk_ne hQ hB (by decide)) (fun e => ?_)).trans hQ
  rcases row_blk hO hQ (by decide) with h | h
  · rw [h] at e; cases e
  · exact h e
theorem strs_chg {w w' : World} {P base b2 mn b mx : Nat} {h g : List UInt8} {v vo : Value} {cl : Bool} {l : List (List UInt8)} (k : KAt w P base mn b mx h g v cl) (hc : KChg w w' P v) (ho : OwnS w b2 vo l) : OwnS w' b2 vo l := by
  obtain ⟨ring, t, hB, hR, hO⟩ := k
  exact ownsRow_chg ho hc (row_blk ho hB (by decide)) (rows_apart ho hO (by decide))

theorem crun_out (mn b mx : Nat) (h g : List UInt8) (o : List (List UInt8)) (l : List UInt8) :
    crun mn b mx ⟨h, g, o⟩ l = ⟨(crun mn b mx ⟨h, g, []⟩ l).hist, (crun mn b mx ⟨h, g, []⟩ l).begun, o ++ (crun mn b mx ⟨h, g, []⟩ l).out⟩ := by
  induction l generalizing h g o with
  | nil => simp [crun]
  | cons c r ih =>
    show crun mn b mx (cstep mn b mx ⟨h, g, o⟩ c) r = _
    have e : crun mn b mx ⟨h, g, []⟩ (c :: r) = crun mn b mx (cstep mn b mx ⟨h, g, []⟩ c) r := rfl
    rw [e]
    unfold cstep
    by_cases hc : cend mn b mx (h ++ [c]) (g.length + 1) = true
    · rw [if_pos hc, if_pos hc, ih, ih _ _ ([] ++ [g ++ [c]])]
      simp
    · rw [if_neg hc, if_neg hc, ih]

/-- The parts that are read, behind each other. -/
def partsL (m : Nat → ByteArray) : Nat → List UInt8
  | 0 => []
  | k + 1 => partsL m k ++ (few (m k) 300).data.toList
theorem partsL_length (m : Nat → ByteArray) (k : Nat) : (partsL m k).length ≤ 300 * k := by
  induction k with
  | zero => simp [partsL]
  | succ k ih =>
    have := few_size (m k) 300
    simp only [partsL, List.length_append, show (few (m k) 300).data.toList.length = (few (m k) 300).size by simp]
    omega

theorem write_closed (P base mn b mx : Nat) (h g : List UInt8) (v : Value) (s : ByteArray) (w : World) (hK : KAt w P base mn b mx h g v true) :
    Calls Try.prog 41 #[.pointer (some ⟨P, 0, none⟩), .string s] w fun e w' => e = .returned (.slice none 0 0) ∧ w = w' := by
  obtain ⟨ring, t, hB, _⟩ := hK
  have hc30 : w.cell? ⟨P, 30, none⟩ = some (.bool true) := by rw [hB.cell, k_30]
  clear hB
  go_enter Try.func41, Try.ntmps41
  go_wp2_with fail
  go_ret
  exact ⟨rfl, rfl⟩

theorem parts_no (a : Option Addr) (len cap : Nat) (mn b mx : Int) (hn : kErr mn b mx ≠ 0) (w : World) :
    Calls Try.prog 10 #[.slice a len cap, .agg #[.int .i64 mn, .int .i64 b, .int .i64 mx]] w fun e w' => e = .returned (.bool true) ∧ Below w.heap.size w w' := by
  have hb0 := (Below.refl w.heap.size w).alloc (Nat.le_refl _) (.cells #[.int .i64 mn, .int .i64 b, .int .i64 mx] 41)
  have cn := fun W => new_no mn b mx hn W
  obtain ⟨e, he⟩ : ∃ e, kErr mn b mx = e := ⟨_, rfl⟩
  rw [he] at hn cn
  have CN := Lib.hid cn
  have hne : ((e : Int) != 0) = true := by simp; omega
  clear he hn cn
  go_enter Try.func10, Try.ntmps10
  go_wp2_with fail
  refine (CN.out _).mono ?_
  rintro e w1 ⟨rfl, hb1⟩
  have HB := Lib.hid (bthen hb0 hb1)
  clear hb0 hb1
  go_wp2_with fail
  refine (awake10 _).mono ?_
  rintro e w2 ⟨rfl, hb2⟩
  go_wp2_with fail
  go_ret
  exact ⟨rfl, bthen HB.out hb2⟩

set_option maxHeartbeats 4000000 in
theorem parts_yes (a : Option Addr) (len cap : Nat) (m : Nat → ByteArray) (hl : len ≤ 9223372036854775807) (mn b mx : Nat) (hb : b ≤ 20) (hx : mx ≤ 4096) (hn : kErr mn b mx = 0) (w : World) (hr : SRow w a len m) :
    Calls Try.prog 10 #[.slice a len cap, .agg #[.int .i64 (mn : Int), .int .i64 (b : Int), .int .i64 (mx : Int)]] w fun e w' => e = .returned (.bool true) ∧ Below w.heap.size w w' := by
  have hb0 := (Below.refl w.heap.size w).alloc (Nat.le_refl _) (.cells #[.int .i64 (mn : Int), .int .i64 (b : Int), .int .i64 (mx : Int)] 41)
  have hcf := Blk.new w 41 #[.int .i64 (mn : Int), .int .i64 (b : Int), .int .i64 (mx : Int)]
  have hlt : w.heap.size < (w.alloc (.cells #[.int .i64 (mn : Int), .int .i64 (b : Int), .int .i64 (mx : Int)] 41)).heap.size := by simp
  have CN := Lib.hid (fun W => new_yes mn b mx hn W)
  have CW := Lib.hid (fun P base h g v0 s hs hg W => write_any P base mn b mx h g v0 s hs hg hb hx W)
  have CQ := Lib.hid (fun s hs W => split_yes s hs mn b mx hb hx hn W)
  have HR := Lib.hid hr
  clear hn hb hx hr
  go_enter Try.func10, Try.ntmps10
  go_wp2_with fail
  generalize w.alloc (.cells #[.int .i64 (mn : Int), .int .i64 (b : Int), .int .i64 (mx : Int)] 41) = w1 at *
  obtain ⟨B, HBe⟩ : ∃ B, Hid (w.heap.size = B) := ⟨_, Lib.hid (Eq.refl _)⟩
  rw [HBe.out] at hb0 hcf hlt ⊢
  refine (CN.out _).mono ?_
  rintro e w2 ⟨P, rfl, hP, hB2, hb2⟩
  have hbw2 : Below w.heap.size w w2 := by rw [HBe.out]; exact hb0.trans (hb2.mono (Nat.le_of_lt hlt))
  have hPB : B ≤ P := by omega
  have hc2 := hcf.below hb2 hlt
  have hK2 : KAt w2 P B mn b mx [] [] (.slice none 0 0) false := ⟨_, 0, by rw [fp_nil]; exact hB2, KRing.start, OwnB.nil _ _⟩
  have hs2 : B ≤ w2.heap.size := Nat.le_trans (Nat.le_of_lt hlt) hb2.size
  clear hb0 hcf hlt hP hB2 hb2
  have HK2 := Lib.hid hK2
  have HC2 := Lib.hid hc2
  have HBw2 := Lib.hid hbw2
  clear hK2 hc2 hbw2
  go_wp2_with fail
  have ho0 : OwnS (w2.alloc (.cells #[] 9)) B (.slice (some ⟨w2.heap.size, 0, none⟩) 0 0) [] := World.ownsRow_made w2 #[] 0 hs2 (Nat.zero_le _) rfl
  have hal : Below w2.heap.size w2 (w2.alloc (.cells #[] 9)) := (Below.refl _ _).alloc (Nat.le_refl _) _
  have HO0 := Lib.hid ho0
  have HK0 := Lib.hid (HK2.out.below hal)
  have HC0 := Lib.hid (HC2.out.below hal HC2.out.lt)
  have HB0 := Lib.hid (bthen HBw2.out hal)
  clear ho0 hal HK2 HC2 HBw2
  generalize w2.alloc (.cells #[] 9) = w3 at *
  go_loopw [7, 8, 9, 10] (fun all got i _ wr => ∃ (k : Nat) (T : ByteArray) (v : Value), k ≤ len ∧ k ≤ 20 ∧ all = .string T ∧ i = .int .i64 (k : Int) ∧ Hid (T.data.toList = partsL m k) ∧
      Hid (KAt wr P B mn b mx (crun mn b mx c0 (partsL m k)).hist (crun mn b mx c0 (partsL m k)).begun v false) ∧ Hid (OwnS wr B got (crun mn b mx c0 (partsL m k)).out) ∧
      Hid (Blk wr B 41 #[.int .i64 (mn : Int), .int .i64 (b : Int), .int .i64 (mx : Int)]) ∧ Hid (Below w.heap.size w wr))
    (fun _ _ i _ _ => 20 - (intOf i).toNat)
  case atStart => exact ⟨0, _, _, by omega, by omega, rfl, rfl, rfl, HK0, HO0, HC0, HB0⟩
  case round =>
    clear HO0 HK0 HC0 HB0
    obtain ⟨k, T, v, hk, hk20, rfl, rfl, HT, HK, HO, HC, HBw⟩ := hrel
    have hTl : T.size ≤ 6000 := by
      have h1 := partsL_length m k
      rw [← HT.out, show T.data.toList.length = T.size by simp] at h1
      omega
    have hbg := crun_begun_le mn b mx c0 (partsL m k)
    have hou := crun_out_le mn b mx c0 (partsL m k)
    rw [← HT.out, show T.data.toList.length = T.size by simp, show c0.begun.length = 0 from rfl, HT.out] at hbg
    rw [← HT.out, show T.data.toList.length = T.size by simp, show c0.out.length = 0 from rfl, HT.out] at hou
    obtain ⟨S, HS⟩ : ∃ S, Hid (crun mn b mx c0 (partsL m k) = S) := ⟨_, Lib.hid (Eq.refl _)⟩
    rw [HS.out] at HK HO hbg hou
    have hBs := Nat.le_trans (show B ≤ w.heap.size by rw [HBe.out]; exact Nat.le_refl _) HBw.out.size
    have hPw : w.heap.size ≤ P := by rw [HBe.out]; exact hPB
    have Hvb : Hid (∀ g, v.ownBlock = some g → w.heap.size ≤ g) := by
      intro g e
      obtain ⟨_, _, _, _, hO⟩ := HK.out
      rw [HBe.out]
      exact (World.ownsRow.lt hO g e).1
    by_cases hgo : k < len ∧ k < 20
    · obtain ⟨hg1, hg2⟩ := hgo
      obtain ⟨bk, off, rfl, hblt, hcell, hsz⟩ := HR.out.get k hg1
      have hcl := (HBw.out.cell (p := ⟨bk, off + k, none⟩) hblt).trans hcell
      have hfs := few_size (m k) 300
      have CF := few_any (m k) 300 (by decide) hsz wr
      obtain ⟨x, Hx⟩ : ∃ x, Hid (few (m k) 300 = x) := ⟨_, Lib.hid (Eq.refl _)⟩
      rw [Hx.out] at CF hfs
      clear hcell hblt
      go_wp2_with fail
      refine CF.mono ?_
      rintro e w4 ⟨rfl, rfl⟩
      clear CF hcl hsz
      go_wp2_with fail
      refine (CW.out P B S.hist S.begun v x (by omega) (by omega) wr HK.out hBs).mono ?_
      rintro e w4 ⟨vo, v4, rfl, hOs, hK4, hchg, _⟩
      have Hcr : Hid (crun mn b mx c0 (partsL m (k + 1)) = ⟨(crun mn b mx ⟨S.hist, S.begun, []⟩ x.data.toList).hist, (crun mn b mx ⟨S.hist, S.begun, []⟩ x.data.toList).begun, S.out ++ (crun mn b mx ⟨S.hist, S.begun, []⟩ x.data.toList).out⟩) := by
        show _ = _
        rw [← crun_out]
        show crun mn b mx c0 (partsL m k ++ (few (m k) 300).data.toList) = _
        rw [crun_append, HS.out, Hx.out]
      have ho2 := crun_out_le mn b mx ⟨S.hist, S.begun, []⟩ x.data.toList
      rw [show x.data.toList.length = x.size by simp, show (CS.mk S.hist S.begun []).out.length = 0 from rfl] at ho2
      obtain ⟨S2, HS2⟩ : ∃ S2, Hid (crun mn b mx ⟨S.hist, S.begun, []⟩ x.data.toList = S2) := ⟨_, Lib.hid (Eq.refl _)⟩
      rw [HS2.out] at hOs hK4 Hcr ho2
      have hO4 := strs_chg HK.out hchg HO.out
      have hC4 := conf_chg HK.out hchg HC.out
      have hB4 := hchg.below HBw.out hPw Hvb.out
      have hBs4 : B ≤ w4.heap.size := Nat.le_trans hBs hchg.2.1
      have hlen2 : S.out.length + S2.out.length ≤ 1000000 := by omega
      have HK4 := Lib.hid hK4
      have HC4 := Lib.hid hC4
      have HB4 := Lib.hid hB4
      have hTx : T.size + x.size ≤ maxLen := by unfold maxLen; omega
      clear HK HO HC HBw hK4 hchg hC4 hB4 Hvb hBs
      go_wp2_with (first
        | (at_builtin; go_must (refine wpList_append_two rfl (.tmp 46) (.tmp 49) rfl B wr.heap.size u8 vo S.out S2.out rfl hO4 rfl hOs hlen2 hBs4 ?_; intro v5 w5 hO5 hg5; have HO5 := Lib.hid hO5; have HK5 := Lib.hid (HK4.out.strs hO4 hg5); have HC5 := Lib.hid (HC4.out.grown hg5 (fun e => (row_blk hO4 HC4.out (by decide)).elim (fun h => by rw [h] at e; cases e) (fun h => h e.symm))); have HB5 := Lib.hid (grown_below hg5 HB4.out (fun g e => by rw [HBe.out]; exact (World.ownsRow.lt hO4 g e).1)); clear hO5 hg5 hO4 hOs HK4 HC4 HB4))
        | fail)
      go_roundw
      case rel =>
        refine ⟨k + 1, T ++ x, v4, by omega, by omega, rfl, by go_num, ?_, ?_, ?_, HC5, HB5⟩
        · show _ = _
          rw [ByteArray.data_append, Array.toList_append, HT.out, ← Hx.out]
          rfl
        · show KAt _ _ _ _ _ _ _ _ _ _
          rw [Hcr.out]
          exact HK5.out
        · show OwnS _ _ _ _
          rw [Hcr.out]
          exact HO5.out
      case measure => simp [intOf]; omega
    · by_cases hg1 : k < len
      · have hd : decide ((k : Int) < 20) = false := by simp; omega
        go_wp2_with fail
        refine (close_any P B mn b mx S.hist S.begun v false wr HK.out (by omega)).mono ?_
        rintro e w4 hcl
        obtain ⟨⟨v4, hK4⟩, hg4, vo, rfl, hOs⟩ := hcl.form
        obtain ⟨kcs, hKB⟩ := HK.out.blk
        have hO4 := HO.out.grown hg4 (row_blk HO.out hKB (by decide))
        have hC4 := HC.out.grown hg4 (fun e => blk_ne HC.out hKB (by decide) (by injection e))
        have hB4 := grown_below hg4 HBw.out (fun g e => by injection e with e; omega)
        have hBs4 : B ≤ w4.heap.size := Nat.le_trans hBs hg4.size
        have hr1 : (rest1 S.begun).length ≤ 1 := by unfold rest1; split <;> simp
        have hlen2 : S.out.length + (rest1 S.begun).length ≤ 1000000 := by omega
        have HK4 := Lib.hid hK4
        have HC4 := Lib.hid hC4
        have HB4 := Lib.hid hB4
        clear HK HO HC HBw hK4 hg4 hC4 hB4 Hvb hBs hcl hKB
        go_wp2_with (first
          | (at_builtin; go_must (refine wpList_append_two rfl (.tmp 54) (.tmp 56) rfl B wr.heap.size u8 vo S.out (rest1 S.begun) rfl hO4 rfl hOs hlen2 hBs4 ?_; intro v5 w5 hO5 hg5; have HO5 := Lib.hid hO5; have HK5 := Lib.hid (HK4.out.strs hO4 hg5); have HC5 := Lib.hid (HC4.out.grown hg5 (fun e => (row_blk hO4 HC4.out (by decide)).elim (fun h => by rw [h] at e; cases e) (fun h => h e.symm))); have HB5 := Lib.hid (grown_below hg5 HB4.out (fun g e => by rw [HBe.out]; exact (World.ownsRow.lt hO4 g e).1)); clear hO5 hg5 hO4 hOs HK4 HC4 HB4; obtain ⟨cc0, cc1, cc2⟩ := conf_cells HC5.out))
          | fail)
        refine (CQ.out T (by omega) _).mono ?_
        rintro e w6 ⟨v6, rfl, hO6, hb6⟩
        have HK6 := Lib.hid (HK5.out.below hb6)
        have HG6 := Lib.hid (HO5.out.below hb6 (Nat.le_refl _))
        have HO6 := Lib.hid hO6
        have HB6 := Lib.hid (bthen HB5.out hb6)
        clear cc0 cc1 cc2 HK5 HO5 HC5 HB5 hO6 hb6
        go_wp2_with fail
        refine (write_closed P B mn b mx _ _ _ _ w6 HK6.out).mono ?_
        rintro e w7 ⟨rfl, rfl⟩
        go_wp2_with fail
        refine (close_any P B mn b mx S.hist [] v4 true w6 HK6.out (by simp)).mono ?_
        rintro e w7 hcl
        obtain ⟨_, hg7, vo7, rfl, hOs7⟩ := hcl.form
        obtain ⟨kcs, hKB⟩ := HK6.out.blk
        have HG7 := Lib.hid (HG6.out.grown hg7 (row_blk HG6.out hKB (by decide)))
        have HO7 := Lib.hid (HO6.out.grown hg7 (row_blk HO6.out hKB (by decide)))
        have HB7 := Lib.hid (grown_below hg7 HB6.out (fun g e => by injection e with e; omega))
        have hn7 := OwnS.nil w7 w7.heap.size
        clear HG6 HO6 HB6 HK6 hcl hKB hg7
        go_wp2_with (first
          | (at_builtin; go_must (refine wpList_append_two rfl (.tmp 65) (.tmp 67) rfl w7.heap.size w6.heap.size (.slice none 0 0) vo7 [] (rest1 []) rfl hn7 rfl hOs7 (by decide) (Nat.le_refl _) ?_; intro v8 w8 hO8 hg8; have HG8 := Lib.hid (HG7.out.grown hg8 (by rcases hb : v5.ownBlock with _ | _; exact .inl rfl; exact .inr (by simp [Value.ownBlock]))); have HO8 := Lib.hid (HO7.out.grown hg8 (by rcases hb : v6.ownBlock with _ | _; exact .inl rfl; exact .inr (by simp [Value.ownBlock]))); have HB8 := Lib.hid (grown_below hg8 HB7.out (fun g e => by cases e)); obtain ⟨a8, cap8, rfl, _⟩ := hO8.view; clear hO8 hg8 HG7 HO7 HB7 hn7 hOs7))
          | fail)
        refine (awake10 _).mono ?_
        rintro e w9 ⟨rfl, hb9⟩
        have HG9 := Lib.hid (HG8.out.below hb9 (Nat.le_refl _))
        have HO9 := Lib.hid (HO8.out.below hb9 (Nat.le_refl _))
        have HB9 := Lib.hid (bthen HB8.out hb9)
        have Hcs : Hid (csplit mn b mx T.data.toList = S.out ++ rest1 S.begun) := by
          show _ = _
          unfold csplit
          rw [HT.out, HS.out]
        rw [Hcs.out] at HO9
        clear HG8 HO8 HB8 hb9
        go_wp2_with fail
        refine (same_any _ _ v5 v6 _ _ (by rw [List.length_append]; exact hlen2) _ HG9.out HO9.out).mono ?_
        rintro e w10 ⟨rfl, nq, rfl⟩
        rw [if_pos rfl]
        go_wp2_with fail
        go_ret
        exact ⟨rfl, below_drewN HB9.out nq⟩
      · have hd : decide ((k : Int) < (len : Int)) = false := by simp; omega
        go_wp2_with fail
        refine (close_any P B mn b mx S.hist S.begun v false wr HK.out (by omega)).mono ?_
        rintro e w4 hcl
        obtain ⟨⟨v4, hK4⟩, hg4, vo, rfl, hOs⟩ := hcl.form
        obtain ⟨kcs, hKB⟩ := HK.out.blk
        have hO4 := HO.out.grown hg4 (row_blk HO.out hKB (by decide))
        have hC4 := HC.out.grown hg4 (fun e => blk_ne HC.out hKB (by decide) (by injection e))
        have hB4 := grown_below hg4 HBw.out (fun g e => by injection e with e; omega)
        have hBs4 : B ≤ w4.heap.size := Nat.le_trans hBs hg4.size
        have hr1 : (rest1 S.begun).length ≤ 1 := by unfold rest1; split <;> simp
        have hlen2 : S.out.length + (rest1 S.begun).length ≤ 1000000 := by omega
        have HK4 := Lib.hid hK4
        have HC4 := Lib.hid hC4
        have HB4 := Lib.hid hB4
        clear HK HO HC HBw hK4 hg4 hC4 hB4 Hvb hBs hcl hKB
        go_wp2_with (first
          | (at_builtin; go_must (refine wpList_append_two rfl (.tmp 54) (.tmp 56) rfl B wr.heap.size u8 vo S.out (rest1 S.begun) rfl hO4 rfl hOs hlen2 hBs4 ?_; intro v5 w5 hO5 hg5; have HO5 := Lib.hid hO5; have HK5 := Lib.hid (HK4.out.strs hO4 hg5); have HC5 := Lib.hid (HC4.out.grown hg5 (fun e => (row_blk hO4 HC4.out (by decide)).elim (fun h => by rw [h] at e; cases e) (fun h => h e.symm))); have HB5 := Lib.hid (grown_below hg5 HB4.out (fun g e => by rw [HBe.out]; exact (World.ownsRow.lt hO4 g e).1)); clear hO5 hg5 hO4 hOs HK4 HC4 HB4; obtain ⟨cc0, cc1, cc2⟩ := conf_cells HC5.out))
          | fail)
        refine (CQ.out T (by omega) _).mono ?_
        rintro e w6 ⟨v6, rfl, hO6, hb6⟩
        have HK6 := Lib.hid (HK5.out.below hb6)
        have HG6 := Lib.hid (HO5.out.below hb6 (Nat.le_refl _))
        have HO6 := Lib.hid hO6
        have HB6 := Lib.hid (bthen HB5.out hb6)
        clear cc0 cc1 cc2 HK5 HO5 HC5 HB5 hO6 hb6
        go_wp2_with fail
        refine (write_closed P B mn b mx _ _ _ _ w6 HK6.out).mono ?_
        rintro e w7 ⟨rfl, rfl⟩
        go_wp2_with fail
        refine (close_any P B mn b mx S.hist [] v4 true w6 HK6.out (by simp)).mono ?_
        rintro e w7 hcl
        obtain ⟨_, hg7, vo7, rfl, hOs7⟩ := hcl.form
        obtain ⟨kcs, hKB⟩ := HK6.out.blk
        have HG7 := Lib.hid (HG6.out.grown hg7 (row_blk HG6.out hKB (by decide)))
        have HO7 := Lib.hid (HO6.out.grown hg7 (row_blk HO6.out hKB (by decide)))
        have HB7 := Lib.hid (grown_below hg7 HB6.out (fun g e => by injection e with e; omega))
        have hn7 := OwnS.nil w7 w7.heap.size
        clear HG6 HO6 HB6 HK6 hcl hKB hg7
        go_wp2_with (first
          | (at_builtin; go_must (refine wpList_append_two rfl (.tmp 65) (.tmp 67) rfl w7.heap.size w6.heap.size (.slice none 0 0) vo7 [] (rest1 []) rfl hn7 rfl hOs7 (by decide) (Nat.le_refl _) ?_; intro v8 w8 hO8 hg8; have HG8 := Lib.hid (HG7.out.grown hg8 (by rcases hb : v5.ownBlock with _ | _; exact .inl rfl; exact .inr (by simp [Value.ownBlock]))); have HO8 := Lib.hid (HO7.out.grown hg8 (by rcases hb : v6.ownBlock with _ | _; exact .inl rfl; exact .inr (by simp [Value.ownBlock]))); have HB8 := Lib.hid (grown_below hg8 HB7.out (fun g e => by cases e)); obtain ⟨a8, cap8, rfl, _⟩ := hO8.view; clear hO8 hg8 HG7 HO7 HB7 hn7 hOs7))
          | fail)
        refine (awake10 _).mono ?_
        rintro e w9 ⟨rfl, hb9⟩
        have HG9 := Lib.hid (HG8.out.below hb9 (Nat.le_refl _))
        have HO9 := Lib.hid (HO8.out.below hb9 (Nat.le_refl _))
        have HB9 := Lib.hid (bthen HB8.out hb9)
        have Hcs : Hid (csplit mn b mx T.data.toList = S.out ++ rest1 S.begun) := by
          show _ = _
          unfold csplit
          rw [HT.out, HS.out]
        rw [Hcs.out] at HO9
        clear HG8 HO8 HB8 hb9
        go_wp2_with fail
        refine (same_any _ _ v5 v6 _ _ (by rw [List.length_append]; exact hlen2) _ HG9.out HO9.out).mono ?_
        rintro e w10 ⟨rfl, nq, rfl⟩
        rw [if_pos rfl]
        go_wp2_with fail
        go_ret
        exact ⟨rfl, below_drewN HB9.out nq⟩

theorem parts_any (a : Option Addr) (len cap : Nat) (m : Nat → ByteArray) (hl : len ≤ 9223372036854775807) (mn b mx : Int) (w : World) (hr : SRow w a len m) :
    Calls Try.prog 10 #[.slice a len cap, .agg #[.int .i64 mn, .int .i64 b, .int .i64 mx]] w fun e w' => e = .returned (.bool true) ∧ Below w.heap.size w w' := by
  by_cases h : kErr mn b mx = 0
  · obtain ⟨m', b', x, rfl, rfl, rfl, _, _, h3, h4⟩ := kerr_ok h
    exact parts_yes a len cap m hl m' b' x h3 h4 h w hr
  · exact parts_no a len cap mn b mx h w
end Go.Proofs.Ytgjofpefglbjjaa
