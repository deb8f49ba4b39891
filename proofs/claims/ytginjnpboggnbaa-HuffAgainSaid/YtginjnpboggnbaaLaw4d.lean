/- HuffAgain. Conditions: none. -/
import Derived.Test.YtginjnpboggnbaaHAgainP
import Derived.Test.YtginjnpboggnbaaKinds
import Derived.Test.YtginjnpboggnbaaLaw4a
import Derived.Deep.RegionHeld3
namespace Go.Proofs.Ytginjnpboggnbaa
open Go.RowKit
set_option maxRecDepth 100000

/-- Two rows of unlike types share no block. -/
theorem hrows_apart {w : World} {b1 b2 e1 e2 s1 s2 n1 n2 : Nat} {v1 v2 : Value} {x1 x2 : List Value} (h1 : w.ownsRow b1 e1 s1 v1 n1 x1) (h2 : w.ownsRow b2 e2 s2 v2 n2 x2) (hne : e1 ≠ e2) : v1.ownBlock = none ∨ v1.ownBlock ≠ v2.ownBlock := by
  rcases h1.2 with ⟨rfl, _⟩ | ⟨g, cap, cur, rfl, _, hh, _⟩
  · exact .inl rfl
  · right
    rcases h2.2 with ⟨rfl, _⟩ | ⟨g', cap', cur', rfl, _, hh', _⟩
    · simp [Value.ownBlock]
    · intro e
      simp only [Value.ownBlock, Option.some.injEq] at e
      subst e
      rw [hh] at hh'
      simp only [Option.some.injEq, Obj.cells.injEq] at hh'
      exact hne hh'.2.1
/-- Symbols, as values. -/
def jvals (J : List Nat) : List Value := J.map fun s : Nat => .int .i64 (s : Int)
theorem jvals_append (J : List Nat) (s : Nat) : jvals (J ++ [s]) = jvals J ++ [.int .i64 (s : Int)] := by simp [jvals]
/-- What the first loop holds. -/
def HK (w0 W : World) (P : Nat) (v : Value) (V c : Nat) (lv : Value) (J : List Nat) : Prop :=
  SinkAt W P v V c ∧ W.ownsRow w0.heap.size 3 1 lv J.length (jvals J) ∧ Below w0.heap.size w0 W
section
variable {w0 W W' : World} {P V c : Nat} {v lv : Value} {J : List Nat}
theorem HK.below (h : HK w0 W P v V c lv J) (hb : Below W.heap.size W W') : HK w0 W' P v V c lv J := by
  refine ⟨h.1.below2 hb, ⟨h.2.1.1, ?_⟩, h.2.2.trans (hb.mono h.2.2.size)⟩
  have hlt := World.ownsRow.lt h.2.1
  rcases h.2.1.2 with h2 | ⟨g, cap, cur, rfl, h3, h4, h5⟩
  · exact .inl h2
  · exact .inr ⟨g, cap, cur, rfl, h3, (hb.block g (hlt g rfl).2).trans h4, h5⟩
theorem HK.sink {v' : Value} {V' c' : Nat} (h : HK w0 W P v V c lv J) (hS : SinkAt W' P v' V' c') (hc : Chg W W' P v) (hP : w0.heap.size ≤ P) : HK w0 W' P v' V' c' lv J := by
  have h1 := trow_blk h.2.1 h.1.1 (by decide)
  have h2 := hrows_apart h.2.1 h.1.2.1 (by decide)
  have hlt := World.ownsRow.lt h.2.1
  refine ⟨hS, ⟨h.2.1.1, ?_⟩, hc.below h.2.2 hP (fun k e => by have := h.1.row k e; omega)⟩
  rcases h.2.1.2 with h3 | ⟨g, cap, cur, rfl, h3, h4, h5⟩
  · exact .inl h3
  · have e1 : g ≠ P := fun e => by
      rcases h1 with h1 | h1
      · simp [Value.ownBlock] at h1
      · exact h1 (by simp [Value.ownBlock, e])
    have e2 : v.ownBlock ≠ some g := fun e => by
      rcases h2 with h2 | h2
      · simp [Value.ownBlock] at h2
      · exact h2 (by rw [e]; rfl)
    exact .inr ⟨g, cap, cur, rfl, h3, (hc.2.2 g (hlt g rfl).2 e1 e2).trans h4, h5⟩
theorem HK.list {lv' : Value} {s : Nat} (h : HK w0 W P v V c lv J) (hown : W'.ownsRow w0.heap.size 3 1 lv' (J.length + 1) (jvals J ++ [.int .i64 (s : Int)])) (hg : W.grownBy W' lv.ownBlock) : HK w0 W' P v V c lv' (J ++ [s]) := by
  have h1 := trow_blk h.2.1 h.1.1 (by decide)
  have h2 := hrows_apart h.1.2.1 h.2.1 (by decide)
  refine ⟨⟨h.1.1.grown hg ?_, World.ownsRow.kept h.1.2.1 hg h2, h.1.2.2⟩, ?_, below_trans_row h hg⟩
  · rcases h1 with h1 | h1
    · rw [h1]; simp
    · exact fun e => h1 e.symm
  · rw [List.length_append, jvals_append]
    exact hown
where
  below_trans_row {w0 W W' : World} {P V c : Nat} {v lv : Value} {J : List Nat} (h : HK w0 W P v V c lv J) (hg : W.grownBy W' lv.ownBlock) : Below w0.heap.size w0 W' :=
    h.2.2.grown hg h.2.2.size fun k hk => (World.ownsRow.lt h.2.1 k hk).1
end

theorem hagain_bad (a : Option Addr) (len cap : Nat) (m : Nat → Int) (hcap : len ≤ cap) (hlen : cap ≤ 9223372036854775807) (w : World) (hr : IRow w a len m) (hnil : a = none → len = 0 ∧ cap = 0) (v2 : Value) (k : Nat) (hk : KindOf (min len 400) m k) (h0 : 0 < k) :
    Calls Try.prog 11 #[.slice a len cap, v2] w fun e w' => e = .returned (.bool true) ∧ Below w.heap.size w w' := by
  have Hk := Lib.hid hk
  have Hr := Lib.hid hr
  have CF := Lib.hid (fun W h => few4_any a len cap m hcap hlen W h hnil)
  obtain ⟨n, Hn⟩ : ∃ n, Hid (min len 400 = n) := ⟨_, Lib.hid (Eq.refl _)⟩
  have hnl : n ≤ 1000000 := by have := Hn.out; omega
  rw [Hn.out] at Hk CF
  have CA := Lib.hid awake4_any
  clear hr hk
  go_enter Try.func11, Try.ntmps11
  go_wp2_with fail
  refine (CF.out _ Hr.out).mono ?_
  rintro e w1 ⟨v, rfl, ho, hb1⟩
  obtain ⟨g1, cap1, rfl, hr1, _, _⟩ := ho.row
  have CC := Lib.hid (codes_any (some ⟨g1, 0, none⟩) n cap1 m hnl w1 hr1)
  have HB1 := Lib.hid hb1
  clear ho hr1 hb1
  go_wp2_with fail
  refine CC.out.mono ?_
  intro e w2 h
  obtain ⟨hb2, ⟨_, hk4, rfl⟩ | ⟨hk0, _⟩⟩ := codes_k Hk.out h
  · have HB2 := Lib.hid (bthen HB1.out hb2)
    clear CC h hb2
    unfold bad
    go_wp2_with fail
    refine (CF.out _ (Hr.out.below HB2.out)).mono ?_
    rintro e w3 ⟨v, rfl, ho, hb3⟩
    obtain ⟨g3, cap3, rfl, hr3, _, _⟩ := ho.row
    have CP := Lib.hid (plant_any (some ⟨g3, 0, none⟩) n cap3 m hnl w3 hr3)
    have HB3 := Lib.hid (bthen HB2.out hb3)
    clear ho hr3 hb3
    go_wp2_with fail
    refine CP.out.mono ?_
    intro e w4 h
    obtain ⟨hb4, ⟨_, _, rfl⟩ | ⟨hk0, _⟩⟩ := plant_k Hk.out h
    · have HB4 := Lib.hid (bthen HB3.out hb4)
      have dk : ((k : Int) == 0) = false := by simp; omega
      clear CP h hb4
      unfold badT
      go_wp2_with fail
      refine (CA.out _).mono ?_
      rintro e w5 ⟨rfl, hb5⟩
      have hB := bthen HB4.out hb5
      go_wp2_with fail
      go_ret
      exact ⟨rfl, hB⟩
    · omega
  · omega

theorem some_len {w : World} {base : Nat} {lv : Value} {J : List Nat} (h : w.ownsRow base 3 1 lv J.length (jvals J)) : ∃ a cap, lv = .slice a J.length cap ∧ IRow w a J.length (fun i => (J.getD i 0 : Nat)) ∧ (∀ b off sp, a = some ⟨b, off, sp⟩ → b < w.heap.size) := by
  have hlt := World.ownsRow.lt h
  rcases h.2 with ⟨rfl, h0⟩ | ⟨g, cap, cur, rfl, _⟩
  · exact ⟨none, 0, by rw [h0], .inl h0, fun b off sp e => by cases e⟩
  · refine ⟨some ⟨g, 0, none⟩, cap, rfl, .inr ⟨g, 0, rfl, (hlt g rfl).2, fun i hi => ?_⟩, fun b off sp e => ?_⟩
    · rw [Nat.zero_add, World.ownsRow.cellAt h i (by omega)]
      show (jvals J)[i]? = some (.int .i64 ((J.getD i 0 : Nat) : Int))
      unfold jvals
      rw [List.getElem?_map, List.getD_eq_getElem?_getD, List.getElem?_eq_getElem hi]
      rfl
    · injection e with e
      injection e with e1
      rw [← e1]
      exact (hlt g rfl).2

set_option maxHeartbeats 16000000 in
theorem hagain_ok (a : Option Addr) (len cap : Nat) (m : Nat → Int) (hcap : len ≤ cap) (hlen : cap ≤ 9223372036854775807) (w : World) (hr : IRow w a len m) (hnil : a = none → len = 0 ∧ cap = 0)
    (a2 : Option Addr) (L2 cap2 : Nat) (m2 : Nat → Int) (hl2 : L2 ≤ 9223372036854775807) (hr2 : IRow w a2 L2 m2) (hk : KindOf (min len 400) m 0) :
    Calls Try.prog 11 #[.slice a len cap, .slice a2 L2 cap2] w fun e w' => e = .returned (.bool true) ∧ Below w.heap.size w w' := by
  have Hk := Lib.hid hk
  have Hr := Lib.hid hr
  have Hr2 := Lib.hid hr2
  have CF := Lib.hid (fun W h => few4_any a len cap m hcap hlen W h hnil)
  obtain ⟨n, Hn⟩ : ∃ n, Hid (min len 400 = n) := ⟨_, Lib.hid (Eq.refl _)⟩
  have hnl : n ≤ 1000000 := by have := Hn.out; omega
  rw [Hn.out] at Hk CF
  have hn320 : n ≤ 320 := by
    rcases Hk.out with ⟨h, _⟩ | ⟨h, _⟩ | ⟨h, _⟩ | ⟨_, h, _⟩ <;> omega
  have Hrange : Hid (∀ i, i < n → 0 ≤ m i ∧ m i ≤ 15) := by
    rcases Hk.out with ⟨h, _⟩ | ⟨h, _⟩ | ⟨h, _⟩ | ⟨_, _, h, _⟩ <;> first | exact h | omega
  have Hfits : Hid (Fits (parts (lens m) n) (someOf (lens m) n)) := by
    rcases Hk.out with ⟨h, _⟩ | ⟨h, _⟩ | ⟨h, _⟩ | ⟨_, _, _, h⟩ <;> first | exact h | omega
  have CA := Lib.hid awake4_any
  have CO := Lib.hid (fun W => fun s => srcOf_any s W)
  clear hr hk hr2
  go_enter Try.func11, Try.ntmps11
  go_wp2_with fail
  refine (CF.out _ Hr.out).mono ?_
  rintro e w1 ⟨v, rfl, ho, hb1⟩
  obtain ⟨g1, cap1, rfl, hr1, _, _⟩ := ho.row
  have CC := Lib.hid (codes_any (some ⟨g1, 0, none⟩) n cap1 m hnl w1 hr1)
  have HB1 := Lib.hid hb1
  clear ho hr1 hb1
  go_wp2_with fail
  refine CC.out.mono ?_
  intro e w2 h
  obtain ⟨hb2, ⟨hk4, _⟩ | ⟨_, gc, rfl, hgc, hBc⟩⟩ := codes_k Hk.out h
  · omega
  have HB2 := Lib.hid (bthen HB1.out hb2)
  have HBc2 := Lib.hid hBc
  clear CC h hb2 hBc hgc
  go_wp2_with fail
  refine (CF.out _ (Hr.out.below HB2.out)).mono ?_
  rintro e w3 ⟨v, rfl, ho, hb3⟩
  obtain ⟨g3, cap3, rfl, hr3, _, _⟩ := ho.row
  have CP := Lib.hid (plant_any (some ⟨g3, 0, none⟩) n cap3 m hnl w3 hr3)
  have HB3 := Lib.hid (bthen HB2.out hb3)
  have HBc3 := Lib.hid (HBc2.out.below hb3 HBc2.out.lt)
  clear ho hr3 hb3 HBc2
  go_wp2_with fail
  refine CP.out.mono ?_
  intro e w4 h
  obtain ⟨hb4, ⟨hk4, _⟩ | ⟨_, T, g, N, capT, B, pv, pn, rfl, hT1, hg1, hTr, hN, hGr⟩⟩ := plant_k Hk.out h
  · omega
  have HB4 := Lib.hid (bthen HB3.out hb4)
  have HBc4 := Lib.hid (HBc3.out.below hb4 HBc3.out.lt)
  have HTr := Lib.hid hTr
  obtain ⟨L, HL⟩ : ∃ R, Hid (lens m = R) := ⟨_, Lib.hid (Eq.refl _)⟩
  rw [HL.out] at hGr HBc4 Hfits
  obtain ⟨F, HF⟩ : ∃ R, Hid (bitsF L n = R) := ⟨_, Lib.hid (Eq.refl _)⟩
  have HL15 : Hid (∀ i, i < n → L i ≤ 15) := fun i hi => by
    have := Hrange.out i hi
    rw [← HL.out]
    unfold lens
    omega
  have HPF : Hid (∀ s t, InAll L n s → InAll L n t → s ≠ t → ¬ Ext F L (F s) (L s) t) := by
    have := free_all L n HL15.out
    rw [HF.out] at this
    exact this
  have HFit : Hid (∀ i, i < n → 0 < L i → F i < 2 ^ L i) := fun i hi h0 => by
    rw [← HF.out]
    unfold bitsF
    rw [if_pos h0]
    exact code_fits L n i hi h0 (HL15.out i hi) Hfits.out.1
  rw [HF.out] at hGr HBc4
  have HGr := Lib.hid hGr
  have hK0 : SinkAt (w4.alloc (.cells #[.slice none 0 0, .int .u64 0, .int .i64 0] 37)) w4.heap.size (.slice none 0 0) 0 0 :=
    ⟨Blk.new w4 37 _, World.ownsRow_nil _ _ _ _, by decide⟩
  have hB0 := (Below.refl w4.heap.size w4).alloc (Nat.le_refl _) (.cells #[.slice none 0 0, .int .u64 0, .int .i64 0] 37)
  have hbl := (Below.refl (w4.alloc (.cells #[.slice none 0 0, .int .u64 0, .int .i64 0] 37)).heap.size (w4.alloc (.cells #[.slice none 0 0, .int .u64 0, .int .i64 0] 37))).alloc (Nat.le_refl _) (.cells #[] 3)
  have hr0 := World.ownsRow_made (base := w4.heap.size) (e := 3) (size := 1) (w4.alloc (.cells #[.slice none 0 0, .int .u64 0, .int .i64 0] 37)) #[] 0 hB0.size (Nat.zero_le _) rfl
  have hHK0 : HK w4 ((w4.alloc (.cells #[.slice none 0 0, .int .u64 0, .int .i64 0] 37)).alloc (.cells #[] 3)) w4.heap.size (.slice none 0 0) 0 0 (.slice (some ⟨w4.heap.size + 1, 0, none⟩) 0 0) [] := by
    refine ⟨hK0.below2 hbl, ?_, hB0.trans (hbl.mono hB0.size)⟩
    simpa [jvals] using hr0
  obtain ⟨P, HP⟩ : ∃ R, Hid (w4.heap.size = R) := ⟨_, Lib.hid (Eq.refl _)⟩
  have hwP : w4.heap.size ≤ P := by rw [HP.out]; exact Nat.le_refl _
  rw [HP.out] at hHK0
  have HHK0 := Lib.hid hHK0
  have hTl : T < w4.heap.size := hTr.1.lt
  have hgl : g < w4.heap.size := hTr.2.1
  clear CP h hb4 HBc3 hTr hGr hK0 hB0 hbl hr0 hHK0 hT1 hg1 HB1 HB2 HB3
  go_wp2_with fail
  rw [HP.out]
  obtain ⟨w5, HW5⟩ : ∃ W, Hid ((w4.alloc (.cells #[.slice none 0 0, .int .u64 0, .int .i64 0] 37)).alloc (.cells #[] 3) = W) := ⟨_, Lib.hid (Eq.refl _)⟩
  rw [HW5.out] at HHK0 ⊢
  obtain ⟨l0, Hl0⟩ : ∃ W, Hid (P + 1 = W) := ⟨_, Lib.hid (Eq.refl _)⟩
  rw [Hl0.out] at HHK0 ⊢
  clear HW5 Hl0
  go_loopw [10, 11] (fun lv_ i_ wr => ∃ (i V c : Nat) (v : Value) (J : List Nat), i ≤ L2 ∧ i ≤ 100 ∧ i_ = .int .i64 (i : Int) ∧ J.length ≤ i ∧ c ≤ 15 * i ∧ Hid (c = posH L J J.length) ∧ Hid (HK w4 wr P v V c lv_ J) ∧ Hid (HeldH F L (InAll L n) J V)) (fun _ i _ => 100 - (intOf i).toNat)
  case atStart => exact ⟨0, 0, 0, _, [], by omega, by omega, rfl, Nat.le_refl _, by omega, rfl, HHK0, fun i hi => by simp at hi⟩
  case round =>
    clear HHK0
    obtain ⟨i, V, c, v, J, hiL, hi100, rfl, hJ, hc, Hc, HT, HH⟩ := hrel
    by_cases hgo : i < L2 ∧ i < 100
    · obtain ⟨hlt, h100⟩ := hgo
      have d1 : decide ((i : Int) < (L2 : Int)) = true := by rw [decide_eq_true_eq]; omega
      have d2 : decide ((i : Int) < 100) = true := by rw [decide_eq_true_eq]; omega
      obtain ⟨b, off, rfl, _, c0⟩ := ((Hr2.out.below HB4.out).below HT.out.2.2).get i hlt
      obtain ⟨sI, HsI⟩ : ∃ R, Hid (m2 i = R) := ⟨_, Lib.hid (Eq.refl _)⟩
      rw [HsI.out] at c0
      have hskip : Hid (∃ (i' V' c' : Nat) (v' : Value) (J' : List Nat), True) := ⟨0, 0, 0, v, [], trivial⟩
      clear hskip
      by_cases hs0 : 0 ≤ sI
      · have e0 : decide (0 ≤ sI) = true := by rw [decide_eq_true_eq]; exact hs0
        obtain ⟨σ, rfl⟩ : ∃ σ : Nat, sI = (σ : Int) := ⟨sI.toNat, by omega⟩
        by_cases hsn : σ < n
        · have e1 : decide ((σ : Int) < (n : Int)) = true := by rw [decide_eq_true_eq]; omega
          have hBk := HBc4.out.below HT.out.2.2 HBc4.out.lt
          have k0 := hBk.cell (σ * 2)
          rw [ccells_bits n F L σ (σ * 2) rfl hsn] at k0
          have k1 := hBk.cell (σ * 2 + 1)
          rw [ccells_len n F L σ (σ * 2 + 1) rfl hsn] at k1
          obtain ⟨l, Hl⟩ : ∃ R, Hid (L σ = R) := ⟨_, Lib.hid (Eq.refl _)⟩
          obtain ⟨f, Hf⟩ : ∃ R, Hid (F σ = R) := ⟨_, Lib.hid (Eq.refl _)⟩
          have hl15 : l ≤ 15 := by rw [← Hl.out]; exact HL15.out σ hsn
          rw [Hf.out] at k0
          rw [Hl.out] at k1
          by_cases hl0 : 0 < l
          · have e2 : decide (0 < (l : Int)) = true := by rw [decide_eq_true_eq]; omega
            have hfl2 := HFit.out σ hsn (by rw [Hl.out]; exact hl0)
            rw [Hf.out, Hl.out] at hfl2
            have hfl : f < 4294967296 := Nat.lt_of_lt_of_le hfl2 (Nat.le_trans (Nat.pow_le_pow_right (by decide) hl15) (by decide))
            have hHH := HH.out.more (s := σ) (by rw [← Hc.out]; exact HT.out.1.2.2) ⟨hsn, by rw [Hl.out]; exact hl0⟩ (by rw [Hf.out, Hl.out]; exact hfl2)
            rw [Hf.out, Hl.out, ← Hc.out] at hHH
            have hTn0 := sinkTurn_any P v V c f l (l : Int) hfl (.inr (.inl ⟨rfl, by omega⟩)) (by omega) wr.drew HT.out.1
            rw [Nat.mod_eq_of_lt (rev_lt f l)] at hTn0
            have HTn := Lib.hid hTn0
            have HHH := Lib.hid hHH
            have hc' : Hid (c + l = posH L (J ++ [σ]) (J ++ [σ]).length) := by
              show _ = _
              rw [posH_all, Hl.out, ← Hc.out]
            have hk0d : wr.drew.cell? ⟨gc, σ * 2, none⟩ = some (.int .u32 (f : Int)) := k0
            have hk1d : wr.drew.cell? ⟨gc, σ * 2 + 1, none⟩ = some (.int .i64 (l : Int)) := k1
            have hnI : (σ : Int) < (n : Int) := by omega
            clear hBk hTn0 hHH hfl2
            go_wp2_with fail
            go_region_held3 (fun W => W.cell? ⟨gc, σ * 2, none⟩ = some (.int .u32 (f : Int)) ∧ W.cell? ⟨gc, σ * 2 + 1, none⟩ = some (.int .i64 (l : Int)))
              (first | exact ⟨by assumption, by assumption⟩ | go_keep)
              (first
                | (go_at_call 20; refine HTn.out.mono ?_; rintro e w6 ⟨rfl, v6, hS6, hC6, -⟩; have hT6 := HT.out.sink (show SinkAt w6 P v6 _ _ from hS6) (show Chg wr w6 P v from hC6) hwP; have hBk6 := HBc4.out.below hT6.2.2 HBc4.out.lt; have q0 := hBk6.cell (σ * 2); have q1 := hBk6.cell (σ * 2 + 1); rw [ccells_bits n F L σ (σ * 2) rfl hsn, Hf.out] at q0; rw [ccells_len n F L σ (σ * 2 + 1) rfl hsn, Hl.out] at q1))
            rename_i hh
            have HT6 := Lib.hid hT6
            have hos := hT6.2.1
            have hbsw : w4.heap.size ≤ w6.heap.size := hT6.2.2.size
            clear hh q0 q1 hBk6 hT6 hC6 hS6 hk0d hk1d k0 k1 HTn HT
            go_wp2_with (first
              | (at_builtin; go_must (refine wpList_append_elem w6 rfl (.tmp 95) (.tmp 97) rfl Try.underlying22 info_int rfl (by decide) w4.heap.size _ J.length (jvals J) [.int .i64 (σ : Int)] hos rfl ?_ rfl rfl rfl ?_ ?_ hbsw ?_; (intro y hy; simp at hy; subst hy; rfl); (unfold maxLen; omega); omega; intro v7 w7 hown7 hg7; have HT7 := Lib.hid (HT6.out.list hown7 hg7); clear hown7 hg7))
              | fail)
            go_roundw
            case rel => exact ⟨i + 1, _, c + l, v6, J ++ [σ], by omega, by omega, by go_num, by simp; omega, by omega, hc', HT7, HHH⟩
            case measure => simp [intOf]; omega
          · have e2 : decide (0 < (l : Int)) = false := by rw [decide_eq_false_iff_not]; omega
            clear hBk
            go_wp2_with fail
            go_roundw
            case rel => exact ⟨i + 1, V, c, v, J, by omega, by omega, by go_num, by omega, by omega, Hc, HT, HH⟩
            case measure => simp [intOf]; omega
        · have e1 : decide ((σ : Int) < (n : Int)) = false := by rw [decide_eq_false_iff_not]; omega
          go_wp2_with fail
          go_roundw
          case rel => exact ⟨i + 1, V, c, v, J, by omega, by omega, by go_num, by omega, by omega, Hc, HT, HH⟩
          case measure => simp [intOf]; omega
      · have e0 : decide (0 ≤ sI) = false := by rw [decide_eq_false_iff_not]; exact hs0
        go_wp2_with fail
        go_roundw
        case rel => exact ⟨i + 1, V, c, v, J, by omega, by omega, by go_num, by omega, by omega, Hc, HT, HH⟩
        case measure => simp [intOf]; omega
    · -- THE END
      by_cases hlt : i < L2
      · obtain rfl : i = 100 := by omega
        have d1 : decide ((100 : Int) < (L2 : Int)) = true := by rw [decide_eq_true_eq]; omega
        have d2 : decide ((100 : Int) < 100) = false := by decide
        clear hgo hlt
        obtain ⟨al, capl, rfl, hrow, hbl⟩ := some_len HT.out.2.1
        have hlen : J.length ≤ 100 := by omega
        obtain ⟨s, Hs⟩ : ∃ R : ByteArray, Hid ((⟨(bytesN V ((c + 7) / 8)).toArray⟩ : ByteArray) = R) := ⟨_, Lib.hid (Eq.refl _)⟩
        have hssz : s.size = (c + 7) / 8 := by rw [← Hs.out]; show (bytesN V ((c + 7) / 8)).toArray.size = _; simp [bytesN_length]
        have Hnum : Hid (num s = V) := by
          show _ = _
          rw [← Hs.out]
          unfold num
          show leN (bytesN V _) = V
          rw [leN_bytesN, pow256, Nat.mod_eq_of_lt (Nat.lt_of_lt_of_le HT.out.1.2.2 (Nat.pow_le_pow_right (by decide) (by omega)))]
        have hsl : s.size ≤ 100000 := by omega
        have Hssz := Lib.hid hssz
        have CAl := sinkAll_any P v V c (by omega) wr HT.out.1
        rw [Hs.out] at CAl
        have HCAl := Lib.hid CAl
        have HRow := Lib.hid hrow
        clear CAl hssz hrow hiL Hr2
        go_wp2_with fail
        refine HCAl.out.mono ?_
        rintro e w6 ⟨rfl, hb6⟩
        have HT6 := Lib.hid (HT.out.below hb6)
        have HR6 := Lib.hid (HRow.out.below hb6)
        have CQ := Lib.hid (CO.out w6 s)
        clear hb6 HT HRow HCAl
        go_wp2_with fail
        refine CQ.out.mono ?_
        rintro e w7 ⟨rfl, hS7, hb7⟩
        have hTQ : T ≠ w6.heap.size := by have := HT6.out.2.2.size; omega
        have hgQ : g ≠ w6.heap.size := by have := HT6.out.2.2.size; omega
        obtain ⟨Q, HQ⟩ : ∃ R, Hid (w6.heap.size = R) := ⟨_, Lib.hid (Eq.refl _)⟩
        have HS7 := Lib.hid (show SrcAt w7 w6.heap.size s (posH L J 0) from hS7)
        have HB7 := Lib.hid hb7
        rw [HQ.out] at HS7 hTQ hgQ ⊢
        have HTQ := Lib.hid hTQ
        have HgQ := Lib.hid hgQ
        have hQ6 : w6.heap.size ≤ Q := by rw [HQ.out]; exact Nat.le_refl _
        clear hS7 hb7 hTQ hgQ CQ CO
        obtain ⟨M, HM⟩ : ∃ R, Hid (J.length = R) := ⟨_, Lib.hid (Eq.refl _)⟩
        rw [HM.out] at hlen HR6 ⊢
        go_wp2_with fail
        go_loopw [105] (fun i_ wr => ∃ i : Nat, i ≤ M ∧ i_ = .int .i64 (i : Int) ∧ Hid (SrcAt wr Q s (posH L J i)) ∧ Hid (Below w6.heap.size w6 wr)) (fun i _ => M - (intOf i).toNat)
        case atStart => exact ⟨0, by omega, rfl, HS7, HB7⟩
        case round =>
          clear HS7 HB7
          obtain ⟨i, hiM, rfl, HS, HB⟩ := hrel
          by_cases hlt : i < M
          · have d1 : decide ((i : Int) < (M : Int)) = true := by rw [decide_eq_true_eq]; omega
            obtain ⟨b, off, rfl, _, c0⟩ := (HR6.out.below HB.out).get i hlt
            obtain ⟨σ, Hσ⟩ : ∃ R, Hid (J.getD i 0 = R) := ⟨_, Lib.hid (Eq.refl _)⟩
            have hH := HH.out i (by rw [HM.out]; exact hlt)
            have hps := posH_succ L J i (by rw [HM.out]; exact hlt)
            have hpl := posH_le L J (i + 1)
            rw [← Hc.out] at hpl
            rw [Hσ.out] at hH hps c0
            obtain ⟨p, Hp⟩ : ∃ R, Hid (posH L J i = R) := ⟨_, Lib.hid (Eq.refl _)⟩
            obtain ⟨p', Hp'⟩ : ∃ R, Hid (posH L J (i + 1) = R) := ⟨_, Lib.hid (Eq.refl _)⟩
            rw [Hp.out] at HS hH hps
            rw [Hp'.out] at hps hpl
            have CN := Lib.hid (next_any F L (InAll L n) T g N capT B pv pn HGr.out (fun s hs => HL15.out s hs.1) (fun s hs => by have := hs.1; omega) Q s p (by omega) (by omega) HTQ.out HgQ.out wr ((HTr.out.below HT6.out.2.2 hTl hgl).below HB.out (by have := HT6.out.2.2.size; omega) (by have := HT6.out.2.2.size; omega)) HS.out)
            have HHi := Lib.hid hH
            have Hps := Lib.hid hps
            clear hH hps
            go_wp2_with fail
            refine CN.out.mono ?_
            rintro e w8 ⟨sym, err, taken, rfl, hno, -, hS8, hg8, -⟩
            have hex := next_is HPF.out hno HHi.out.1 HHi.out.1.2 (by have := Hps.out; have := Hssz.out; omega) (by rw [Hnum.out]; exact HHi.out.2)
            obtain ⟨rfl, rfl, rfl⟩ := hex
            have HS8 : Hid (SrcAt w8 Q s p') := by
              show SrcAt _ _ _ _
              rw [Hps.out]
              exact hS8
            have HB8 := Lib.hid (below_row HB.out hg8 hQ6)
            clear hno hS8 hg8 CN HS HB
            go_wp2_with fail
            go_roundw
            case rel => exact ⟨i + 1, by omega, by go_num, by rw [Hp'.out]; exact HS8, HB8⟩
            case measure => simp [intOf]; omega
          · obtain rfl : i = M := by omega
            have d1 : decide ((i : Int) < (i : Int)) = false := by rw [decide_eq_false_iff_not]; omega
            have hpc : posH L J i = c := by rw [← HM.out]; exact Hc.out.symm
            rw [hpc] at HS
            clear hpc
            go_wp2_with fail
            refine (CA.out _).mono ?_
            rintro e w8 ⟨rfl, hb8⟩
            have HS8 := Lib.hid (HS.out.below hb8 HS.out.lt)
            have HT8 := Lib.hid ((HT6.out.below HB.out).below hb8)
            have CP := Lib.hid (srcPlace_any Q s c w8 HS8.out)
            have CC := Lib.hid (sinkCount_any P v V c (by omega) w8 HT8.out.1)
            clear hb8 HS
            go_wp2_with fail
            refine CP.out.mono ?_
            rintro e w9 ⟨rfl, rfl⟩
            go_wp2_with fail
            refine CC.out.mono ?_
            rintro e w10 ⟨rfl, nq, rfl⟩
            have hB := HB4.out.trans ((below_drewN HT8.out.2.2 nq).mono HB4.out.size)
            go_wp2_with fail
            go_ret
            exact ⟨rfl, hB⟩
      · obtain rfl : i = L2 := by omega
        have d1 : decide ((i : Int) < (i : Int)) = false := by rw [decide_eq_false_iff_not]; omega
        clear hgo hlt
        obtain ⟨al, capl, rfl, hrow, hbl⟩ := some_len HT.out.2.1
        have hlen : J.length ≤ 100 := by omega
        obtain ⟨s, Hs⟩ : ∃ R : ByteArray, Hid ((⟨(bytesN V ((c + 7) / 8)).toArray⟩ : ByteArray) = R) := ⟨_, Lib.hid (Eq.refl _)⟩
        have hssz : s.size = (c + 7) / 8 := by rw [← Hs.out]; show (bytesN V ((c + 7) / 8)).toArray.size = _; simp [bytesN_length]
        have Hnum : Hid (num s = V) := by
          show _ = _
          rw [← Hs.out]
          unfold num
          show leN (bytesN V _) = V
          rw [leN_bytesN, pow256, Nat.mod_eq_of_lt (Nat.lt_of_lt_of_le HT.out.1.2.2 (Nat.pow_le_pow_right (by decide) (by omega)))]
        have hsl : s.size ≤ 100000 := by omega
        have Hssz := Lib.hid hssz
        have CAl := sinkAll_any P v V c (by omega) wr HT.out.1
        rw [Hs.out] at CAl
        have HCAl := Lib.hid CAl
        have HRow := Lib.hid hrow
        clear CAl hssz hrow hiL Hr2
        go_wp2_with fail
        refine HCAl.out.mono ?_
        rintro e w6 ⟨rfl, hb6⟩
        have HT6 := Lib.hid (HT.out.below hb6)
        have HR6 := Lib.hid (HRow.out.below hb6)
        have CQ := Lib.hid (CO.out w6 s)
        clear hb6 HT HRow HCAl
        go_wp2_with fail
        refine CQ.out.mono ?_
        rintro e w7 ⟨rfl, hS7, hb7⟩
        have hTQ : T ≠ w6.heap.size := by have := HT6.out.2.2.size; omega
        have hgQ : g ≠ w6.heap.size := by have := HT6.out.2.2.size; omega
        obtain ⟨Q, HQ⟩ : ∃ R, Hid (w6.heap.size = R) := ⟨_, Lib.hid (Eq.refl _)⟩
        have HS7 := Lib.hid (show SrcAt w7 w6.heap.size s (posH L J 0) from hS7)
        have HB7 := Lib.hid hb7
        rw [HQ.out] at HS7 hTQ hgQ ⊢
        have HTQ := Lib.hid hTQ
        have HgQ := Lib.hid hgQ
        have hQ6 : w6.heap.size ≤ Q := by rw [HQ.out]; exact Nat.le_refl _
        clear hS7 hb7 hTQ hgQ CQ CO
        obtain ⟨M, HM⟩ : ∃ R, Hid (J.length = R) := ⟨_, Lib.hid (Eq.refl _)⟩
        rw [HM.out] at hlen HR6 ⊢
        go_wp2_with fail
        go_loopw [105] (fun i_ wr => ∃ i : Nat, i ≤ M ∧ i_ = .int .i64 (i : Int) ∧ Hid (SrcAt wr Q s (posH L J i)) ∧ Hid (Below w6.heap.size w6 wr)) (fun i _ => M - (intOf i).toNat)
        case atStart => exact ⟨0, by omega, rfl, HS7, HB7⟩
        case round =>
          clear HS7 HB7
          obtain ⟨i, hiM, rfl, HS, HB⟩ := hrel
          by_cases hlt : i < M
          · have d1 : decide ((i : Int) < (M : Int)) = true := by rw [decide_eq_true_eq]; omega
            obtain ⟨b, off, rfl, _, c0⟩ := (HR6.out.below HB.out).get i hlt
            obtain ⟨σ, Hσ⟩ : ∃ R, Hid (J.getD i 0 = R) := ⟨_, Lib.hid (Eq.refl _)⟩
            have hH := HH.out i (by rw [HM.out]; exact hlt)
            have hps := posH_succ L J i (by rw [HM.out]; exact hlt)
            have hpl := posH_le L J (i + 1)
            rw [← Hc.out] at hpl
            rw [Hσ.out] at hH hps c0
            obtain ⟨p, Hp⟩ : ∃ R, Hid (posH L J i = R) := ⟨_, Lib.hid (Eq.refl _)⟩
            obtain ⟨p', Hp'⟩ : ∃ R, Hid (posH L J (i + 1) = R) := ⟨_, Lib.hid (Eq.refl _)⟩
            rw [Hp.out] at HS hH hps
            rw [Hp'.out] at hps hpl
            have CN := Lib.hid (next_any F L (InAll L n) T g N capT B pv pn HGr.out (fun s hs => HL15.out s hs.1) (fun s hs => by have := hs.1; omega) Q s p (by omega) (by omega) HTQ.out HgQ.out wr ((HTr.out.below HT6.out.2.2 hTl hgl).below HB.out (by have := HT6.out.2.2.size; omega) (by have := HT6.out.2.2.size; omega)) HS.out)
            have HHi := Lib.hid hH
            have Hps := Lib.hid hps
            clear hH hps
            go_wp2_with fail
            refine CN.out.mono ?_
            rintro e w8 ⟨sym, err, taken, rfl, hno, -, hS8, hg8, -⟩
            have hex := next_is HPF.out hno HHi.out.1 HHi.out.1.2 (by have := Hps.out; have := Hssz.out; omega) (by rw [Hnum.out]; exact HHi.out.2)
            obtain ⟨rfl, rfl, rfl⟩ := hex
            have HS8 : Hid (SrcAt w8 Q s p') := by
              show SrcAt _ _ _ _
              rw [Hps.out]
              exact hS8
            have HB8 := Lib.hid (below_row HB.out hg8 hQ6)
            clear hno hS8 hg8 CN HS HB
            go_wp2_with fail
            go_roundw
            case rel => exact ⟨i + 1, by omega, by go_num, by rw [Hp'.out]; exact HS8, HB8⟩
            case measure => simp [intOf]; omega
          · obtain rfl : i = M := by omega
            have d1 : decide ((i : Int) < (i : Int)) = false := by rw [decide_eq_false_iff_not]; omega
            have hpc : posH L J i = c := by rw [← HM.out]; exact Hc.out.symm
            rw [hpc] at HS
            clear hpc
            go_wp2_with fail
            refine (CA.out _).mono ?_
            rintro e w8 ⟨rfl, hb8⟩
            have HS8 := Lib.hid (HS.out.below hb8 HS.out.lt)
            have HT8 := Lib.hid ((HT6.out.below HB.out).below hb8)
            have CP := Lib.hid (srcPlace_any Q s c w8 HS8.out)
            have CC := Lib.hid (sinkCount_any P v V c (by omega) w8 HT8.out.1)
            clear hb8 HS
            go_wp2_with fail
            refine CP.out.mono ?_
            rintro e w9 ⟨rfl, rfl⟩
            go_wp2_with fail
            refine CC.out.mono ?_
            rintro e w10 ⟨rfl, nq, rfl⟩
            have hB := HB4.out.trans ((below_drewN HT8.out.2.2 nq).mono HB4.out.size)
            go_wp2_with fail
            go_ret
            exact ⟨rfl, hB⟩

theorem hagain_any (a : Option Addr) (len cap : Nat) (m : Nat → Int) (hcap : len ≤ cap) (hlen : cap ≤ 9223372036854775807) (w : World) (hr : IRow w a len m) (hnil : a = none → len = 0 ∧ cap = 0)
    (a2 : Option Addr) (L2 cap2 : Nat) (m2 : Nat → Int) (hl2 : L2 ≤ 9223372036854775807) (hr2 : IRow w a2 L2 m2) :
    Calls Try.prog 11 #[.slice a len cap, .slice a2 L2 cap2] w fun e w' => e = .returned (.bool true) ∧ Below w.heap.size w w' := by
  obtain ⟨k, hk⟩ := kind_ex (min len 400) m
  by_cases h0 : 0 < k
  · exact hagain_bad a len cap m hcap hlen w hr hnil _ k hk h0
  · obtain rfl : k = 0 := by omega
    exact hagain_ok a len cap m hcap hlen w hr hnil a2 L2 cap2 m2 hl2 hr2 hk
end Go.Proofs.Ytginjnpboggnbaa
