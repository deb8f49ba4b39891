/- The document's step. Conditions: words of 32 bits. -/
import Derived.Test.YtbccljpbnbobmaaRef2h
import Derived.Deep.RegionHeld3
import Derived.Deep.CutRange
namespace Go.Proofs.Ytbccljpbnbobmaa
open Go.RowKit
set_option maxRecDepth 100000
set_option linter.unusedSimpArgs false

theorem sum5 (a b c d e : Nat) : [a, b, c, d, e].sum = a + b + c + d + e := by
  simp only [List.sum_cons, List.sum_nil]; omega
theorem sum2 (a b : Nat) : [a, b].sum = a + b := by
  simp only [List.sum_cons, List.sum_nil]; omega
theorem turn_f (x a b c : Nat) : turnN x a b c false = rotr x a ^^^ rotr x b ^^^ rotr x c := rfl
theorem stV_sums (k x : Nat) (V : List Nat) : stV k x V = [[[V.getD 7 0, turnN (V.getD 4 0) 6 11 25 false, chN (V.getD 4 0) (V.getD 5 0) (V.getD 6 0), k, x].sum % 4294967296, [turnN (V.getD 0 0) 2 13 22 false, moN (V.getD 0 0) (V.getD 1 0) (V.getD 2 0)].sum % 4294967296].sum % 4294967296, V.getD 0 0, V.getD 1 0, V.getD 2 0, [V.getD 3 0, [V.getD 7 0, turnN (V.getD 4 0) 6 11 25 false, chN (V.getD 4 0) (V.getD 5 0) (V.getD 6 0), k, x].sum % 4294967296].sum % 4294967296, V.getD 4 0, V.getD 5 0, V.getD 6 0] := by
  rw [sum5, sum2, sum2, sum2, turn_f, turn_f]
  unfold stV stT stU chN moN
  rfl
set_option maxHeartbeats 64000000 in
theorem step_any (V : List Nat) (hV : V.length = 8) (hv : ∀ y ∈ V, y < 4294967296) (a : Option Addr) (cap k x : Nat) (w : World) (hr : WRow w a 8 (fun i => V.getD i 0)) :
    Calls Try.prog 51 #[.slice a 8 cap, wordV k, wordV x] w fun e w' => Below w.heap.size w w' ∧ ∃ g, e = .returned (.slice (some ⟨g, 0, none⟩) 8 8) ∧ WRow w' (some ⟨g, 0, none⟩) 8 (fun i => (stV k x V).getD i 0) ∧ w.heap.size ≤ g := by
  obtain ⟨b, off, rfl, hbl⟩ : ∃ b off, a = some ⟨b, off, none⟩ ∧ b < w.heap.size := by
    rcases hr with h | ⟨b, off, e, h, _⟩
    · cases h
    · exact ⟨b, off, e, h⟩
  have HR := Lib.hid hr
  have hz := zero_word
  obtain ⟨Z, HZ⟩ : ∃ z, Hid (fcells 32 (tval fun _ => false) = z) := ⟨_, Lib.hid (Eq.refl _)⟩
  have hZs : Z.size = 32 := by rw [← HZ.out, fcells_size]
  have hZ1 : Z.all (·.oneCell') = true := by rw [← HZ.out]; exact tcells2_one _ _
  have hiZ : (Try.prog.info? 69).map (·.size) = some Z.size := by rw [info_word, hZs]
  rw [HZ.out] at hz
  unfold wordV
  obtain ⟨KK, HK⟩ : ∃ z, Hid (fcells 32 (tval (wbit k)) = z) := ⟨_, Lib.hid (Eq.refl _)⟩
  obtain ⟨XX, HX⟩ : ∃ z, Hid (fcells 32 (tval (wbit x)) = z) := ⟨_, Lib.hid (Eq.refl _)⟩
  rw [HK.out, HX.out]
  have hw2 := ((Below.refl w.heap.size w).alloc (Nat.le_refl _) (.cells KK 69)).alloc (by simp) (.cells XX 69)
  have hk2 := (Blk.new w 69 KK).alloc (.cells XX 69)
  have hx2 := Blk.new (w.alloc (.cells KK 69)) 69 XX
  rw [World.size_alloc] at hx2
  have HW2 := Lib.hid hw2
  have HK2 := Lib.hid hk2
  have HX2 := Lib.hid hx2
  clear hw2 hk2 hx2 hr
  go_enter Try.func51, Try.ntmps51
  go_upto_region 1 with fail
  obtain ⟨G4, HG4⟩ : ∃ R, Hid (w.heap.size = R) := ⟨_, Lib.hid (Eq.refl _)⟩
  obtain ⟨G5, HG5⟩ : ∃ R, Hid (G4 + 1 = R) := ⟨_, Lib.hid (Eq.refl _)⟩
  obtain ⟨w2, Hw2⟩ : ∃ R, Hid ((w.alloc (.cells KK 69)).alloc (.cells XX 69) = R) := ⟨_, Lib.hid (Eq.refl _)⟩
  rw [Hw2.out] at HW2 HK2 HX2 ⊢
  rw [HG4.out] at HK2 HX2 ⊢
  rw [HG5.out] at HX2 ⊢
  clear Hw2
  have h7 := (Blk.new w2 69 Z).alloc (.cells Z 69)
  have h8 := Blk.new (w2.alloc (.cells Z 69)) 69 Z
  rw [World.size_alloc] at h8
  have h8b : Blk (((w2.alloc (.cells Z 69)).alloc (.cells Z 69)).setRow w2.heap.size Z) (w2.heap.size + 1) 69 Z := (setRow_other _ w2.heap.size (w2.heap.size + 1) Z (by omega)).trans h8
  have h7b : ((w2.alloc (.cells Z 69)).alloc (.cells Z 69)).heap[w2.heap.size]? = some (.cells Z 69 (0, 0)) := h7
  have h8c : (((w2.alloc (.cells Z 69)).alloc (.cells Z 69)).setRow w2.heap.size Z).heap[w2.heap.size + 1]? = some (.cells Z 69 (0, 0)) := h8b
  have H7 : Hid (Blk ((((w2.alloc (.cells Z 69)).alloc (.cells Z 69)).setRow w2.heap.size Z).setRow (w2.heap.size + 1) Z) w2.heap.size 69 Z) := (setRow_other _ (w2.heap.size + 1) w2.heap.size Z (by omega)).trans (setRow_heap _ w2.heap.size _ Z _ _ h7b)
  have H8 : Hid (Blk ((((w2.alloc (.cells Z 69)).alloc (.cells Z 69)).setRow w2.heap.size Z).setRow (w2.heap.size + 1) Z) (w2.heap.size + 1) 69 Z) := setRow_heap _ (w2.heap.size + 1) _ Z _ _ h8c
  have HB5 := Lib.hid (below_setRow (below_setRow (((Below.refl w2.heap.size w2).alloc (Nat.le_refl _) (.cells Z 69)).alloc (by simp) (.cells Z 69)) (Nat.le_refl _) Z) (show w2.heap.size ≤ w2.heap.size + 1 by omega) Z)
  clear h7 h8 h8b
  go_upto_region 2 with (first
    | (with_reducible refine wpList_store_row rfl 69 _ _ rfl w2.heap.size Z rfl rfl 69 Z h7b hiZ rfl hZ1 ?_)
    | (with_reducible refine wpList_store_row rfl 69 _ _ rfl (w2.heap.size + 1) Z rfl rfl 69 Z h8c hiZ rfl hZ1 ?_)
    | fail)
  obtain ⟨w5, Hw5⟩ : ∃ R, Hid ((((w2.alloc (.cells Z 69)).alloc (.cells Z 69)).setRow w2.heap.size Z).setRow (w2.heap.size + 1) Z = R) := ⟨_, Lib.hid (Eq.refl _)⟩
  rw [Hw5.out] at H7 H8 HB5 ⊢
  obtain ⟨G7, HG7⟩ : ∃ R, Hid (w2.heap.size = R) := ⟨_, Lib.hid (Eq.refl _)⟩
  obtain ⟨G8, HG8⟩ : ∃ R, Hid (G7 + 1 = R) := ⟨_, Lib.hid (Eq.refl _)⟩
  have HK5 := Lib.hid (HK2.out.below HB5.out HK2.out.lt)
  have HX5 := Lib.hid (HX2.out.below HB5.out HX2.out.lt)
  have h45 : G4 < G7 ∧ G5 < G7 := ⟨by rw [← HG7.out]; exact HK2.out.lt, by rw [← HG7.out]; exact HX2.out.lt⟩
  have h78 : G7 < G8 := by have := HG8.out; omega
  have hw7 : w.heap.size ≤ G7 := by rw [← HG7.out]; exact HW2.out.size
  have HB6 := Lib.hid (bthen HW2.out HB5.out)
  rw [HG7.out] at H7 H8 ⊢
  rw [HG8.out] at H8 ⊢
  have H45 := Lib.hid h45
  have H78 := Lib.hid h78
  have Hw7 := Lib.hid hw7
  clear h7b h8c Hw5 HK2 HX2 HB5 HG7 HG8 h45 h78 hw7 HW2
  obtain ⟨CH, HCH⟩ : ∃ R, Hid (chN (V.getD 4 0) (V.getD 5 0) (V.getD 6 0) = R) := ⟨_, Lib.hid (Eq.refl _)⟩
  obtain ⟨MO, HMO⟩ : ∃ R, Hid (moN (V.getD 0 0) (V.getD 1 0) (V.getD 2 0) = R) := ⟨_, Lib.hid (Eq.refl _)⟩
  have hg4 : V.getD 4 0 < 4294967296 := hv _ (by rw [List.getD_eq_getElem?_getD, List.getElem?_eq_getElem (by omega)]; exact List.getElem_mem _)
  have HCB : Hid (∀ i, i < 32 → wbit CH i = (wbit (V.getD 4 0) i && wbit (V.getD 5 0) i || !wbit (V.getD 4 0) i && wbit (V.getD 6 0) i)) := fun i hi => by rw [← HCH.out]; exact wbit_ch _ _ _ i hg4 hi
  have HMB : Hid (∀ i, wbit MO i = (wbit (V.getD 0 0) i && wbit (V.getD 1 0) i || wbit (V.getD 0 0) i && wbit (V.getD 2 0) i || wbit (V.getD 1 0) i && wbit (V.getD 2 0) i)) := fun i => by rw [← HMO.out]; exact wbit_mo _ _ _ i
  have H7a : Hid (Blk w5 G7 69 (fcells 32 (tval (cutF (wbit CH) 0)))) := by show Blk _ _ _ _; rw [← cutF_zero, HZ.out]; exact H7.out
  have H8a : Hid (Blk w5 G8 69 (fcells 32 (tval (cutF (wbit MO) 0)))) := by show Blk _ _ _ _; rw [← cutF_zero, HZ.out]; exact H8.out
  clear H7 H8 hg4 HG4 HG5
  go_upto_region 3 with fail
  go_loopw [14] (fun j_ wr => ∃ j : Nat, j ≤ 32 ∧ j_ = .int .i64 (j : Int) ∧ Hid (Blk wr G7 69 (fcells 32 (tval (cutF (wbit CH) j)))) ∧ Hid (Blk wr G8 69 (fcells 32 (tval (cutF (wbit MO) j)))) ∧ Hid (Blk wr G4 69 KK) ∧ Hid (Blk wr G5 69 XX) ∧ Hid (Below w.heap.size w wr)) (fun j _ => 32 - (intOf j).toNat)
  case atStart => exact ⟨0, by omega, rfl, H7a, H8a, HK5, HX5, HB6⟩
  case round =>
    clear H7a H8a HK5 HX5 HB6
    obtain ⟨j, hj, rfl, H7, H8, H4, H5, HB⟩ := hrel
    by_cases hlt : j < 32
    · have hjI : (j : Int) < 32 := by omega
      have hjw : IntKind.i64.wrap (j : Int) = (j : Int) := by rw [IntKind.wrap_i64]; omega
      have HRw := Lib.hid (HR.out.below HB.out (Nat.le_refl _))
      go_upto_region 5 with fail
      go_cut [9] from 17 to 45 (fun i_ wx => i_ = .int .i64 (j : Int) ∧ Hid (Blk wx G7 69 (fcells 32 (tval (cutF (wbit CH) (j + 1))))) ∧ Hid (Blk wx G8 69 (fcells 32 (tval (cutF (wbit MO) j)))) ∧ Hid (Blk wx G4 69 KK) ∧ Hid (Blk wx G5 69 XX) ∧ Hid (Below w.heap.size w wx))
      case first =>
        have c4 : wr.cell? ⟨b, off + 128 + j, none⟩ = _ := HRw.out.bit 4 j (by omega) hlt
        have c5 : wr.cell? ⟨b, off + 160 + j, none⟩ = _ := HRw.out.bit 5 j (by omega) hlt
        have c6 : wr.cell? ⟨b, off + 192 + j, none⟩ = _ := HRw.out.bit 6 j (by omega) hlt
        have hcb := HCB.out j hlt
        have ck := H7.out.cell j
        rw [tcells2_at _ _ _ hlt] at ck
        have fk := H7.out.frozen j
        have hs1 := H7.out.set_ j (.bool (wbit CH j))
        rw [tcells2_set, cutF_succ] at hs1
        have hs8 := H8.out.far (p := ⟨G7, j, none⟩) (by have := H78.out; simp; omega) (.bool (wbit CH j))
        have hs4 := H4.out.far (p := ⟨G7, j, none⟩) (by have := H45.out; simp; omega) (.bool (wbit CH j))
        have hs5 := H5.out.far (p := ⟨G7, j, none⟩) (by have := H45.out; simp; omega) (.bool (wbit CH j))
        have hsB := HB.out.setCell (p := ⟨G7, j, none⟩) Hw7.out (.bool (wbit CH j))
        rw [hcb] at hs1 hs8 hs4 hs5 hsB
        generalize wbit (V.getD 4 0) j = A4 at *
        generalize wbit (V.getD 5 0) j = A5 at *
        generalize wbit (V.getD 6 0) j = A6 at *
        have S1 := Lib.hid hs1
        have S8 := Lib.hid hs8
        have S4 := Lib.hid hs4
        have S5 := Lib.hid hs5
        have SB := Lib.hid hsB
        clear hs1 hs8 hs4 hs5 hsB hcb
        cases A4 <;> cases A5 <;> cases A6
        all_goals
          go_wp2_with fail
          go_meet
          exact ⟨rfl, S1, S8, S4, S5, SB⟩
      case rest =>
        obtain ⟨rfl, H7', H8', H4', H5', HB'⟩ := hcut
        have HRx := Lib.hid (HR.out.below HB'.out (Nat.le_refl _))
        clear H7 H8 H4 H5 HB HRw
        have c0 : wc.cell? ⟨b, off + j, none⟩ = _ := HRx.out.bit 0 j (by omega) hlt
        have c1 : wc.cell? ⟨b, off + 32 + j, none⟩ = _ := HRx.out.bit 1 j (by omega) hlt
        have c2 : wc.cell? ⟨b, off + 64 + j, none⟩ = _ := HRx.out.bit 2 j (by omega) hlt
        have hcb := HMB.out j
        have ck := H8'.out.cell j
        rw [tcells2_at _ _ _ hlt] at ck
        have fk := H8'.out.frozen j
        have hs1 := H8'.out.set_ j (.bool (wbit MO j))
        rw [tcells2_set, cutF_succ] at hs1
        have hs7 := H7'.out.far (p := ⟨G8, j, none⟩) (by have := H78.out; simp; omega) (.bool (wbit MO j))
        have hs4 := H4'.out.far (p := ⟨G8, j, none⟩) (by have := H45.out; have := H78.out; simp; omega) (.bool (wbit MO j))
        have hs5 := H5'.out.far (p := ⟨G8, j, none⟩) (by have := H45.out; have := H78.out; simp; omega) (.bool (wbit MO j))
        have hsB := HB'.out.setCell (p := ⟨G8, j, none⟩) (Nat.le_of_lt (Nat.lt_of_le_of_lt Hw7.out H78.out)) (.bool (wbit MO j))
        rw [hcb] at hs1 hs7 hs4 hs5 hsB
        generalize wbit (V.getD 0 0) j = A0 at *
        generalize wbit (V.getD 1 0) j = A1 at *
        generalize wbit (V.getD 2 0) j = A2 at *
        have S1 := Lib.hid hs1
        have S7 := Lib.hid hs7
        have S4 := Lib.hid hs4
        have S5 := Lib.hid hs5
        have SB := Lib.hid hsB
        clear hs1 hs7 hs4 hs5 hsB hcb H7' H8' H4' H5' HB' HRx
        cases A0 <;> cases A1 <;> cases A2
        all_goals
          go_wp2_with fail
          go_roundw
          case rel => exact ⟨j + 1, by omega, by go_num, S7, S1, S4, S5, SB⟩
          case measure => simp [intOf]; omega
    · have hj32 : j = 32 := by omega
      have dj : decide ((j : Int) < 32) = false := by rw [decide_eq_false_iff_not]; omega
      have HRw := Lib.hid (HR.out.below HB.out (Nat.le_refl _))
      rw [hj32, cutF_all] at H7 H8
      clear hj32 hlt hj HCB HMB
      go_upto_region 8 with fail
      have r0 : wr.rangeAt b (off) (wl (V.getD 0 0)) := HRw.out.range 0 (by omega)
      have l0 : V.getD 0 0 < 4294967296 := hv _ (by rw [List.getD_eq_getElem?_getD, List.getElem?_eq_getElem (by omega)]; exact List.getElem_mem _)
      have r1 : wr.rangeAt b (off + 32) (wl (V.getD 1 0)) := HRw.out.range 1 (by omega)
      have l1 : V.getD 1 0 < 4294967296 := hv _ (by rw [List.getD_eq_getElem?_getD, List.getElem?_eq_getElem (by omega)]; exact List.getElem_mem _)
      have r2 : wr.rangeAt b (off + 64) (wl (V.getD 2 0)) := HRw.out.range 2 (by omega)
      have l2 : V.getD 2 0 < 4294967296 := hv _ (by rw [List.getD_eq_getElem?_getD, List.getElem?_eq_getElem (by omega)]; exact List.getElem_mem _)
      have r3 : wr.rangeAt b (off + 96) (wl (V.getD 3 0)) := HRw.out.range 3 (by omega)
      have l3 : V.getD 3 0 < 4294967296 := hv _ (by rw [List.getD_eq_getElem?_getD, List.getElem?_eq_getElem (by omega)]; exact List.getElem_mem _)
      have r4 : wr.rangeAt b (off + 128) (wl (V.getD 4 0)) := HRw.out.range 4 (by omega)
      have l4 : V.getD 4 0 < 4294967296 := hv _ (by rw [List.getD_eq_getElem?_getD, List.getElem?_eq_getElem (by omega)]; exact List.getElem_mem _)
      have r5 : wr.rangeAt b (off + 160) (wl (V.getD 5 0)) := HRw.out.range 5 (by omega)
      have l5 : V.getD 5 0 < 4294967296 := hv _ (by rw [List.getD_eq_getElem?_getD, List.getElem?_eq_getElem (by omega)]; exact List.getElem_mem _)
      have r6 : wr.rangeAt b (off + 192) (wl (V.getD 6 0)) := HRw.out.range 6 (by omega)
      have l6 : V.getD 6 0 < 4294967296 := hv _ (by rw [List.getD_eq_getElem?_getD, List.getElem?_eq_getElem (by omega)]; exact List.getElem_mem _)
      have r7 : wr.rangeAt b (off + 224) (wl (V.getD 7 0)) := HRw.out.range 7 (by omega)
      have l7 : V.getD 7 0 < 4294967296 := hv _ (by rw [List.getD_eq_getElem?_getD, List.getElem?_eq_getElem (by omega)]; exact List.getElem_mem _)
      have HFin : Hid (∀ CH MO, chN (V.getD 4 0) (V.getD 5 0) (V.getD 6 0) = CH → moN (V.getD 0 0) (V.getD 1 0) (V.getD 2 0) = MO →
          stV k x V = [[[V.getD 7 0, turnN (V.getD 4 0) 6 11 25 false, CH, k, x].sum % 4294967296, [turnN (V.getD 0 0) 2 13 22 false, MO].sum % 4294967296].sum % 4294967296, V.getD 0 0, V.getD 1 0, V.getD 2 0, [V.getD 3 0, [V.getD 7 0, turnN (V.getD 4 0) 6 11 25 false, CH, k, x].sum % 4294967296].sum % 4294967296, V.getD 4 0, V.getD 5 0, V.getD 6 0]) := fun CH MO h1 h2 => by
        subst h1 h2
        exact stV_sums k x V
      obtain ⟨v0, E0⟩ : ∃ R, Hid (V.getD 0 0 = R) := ⟨_, Lib.hid (Eq.refl _)⟩
      obtain ⟨v1, E1⟩ : ∃ R, Hid (V.getD 1 0 = R) := ⟨_, Lib.hid (Eq.refl _)⟩
      obtain ⟨v2, E2⟩ : ∃ R, Hid (V.getD 2 0 = R) := ⟨_, Lib.hid (Eq.refl _)⟩
      obtain ⟨v3, E3⟩ : ∃ R, Hid (V.getD 3 0 = R) := ⟨_, Lib.hid (Eq.refl _)⟩
      obtain ⟨v4, E4⟩ : ∃ R, Hid (V.getD 4 0 = R) := ⟨_, Lib.hid (Eq.refl _)⟩
      obtain ⟨v5, E5⟩ : ∃ R, Hid (V.getD 5 0 = R) := ⟨_, Lib.hid (Eq.refl _)⟩
      obtain ⟨v6, E6⟩ : ∃ R, Hid (V.getD 6 0 = R) := ⟨_, Lib.hid (Eq.refl _)⟩
      obtain ⟨v7, E7⟩ : ∃ R, Hid (V.getD 7 0 = R) := ⟨_, Lib.hid (Eq.refl _)⟩
      rw [E0.out] at r0 l0
      rw [E1.out] at r1 l1
      rw [E2.out] at r2 l2
      rw [E3.out] at r3 l3
      rw [E4.out] at r4 l4
      rw [E5.out] at r5 l5
      rw [E6.out] at r6 l6
      rw [E7.out] at r7 l7
      rw [E0.out, E1.out, E2.out, E3.out, E4.out, E5.out, E6.out, E7.out] at HFin
      have HFn := Lib.hid (HFin.out CH MO (by rw [← E4.out, ← E5.out, ← E6.out]; exact HCH.out) (by rw [← E0.out, ← E1.out, ← E2.out]; exact HMO.out))
      have hu := Try.underlying69
      have hZsz : ∀ y, Z.size = (wl y).toArray.size := fun y => by rw [hZs, List.size_toArray, wl_len]
      have CT := Lib.hid (fun W => turns_wl v4 6 11 25 false l4 (by decide) (by decide) (by decide) W)
      have CU := Lib.hid (fun W => turns_wl v0 2 13 22 false l0 (by decide) (by decide) (by decide) W)
      have CA := Lib.hid add_wl
      have rc : wr.rangeAt G7 0 (wl CH) := H7.out.range
      have rm : wr.rangeAt G8 0 (wl MO) := H8.out.range
      have rk : wr.rangeAt G4 0 (wl k) := Blk.range (t := 69) (by rw [HK.out]; exact H4.out)
      have rx : wr.rangeAt G5 0 (wl x) := Blk.range (t := 69) (by rw [HX.out]; exact H5.out)
      have Rr0 := Lib.hid r0
      have Rr1 := Lib.hid r1
      have Rr2 := Lib.hid r2
      have Rr3 := Lib.hid r3
      have Rr4 := Lib.hid r4
      have Rr5 := Lib.hid r5
      have Rr6 := Lib.hid r6
      have Rr7 := Lib.hid r7
      have Rrc := Lib.hid rc
      have Rrm := Lib.hid rm
      have Rrk := Lib.hid rk
      have Rrx := Lib.hid rx
      clear r0 r1 r2 r3 r4 r5 r6 r7 rc rm rk rx l0 l1 l2 l3 l4 l5 l6 l7 H7 H8 H4 H5 HFin hv HR HRw HCH HMO HK HX hV
      obtain ⟨T1, HT1⟩ : ∃ R, Hid (turnN v4 6 11 25 false = R) := ⟨_, Lib.hid (Eq.refl _)⟩
      obtain ⟨T0, HT0⟩ : ∃ R, Hid (turnN v0 2 13 22 false = R) := ⟨_, Lib.hid (Eq.refl _)⟩
      rw [HT1.out] at CT HFn
      rw [HT0.out] at CU HFn
      obtain ⟨tt, Htt⟩ : ∃ R, Hid ([v7, T1, CH, k, x].sum % 4294967296 = R) := ⟨_, Lib.hid (Eq.refl _)⟩
      obtain ⟨uu, Huu⟩ : ∃ R, Hid ([T0, MO].sum % 4294967296 = R) := ⟨_, Lib.hid (Eq.refl _)⟩
      rw [Htt.out, Huu.out] at HFn
      obtain ⟨y0, Hy0⟩ : ∃ R, Hid ([tt, uu].sum % 4294967296 = R) := ⟨_, Lib.hid (Eq.refl _)⟩
      obtain ⟨y4, Hy4⟩ : ∃ R, Hid ([v3, tt].sum % 4294967296 = R) := ⟨_, Lib.hid (Eq.refl _)⟩
      rw [Hy0.out, Hy4.out] at HFn
      have CA1 : Hid (∀ g W, Blk W g 69 (wcl [v7, T1, CH, k, x]).toArray → Calls Try.prog 49 #[.slice (some ⟨g, 0, none⟩) 5 5] W fun e w' => e = .returned (.agg (wl tt).toArray) ∧ Below W.heap.size W w') := fun g W hb => by
        have := add_wl g 5 [v7, T1, CH, k, x] rfl (by decide) W hb
        rw [Htt.out] at this
        exact this
      have CA2 : Hid (∀ g W, Blk W g 69 (wcl [T0, MO]).toArray → Calls Try.prog 49 #[.slice (some ⟨g, 0, none⟩) 2 2] W fun e w' => e = .returned (.agg (wl uu).toArray) ∧ Below W.heap.size W w') := fun g W hb => by
        have := add_wl g 2 [T0, MO] rfl (by decide) W hb
        rw [Huu.out] at this
        exact this
      have CA3 : Hid (∀ g W, Blk W g 69 (wcl [tt, uu]).toArray → Calls Try.prog 49 #[.slice (some ⟨g, 0, none⟩) 2 2] W fun e w' => e = .returned (.agg (wl y0).toArray) ∧ Below W.heap.size W w') := fun g W hb => by
        have := add_wl g 2 [tt, uu] rfl (by decide) W hb
        rw [Hy0.out] at this
        exact this
      have CA4 : Hid (∀ g W, Blk W g 69 (wcl [v3, tt]).toArray → Calls Try.prog 49 #[.slice (some ⟨g, 0, none⟩) 2 2] W fun e w' => e = .returned (.agg (wl y4).toArray) ∧ Below W.heap.size W w') := fun g W hb => by
        have := add_wl g 2 [v3, tt] rfl (by decide) W hb
        rw [Hy4.out] at this
        exact this
      clear HT1 HT0 Htt Huu Hy0 Hy4 CA
      go_cut [10] from 89 to 100 (fun p_ wx => ∃ g, p_ = .pointer (some ⟨g, 0, none⟩) ∧ wr.heap.size ≤ g ∧ Hid (Blk wx g 69 (wl tt).toArray) ∧ Hid (Below wr.heap.size wr wx))
      case first =>
        have r7 := rangeAt_bel Rr7.out (Below.refl _ _)
        have r4 := rangeAt_bel Rr4.out (Below.refl _ _)
        have rc := rangeAt_bel Rrc.out (Below.refl _ _)
        have rk := rangeAt_bel Rrk.out (Below.refl _ _)
        have rx := rangeAt_bel Rrx.out (Below.refl _ _)
        refine wp_region_noPanic ?_
        refine wp_region_held_drew (S := fun W => Below wr.heap.size wr W) (by kernel_rfl) (Below.refl _ _).drew (fun hHeld => ?_)
        refine' wpAnyH_take (i := 0) ?_ (by kernel_rfl) (by kernel_rfl) (by kernel_rfl) (fun _ _ _ h => h) ?_ hHeld ?_
        rotate_left 2
        · (try simp only [List.getElem?_toArray, List.getElem?_cons_succ, List.getElem?_cons_zero]); rfl
        · refine Or.inl ⟨by rfl, ?_⟩
          intro W0 hS0
          go_simp
          (try with_reducible rfl)
        (try simp only [Act.put, List.setIfInBounds_toArray, List.set_cons_zero, List.set_cons_succ])
        refine' wpAnyH_take (i := 1) ?_ (by kernel_rfl) (by kernel_rfl) (by kernel_rfl) (fun _ _ _ h => h) ?_ hHeld ?_
        rotate_left 2
        · (try simp only [List.getElem?_toArray, List.getElem?_cons_succ, List.getElem?_cons_zero]); rfl
        · refine Or.inl ⟨by rfl, ?_⟩
          intro W0 hS0
          go_simp
          (try with_reducible rfl)
        (try simp only [Act.put, List.setIfInBounds_toArray, List.set_cons_zero, List.set_cons_succ])
        refine' wpAnyH_take (i := 2) ?_ (by kernel_rfl) (by kernel_rfl) (by kernel_rfl) (fun _ _ _ h => h) ?_ hHeld ?_
        rotate_left 2
        · (try simp only [List.getElem?_toArray, List.getElem?_cons_succ, List.getElem?_cons_zero]); rfl
        · exact yieldsIf_load_mid (by rfl) _ _ rfl b (off + 224) rfl (wl (v7)) _ (fun W hS => rangeAt_bel r7 hS) hu rfl (info_wl _)
        (try simp only [Act.put, List.setIfInBounds_toArray, List.set_cons_zero, List.set_cons_succ])
        refine' wpAnyH_take (i := 3) ?_ (by kernel_rfl) (by kernel_rfl) (by kernel_rfl) (fun _ _ _ h => h) ?_ hHeld ?_
        rotate_left 2
        · (try simp only [List.getElem?_toArray, List.getElem?_cons_succ, List.getElem?_cons_zero]); rfl
        · refine Or.inl ⟨by rfl, ?_⟩
          intro W0 hS0
          go_simp
          (try with_reducible rfl)
        (try simp only [Act.put, List.setIfInBounds_toArray, List.set_cons_zero, List.set_cons_succ])
        refine' wpAnyH_take (i := 4) ?_ (by kernel_rfl) (by kernel_rfl) (by kernel_rfl) (fun _ _ _ h => h) ?_ hHeld ?_
        rotate_left 2
        · (try simp only [List.getElem?_toArray, List.getElem?_cons_succ, List.getElem?_cons_zero]); rfl
        · refine Or.inl ⟨by rfl, ?_⟩
          intro W0 hS0
          go_simp
          (try with_reducible rfl)
        (try simp only [Act.put, List.setIfInBounds_toArray, List.set_cons_zero, List.set_cons_succ])
        refine' wpAnyH_take (i := 5) ?_ (by kernel_rfl) (by kernel_rfl) (by kernel_rfl) (fun _ _ _ h => h) ?_ hHeld ?_
        rotate_left 2
        · (try simp only [List.getElem?_toArray, List.getElem?_cons_succ, List.getElem?_cons_zero]); rfl
        · exact yieldsIf_load_mid (by rfl) _ _ rfl b (off + 128) rfl (wl (v4)) _ (fun W hS => rangeAt_bel r4 hS) hu rfl (info_wl _)
        (try simp only [Act.put, List.setIfInBounds_toArray, List.set_cons_zero, List.set_cons_succ])
        refine' wpAnyH_take (i := 7) ?_ (by kernel_rfl) (by kernel_rfl) (by kernel_rfl) (fun _ _ _ h => h) ?_ hHeld ?_
        rotate_left 2
        · (try simp only [List.getElem?_toArray, List.getElem?_cons_succ, List.getElem?_cons_zero]); rfl
        · exact yieldsIf_load_mid (by rfl) _ _ rfl G7 (0) rfl (wl (CH)) _ (fun W hS => rangeAt_bel rc hS) hu rfl (info_wl _)
        (try simp only [Act.put, List.setIfInBounds_toArray, List.set_cons_zero, List.set_cons_succ])
        refine' wpAnyH_take (i := 8) ?_ (by kernel_rfl) (by kernel_rfl) (by kernel_rfl) (fun _ _ _ h => h) ?_ hHeld ?_
        rotate_left 2
        · (try simp only [List.getElem?_toArray, List.getElem?_cons_succ, List.getElem?_cons_zero]); rfl
        · exact yieldsIf_load_mid (by rfl) _ _ rfl G4 (0) rfl (wl (k)) _ (fun W hS => rangeAt_bel rk hS) hu rfl (info_wl _)
        (try simp only [Act.put, List.setIfInBounds_toArray, List.set_cons_zero, List.set_cons_succ])
        refine' wpAnyH_take (i := 9) ?_ (by kernel_rfl) (by kernel_rfl) (by kernel_rfl) (fun _ _ _ h => h) ?_ hHeld ?_
        rotate_left 2
        · (try simp only [List.getElem?_toArray, List.getElem?_cons_succ, List.getElem?_cons_zero]); rfl
        · exact yieldsIf_load_mid (by rfl) _ _ rfl G5 (0) rfl (wl (x)) _ (fun W hS => rangeAt_bel rx hS) hu rfl (info_wl _)
        (try simp only [Act.put, List.setIfInBounds_toArray, List.set_cons_zero, List.set_cons_succ])
        obtain ⟨wd, Hwd⟩ : ∃ R, Hid (wr.drew = R) := ⟨_, Lib.hid (Eq.refl _)⟩
        replace hHeld : Below wr.heap.size wr wr.drew := hHeld
        rw [Hwd.out] at hHeld ⊢
        clear Hwd
        refine wpAnyH_ready (rs := [6, 12]) (by kernel_rfl) (by simp) ?_
        refine' AllReadyH.cons ?_ (fun K hK => ?_) ?_
        rotate_left 1
        · (try simp only [List.getElem?_toArray, List.getElem?_cons_succ, List.getElem?_cons_zero]); rfl
        · go_simp
          go_at_call 50
          refine (CT.out _).mono ?_
          rintro e wa1 ⟨rfl, hba2⟩
          (try go_wp2_with fail)
          refine hK.out _ _ ?_ (fun hHeld' => ?_)
          · exact (bthen hHeld hba2)
          replace hHeld := bthen hHeld hba2
          clear hK K hHeld'
          (try simp only [Act.put, List.setIfInBounds_toArray, List.set_cons_zero, List.set_cons_succ])
          refine wpAnyH_ready (rs := [10, 12]) (by kernel_rfl) (by simp) ?_
          refine' AllReadyH.cons ?_ (fun K hK => ?_) ?_
          rotate_left 1
          · (try simp only [List.getElem?_toArray, List.getElem?_cons_succ, List.getElem?_cons_zero]); rfl
          · rw [if_pos (by rfl)]
            refine wp_build_words 5 _ rfl [v7, T1, CH, k, x] rfl (by decide) (by decide) rfl ?_
            have gea8 : wr.heap.size ≤ wa1.heap.size := hHeld.size
            refine hK.out _ _ ?_ (fun hHeld' => ?_)
            · exact (hHeld.alloc hHeld.size _)
            replace hHeld := hHeld.alloc hHeld.size (.cells (wcl [v7, T1, CH, k, x]).toArray 69)
            clear hK K hHeld'
            (try simp only [Act.put, List.setIfInBounds_toArray, List.set_cons_zero, List.set_cons_succ])
            have Ha4 := Lib.hid (Blk.new wa1 69 (wcl [v7, T1, CH, k, x]).toArray)
            obtain ⟨ga5, Hga7⟩ : ∃ R, Hid (wa1.heap.size = R) := ⟨_, Lib.hid (Eq.refl _)⟩
            obtain ⟨wa3, Hwa6⟩ : ∃ R, Hid (wa1.alloc (.cells (wcl [v7, T1, CH, k, x]).toArray 69) = R) := ⟨_, Lib.hid (Eq.refl _)⟩
            rw [Hga7.out] at Ha4 gea8 ⊢
            rw [Hwa6.out] at Ha4 hHeld ⊢
            clear Hwa6
            clear Hga7
            refine wpAnyH_ready (rs := [11, 12]) (by kernel_rfl) (by simp) ?_
            refine' AllReadyH.cons ?_ (fun K hK => ?_) ?_
            rotate_left 1
            · (try simp only [List.getElem?_toArray, List.getElem?_cons_succ, List.getElem?_cons_zero]); rfl
            · go_simp
              go_at_call 49
              refine (CA1.out _ _ Ha4.out).mono ?_
              rintro e wa9 ⟨rfl, hba10⟩
              (try go_wp2_with fail)
              refine hK.out _ _ ?_ (fun hHeld' => ?_)
              · exact (bthen hHeld hba10)
              replace hHeld := bthen hHeld hba10
              clear hK K hHeld'
              (try simp only [Act.put, List.setIfInBounds_toArray, List.set_cons_zero, List.set_cons_succ])
              have Ha11 := Lib.hid (Ha4.out.below hba10 Ha4.out.lt)
              clear Ha4
              refine wpAnyH_ready (rs := [12]) (by kernel_rfl) (by simp) ?_
              refine' AllReadyH.cons ?_ (fun K hK => ?_) ?_
              rotate_left 1
              · (try simp only [List.getElem?_toArray, List.getElem?_cons_succ, List.getElem?_cons_zero]); rfl
              · go_simp
                have gea17 : wr.heap.size ≤ wa9.heap.size := hHeld.size
                refine hK.out _ _ ?_ (fun hHeld' => ?_)
                · exact (hHeld.alloc hHeld.size _)
                replace hHeld := hHeld.alloc hHeld.size (.cells Z 69)
                clear hK K hHeld'
                (try simp only [Act.put, List.setIfInBounds_toArray, List.set_cons_zero, List.set_cons_succ])
                have Ha13 := Lib.hid (Blk.new wa9 69 Z)
                have Ha18 := Lib.hid (Ha11.out.alloc (.cells Z 69))
                clear Ha11
                obtain ⟨ga14, Hga16⟩ : ∃ R, Hid (wa9.heap.size = R) := ⟨_, Lib.hid (Eq.refl _)⟩
                obtain ⟨wa12, Hwa15⟩ : ∃ R, Hid (wa9.alloc (.cells Z 69) = R) := ⟨_, Lib.hid (Eq.refl _)⟩
                rw [Hga16.out] at Ha13 gea17 ⊢
                rw [Hwa15.out] at Ha13 hHeld Ha18 ⊢
                clear Hwa15
                clear Hga16
                refine wpAnyH_ready (rs := [13]) (by kernel_rfl) (by simp) ?_
                refine' AllReadyH.cons ?_ (fun K hK => ?_) ?_
                rotate_left 1
                · (try simp only [List.getElem?_toArray, List.getElem?_cons_succ, List.getElem?_cons_zero]); rfl
                · rw [if_pos (by rfl)]
                  refine wp_store_row _ _ _ rfl ga14 (wl (tt)).toArray rfl rfl 69 Z Ha13.out (info_wla _) (hZsz _) (wl_one _) ?_
                  refine hK.out _ _ ?_ (fun hHeld' => ?_)
                  · exact (below_setRow hHeld gea17 _)
                  replace hHeld := below_setRow hHeld gea17 (wl (tt)).toArray
                  clear hK K hHeld'
                  (try simp only [Act.put, List.setIfInBounds_toArray, List.set_cons_zero, List.set_cons_succ])
                  have Ha20 : Hid (Blk (wa12.setRow ga14 (wl (tt)).toArray) ga14 69 (wl (tt)).toArray) := setRow_heap _ ga14 _ _ _ _ Ha13.out
                  refine wpAnyH_done (by kernel_rfl) ?_ _
                  refine NoPanic.normal ?_
                  go_wp2_with fail
                  go_meet
                  exact ⟨ga14, rfl, gea17, Ha20, hHeld⟩
                exact AllReadyH.nil
              exact AllReadyH.nil
            refine' AllReadyH.cons ?_ (fun K hK => ?_) ?_
            rotate_left 1
            · (try simp only [List.getElem?_toArray, List.getElem?_cons_succ, List.getElem?_cons_zero]); rfl
            · go_simp
              have gea26 : wr.heap.size ≤ wa3.heap.size := hHeld.size
              refine hK.out _ _ ?_ (fun hHeld' => ?_)
              · exact (hHeld.alloc hHeld.size _)
              replace hHeld := hHeld.alloc hHeld.size (.cells Z 69)
              clear hK K hHeld'
              (try simp only [Act.put, List.setIfInBounds_toArray, List.set_cons_zero, List.set_cons_succ])
              have Ha22 := Lib.hid (Blk.new wa3 69 Z)
              have Ha27 := Lib.hid (Ha4.out.alloc (.cells Z 69))
              clear Ha4
              obtain ⟨ga23, Hga25⟩ : ∃ R, Hid (wa3.heap.size = R) := ⟨_, Lib.hid (Eq.refl _)⟩
              obtain ⟨wa21, Hwa24⟩ : ∃ R, Hid (wa3.alloc (.cells Z 69) = R) := ⟨_, Lib.hid (Eq.refl _)⟩
              rw [Hga25.out] at Ha22 gea26 ⊢
              rw [Hwa24.out] at Ha22 hHeld Ha27 ⊢
              clear Hwa24
              clear Hga25
              refine wpAnyH_ready (rs := [11]) (by kernel_rfl) (by simp) ?_
              refine' AllReadyH.cons ?_ (fun K hK => ?_) ?_
              rotate_left 1
              · (try simp only [List.getElem?_toArray, List.getElem?_cons_succ, List.getElem?_cons_zero]); rfl
              · go_simp
                go_at_call 49
                refine (CA1.out _ _ Ha27.out).mono ?_
                rintro e wa28 ⟨rfl, hba29⟩
                (try go_wp2_with fail)
                refine hK.out _ _ ?_ (fun hHeld' => ?_)
                · exact (bthen hHeld hba29)
                replace hHeld := bthen hHeld hba29
                clear hK K hHeld'
                (try simp only [Act.put, List.setIfInBounds_toArray, List.set_cons_zero, List.set_cons_succ])
                have Ha30 := Lib.hid (Ha27.out.below hba29 Ha27.out.lt)
                clear Ha27
                have Ha31 := Lib.hid (Ha22.out.below hba29 Ha22.out.lt)
                clear Ha22
                refine wpAnyH_ready (rs := [13]) (by kernel_rfl) (by simp) ?_
                refine' AllReadyH.cons ?_ (fun K hK => ?_) ?_
                rotate_left 1
                · (try simp only [List.getElem?_toArray, List.getElem?_cons_succ, List.getElem?_cons_zero]); rfl
                · rw [if_pos (by rfl)]
                  refine wp_store_row _ _ _ rfl ga23 (wl (tt)).toArray rfl rfl 69 Z Ha31.out (info_wla _) (hZsz _) (wl_one _) ?_
                  refine hK.out _ _ ?_ (fun hHeld' => ?_)
                  · exact (below_setRow hHeld gea26 _)
                  replace hHeld := below_setRow hHeld gea26 (wl (tt)).toArray
                  clear hK K hHeld'
                  (try simp only [Act.put, List.setIfInBounds_toArray, List.set_cons_zero, List.set_cons_succ])
                  have Ha33 : Hid (Blk (wa28.setRow ga23 (wl (tt)).toArray) ga23 69 (wl (tt)).toArray) := setRow_heap _ ga23 _ _ _ _ Ha31.out
                  refine wpAnyH_done (by kernel_rfl) ?_ _
                  refine NoPanic.normal ?_
                  go_wp2_with fail
                  go_meet
                  exact ⟨ga23, rfl, gea26, Ha33, hHeld⟩
                exact AllReadyH.nil
              exact AllReadyH.nil
            exact AllReadyH.nil
          refine' AllReadyH.cons ?_ (fun K hK => ?_) ?_
          rotate_left 1
          · (try simp only [List.getElem?_toArray, List.getElem?_cons_succ, List.getElem?_cons_zero]); rfl
          · go_simp
            have gea39 : wr.heap.size ≤ wa1.heap.size := hHeld.size
            refine hK.out _ _ ?_ (fun hHeld' => ?_)
            · exact (hHeld.alloc hHeld.size _)
            replace hHeld := hHeld.alloc hHeld.size (.cells Z 69)
            clear hK K hHeld'
            (try simp only [Act.put, List.setIfInBounds_toArray, List.set_cons_zero, List.set_cons_succ])
            have Ha35 := Lib.hid (Blk.new wa1 69 Z)
            obtain ⟨ga36, Hga38⟩ : ∃ R, Hid (wa1.heap.size = R) := ⟨_, Lib.hid (Eq.refl _)⟩
            obtain ⟨wa34, Hwa37⟩ : ∃ R, Hid (wa1.alloc (.cells Z 69) = R) := ⟨_, Lib.hid (Eq.refl _)⟩
            rw [Hga38.out] at Ha35 gea39 ⊢
            rw [Hwa37.out] at Ha35 hHeld ⊢
            clear Hwa37
            clear Hga38
            refine wpAnyH_ready (rs := [10]) (by kernel_rfl) (by simp) ?_
            refine' AllReadyH.cons ?_ (fun K hK => ?_) ?_
            rotate_left 1
            · (try simp only [List.getElem?_toArray, List.getElem?_cons_succ, List.getElem?_cons_zero]); rfl
            · rw [if_pos (by rfl)]
              refine wp_build_words 5 _ rfl [v7, T1, CH, k, x] rfl (by decide) (by decide) rfl ?_
              have gea45 : wr.heap.size ≤ wa34.heap.size := hHeld.size
              refine hK.out _ _ ?_ (fun hHeld' => ?_)
              · exact (hHeld.alloc hHeld.size _)
              replace hHeld := hHeld.alloc hHeld.size (.cells (wcl [v7, T1, CH, k, x]).toArray 69)
              clear hK K hHeld'
              (try simp only [Act.put, List.setIfInBounds_toArray, List.set_cons_zero, List.set_cons_succ])
              have Ha41 := Lib.hid (Blk.new wa34 69 (wcl [v7, T1, CH, k, x]).toArray)
              have Ha46 := Lib.hid (Ha35.out.alloc (.cells (wcl [v7, T1, CH, k, x]).toArray 69))
              clear Ha35
              obtain ⟨ga42, Hga44⟩ : ∃ R, Hid (wa34.heap.size = R) := ⟨_, Lib.hid (Eq.refl _)⟩
              obtain ⟨wa40, Hwa43⟩ : ∃ R, Hid (wa34.alloc (.cells (wcl [v7, T1, CH, k, x]).toArray 69) = R) := ⟨_, Lib.hid (Eq.refl _)⟩
              rw [Hga44.out] at Ha41 gea45 ⊢
              rw [Hwa43.out] at Ha41 hHeld Ha46 ⊢
              clear Hwa43
              clear Hga44
              refine wpAnyH_ready (rs := [11]) (by kernel_rfl) (by simp) ?_
              refine' AllReadyH.cons ?_ (fun K hK => ?_) ?_
              rotate_left 1
              · (try simp only [List.getElem?_toArray, List.getElem?_cons_succ, List.getElem?_cons_zero]); rfl
              · go_simp
                go_at_call 49
                refine (CA1.out _ _ Ha41.out).mono ?_
                rintro e wa47 ⟨rfl, hba48⟩
                (try go_wp2_with fail)
                refine hK.out _ _ ?_ (fun hHeld' => ?_)
                · exact (bthen hHeld hba48)
                replace hHeld := bthen hHeld hba48
                clear hK K hHeld'
                (try simp only [Act.put, List.setIfInBounds_toArray, List.set_cons_zero, List.set_cons_succ])
                have Ha49 := Lib.hid (Ha46.out.below hba48 Ha46.out.lt)
                clear Ha46
                have Ha50 := Lib.hid (Ha41.out.below hba48 Ha41.out.lt)
                clear Ha41
                refine wpAnyH_ready (rs := [13]) (by kernel_rfl) (by simp) ?_
                refine' AllReadyH.cons ?_ (fun K hK => ?_) ?_
                rotate_left 1
                · (try simp only [List.getElem?_toArray, List.getElem?_cons_succ, List.getElem?_cons_zero]); rfl
                · rw [if_pos (by rfl)]
                  refine wp_store_row _ _ _ rfl ga36 (wl (tt)).toArray rfl rfl 69 Z Ha49.out (info_wla _) (hZsz _) (wl_one _) ?_
                  refine hK.out _ _ ?_ (fun hHeld' => ?_)
                  · exact (below_setRow hHeld gea39 _)
                  replace hHeld := below_setRow hHeld gea39 (wl (tt)).toArray
                  clear hK K hHeld'
                  (try simp only [Act.put, List.setIfInBounds_toArray, List.set_cons_zero, List.set_cons_succ])
                  have Ha52 : Hid (Blk (wa47.setRow ga36 (wl (tt)).toArray) ga36 69 (wl (tt)).toArray) := setRow_heap _ ga36 _ _ _ _ Ha49.out
                  refine wpAnyH_done (by kernel_rfl) ?_ _
                  refine NoPanic.normal ?_
                  go_wp2_with fail
                  go_meet
                  exact ⟨ga36, rfl, gea39, Ha52, hHeld⟩
                exact AllReadyH.nil
              exact AllReadyH.nil
            exact AllReadyH.nil
          exact AllReadyH.nil
        refine' AllReadyH.cons ?_ (fun K hK => ?_) ?_
        rotate_left 1
        · (try simp only [List.getElem?_toArray, List.getElem?_cons_succ, List.getElem?_cons_zero]); rfl
        · go_simp
          have gea58 : wr.heap.size ≤ wd.heap.size := hHeld.size
          refine hK.out _ _ ?_ (fun hHeld' => ?_)
          · exact (hHeld.alloc hHeld.size _)
          replace hHeld := hHeld.alloc hHeld.size (.cells Z 69)
          clear hK K hHeld'
          (try simp only [Act.put, List.setIfInBounds_toArray, List.set_cons_zero, List.set_cons_succ])
          have Ha54 := Lib.hid (Blk.new wd 69 Z)
          obtain ⟨ga55, Hga57⟩ : ∃ R, Hid (wd.heap.size = R) := ⟨_, Lib.hid (Eq.refl _)⟩
          obtain ⟨wa53, Hwa56⟩ : ∃ R, Hid (wd.alloc (.cells Z 69) = R) := ⟨_, Lib.hid (Eq.refl _)⟩
          rw [Hga57.out] at Ha54 gea58 ⊢
          rw [Hwa56.out] at Ha54 hHeld ⊢
          clear Hwa56
          clear Hga57
          refine wpAnyH_ready (rs := [6]) (by kernel_rfl) (by simp) ?_
          refine' AllReadyH.cons ?_ (fun K hK => ?_) ?_
          rotate_left 1
          · (try simp only [List.getElem?_toArray, List.getElem?_cons_succ, List.getElem?_cons_zero]); rfl
          · go_simp
            go_at_call 50
            refine (CT.out _).mono ?_
            rintro e wa59 ⟨rfl, hba60⟩
            (try go_wp2_with fail)
            refine hK.out _ _ ?_ (fun hHeld' => ?_)
            · exact (bthen hHeld hba60)
            replace hHeld := bthen hHeld hba60
            clear hK K hHeld'
            (try simp only [Act.put, List.setIfInBounds_toArray, List.set_cons_zero, List.set_cons_succ])
            have Ha61 := Lib.hid (Ha54.out.below hba60 Ha54.out.lt)
            clear Ha54
            refine wpAnyH_ready (rs := [10]) (by kernel_rfl) (by simp) ?_
            refine' AllReadyH.cons ?_ (fun K hK => ?_) ?_
            rotate_left 1
            · (try simp only [List.getElem?_toArray, List.getElem?_cons_succ, List.getElem?_cons_zero]); rfl
            · rw [if_pos (by rfl)]
              refine wp_build_words 5 _ rfl [v7, T1, CH, k, x] rfl (by decide) (by decide) rfl ?_
              have gea67 : wr.heap.size ≤ wa59.heap.size := hHeld.size
              refine hK.out _ _ ?_ (fun hHeld' => ?_)
              · exact (hHeld.alloc hHeld.size _)
              replace hHeld := hHeld.alloc hHeld.size (.cells (wcl [v7, T1, CH, k, x]).toArray 69)
              clear hK K hHeld'
              (try simp only [Act.put, List.setIfInBounds_toArray, List.set_cons_zero, List.set_cons_succ])
              have Ha63 := Lib.hid (Blk.new wa59 69 (wcl [v7, T1, CH, k, x]).toArray)
              have Ha68 := Lib.hid (Ha61.out.alloc (.cells (wcl [v7, T1, CH, k, x]).toArray 69))
              clear Ha61
              obtain ⟨ga64, Hga66⟩ : ∃ R, Hid (wa59.heap.size = R) := ⟨_, Lib.hid (Eq.refl _)⟩
              obtain ⟨wa62, Hwa65⟩ : ∃ R, Hid (wa59.alloc (.cells (wcl [v7, T1, CH, k, x]).toArray 69) = R) := ⟨_, Lib.hid (Eq.refl _)⟩
              rw [Hga66.out] at Ha63 gea67 ⊢
              rw [Hwa65.out] at Ha63 hHeld Ha68 ⊢
              clear Hwa65
              clear Hga66
              refine wpAnyH_ready (rs := [11]) (by kernel_rfl) (by simp) ?_
              refine' AllReadyH.cons ?_ (fun K hK => ?_) ?_
              rotate_left 1
              · (try simp only [List.getElem?_toArray, List.getElem?_cons_succ, List.getElem?_cons_zero]); rfl
              · go_simp
                go_at_call 49
                refine (CA1.out _ _ Ha63.out).mono ?_
                rintro e wa69 ⟨rfl, hba70⟩
                (try go_wp2_with fail)
                refine hK.out _ _ ?_ (fun hHeld' => ?_)
                · exact (bthen hHeld hba70)
                replace hHeld := bthen hHeld hba70
                clear hK K hHeld'
                (try simp only [Act.put, List.setIfInBounds_toArray, List.set_cons_zero, List.set_cons_succ])
                have Ha71 := Lib.hid (Ha68.out.below hba70 Ha68.out.lt)
                clear Ha68
                have Ha72 := Lib.hid (Ha63.out.below hba70 Ha63.out.lt)
                clear Ha63
                refine wpAnyH_ready (rs := [13]) (by kernel_rfl) (by simp) ?_
                refine' AllReadyH.cons ?_ (fun K hK => ?_) ?_
                rotate_left 1
                · (try simp only [List.getElem?_toArray, List.getElem?_cons_succ, List.getElem?_cons_zero]); rfl
                · rw [if_pos (by rfl)]
                  refine wp_store_row _ _ _ rfl ga55 (wl (tt)).toArray rfl rfl 69 Z Ha71.out (info_wla _) (hZsz _) (wl_one _) ?_
                  refine hK.out _ _ ?_ (fun hHeld' => ?_)
                  · exact (below_setRow hHeld gea58 _)
                  replace hHeld := below_setRow hHeld gea58 (wl (tt)).toArray
                  clear hK K hHeld'
                  (try simp only [Act.put, List.setIfInBounds_toArray, List.set_cons_zero, List.set_cons_succ])
                  have Ha74 : Hid (Blk (wa69.setRow ga55 (wl (tt)).toArray) ga55 69 (wl (tt)).toArray) := setRow_heap _ ga55 _ _ _ _ Ha71.out
                  refine wpAnyH_done (by kernel_rfl) ?_ _
                  refine NoPanic.normal ?_
                  go_wp2_with fail
                  go_meet
                  exact ⟨ga55, rfl, gea58, Ha74, hHeld⟩
                exact AllReadyH.nil
              exact AllReadyH.nil
            exact AllReadyH.nil
          exact AllReadyH.nil
        exact AllReadyH.nil
      case rest =>
        obtain ⟨g10, rfl, hg10, H10, HB1⟩ := hcut
        go_upto_region 9 with fail
        go_cut [11] from 101 to 107 (fun p_ wx => ∃ g, p_ = .pointer (some ⟨g, 0, none⟩) ∧ wr.heap.size ≤ g ∧ Hid (Blk wx g 69 (wl uu).toArray) ∧ Hid (Blk wx g10 69 (wl tt).toArray) ∧ Hid (Below wr.heap.size wr wx))
        case first =>
          have r0 := rangeAt_bel Rr0.out HB1.out
          have rm := rangeAt_bel Rrm.out HB1.out
          refine wp_region_noPanic ?_
          refine wp_region_held_drew (S := fun W => Below wc.heap.size wc W) (by kernel_rfl) (Below.refl _ _).drew (fun hHeld => ?_)
          refine' wpAnyH_take (i := 0) ?_ (by kernel_rfl) (by kernel_rfl) (by kernel_rfl) (fun _ _ _ h => h) ?_ hHeld ?_
          rotate_left 2
          · (try simp only [List.getElem?_toArray, List.getElem?_cons_succ, List.getElem?_cons_zero]); rfl
          · refine Or.inl ⟨by rfl, ?_⟩
            intro W0 hS0
            go_simp
            (try with_reducible rfl)
          (try simp only [Act.put, List.setIfInBounds_toArray, List.set_cons_zero, List.set_cons_succ])
          refine' wpAnyH_take (i := 1) ?_ (by kernel_rfl) (by kernel_rfl) (by kernel_rfl) (fun _ _ _ h => h) ?_ hHeld ?_
          rotate_left 2
          · (try simp only [List.getElem?_toArray, List.getElem?_cons_succ, List.getElem?_cons_zero]); rfl
          · refine Or.inl ⟨by rfl, ?_⟩
            intro W0 hS0
            go_simp
            (try with_reducible rfl)
          (try simp only [Act.put, List.setIfInBounds_toArray, List.set_cons_zero, List.set_cons_succ])
          refine' wpAnyH_take (i := 2) ?_ (by kernel_rfl) (by kernel_rfl) (by kernel_rfl) (fun _ _ _ h => h) ?_ hHeld ?_
          rotate_left 2
          · (try simp only [List.getElem?_toArray, List.getElem?_cons_succ, List.getElem?_cons_zero]); rfl
          · exact yieldsIf_load_mid (by rfl) _ _ rfl b (off) rfl (wl (v0)) _ (fun W hS => rangeAt_bel r0 hS) hu rfl (info_wl _)
          (try simp only [Act.put, List.setIfInBounds_toArray, List.set_cons_zero, List.set_cons_succ])
          refine' wpAnyH_take (i := 4) ?_ (by kernel_rfl) (by kernel_rfl) (by kernel_rfl) (fun _ _ _ h => h) ?_ hHeld ?_
          rotate_left 2
          · (try simp only [List.getElem?_toArray, List.getElem?_cons_succ, List.getElem?_cons_zero]); rfl
          · exact yieldsIf_load_mid (by rfl) _ _ rfl G8 (0) rfl (wl (MO)) _ (fun W hS => rangeAt_bel rm hS) hu rfl (info_wl _)
          (try simp only [Act.put, List.setIfInBounds_toArray, List.set_cons_zero, List.set_cons_succ])
          obtain ⟨wd, Hwd⟩ : ∃ R, Hid (wc.drew = R) := ⟨_, Lib.hid (Eq.refl _)⟩
          replace hHeld : Below wc.heap.size wc wc.drew := hHeld
          rw [Hwd.out] at hHeld ⊢
          clear Hwd
          refine wpAnyH_ready (rs := [3, 7]) (by kernel_rfl) (by simp) ?_
          refine' AllReadyH.cons ?_ (fun K hK => ?_) ?_
          rotate_left 1
          · (try simp only [List.getElem?_toArray, List.getElem?_cons_succ, List.getElem?_cons_zero]); rfl
          · go_simp
            go_at_call 50
            refine (CU.out _).mono ?_
            rintro e wb1 ⟨rfl, hbb2⟩
            (try go_wp2_with fail)
            refine hK.out _ _ ?_ (fun hHeld' => ?_)
            · exact (bthen hHeld hbb2)
            replace hHeld := bthen hHeld hbb2
            clear hK K hHeld'
            (try simp only [Act.put, List.setIfInBounds_toArray, List.set_cons_zero, List.set_cons_succ])
            refine wpAnyH_ready (rs := [5, 7]) (by kernel_rfl) (by simp) ?_
            refine' AllReadyH.cons ?_ (fun K hK => ?_) ?_
            rotate_left 1
            · (try simp only [List.getElem?_toArray, List.getElem?_cons_succ, List.getElem?_cons_zero]); rfl
            · rw [if_pos (by rfl)]
              refine wp_build_words 2 _ rfl [T0, MO] rfl (by decide) (by decide) rfl ?_
              have geb8 : wc.heap.size ≤ wb1.heap.size := hHeld.size
              refine hK.out _ _ ?_ (fun hHeld' => ?_)
              · exact (hHeld.alloc hHeld.size _)
              replace hHeld := hHeld.alloc hHeld.size (.cells (wcl [T0, MO]).toArray 69)
              clear hK K hHeld'
              (try simp only [Act.put, List.setIfInBounds_toArray, List.set_cons_zero, List.set_cons_succ])
              have Hb4 := Lib.hid (Blk.new wb1 69 (wcl [T0, MO]).toArray)
              obtain ⟨gb5, Hgb7⟩ : ∃ R, Hid (wb1.heap.size = R) := ⟨_, Lib.hid (Eq.refl _)⟩
              obtain ⟨wb3, Hwb6⟩ : ∃ R, Hid (wb1.alloc (.cells (wcl [T0, MO]).toArray 69) = R) := ⟨_, Lib.hid (Eq.refl _)⟩
              rw [Hgb7.out] at Hb4 geb8 ⊢
              rw [Hwb6.out] at Hb4 hHeld ⊢
              clear Hwb6
              clear Hgb7
              refine wpAnyH_ready (rs := [6, 7]) (by kernel_rfl) (by simp) ?_
              refine' AllReadyH.cons ?_ (fun K hK => ?_) ?_
              rotate_left 1
              · (try simp only [List.getElem?_toArray, List.getElem?_cons_succ, List.getElem?_cons_zero]); rfl
              · go_simp
                go_at_call 49
                refine (CA2.out _ _ Hb4.out).mono ?_
                rintro e wb9 ⟨rfl, hbb10⟩
                (try go_wp2_with fail)
                refine hK.out _ _ ?_ (fun hHeld' => ?_)
                · exact (bthen hHeld hbb10)
                replace hHeld := bthen hHeld hbb10
                clear hK K hHeld'
                (try simp only [Act.put, List.setIfInBounds_toArray, List.set_cons_zero, List.set_cons_succ])
                have Hb11 := Lib.hid (Hb4.out.below hbb10 Hb4.out.lt)
                clear Hb4
                refine wpAnyH_ready (rs := [7]) (by kernel_rfl) (by simp) ?_
                refine' AllReadyH.cons ?_ (fun K hK => ?_) ?_
                rotate_left 1
                · (try simp only [List.getElem?_toArray, List.getElem?_cons_succ, List.getElem?_cons_zero]); rfl
                · go_simp
                  have geb17 : wc.heap.size ≤ wb9.heap.size := hHeld.size
                  refine hK.out _ _ ?_ (fun hHeld' => ?_)
                  · exact (hHeld.alloc hHeld.size _)
                  replace hHeld := hHeld.alloc hHeld.size (.cells Z 69)
                  clear hK K hHeld'
                  (try simp only [Act.put, List.setIfInBounds_toArray, List.set_cons_zero, List.set_cons_succ])
                  have Hb13 := Lib.hid (Blk.new wb9 69 Z)
                  have Hb18 := Lib.hid (Hb11.out.alloc (.cells Z 69))
                  clear Hb11
                  obtain ⟨gb14, Hgb16⟩ : ∃ R, Hid (wb9.heap.size = R) := ⟨_, Lib.hid (Eq.refl _)⟩
                  obtain ⟨wb12, Hwb15⟩ : ∃ R, Hid (wb9.alloc (.cells Z 69) = R) := ⟨_, Lib.hid (Eq.refl _)⟩
                  rw [Hgb16.out] at Hb13 geb17 ⊢
                  rw [Hwb15.out] at Hb13 hHeld Hb18 ⊢
                  clear Hwb15
                  clear Hgb16
                  refine wpAnyH_ready (rs := [8]) (by kernel_rfl) (by simp) ?_
                  refine' AllReadyH.cons ?_ (fun K hK => ?_) ?_
                  rotate_left 1
                  · (try simp only [List.getElem?_toArray, List.getElem?_cons_succ, List.getElem?_cons_zero]); rfl
                  · rw [if_pos (by rfl)]
                    refine wp_store_row _ _ _ rfl gb14 (wl (uu)).toArray rfl rfl 69 Z Hb13.out (info_wla _) (hZsz _) (wl_one _) ?_
                    refine hK.out _ _ ?_ (fun hHeld' => ?_)
                    · exact (below_setRow hHeld geb17 _)
                    replace hHeld := below_setRow hHeld geb17 (wl (uu)).toArray
                    clear hK K hHeld'
                    (try simp only [Act.put, List.setIfInBounds_toArray, List.set_cons_zero, List.set_cons_succ])
                    have Hb20 : Hid (Blk (wb12.setRow gb14 (wl (uu)).toArray) gb14 69 (wl (uu)).toArray) := setRow_heap _ gb14 _ _ _ _ Hb13.out
                    refine wpAnyH_done (by kernel_rfl) ?_ _
                    refine NoPanic.normal ?_
                    go_wp2_with fail
                    go_meet
                    exact ⟨gb14, rfl, Nat.le_trans HB1.out.size geb17, Hb20, Lib.hid (H10.out.below hHeld H10.out.lt), Lib.hid (HB1.out.trans (hHeld.mono HB1.out.size))⟩
                  exact AllReadyH.nil
                exact AllReadyH.nil
              refine' AllReadyH.cons ?_ (fun K hK => ?_) ?_
              rotate_left 1
              · (try simp only [List.getElem?_toArray, List.getElem?_cons_succ, List.getElem?_cons_zero]); rfl
              · go_simp
                have geb26 : wc.heap.size ≤ wb3.heap.size := hHeld.size
                refine hK.out _ _ ?_ (fun hHeld' => ?_)
                · exact (hHeld.alloc hHeld.size _)
                replace hHeld := hHeld.alloc hHeld.size (.cells Z 69)
                clear hK K hHeld'
                (try simp only [Act.put, List.setIfInBounds_toArray, List.set_cons_zero, List.set_cons_succ])
                have Hb22 := Lib.hid (Blk.new wb3 69 Z)
                have Hb27 := Lib.hid (Hb4.out.alloc (.cells Z 69))
                clear Hb4
                obtain ⟨gb23, Hgb25⟩ : ∃ R, Hid (wb3.heap.size = R) := ⟨_, Lib.hid (Eq.refl _)⟩
                obtain ⟨wb21, Hwb24⟩ : ∃ R, Hid (wb3.alloc (.cells Z 69) = R) := ⟨_, Lib.hid (Eq.refl _)⟩
                rw [Hgb25.out] at Hb22 geb26 ⊢
                rw [Hwb24.out] at Hb22 hHeld Hb27 ⊢
                clear Hwb24
                clear Hgb25
                refine wpAnyH_ready (rs := [6]) (by kernel_rfl) (by simp) ?_
                refine' AllReadyH.cons ?_ (fun K hK => ?_) ?_
                rotate_left 1
                · (try simp only [List.getElem?_toArray, List.getElem?_cons_succ, List.getElem?_cons_zero]); rfl
                · go_simp
                  go_at_call 49
                  refine (CA2.out _ _ Hb27.out).mono ?_
                  rintro e wb28 ⟨rfl, hbb29⟩
                  (try go_wp2_with fail)
                  refine hK.out _ _ ?_ (fun hHeld' => ?_)
                  · exact (bthen hHeld hbb29)
                  replace hHeld := bthen hHeld hbb29
                  clear hK K hHeld'
                  (try simp only [Act.put, List.setIfInBounds_toArray, List.set_cons_zero, List.set_cons_succ])
                  have Hb30 := Lib.hid (Hb27.out.below hbb29 Hb27.out.lt)
                  clear Hb27
                  have Hb31 := Lib.hid (Hb22.out.below hbb29 Hb22.out.lt)
                  clear Hb22
                  refine wpAnyH_ready (rs := [8]) (by kernel_rfl) (by simp) ?_
                  refine' AllReadyH.cons ?_ (fun K hK => ?_) ?_
                  rotate_left 1
                  · (try simp only [List.getElem?_toArray, List.getElem?_cons_succ, List.getElem?_cons_zero]); rfl
                  · rw [if_pos (by rfl)]
                    refine wp_store_row _ _ _ rfl gb23 (wl (uu)).toArray rfl rfl 69 Z Hb31.out (info_wla _) (hZsz _) (wl_one _) ?_
                    refine hK.out _ _ ?_ (fun hHeld' => ?_)
                    · exact (below_setRow hHeld geb26 _)
                    replace hHeld := below_setRow hHeld geb26 (wl (uu)).toArray
                    clear hK K hHeld'
                    (try simp only [Act.put, List.setIfInBounds_toArray, List.set_cons_zero, List.set_cons_succ])
                    have Hb33 : Hid (Blk (wb28.setRow gb23 (wl (uu)).toArray) gb23 69 (wl (uu)).toArray) := setRow_heap _ gb23 _ _ _ _ Hb31.out
                    refine wpAnyH_done (by kernel_rfl) ?_ _
                    refine NoPanic.normal ?_
                    go_wp2_with fail
                    go_meet
                    exact ⟨gb23, rfl, Nat.le_trans HB1.out.size geb26, Hb33, Lib.hid (H10.out.below hHeld H10.out.lt), Lib.hid (HB1.out.trans (hHeld.mono HB1.out.size))⟩
                  exact AllReadyH.nil
                exact AllReadyH.nil
              exact AllReadyH.nil
            refine' AllReadyH.cons ?_ (fun K hK => ?_) ?_
            rotate_left 1
            · (try simp only [List.getElem?_toArray, List.getElem?_cons_succ, List.getElem?_cons_zero]); rfl
            · go_simp
              have geb39 : wc.heap.size ≤ wb1.heap.size := hHeld.size
              refine hK.out _ _ ?_ (fun hHeld' => ?_)
              · exact (hHeld.alloc hHeld.size _)
              replace hHeld := hHeld.alloc hHeld.size (.cells Z 69)
              clear hK K hHeld'
              (try simp only [Act.put, List.setIfInBounds_toArray, List.set_cons_zero, List.set_cons_succ])
              have Hb35 := Lib.hid (Blk.new wb1 69 Z)
              obtain ⟨gb36, Hgb38⟩ : ∃ R, Hid (wb1.heap.size = R) := ⟨_, Lib.hid (Eq.refl _)⟩
              obtain ⟨wb34, Hwb37⟩ : ∃ R, Hid (wb1.alloc (.cells Z 69) = R) := ⟨_, Lib.hid (Eq.refl _)⟩
              rw [Hgb38.out] at Hb35 geb39 ⊢
              rw [Hwb37.out] at Hb35 hHeld ⊢
              clear Hwb37
              clear Hgb38
              refine wpAnyH_ready (rs := [5]) (by kernel_rfl) (by simp) ?_
              refine' AllReadyH.cons ?_ (fun K hK => ?_) ?_
              rotate_left 1
              · (try simp only [List.getElem?_toArray, List.getElem?_cons_succ, List.getElem?_cons_zero]); rfl
              · rw [if_pos (by rfl)]
                refine wp_build_words 2 _ rfl [T0, MO] rfl (by decide) (by decide) rfl ?_
                have geb45 : wc.heap.size ≤ wb34.heap.size := hHeld.size
                refine hK.out _ _ ?_ (fun hHeld' => ?_)
                · exact (hHeld.alloc hHeld.size _)
                replace hHeld := hHeld.alloc hHeld.size (.cells (wcl [T0, MO]).toArray 69)
                clear hK K hHeld'
                (try simp only [Act.put, List.setIfInBounds_toArray, List.set_cons_zero, List.set_cons_succ])
                have Hb41 := Lib.hid (Blk.new wb34 69 (wcl [T0, MO]).toArray)
                have Hb46 := Lib.hid (Hb35.out.alloc (.cells (wcl [T0, MO]).toArray 69))
                clear Hb35
                obtain ⟨gb42, Hgb44⟩ : ∃ R, Hid (wb34.heap.size = R) := ⟨_, Lib.hid (Eq.refl _)⟩
                obtain ⟨wb40, Hwb43⟩ : ∃ R, Hid (wb34.alloc (.cells (wcl [T0, MO]).toArray 69) = R) := ⟨_, Lib.hid (Eq.refl _)⟩
                rw [Hgb44.out] at Hb41 geb45 ⊢
                rw [Hwb43.out] at Hb41 hHeld Hb46 ⊢
                clear Hwb43
                clear Hgb44
                refine wpAnyH_ready (rs := [6]) (by kernel_rfl) (by simp) ?_
                refine' AllReadyH.cons ?_ (fun K hK => ?_) ?_
                rotate_left 1
                · (try simp only [List.getElem?_toArray, List.getElem?_cons_succ, List.getElem?_cons_zero]); rfl
                · go_simp
                  go_at_call 49
                  refine (CA2.out _ _ Hb41.out).mono ?_
                  rintro e wb47 ⟨rfl, hbb48⟩
                  (try go_wp2_with fail)
                  refine hK.out _ _ ?_ (fun hHeld' => ?_)
                  · exact (bthen hHeld hbb48)
                  replace hHeld := bthen hHeld hbb48
                  clear hK K hHeld'
                  (try simp only [Act.put, List.setIfInBounds_toArray, List.set_cons_zero, List.set_cons_succ])
                  have Hb49 := Lib.hid (Hb46.out.below hbb48 Hb46.out.lt)
                  clear Hb46
                  have Hb50 := Lib.hid (Hb41.out.below hbb48 Hb41.out.lt)
                  clear Hb41
                  refine wpAnyH_ready (rs := [8]) (by kernel_rfl) (by simp) ?_
                  refine' AllReadyH.cons ?_ (fun K hK => ?_) ?_
                  rotate_left 1
                  · (try simp only [List.getElem?_toArray, List.getElem?_cons_succ, List.getElem?_cons_zero]); rfl
                  · rw [if_pos (by rfl)]
                    refine wp_store_row _ _ _ rfl gb36 (wl (uu)).toArray rfl rfl 69 Z Hb49.out (info_wla _) (hZsz _) (wl_one _) ?_
                    refine hK.out _ _ ?_ (fun hHeld' => ?_)
                    · exact (below_setRow hHeld geb39 _)
                    replace hHeld := below_setRow hHeld geb39 (wl (uu)).toArray
                    clear hK K hHeld'
                    (try simp only [Act.put, List.setIfInBounds_toArray, List.set_cons_zero, List.set_cons_succ])
                    have Hb52 : Hid (Blk (wb47.setRow gb36 (wl (uu)).toArray) gb36 69 (wl (uu)).toArray) := setRow_heap _ gb36 _ _ _ _ Hb49.out
                    refine wpAnyH_done (by kernel_rfl) ?_ _
                    refine NoPanic.normal ?_
                    go_wp2_with fail
                    go_meet
                    exact ⟨gb36, rfl, Nat.le_trans HB1.out.size geb39, Hb52, Lib.hid (H10.out.below hHeld H10.out.lt), Lib.hid (HB1.out.trans (hHeld.mono HB1.out.size))⟩
                  exact AllReadyH.nil
                exact AllReadyH.nil
              exact AllReadyH.nil
            exact AllReadyH.nil
          refine' AllReadyH.cons ?_ (fun K hK => ?_) ?_
          rotate_left 1
          · (try simp only [List.getElem?_toArray, List.getElem?_cons_succ, List.getElem?_cons_zero]); rfl
          · go_simp
            have geb58 : wc.heap.size ≤ wd.heap.size := hHeld.size
            refine hK.out _ _ ?_ (fun hHeld' => ?_)
            · exact (hHeld.alloc hHeld.size _)
            replace hHeld := hHeld.alloc hHeld.size (.cells Z 69)
            clear hK K hHeld'
            (try simp only [Act.put, List.setIfInBounds_toArray, List.set_cons_zero, List.set_cons_succ])
            have Hb54 := Lib.hid (Blk.new wd 69 Z)
            obtain ⟨gb55, Hgb57⟩ : ∃ R, Hid (wd.heap.size = R) := ⟨_, Lib.hid (Eq.refl _)⟩
            obtain ⟨wb53, Hwb56⟩ : ∃ R, Hid (wd.alloc (.cells Z 69) = R) := ⟨_, Lib.hid (Eq.refl _)⟩
            rw [Hgb57.out] at Hb54 geb58 ⊢
            rw [Hwb56.out] at Hb54 hHeld ⊢
            clear Hwb56
            clear Hgb57
            refine wpAnyH_ready (rs := [3]) (by kernel_rfl) (by simp) ?_
            refine' AllReadyH.cons ?_ (fun K hK => ?_) ?_
            rotate_left 1
            · (try simp only [List.getElem?_toArray, List.getElem?_cons_succ, List.getElem?_cons_zero]); rfl
            · go_simp
              go_at_call 50
              refine (CU.out _).mono ?_
              rintro e wb59 ⟨rfl, hbb60⟩
              (try go_wp2_with fail)
              refine hK.out _ _ ?_ (fun hHeld' => ?_)
              · exact (bthen hHeld hbb60)
              replace hHeld := bthen hHeld hbb60
              clear hK K hHeld'
              (try simp only [Act.put, List.setIfInBounds_toArray, List.set_cons_zero, List.set_cons_succ])
              have Hb61 := Lib.hid (Hb54.out.below hbb60 Hb54.out.lt)
              clear Hb54
              refine wpAnyH_ready (rs := [5]) (by kernel_rfl) (by simp) ?_
              refine' AllReadyH.cons ?_ (fun K hK => ?_) ?_
              rotate_left 1
              · (try simp only [List.getElem?_toArray, List.getElem?_cons_succ, List.getElem?_cons_zero]); rfl
              · rw [if_pos (by rfl)]
                refine wp_build_words 2 _ rfl [T0, MO] rfl (by decide) (by decide) rfl ?_
                have geb67 : wc.heap.size ≤ wb59.heap.size := hHeld.size
                refine hK.out _ _ ?_ (fun hHeld' => ?_)
                · exact (hHeld.alloc hHeld.size _)
                replace hHeld := hHeld.alloc hHeld.size (.cells (wcl [T0, MO]).toArray 69)
                clear hK K hHeld'
                (try simp only [Act.put, List.setIfInBounds_toArray, List.set_cons_zero, List.set_cons_succ])
                have Hb63 := Lib.hid (Blk.new wb59 69 (wcl [T0, MO]).toArray)
                have Hb68 := Lib.hid (Hb61.out.alloc (.cells (wcl [T0, MO]).toArray 69))
                clear Hb61
                obtain ⟨gb64, Hgb66⟩ : ∃ R, Hid (wb59.heap.size = R) := ⟨_, Lib.hid (Eq.refl _)⟩
                obtain ⟨wb62, Hwb65⟩ : ∃ R, Hid (wb59.alloc (.cells (wcl [T0, MO]).toArray 69) = R) := ⟨_, Lib.hid (Eq.refl _)⟩
                rw [Hgb66.out] at Hb63 geb67 ⊢
                rw [Hwb65.out] at Hb63 hHeld Hb68 ⊢
                clear Hwb65
                clear Hgb66
                refine wpAnyH_ready (rs := [6]) (by kernel_rfl) (by simp) ?_
                refine' AllReadyH.cons ?_ (fun K hK => ?_) ?_
                rotate_left 1
                · (try simp only [List.getElem?_toArray, List.getElem?_cons_succ, List.getElem?_cons_zero]); rfl
                · go_simp
                  go_at_call 49
                  refine (CA2.out _ _ Hb63.out).mono ?_
                  rintro e wb69 ⟨rfl, hbb70⟩
                  (try go_wp2_with fail)
                  refine hK.out _ _ ?_ (fun hHeld' => ?_)
                  · exact (bthen hHeld hbb70)
                  replace hHeld := bthen hHeld hbb70
                  clear hK K hHeld'
                  (try simp only [Act.put, List.setIfInBounds_toArray, List.set_cons_zero, List.set_cons_succ])
                  have Hb71 := Lib.hid (Hb68.out.below hbb70 Hb68.out.lt)
                  clear Hb68
                  have Hb72 := Lib.hid (Hb63.out.below hbb70 Hb63.out.lt)
                  clear Hb63
                  refine wpAnyH_ready (rs := [8]) (by kernel_rfl) (by simp) ?_
                  refine' AllReadyH.cons ?_ (fun K hK => ?_) ?_
                  rotate_left 1
                  · (try simp only [List.getElem?_toArray, List.getElem?_cons_succ, List.getElem?_cons_zero]); rfl
                  · rw [if_pos (by rfl)]
                    refine wp_store_row _ _ _ rfl gb55 (wl (uu)).toArray rfl rfl 69 Z Hb71.out (info_wla _) (hZsz _) (wl_one _) ?_
                    refine hK.out _ _ ?_ (fun hHeld' => ?_)
                    · exact (below_setRow hHeld geb58 _)
                    replace hHeld := below_setRow hHeld geb58 (wl (uu)).toArray
                    clear hK K hHeld'
                    (try simp only [Act.put, List.setIfInBounds_toArray, List.set_cons_zero, List.set_cons_succ])
                    have Hb74 : Hid (Blk (wb69.setRow gb55 (wl (uu)).toArray) gb55 69 (wl (uu)).toArray) := setRow_heap _ gb55 _ _ _ _ Hb71.out
                    refine wpAnyH_done (by kernel_rfl) ?_ _
                    refine NoPanic.normal ?_
                    go_wp2_with fail
                    go_meet
                    exact ⟨gb55, rfl, Nat.le_trans HB1.out.size geb58, Hb74, Lib.hid (H10.out.below hHeld H10.out.lt), Lib.hid (HB1.out.trans (hHeld.mono HB1.out.size))⟩
                  exact AllReadyH.nil
                exact AllReadyH.nil
              exact AllReadyH.nil
            exact AllReadyH.nil
          exact AllReadyH.nil
        case rest =>
          obtain ⟨g11, rfl, hg11, H11, H10', HB2⟩ := hcut
          clear H10 HB1
          go_upto_region 10 with fail
          go_cut [6] from 108 to 136 (fun s_ wx => ∃ g, s_ = .slice (some ⟨g, 0, none⟩) 8 8 ∧ wr.heap.size ≤ g ∧ Hid (Blk wx g 69 (wcl [y0, v0, v1, v2, y4, v4, v5, v6]).toArray) ∧ Hid (Below wr.heap.size wr wx))
          case first =>
            have r0 := rangeAt_bel Rr0.out HB2.out
            have r1 := rangeAt_bel Rr1.out HB2.out
            have r2 := rangeAt_bel Rr2.out HB2.out
            have r3 := rangeAt_bel Rr3.out HB2.out
            have r4 := rangeAt_bel Rr4.out HB2.out
            have r5 := rangeAt_bel Rr5.out HB2.out
            have r6 := rangeAt_bel Rr6.out HB2.out
            have q10 : wc.rangeAt g10 0 (wl tt) := H10'.out.range
            have q11 : wc.rangeAt g11 0 (wl uu) := H11.out.range
            refine wp_region_noPanic ?_
            refine wp_region_held_drew (S := fun W => Below wc.heap.size wc W) (by kernel_rfl) (Below.refl _ _).drew (fun hHeld => ?_)
            refine' wpAnyH_take (i := 0) ?_ (by kernel_rfl) (by kernel_rfl) (by kernel_rfl) (fun _ _ _ h => h) ?_ hHeld ?_
            rotate_left 2
            · (try simp only [List.getElem?_toArray, List.getElem?_cons_succ, List.getElem?_cons_zero]); rfl
            · exact yieldsIf_load_mid (by rfl) _ _ rfl g10 (0) rfl (wl (tt)) _ (fun W hS => rangeAt_bel q10 hS) hu rfl (info_wl _)
            (try simp only [Act.put, List.setIfInBounds_toArray, List.set_cons_zero, List.set_cons_succ])
            refine' wpAnyH_take (i := 1) ?_ (by kernel_rfl) (by kernel_rfl) (by kernel_rfl) (fun _ _ _ h => h) ?_ hHeld ?_
            rotate_left 2
            · (try simp only [List.getElem?_toArray, List.getElem?_cons_succ, List.getElem?_cons_zero]); rfl
            · exact yieldsIf_load_mid (by rfl) _ _ rfl g11 (0) rfl (wl (uu)) _ (fun W hS => rangeAt_bel q11 hS) hu rfl (info_wl _)
            (try simp only [Act.put, List.setIfInBounds_toArray, List.set_cons_zero, List.set_cons_succ])
            refine' wpAnyH_take (i := 4) ?_ (by kernel_rfl) (by kernel_rfl) (by kernel_rfl) (fun _ _ _ h => h) ?_ hHeld ?_
            rotate_left 2
            · (try simp only [List.getElem?_toArray, List.getElem?_cons_succ, List.getElem?_cons_zero]); rfl
            · refine Or.inl ⟨by rfl, ?_⟩
              intro W0 hS0
              go_simp
              (try with_reducible rfl)
            (try simp only [Act.put, List.setIfInBounds_toArray, List.set_cons_zero, List.set_cons_succ])
            refine' wpAnyH_take (i := 5) ?_ (by kernel_rfl) (by kernel_rfl) (by kernel_rfl) (fun _ _ _ h => h) ?_ hHeld ?_
            rotate_left 2
            · (try simp only [List.getElem?_toArray, List.getElem?_cons_succ, List.getElem?_cons_zero]); rfl
            · refine Or.inl ⟨by rfl, ?_⟩
              intro W0 hS0
              go_simp
              (try with_reducible rfl)
            (try simp only [Act.put, List.setIfInBounds_toArray, List.set_cons_zero, List.set_cons_succ])
            refine' wpAnyH_take (i := 6) ?_ (by kernel_rfl) (by kernel_rfl) (by kernel_rfl) (fun _ _ _ h => h) ?_ hHeld ?_
            rotate_left 2
            · (try simp only [List.getElem?_toArray, List.getElem?_cons_succ, List.getElem?_cons_zero]); rfl
            · exact yieldsIf_load_mid (by rfl) _ _ rfl b (off) rfl (wl (v0)) _ (fun W hS => rangeAt_bel r0 hS) hu rfl (info_wl _)
            (try simp only [Act.put, List.setIfInBounds_toArray, List.set_cons_zero, List.set_cons_succ])
            refine' wpAnyH_take (i := 7) ?_ (by kernel_rfl) (by kernel_rfl) (by kernel_rfl) (fun _ _ _ h => h) ?_ hHeld ?_
            rotate_left 2
            · (try simp only [List.getElem?_toArray, List.getElem?_cons_succ, List.getElem?_cons_zero]); rfl
            · refine Or.inl ⟨by rfl, ?_⟩
              intro W0 hS0
              go_simp
              (try with_reducible rfl)
            (try simp only [Act.put, List.setIfInBounds_toArray, List.set_cons_zero, List.set_cons_succ])
            refine' wpAnyH_take (i := 8) ?_ (by kernel_rfl) (by kernel_rfl) (by kernel_rfl) (fun _ _ _ h => h) ?_ hHeld ?_
            rotate_left 2
            · (try simp only [List.getElem?_toArray, List.getElem?_cons_succ, List.getElem?_cons_zero]); rfl
            · refine Or.inl ⟨by rfl, ?_⟩
              intro W0 hS0
              go_simp
              (try with_reducible rfl)
            (try simp only [Act.put, List.setIfInBounds_toArray, List.set_cons_zero, List.set_cons_succ])
            refine' wpAnyH_take (i := 9) ?_ (by kernel_rfl) (by kernel_rfl) (by kernel_rfl) (fun _ _ _ h => h) ?_ hHeld ?_
            rotate_left 2
            · (try simp only [List.getElem?_toArray, List.getElem?_cons_succ, List.getElem?_cons_zero]); rfl
            · exact yieldsIf_load_mid (by rfl) _ _ rfl b (off + 32) rfl (wl (v1)) _ (fun W hS => rangeAt_bel r1 hS) hu rfl (info_wl _)
            (try simp only [Act.put, List.setIfInBounds_toArray, List.set_cons_zero, List.set_cons_succ])
            refine' wpAnyH_take (i := 10) ?_ (by kernel_rfl) (by kernel_rfl) (by kernel_rfl) (fun _ _ _ h => h) ?_ hHeld ?_
            rotate_left 2
            · (try simp only [List.getElem?_toArray, List.getElem?_cons_succ, List.getElem?_cons_zero]); rfl
            · refine Or.inl ⟨by rfl, ?_⟩
              intro W0 hS0
              go_simp
              (try with_reducible rfl)
            (try simp only [Act.put, List.setIfInBounds_toArray, List.set_cons_zero, List.set_cons_succ])
            refine' wpAnyH_take (i := 11) ?_ (by kernel_rfl) (by kernel_rfl) (by kernel_rfl) (fun _ _ _ h => h) ?_ hHeld ?_
            rotate_left 2
            · (try simp only [List.getElem?_toArray, List.getElem?_cons_succ, List.getElem?_cons_zero]); rfl
            · refine Or.inl ⟨by rfl, ?_⟩
              intro W0 hS0
              go_simp
              (try with_reducible rfl)
            (try simp only [Act.put, List.setIfInBounds_toArray, List.set_cons_zero, List.set_cons_succ])
            refine' wpAnyH_take (i := 12) ?_ (by kernel_rfl) (by kernel_rfl) (by kernel_rfl) (fun _ _ _ h => h) ?_ hHeld ?_
            rotate_left 2
            · (try simp only [List.getElem?_toArray, List.getElem?_cons_succ, List.getElem?_cons_zero]); rfl
            · exact yieldsIf_load_mid (by rfl) _ _ rfl b (off + 64) rfl (wl (v2)) _ (fun W hS => rangeAt_bel r2 hS) hu rfl (info_wl _)
            (try simp only [Act.put, List.setIfInBounds_toArray, List.set_cons_zero, List.set_cons_succ])
            refine' wpAnyH_take (i := 13) ?_ (by kernel_rfl) (by kernel_rfl) (by kernel_rfl) (fun _ _ _ h => h) ?_ hHeld ?_
            rotate_left 2
            · (try simp only [List.getElem?_toArray, List.getElem?_cons_succ, List.getElem?_cons_zero]); rfl
            · refine Or.inl ⟨by rfl, ?_⟩
              intro W0 hS0
              go_simp
              (try with_reducible rfl)
            (try simp only [Act.put, List.setIfInBounds_toArray, List.set_cons_zero, List.set_cons_succ])
            refine' wpAnyH_take (i := 14) ?_ (by kernel_rfl) (by kernel_rfl) (by kernel_rfl) (fun _ _ _ h => h) ?_ hHeld ?_
            rotate_left 2
            · (try simp only [List.getElem?_toArray, List.getElem?_cons_succ, List.getElem?_cons_zero]); rfl
            · refine Or.inl ⟨by rfl, ?_⟩
              intro W0 hS0
              go_simp
              (try with_reducible rfl)
            (try simp only [Act.put, List.setIfInBounds_toArray, List.set_cons_zero, List.set_cons_succ])
            refine' wpAnyH_take (i := 15) ?_ (by kernel_rfl) (by kernel_rfl) (by kernel_rfl) (fun _ _ _ h => h) ?_ hHeld ?_
            rotate_left 2
            · (try simp only [List.getElem?_toArray, List.getElem?_cons_succ, List.getElem?_cons_zero]); rfl
            · exact yieldsIf_load_mid (by rfl) _ _ rfl b (off + 96) rfl (wl (v3)) _ (fun W hS => rangeAt_bel r3 hS) hu rfl (info_wl _)
            (try simp only [Act.put, List.setIfInBounds_toArray, List.set_cons_zero, List.set_cons_succ])
            refine' wpAnyH_take (i := 16) ?_ (by kernel_rfl) (by kernel_rfl) (by kernel_rfl) (fun _ _ _ h => h) ?_ hHeld ?_
            rotate_left 2
            · (try simp only [List.getElem?_toArray, List.getElem?_cons_succ, List.getElem?_cons_zero]); rfl
            · exact yieldsIf_load_mid (by rfl) _ _ rfl g10 (0) rfl (wl (tt)) _ (fun W hS => rangeAt_bel q10 hS) hu rfl (info_wl _)
            (try simp only [Act.put, List.setIfInBounds_toArray, List.set_cons_zero, List.set_cons_succ])
            refine' wpAnyH_take (i := 19) ?_ (by kernel_rfl) (by kernel_rfl) (by kernel_rfl) (fun _ _ _ h => h) ?_ hHeld ?_
            rotate_left 2
            · (try simp only [List.getElem?_toArray, List.getElem?_cons_succ, List.getElem?_cons_zero]); rfl
            · refine Or.inl ⟨by rfl, ?_⟩
              intro W0 hS0
              go_simp
              (try with_reducible rfl)
            (try simp only [Act.put, List.setIfInBounds_toArray, List.set_cons_zero, List.set_cons_succ])
            refine' wpAnyH_take (i := 20) ?_ (by kernel_rfl) (by kernel_rfl) (by kernel_rfl) (fun _ _ _ h => h) ?_ hHeld ?_
            rotate_left 2
            · (try simp only [List.getElem?_toArray, List.getElem?_cons_succ, List.getElem?_cons_zero]); rfl
            · refine Or.inl ⟨by rfl, ?_⟩
              intro W0 hS0
              go_simp
              (try with_reducible rfl)
            (try simp only [Act.put, List.setIfInBounds_toArray, List.set_cons_zero, List.set_cons_succ])
            refine' wpAnyH_take (i := 21) ?_ (by kernel_rfl) (by kernel_rfl) (by kernel_rfl) (fun _ _ _ h => h) ?_ hHeld ?_
            rotate_left 2
            · (try simp only [List.getElem?_toArray, List.getElem?_cons_succ, List.getElem?_cons_zero]); rfl
            · exact yieldsIf_load_mid (by rfl) _ _ rfl b (off + 128) rfl (wl (v4)) _ (fun W hS => rangeAt_bel r4 hS) hu rfl (info_wl _)
            (try simp only [Act.put, List.setIfInBounds_toArray, List.set_cons_zero, List.set_cons_succ])
            refine' wpAnyH_take (i := 22) ?_ (by kernel_rfl) (by kernel_rfl) (by kernel_rfl) (fun _ _ _ h => h) ?_ hHeld ?_
            rotate_left 2
            · (try simp only [List.getElem?_toArray, List.getElem?_cons_succ, List.getElem?_cons_zero]); rfl
            · refine Or.inl ⟨by rfl, ?_⟩
              intro W0 hS0
              go_simp
              (try with_reducible rfl)
            (try simp only [Act.put, List.setIfInBounds_toArray, List.set_cons_zero, List.set_cons_succ])
            refine' wpAnyH_take (i := 23) ?_ (by kernel_rfl) (by kernel_rfl) (by kernel_rfl) (fun _ _ _ h => h) ?_ hHeld ?_
            rotate_left 2
            · (try simp only [List.getElem?_toArray, List.getElem?_cons_succ, List.getElem?_cons_zero]); rfl
            · refine Or.inl ⟨by rfl, ?_⟩
              intro W0 hS0
              go_simp
              (try with_reducible rfl)
            (try simp only [Act.put, List.setIfInBounds_toArray, List.set_cons_zero, List.set_cons_succ])
            refine' wpAnyH_take (i := 24) ?_ (by kernel_rfl) (by kernel_rfl) (by kernel_rfl) (fun _ _ _ h => h) ?_ hHeld ?_
            rotate_left 2
            · (try simp only [List.getElem?_toArray, List.getElem?_cons_succ, List.getElem?_cons_zero]); rfl
            · exact yieldsIf_load_mid (by rfl) _ _ rfl b (off + 160) rfl (wl (v5)) _ (fun W hS => rangeAt_bel r5 hS) hu rfl (info_wl _)
            (try simp only [Act.put, List.setIfInBounds_toArray, List.set_cons_zero, List.set_cons_succ])
            refine' wpAnyH_take (i := 25) ?_ (by kernel_rfl) (by kernel_rfl) (by kernel_rfl) (fun _ _ _ h => h) ?_ hHeld ?_
            rotate_left 2
            · (try simp only [List.getElem?_toArray, List.getElem?_cons_succ, List.getElem?_cons_zero]); rfl
            · refine Or.inl ⟨by rfl, ?_⟩
              intro W0 hS0
              go_simp
              (try with_reducible rfl)
            (try simp only [Act.put, List.setIfInBounds_toArray, List.set_cons_zero, List.set_cons_succ])
            refine' wpAnyH_take (i := 26) ?_ (by kernel_rfl) (by kernel_rfl) (by kernel_rfl) (fun _ _ _ h => h) ?_ hHeld ?_
            rotate_left 2
            · (try simp only [List.getElem?_toArray, List.getElem?_cons_succ, List.getElem?_cons_zero]); rfl
            · refine Or.inl ⟨by rfl, ?_⟩
              intro W0 hS0
              go_simp
              (try with_reducible rfl)
            (try simp only [Act.put, List.setIfInBounds_toArray, List.set_cons_zero, List.set_cons_succ])
            refine' wpAnyH_take (i := 27) ?_ (by kernel_rfl) (by kernel_rfl) (by kernel_rfl) (fun _ _ _ h => h) ?_ hHeld ?_
            rotate_left 2
            · (try simp only [List.getElem?_toArray, List.getElem?_cons_succ, List.getElem?_cons_zero]); rfl
            · exact yieldsIf_load_mid (by rfl) _ _ rfl b (off + 192) rfl (wl (v6)) _ (fun W hS => rangeAt_bel r6 hS) hu rfl (info_wl _)
            (try simp only [Act.put, List.setIfInBounds_toArray, List.set_cons_zero, List.set_cons_succ])
            obtain ⟨wd, Hwd⟩ : ∃ R, Hid (wc.drew = R) := ⟨_, Lib.hid (Eq.refl _)⟩
            replace hHeld : Below wc.heap.size wc wc.drew := hHeld
            rw [Hwd.out] at hHeld ⊢
            clear Hwd
            refine wpAnyH_ready (rs := [2, 17]) (by kernel_rfl) (by simp) ?_
            refine' AllReadyH.cons ?_ (fun K hK => ?_) ?_
            rotate_left 1
            · (try simp only [List.getElem?_toArray, List.getElem?_cons_succ, List.getElem?_cons_zero]); rfl
            · rw [if_pos (by rfl)]
              refine wp_build_words 2 _ rfl [tt, uu] rfl (by decide) (by decide) rfl ?_
              have gec6 : wc.heap.size ≤ wd.heap.size := hHeld.size
              refine hK.out _ _ ?_ (fun hHeld' => ?_)
              · exact (hHeld.alloc hHeld.size _)
              replace hHeld := hHeld.alloc hHeld.size (.cells (wcl [tt, uu]).toArray 69)
              clear hK K hHeld'
              (try simp only [Act.put, List.setIfInBounds_toArray, List.set_cons_zero, List.set_cons_succ])
              have Hc2 := Lib.hid (Blk.new wd 69 (wcl [tt, uu]).toArray)
              obtain ⟨gc3, Hgc5⟩ : ∃ R, Hid (wd.heap.size = R) := ⟨_, Lib.hid (Eq.refl _)⟩
              obtain ⟨wc1, Hwc4⟩ : ∃ R, Hid (wd.alloc (.cells (wcl [tt, uu]).toArray 69) = R) := ⟨_, Lib.hid (Eq.refl _)⟩
              rw [Hgc5.out] at Hc2 gec6 ⊢
              rw [Hwc4.out] at Hc2 hHeld ⊢
              clear Hwc4
              clear Hgc5
              refine wpAnyH_ready (rs := [3, 17]) (by kernel_rfl) (by simp) ?_
              refine' AllReadyH.cons ?_ (fun K hK => ?_) ?_
              rotate_left 1
              · (try simp only [List.getElem?_toArray, List.getElem?_cons_succ, List.getElem?_cons_zero]); rfl
              · go_simp
                go_at_call 49
                refine (CA3.out _ _ Hc2.out).mono ?_
                rintro e wc7 ⟨rfl, hbc8⟩
                (try go_wp2_with fail)
                refine hK.out _ _ ?_ (fun hHeld' => ?_)
                · exact (bthen hHeld hbc8)
                replace hHeld := bthen hHeld hbc8
                clear hK K hHeld'
                (try simp only [Act.put, List.setIfInBounds_toArray, List.set_cons_zero, List.set_cons_succ])
                have Hc9 := Lib.hid (Hc2.out.below hbc8 Hc2.out.lt)
                clear Hc2
                refine wpAnyH_ready (rs := [17]) (by kernel_rfl) (by simp) ?_
                refine' AllReadyH.cons ?_ (fun K hK => ?_) ?_
                rotate_left 1
                · (try simp only [List.getElem?_toArray, List.getElem?_cons_succ, List.getElem?_cons_zero]); rfl
                · rw [if_pos (by rfl)]
                  refine wp_build_words 2 _ rfl [v3, tt] rfl (by decide) (by decide) rfl ?_
                  have gec15 : wc.heap.size ≤ wc7.heap.size := hHeld.size
                  refine hK.out _ _ ?_ (fun hHeld' => ?_)
                  · exact (hHeld.alloc hHeld.size _)
                  replace hHeld := hHeld.alloc hHeld.size (.cells (wcl [v3, tt]).toArray 69)
                  clear hK K hHeld'
                  (try simp only [Act.put, List.setIfInBounds_toArray, List.set_cons_zero, List.set_cons_succ])
                  have Hc11 := Lib.hid (Blk.new wc7 69 (wcl [v3, tt]).toArray)
                  have Hc16 := Lib.hid (Hc9.out.alloc (.cells (wcl [v3, tt]).toArray 69))
                  clear Hc9
                  obtain ⟨gc12, Hgc14⟩ : ∃ R, Hid (wc7.heap.size = R) := ⟨_, Lib.hid (Eq.refl _)⟩
                  obtain ⟨wc10, Hwc13⟩ : ∃ R, Hid (wc7.alloc (.cells (wcl [v3, tt]).toArray 69) = R) := ⟨_, Lib.hid (Eq.refl _)⟩
                  rw [Hgc14.out] at Hc11 gec15 ⊢
                  rw [Hwc13.out] at Hc11 hHeld Hc16 ⊢
                  clear Hwc13
                  clear Hgc14
                  refine wpAnyH_ready (rs := [18]) (by kernel_rfl) (by simp) ?_
                  refine' AllReadyH.cons ?_ (fun K hK => ?_) ?_
                  rotate_left 1
                  · (try simp only [List.getElem?_toArray, List.getElem?_cons_succ, List.getElem?_cons_zero]); rfl
                  · go_simp
                    go_at_call 49
                    refine (CA4.out _ _ Hc11.out).mono ?_
                    rintro e wc17 ⟨rfl, hbc18⟩
                    (try go_wp2_with fail)
                    refine hK.out _ _ ?_ (fun hHeld' => ?_)
                    · exact (bthen hHeld hbc18)
                    replace hHeld := bthen hHeld hbc18
                    clear hK K hHeld'
                    (try simp only [Act.put, List.setIfInBounds_toArray, List.set_cons_zero, List.set_cons_succ])
                    have Hc19 := Lib.hid (Hc16.out.below hbc18 Hc16.out.lt)
                    clear Hc16
                    have Hc20 := Lib.hid (Hc11.out.below hbc18 Hc11.out.lt)
                    clear Hc11
                    refine wpAnyH_ready (rs := [28]) (by kernel_rfl) (by simp) ?_
                    refine' AllReadyH.cons ?_ (fun K hK => ?_) ?_
                    rotate_left 1
                    · (try simp only [List.getElem?_toArray, List.getElem?_cons_succ, List.getElem?_cons_zero]); rfl
                    · rw [if_pos (by rfl)]
                      refine wp_build_words 8 _ rfl [y0, v0, v1, v2, y4, v4, v5, v6] rfl (by decide) (by decide) rfl ?_
                      have gec26 : wc.heap.size ≤ wc17.heap.size := hHeld.size
                      refine hK.out _ _ ?_ (fun hHeld' => ?_)
                      · exact (hHeld.alloc hHeld.size _)
                      replace hHeld := hHeld.alloc hHeld.size (.cells (wcl [y0, v0, v1, v2, y4, v4, v5, v6]).toArray 69)
                      clear hK K hHeld'
                      (try simp only [Act.put, List.setIfInBounds_toArray, List.set_cons_zero, List.set_cons_succ])
                      have Hc22 := Lib.hid (Blk.new wc17 69 (wcl [y0, v0, v1, v2, y4, v4, v5, v6]).toArray)
                      have Hc27 := Lib.hid (Hc19.out.alloc (.cells (wcl [y0, v0, v1, v2, y4, v4, v5, v6]).toArray 69))
                      clear Hc19
                      have Hc28 := Lib.hid (Hc20.out.alloc (.cells (wcl [y0, v0, v1, v2, y4, v4, v5, v6]).toArray 69))
                      clear Hc20
                      obtain ⟨gc23, Hgc25⟩ : ∃ R, Hid (wc17.heap.size = R) := ⟨_, Lib.hid (Eq.refl _)⟩
                      obtain ⟨wc21, Hwc24⟩ : ∃ R, Hid (wc17.alloc (.cells (wcl [y0, v0, v1, v2, y4, v4, v5, v6]).toArray 69) = R) := ⟨_, Lib.hid (Eq.refl _)⟩
                      rw [Hgc25.out] at Hc22 gec26 ⊢
                      rw [Hwc24.out] at Hc22 hHeld Hc27 Hc28 ⊢
                      clear Hwc24
                      clear Hgc25
                      refine wpAnyH_ready (rs := [29]) (by kernel_rfl) (by simp) ?_
                      refine' AllReadyH.cons ?_ (fun K hK => ?_) ?_
                      rotate_left 1
                      · (try simp only [List.getElem?_toArray, List.getElem?_cons_succ, List.getElem?_cons_zero]); rfl
                      · go_simp
                        refine hK.out _ _ ?_ (fun hHeld' => ?_)
                        · exact hHeld
                        clear hK K hHeld'
                        (try simp only [Act.put, List.setIfInBounds_toArray, List.set_cons_zero, List.set_cons_succ])
                        refine wpAnyH_done (by kernel_rfl) ?_ _
                        refine NoPanic.normal ?_
                        go_wp2_with fail
                        go_meet
                        exact ⟨gc23, rfl, Nat.le_trans HB2.out.size gec26, Hc22, Lib.hid (HB2.out.trans (hHeld.mono HB2.out.size))⟩
                      exact AllReadyH.nil
                    exact AllReadyH.nil
                  exact AllReadyH.nil
                exact AllReadyH.nil
              refine' AllReadyH.cons ?_ (fun K hK => ?_) ?_
              rotate_left 1
              · (try simp only [List.getElem?_toArray, List.getElem?_cons_succ, List.getElem?_cons_zero]); rfl
              · rw [if_pos (by rfl)]
                refine wp_build_words 2 _ rfl [v3, tt] rfl (by decide) (by decide) rfl ?_
                have gec35 : wc.heap.size ≤ wc1.heap.size := hHeld.size
                refine hK.out _ _ ?_ (fun hHeld' => ?_)
                · exact (hHeld.alloc hHeld.size _)
                replace hHeld := hHeld.alloc hHeld.size (.cells (wcl [v3, tt]).toArray 69)
                clear hK K hHeld'
                (try simp only [Act.put, List.setIfInBounds_toArray, List.set_cons_zero, List.set_cons_succ])
                have Hc31 := Lib.hid (Blk.new wc1 69 (wcl [v3, tt]).toArray)
                have Hc36 := Lib.hid (Hc2.out.alloc (.cells (wcl [v3, tt]).toArray 69))
                clear Hc2
                obtain ⟨gc32, Hgc34⟩ : ∃ R, Hid (wc1.heap.size = R) := ⟨_, Lib.hid (Eq.refl _)⟩
                obtain ⟨wc30, Hwc33⟩ : ∃ R, Hid (wc1.alloc (.cells (wcl [v3, tt]).toArray 69) = R) := ⟨_, Lib.hid (Eq.refl _)⟩
                rw [Hgc34.out] at Hc31 gec35 ⊢
                rw [Hwc33.out] at Hc31 hHeld Hc36 ⊢
                clear Hwc33
                clear Hgc34
                refine wpAnyH_ready (rs := [3]) (by kernel_rfl) (by simp) ?_
                refine' AllReadyH.cons ?_ (fun K hK => ?_) ?_
                rotate_left 1
                · (try simp only [List.getElem?_toArray, List.getElem?_cons_succ, List.getElem?_cons_zero]); rfl
                · go_simp
                  go_at_call 49
                  refine (CA3.out _ _ Hc36.out).mono ?_
                  rintro e wc37 ⟨rfl, hbc38⟩
                  (try go_wp2_with fail)
                  refine hK.out _ _ ?_ (fun hHeld' => ?_)
                  · exact (bthen hHeld hbc38)
                  replace hHeld := bthen hHeld hbc38
                  clear hK K hHeld'
                  (try simp only [Act.put, List.setIfInBounds_toArray, List.set_cons_zero, List.set_cons_succ])
                  have Hc39 := Lib.hid (Hc36.out.below hbc38 Hc36.out.lt)
                  clear Hc36
                  have Hc40 := Lib.hid (Hc31.out.below hbc38 Hc31.out.lt)
                  clear Hc31
                  refine wpAnyH_ready (rs := [18]) (by kernel_rfl) (by simp) ?_
                  refine' AllReadyH.cons ?_ (fun K hK => ?_) ?_
                  rotate_left 1
                  · (try simp only [List.getElem?_toArray, List.getElem?_cons_succ, List.getElem?_cons_zero]); rfl
                  · go_simp
                    go_at_call 49
                    refine (CA4.out _ _ Hc40.out).mono ?_
                    rintro e wc41 ⟨rfl, hbc42⟩
                    (try go_wp2_with fail)
                    refine hK.out _ _ ?_ (fun hHeld' => ?_)
                    · exact (bthen hHeld hbc42)
                    replace hHeld := bthen hHeld hbc42
                    clear hK K hHeld'
                    (try simp only [Act.put, List.setIfInBounds_toArray, List.set_cons_zero, List.set_cons_succ])
                    have Hc43 := Lib.hid (Hc39.out.below hbc42 Hc39.out.lt)
                    clear Hc39
                    have Hc44 := Lib.hid (Hc40.out.below hbc42 Hc40.out.lt)
                    clear Hc40
                    refine wpAnyH_ready (rs := [28]) (by kernel_rfl) (by simp) ?_
                    refine' AllReadyH.cons ?_ (fun K hK => ?_) ?_
                    rotate_left 1
                    · (try simp only [List.getElem?_toArray, List.getElem?_cons_succ, List.getElem?_cons_zero]); rfl
                    · rw [if_pos (by rfl)]
                      refine wp_build_words 8 _ rfl [y0, v0, v1, v2, y4, v4, v5, v6] rfl (by decide) (by decide) rfl ?_
                      have gec50 : wc.heap.size ≤ wc41.heap.size := hHeld.size
                      refine hK.out _ _ ?_ (fun hHeld' => ?_)
                      · exact (hHeld.alloc hHeld.size _)
                      replace hHeld := hHeld.alloc hHeld.size (.cells (wcl [y0, v0, v1, v2, y4, v4, v5, v6]).toArray 69)
                      clear hK K hHeld'
                      (try simp only [Act.put, List.setIfInBounds_toArray, List.set_cons_zero, List.set_cons_succ])
                      have Hc46 := Lib.hid (Blk.new wc41 69 (wcl [y0, v0, v1, v2, y4, v4, v5, v6]).toArray)
                      have Hc51 := Lib.hid (Hc43.out.alloc (.cells (wcl [y0, v0, v1, v2, y4, v4, v5, v6]).toArray 69))
                      clear Hc43
                      have Hc52 := Lib.hid (Hc44.out.alloc (.cells (wcl [y0, v0, v1, v2, y4, v4, v5, v6]).toArray 69))
                      clear Hc44
                      obtain ⟨gc47, Hgc49⟩ : ∃ R, Hid (wc41.heap.size = R) := ⟨_, Lib.hid (Eq.refl _)⟩
                      obtain ⟨wc45, Hwc48⟩ : ∃ R, Hid (wc41.alloc (.cells (wcl [y0, v0, v1, v2, y4, v4, v5, v6]).toArray 69) = R) := ⟨_, Lib.hid (Eq.refl _)⟩
                      rw [Hgc49.out] at Hc46 gec50 ⊢
                      rw [Hwc48.out] at Hc46 hHeld Hc51 Hc52 ⊢
                      clear Hwc48
                      clear Hgc49
                      refine wpAnyH_ready (rs := [29]) (by kernel_rfl) (by simp) ?_
                      refine' AllReadyH.cons ?_ (fun K hK => ?_) ?_
                      rotate_left 1
                      · (try simp only [List.getElem?_toArray, List.getElem?_cons_succ, List.getElem?_cons_zero]); rfl
                      · go_simp
                        refine hK.out _ _ ?_ (fun hHeld' => ?_)
                        · exact hHeld
                        clear hK K hHeld'
                        (try simp only [Act.put, List.setIfInBounds_toArray, List.set_cons_zero, List.set_cons_succ])
                        refine wpAnyH_done (by kernel_rfl) ?_ _
                        refine NoPanic.normal ?_
                        go_wp2_with fail
                        go_meet
                        exact ⟨gc47, rfl, Nat.le_trans HB2.out.size gec50, Hc46, Lib.hid (HB2.out.trans (hHeld.mono HB2.out.size))⟩
                      exact AllReadyH.nil
                    exact AllReadyH.nil
                  exact AllReadyH.nil
                exact AllReadyH.nil
              exact AllReadyH.nil
            refine' AllReadyH.cons ?_ (fun K hK => ?_) ?_
            rotate_left 1
            · (try simp only [List.getElem?_toArray, List.getElem?_cons_succ, List.getElem?_cons_zero]); rfl
            · rw [if_pos (by rfl)]
              refine wp_build_words 2 _ rfl [v3, tt] rfl (by decide) (by decide) rfl ?_
              have gec59 : wc.heap.size ≤ wd.heap.size := hHeld.size
              refine hK.out _ _ ?_ (fun hHeld' => ?_)
              · exact (hHeld.alloc hHeld.size _)
              replace hHeld := hHeld.alloc hHeld.size (.cells (wcl [v3, tt]).toArray 69)
              clear hK K hHeld'
              (try simp only [Act.put, List.setIfInBounds_toArray, List.set_cons_zero, List.set_cons_succ])
              have Hc55 := Lib.hid (Blk.new wd 69 (wcl [v3, tt]).toArray)
              obtain ⟨gc56, Hgc58⟩ : ∃ R, Hid (wd.heap.size = R) := ⟨_, Lib.hid (Eq.refl _)⟩
              obtain ⟨wc54, Hwc57⟩ : ∃ R, Hid (wd.alloc (.cells (wcl [v3, tt]).toArray 69) = R) := ⟨_, Lib.hid (Eq.refl _)⟩
              rw [Hgc58.out] at Hc55 gec59 ⊢
              rw [Hwc57.out] at Hc55 hHeld ⊢
              clear Hwc57
              clear Hgc58
              refine wpAnyH_ready (rs := [2]) (by kernel_rfl) (by simp) ?_
              refine' AllReadyH.cons ?_ (fun K hK => ?_) ?_
              rotate_left 1
              · (try simp only [List.getElem?_toArray, List.getElem?_cons_succ, List.getElem?_cons_zero]); rfl
              · rw [if_pos (by rfl)]
                refine wp_build_words 2 _ rfl [tt, uu] rfl (by decide) (by decide) rfl ?_
                have gec65 : wc.heap.size ≤ wc54.heap.size := hHeld.size
                refine hK.out _ _ ?_ (fun hHeld' => ?_)
                · exact (hHeld.alloc hHeld.size _)
                replace hHeld := hHeld.alloc hHeld.size (.cells (wcl [tt, uu]).toArray 69)
                clear hK K hHeld'
                (try simp only [Act.put, List.setIfInBounds_toArray, List.set_cons_zero, List.set_cons_succ])
                have Hc61 := Lib.hid (Blk.new wc54 69 (wcl [tt, uu]).toArray)
                have Hc66 := Lib.hid (Hc55.out.alloc (.cells (wcl [tt, uu]).toArray 69))
                clear Hc55
                obtain ⟨gc62, Hgc64⟩ : ∃ R, Hid (wc54.heap.size = R) := ⟨_, Lib.hid (Eq.refl _)⟩
                obtain ⟨wc60, Hwc63⟩ : ∃ R, Hid (wc54.alloc (.cells (wcl [tt, uu]).toArray 69) = R) := ⟨_, Lib.hid (Eq.refl _)⟩
                rw [Hgc64.out] at Hc61 gec65 ⊢
                rw [Hwc63.out] at Hc61 hHeld Hc66 ⊢
                clear Hwc63
                clear Hgc64
                refine wpAnyH_ready (rs := [3]) (by kernel_rfl) (by simp) ?_
                refine' AllReadyH.cons ?_ (fun K hK => ?_) ?_
                rotate_left 1
                · (try simp only [List.getElem?_toArray, List.getElem?_cons_succ, List.getElem?_cons_zero]); rfl
                · go_simp
                  go_at_call 49
                  refine (CA3.out _ _ Hc61.out).mono ?_
                  rintro e wc67 ⟨rfl, hbc68⟩
                  (try go_wp2_with fail)
                  refine hK.out _ _ ?_ (fun hHeld' => ?_)
                  · exact (bthen hHeld hbc68)
                  replace hHeld := bthen hHeld hbc68
                  clear hK K hHeld'
                  (try simp only [Act.put, List.setIfInBounds_toArray, List.set_cons_zero, List.set_cons_succ])
                  have Hc69 := Lib.hid (Hc66.out.below hbc68 Hc66.out.lt)
                  clear Hc66
                  have Hc70 := Lib.hid (Hc61.out.below hbc68 Hc61.out.lt)
                  clear Hc61
                  refine wpAnyH_ready (rs := [18]) (by kernel_rfl) (by simp) ?_
                  refine' AllReadyH.cons ?_ (fun K hK => ?_) ?_
                  rotate_left 1
                  · (try simp only [List.getElem?_toArray, List.getElem?_cons_succ, List.getElem?_cons_zero]); rfl
                  · go_simp
                    go_at_call 49
                    refine (CA4.out _ _ Hc69.out).mono ?_
                    rintro e wc71 ⟨rfl, hbc72⟩
                    (try go_wp2_with fail)
                    refine hK.out _ _ ?_ (fun hHeld' => ?_)
                    · exact (bthen hHeld hbc72)
                    replace hHeld := bthen hHeld hbc72
                    clear hK K hHeld'
                    (try simp only [Act.put, List.setIfInBounds_toArray, List.set_cons_zero, List.set_cons_succ])
                    have Hc73 := Lib.hid (Hc69.out.below hbc72 Hc69.out.lt)
                    clear Hc69
                    have Hc74 := Lib.hid (Hc70.out.below hbc72 Hc70.out.lt)
                    clear Hc70
                    refine wpAnyH_ready (rs := [28]) (by kernel_rfl) (by simp) ?_
                    refine' AllReadyH.cons ?_ (fun K hK => ?_) ?_
                    rotate_left 1
                    · (try simp only [List.getElem?_toArray, List.getElem?_cons_succ, List.getElem?_cons_zero]); rfl
                    · rw [if_pos (by rfl)]
                      refine wp_build_words 8 _ rfl [y0, v0, v1, v2, y4, v4, v5, v6] rfl (by decide) (by decide) rfl ?_
                      have gec80 : wc.heap.size ≤ wc71.heap.size := hHeld.size
                      refine hK.out _ _ ?_ (fun hHeld' => ?_)
                      · exact (hHeld.alloc hHeld.size _)
                      replace hHeld := hHeld.alloc hHeld.size (.cells (wcl [y0, v0, v1, v2, y4, v4, v5, v6]).toArray 69)
                      clear hK K hHeld'
                      (try simp only [Act.put, List.setIfInBounds_toArray, List.set_cons_zero, List.set_cons_succ])
                      have Hc76 := Lib.hid (Blk.new wc71 69 (wcl [y0, v0, v1, v2, y4, v4, v5, v6]).toArray)
                      have Hc81 := Lib.hid (Hc73.out.alloc (.cells (wcl [y0, v0, v1, v2, y4, v4, v5, v6]).toArray 69))
                      clear Hc73
                      have Hc82 := Lib.hid (Hc74.out.alloc (.cells (wcl [y0, v0, v1, v2, y4, v4, v5, v6]).toArray 69))
                      clear Hc74
                      obtain ⟨gc77, Hgc79⟩ : ∃ R, Hid (wc71.heap.size = R) := ⟨_, Lib.hid (Eq.refl _)⟩
                      obtain ⟨wc75, Hwc78⟩ : ∃ R, Hid (wc71.alloc (.cells (wcl [y0, v0, v1, v2, y4, v4, v5, v6]).toArray 69) = R) := ⟨_, Lib.hid (Eq.refl _)⟩
                      rw [Hgc79.out] at Hc76 gec80 ⊢
                      rw [Hwc78.out] at Hc76 hHeld Hc81 Hc82 ⊢
                      clear Hwc78
                      clear Hgc79
                      refine wpAnyH_ready (rs := [29]) (by kernel_rfl) (by simp) ?_
                      refine' AllReadyH.cons ?_ (fun K hK => ?_) ?_
                      rotate_left 1
                      · (try simp only [List.getElem?_toArray, List.getElem?_cons_succ, List.getElem?_cons_zero]); rfl
                      · go_simp
                        refine hK.out _ _ ?_ (fun hHeld' => ?_)
                        · exact hHeld
                        clear hK K hHeld'
                        (try simp only [Act.put, List.setIfInBounds_toArray, List.set_cons_zero, List.set_cons_succ])
                        refine wpAnyH_done (by kernel_rfl) ?_ _
                        refine NoPanic.normal ?_
                        go_wp2_with fail
                        go_meet
                        exact ⟨gc77, rfl, Nat.le_trans HB2.out.size gec80, Hc76, Lib.hid (HB2.out.trans (hHeld.mono HB2.out.size))⟩
                      exact AllReadyH.nil
                    exact AllReadyH.nil
                  exact AllReadyH.nil
                exact AllReadyH.nil
              exact AllReadyH.nil
            exact AllReadyH.nil
          case rest =>
            obtain ⟨g12, rfl, hg12, H12, HB3⟩ := hcut
            have hw := WRow.of_block (L := [y0, v0, v1, v2, y4, v4, v5, v6]) H12.out (by simp)
            have HW := Lib.hid hw
            clear hw H10' H11
            go_wp2_with fail
            go_ret
            refine ⟨bthen HB.out HB3.out, g12, rfl, ?_, Nat.le_trans HB.out.size hg12⟩
            rw [HFn.out]
            exact HW.out
end Go.Proofs.Ytbccljpbnbobmaa
