/- The document's turns. Conditions: turns by 1 to 31. -/
import Derived.Test.YtbccljpbnbobmaaRef2b
namespace Go.Proofs.Ytbccljpbnbobmaa
open Go.RowKit
set_option maxRecDepth 100000

def turnF (F : Nat → Bool) (a b c : Nat) (sh : Bool) (i : Nat) : Bool :=
  if (!sh || decide (c ≤ i)) then ((F ((i + 32 - a) % 32) != F ((i + 32 - b) % 32)) != F ((i + 32 - c) % 32)) else (F ((i + 32 - a) % 32) != F ((i + 32 - b) % 32))
def turnTo (F : Nat → Bool) (a b c : Nat) (sh : Bool) (k j : Nat) : Bool := if j < k then turnF F a b c sh j else false
theorem turnTo_zero (F : Nat → Bool) (a b c : Nat) (sh : Bool) : fcells 32 (tval fun _ => false) = fcells 32 (tval (turnTo F a b c sh 0)) := by
  refine fcells_congr _ _ _ fun i hi => ?_
  unfold tval turnTo
  rw [if_neg (by omega)]
theorem turnTo_succ (F : Nat → Bool) (a b c : Nat) (sh : Bool) (k : Nat) : fcells 32 (tval fun i => if i = k then turnF F a b c sh k else turnTo F a b c sh k i) = fcells 32 (tval (turnTo F a b c sh (k + 1))) := by
  refine fcells_congr _ _ _ fun i hi => ?_
  unfold tval turnTo
  by_cases h : i = k
  · subst h
    simp only [if_true]
    rw [if_pos (by omega)]
  · simp only [h, if_false]
    by_cases h2 : i < k
    · rw [if_pos h2, if_pos (by omega)]
    · rw [if_neg h2, if_neg (by omega)]
theorem turnTo_all (F : Nat → Bool) (a b c : Nat) (sh : Bool) : fcells 32 (tval (turnTo F a b c sh 32)) = fcells 32 (tval (turnF F a b c sh)) := by
  refine fcells_congr _ _ _ fun i hi => ?_
  unfold tval turnTo
  rw [if_pos hi]

set_option maxHeartbeats 4000000 in
theorem turns_any (F : Nat → Bool) (a b c : Nat) (sh : Bool) (ha : 1 ≤ a ∧ a < 32) (hb : 1 ≤ b ∧ b < 32) (hc : 1 ≤ c ∧ c < 32) (w : World) :
    Calls Try.prog 50 #[.agg (fcells 32 (tval F)), .int .i64 (a : Int), .int .i64 (b : Int), .int .i64 (c : Int), .bool sh] w fun e w' => e = .returned (.agg (fcells 32 (tval (turnF F a b c sh)))) ∧ Below w.heap.size w w' := by
  have hz := zero_word
  obtain ⟨Z, HZ⟩ : ∃ z, Hid (fcells 32 (tval fun _ => false) = z) := ⟨_, Lib.hid (Eq.refl _)⟩
  obtain ⟨FF, HF⟩ : ∃ z, Hid (fcells 32 (tval F) = z) := ⟨_, Lib.hid (Eq.refl _)⟩
  rw [HZ.out] at hz
  rw [HF.out]
  have hZs : Z.size = 32 := by rw [← HZ.out, fcells_size]
  have hZ1 : Z.all (·.oneCell') = true := by rw [← HZ.out]; exact tcells2_one _ _
  have hiZ : (Try.prog.info? 69).map (·.size) = some Z.size := by rw [info_word, hZs]
  have hsc := run_storeCells_new (P := Try.prog) ((w.alloc (.cells FF 69)).alloc (.cells Z 69)) 69 Z Z hiZ rfl hZ1
  have hsz : ((w.alloc (.cells FF 69)).alloc (.cells Z 69)).heap.size = w.heap.size + 1 + 1 := by simp
  rw [hsz] at hsc
  have hsz1 : (w.alloc (.cells FF 69)).heap.size = w.heap.size + 1 := by simp
  have hb0 := (((Below.refl w.heap.size w).alloc (Nat.le_refl _) (.cells FF 69)).alloc (by simp) (.cells Z 69)).alloc (by simp; omega) (.cells Z 69)
  have hF := ((Blk.new w 69 FF).alloc (.cells Z 69)).alloc (.cells Z 69)
  have hR := (Blk.new (w.alloc (.cells FF 69)) 69 Z).alloc (.cells Z 69)
  have hW := Blk.new ((w.alloc (.cells FF 69)).alloc (.cells Z 69)) 69 Z
  rw [hsz] at hW
  rw [hsz1] at hR
  have HB := Lib.hid hb0
  have HFB := Lib.hid hF
  have HR := Lib.hid hR
  have HW := Lib.hid hW
  have HZs := Lib.hid hZs
  have HZ1 := Lib.hid hZ1
  clear hb0 hF hR hW hZ1 hiZ
  go_enter Try.func50, Try.ntmps50
  go_upto_region 2 with (fail)
  obtain ⟨w0, Hw0⟩ : ∃ W, Hid (((w.alloc (.cells FF 69)).alloc (.cells Z 69)).alloc (.cells Z 69) = W) := ⟨_, Lib.hid (Eq.refl _)⟩
  rw [Hw0.out] at HB HFB HR HW ⊢
  obtain ⟨A0, HA0⟩ : ∃ q, Hid (w.heap.size = q) := ⟨_, Lib.hid (Eq.refl _)⟩
  obtain ⟨B0, HB0⟩ : ∃ q, Hid (A0 + 1 = q) := ⟨_, Lib.hid (Eq.refl _)⟩
  obtain ⟨C0, HC0⟩ : ∃ q, Hid (B0 + 1 = q) := ⟨_, Lib.hid (Eq.refl _)⟩
  have hAB : A0 < C0 ∧ B0 < C0 := by have := HB0.out; have := HC0.out; omega
  have HwA : Hid (w.heap.size ≤ A0 ∧ w.heap.size ≤ B0 ∧ w.heap.size ≤ C0) := by show _ ∧ _; have := HA0.out; have := HB0.out; have := HC0.out; omega
  rw [HA0.out] at HFB HR HW ⊢
  rw [HB0.out] at HR HW ⊢
  rw [HC0.out] at HW ⊢
  have HW1 : Hid (Blk w0 C0 69 (fcells 32 (tval (turnTo F a b c sh 0)))) := by show Blk _ _ _ _; rw [← turnTo_zero, HZ.out]; exact HW.out
  have HF1 : Hid (Blk w0 A0 69 (fcells 32 (tval F))) := by show Blk _ _ _ _; rw [HF.out]; exact HFB.out
  clear hz hsc hsz hsz1 Hw0 HB0 HA0 HC0 HW HFB hZs
  go_upto_region 3 with (fail)
  go_loopw [15] (fun i_ wr => ∃ k : Nat, k ≤ 32 ∧ i_ = .int .i64 (k : Int) ∧ Hid (Blk wr C0 69 (fcells 32 (tval (turnTo F a b c sh k)))) ∧ Hid (Onl C0 w0 wr)) (fun i _ => 32 - (intOf i).toNat)
  case atStart => exact ⟨0, by omega, rfl, HW1, Onl.refl _⟩
  case round =>
    clear HW1
    obtain ⟨k, hk, rfl, HWr, HOr⟩ := hrel
    by_cases hlt : k < 32
    · have hFq := HOr.out.blk HF1.out (by omega)
      obtain ⟨p, hp⟩ : ∃ q, q = k + 32 := ⟨_, rfl⟩
      obtain ⟨pa, hpa⟩ : ∃ q, q = p - a := ⟨_, rfl⟩
      obtain ⟨pb, hpb⟩ : ∃ q, q = p - b := ⟨_, rfl⟩
      obtain ⟨pc, hpc⟩ : ∃ q, q = p - c := ⟨_, rfl⟩
      obtain ⟨ja, hja⟩ : ∃ q, q = pa % 32 := ⟨_, rfl⟩
      obtain ⟨jb, hjb⟩ : ∃ q, q = pb % 32 := ⟨_, rfl⟩
      obtain ⟨jc, hjc⟩ : ∃ q, q = pc % 32 := ⟨_, rfl⟩
      have e1 : (k : Int) + 32 = (p : Int) := by omega
      have e2 : (p : Int) - (a : Int) = (pa : Int) := by omega
      have e3 : (p : Int) - (b : Int) = (pb : Int) := by omega
      have e4 : (p : Int) - (c : Int) = (pc : Int) := by omega
      have e5 : (pa : Int) % 32 = (ja : Int) := by omega
      have e6 : (pb : Int) % 32 = (jb : Int) := by omega
      have e7 : (pc : Int) % 32 = (jc : Int) := by omega
      have e5t : Int.tmod (pa : Int) 32 = (ja : Int) := by rw [Int.tmod_eq_emod_of_nonneg (by omega)]; exact e5
      have e6t : Int.tmod (pb : Int) 32 = (jb : Int) := by rw [Int.tmod_eq_emod_of_nonneg (by omega)]; exact e6
      have e7t : Int.tmod (pc : Int) 32 = (jc : Int) := by rw [Int.tmod_eq_emod_of_nonneg (by omega)]; exact e7
      have w1 : IntKind.i64.wrap (p : Int) = (p : Int) := by rw [IntKind.wrap_i64]; omega
      have w2 : IntKind.i64.wrap (pa : Int) = (pa : Int) := by rw [IntKind.wrap_i64]; omega
      have w3 : IntKind.i64.wrap (pb : Int) = (pb : Int) := by rw [IntKind.wrap_i64]; omega
      have w4 : IntKind.i64.wrap (pc : Int) = (pc : Int) := by rw [IntKind.wrap_i64]; omega
      have w5 : IntKind.i64.wrap (ja : Int) = (ja : Int) := by rw [IntKind.wrap_i64]; omega
      have w6 : IntKind.i64.wrap (jb : Int) = (jb : Int) := by rw [IntKind.wrap_i64]; omega
      have w7 : IntKind.i64.wrap (jc : Int) = (jc : Int) := by rw [IntKind.wrap_i64]; omega
      have w8 : IntKind.i64.wrap (k : Int) = (k : Int) := by rw [IntKind.wrap_i64]; omega
      have q1 : (ja : Int) < 32 := by omega
      have q2 : (jb : Int) < 32 := by omega
      have q3 : (jc : Int) < 32 := by omega
      have q4 : (k : Int) < 32 := by omega
      have ca := hFq.cell ja
      have cb := hFq.cell jb
      have cc := hFq.cell jc
      rw [tcells2_at _ _ _ (by omega)] at ca cb cc
      have ht : turnF F a b c sh k = if (!sh || decide (c ≤ k)) then ((F ja != F jb) != F jc) else (F ja != F jb) := by
        unfold turnF
        rw [← hp, ← hpa, ← hpb, ← hpc, ← hja, ← hjb, ← hjc]
      have hs1 := HWr.out.set_ k (.bool (turnF F a b c sh k))
      rw [tcells2_set, turnTo_succ] at hs1
      have ho1 := HOr.out.set_ k (.bool (turnF F a b c sh k))
      have ck := HWr.out.cell k
      rw [tcells2_at _ _ _ hlt] at ck
      have fk := HWr.out.frozen k
      obtain ⟨G, hG⟩ : ∃ g, turnF F a b c sh k = g := ⟨_, rfl⟩
      obtain ⟨Da, hDa⟩ : ∃ g, F ja = g := ⟨_, rfl⟩
      obtain ⟨Db, hDb⟩ : ∃ g, F jb = g := ⟨_, rfl⟩
      obtain ⟨Dc, hDc⟩ : ∃ g, F jc = g := ⟨_, rfl⟩
      obtain ⟨X, hX⟩ : ∃ g, (Da != Db) = g := ⟨_, rfl⟩
      rw [hDa] at ca
      rw [hDb] at cb
      rw [hDc] at cc
      rw [hDa, hDb, hDc, hX] at ht
      rw [hG] at ht hs1 ho1
      have HX := Lib.hid hX
      have HS1 := Lib.hid hs1
      have HO1 := Lib.hid ho1
      obtain ⟨Y, hY⟩ : ∃ g, (X != Dc) = g := ⟨_, rfl⟩
      rw [hY] at ht
      clear hs1 ho1 hp hpa hpb hpc hja hjb hjc hDa hDb hDc hFq hG
      cases sh with
      | false =>
        simp at ht
        subst ht
        have hvG : (!((!(Da == Db)) == Dc)) = G := by rw [← hY, ← HX.out]; rfl
        go_upto_region 5 with (fail)
        go_region
        all_goals
          go_wp2_with fail
          go_roundw
          case rel => exact ⟨k + 1, by omega, by go_num, HS1.out.drew, HO1.out.drewN 1⟩
          case measure => simp [intOf]; omega
      | true =>
        by_cases hck : c ≤ k
        · have d1 : decide ((c : Int) ≤ (k : Int)) = true := by rw [decide_eq_true_eq]; omega
          have d1n : decide (c ≤ k) = true := by rw [decide_eq_true_eq]; exact hck
          rw [d1n] at ht
          simp at ht
          subst ht
          have hvG : (!((!(Da == Db)) == Dc)) = G := by rw [← hY, ← HX.out]; rfl
          go_upto_region 5 with (fail)
          go_region
          all_goals
            go_wp2_with fail
            go_roundw
            case rel => exact ⟨k + 1, by omega, by go_num, HS1.out.drew, HO1.out.drewN 1⟩
            case measure => simp [intOf]; omega
        · have d1 : decide ((c : Int) ≤ (k : Int)) = false := by rw [decide_eq_false_iff_not]; omega
          have d1n : decide (c ≤ k) = false := by rw [decide_eq_false_iff_not]; exact hck
          rw [d1n] at ht
          simp at ht
          subst ht
          have hvG : (!(Da == Db)) = G := by rw [← HX.out]; rfl
          go_upto_region 5 with (fail)
          go_region
          all_goals
            go_wp2_with fail
            go_roundw
            case rel => exact ⟨k + 1, by omega, by go_num, HS1.out.drew, HO1.out.drewN 1⟩
            case measure => simp [intOf]; omega
    · have hk32 : k = 32 := by omega
      have dk : decide ((k : Int) < 32) = false := by rw [decide_eq_false_iff_not]; omega
      have HRq := HOr.out.blk HR.out (by omega)
      have HBq := HOr.out.old HB.out HB.out.size HwA.out.2.2
      rw [hk32, turnTo_all] at HWr
      obtain ⟨U, HU⟩ : ∃ u, Hid (fcells 32 (tval (turnF F a b c sh)) = u) := ⟨_, Lib.hid (Eq.refl _)⟩
      rw [HU.out] at HWr
      have hUs : U.size = 32 := by rw [← HU.out, fcells_size]
      have hT2 : wr.heap[C0]? = some (.cells U 69 (0, 0)) := HWr.out
      have hR2 : wr.heap[B0]? = some (.cells Z 69 (0, 0)) := HRq
      have hi : (Try.prog.info? 69).map (·.size) = some U.size := by rw [info_word, hUs]
      have hsz : Z.size = U.size := by rw [HZs.out, hUs]
      have h1c : U.all (·.oneCell') = true := by rw [← HU.out]; exact tcells2_one _ _
      have HBq' := Lib.hid HBq
      clear hUs hk32 hlt hk HBq HRq
      go_wp2_with (first
        | (with_reducible refine wpList_load_row rfl 69 _ rfl C0 rfl 69 U (0, 0) _ hT2 Try.underlying69 rfl hi ?_)
        | (with_reducible refine wpList_store_row rfl 69 _ _ rfl B0 U rfl rfl 69 Z hR2 hi hsz h1c ?_))
      (try simp only [Exit.inBlock, Exit.then])
      refine bodyPost_ret (v := .agg U) (results_cell_row rfl _ _ B0 69 U (0, 0) _ rfl (setRow_heap _ _ _ _ _ _ hR2) Try.underlying69 rfl hi) rfl ?_
      refine ⟨?_, below_setRow HBq'.out HwA.out.2.1 _⟩
      rw [HU.out]
end Go.Proofs.Ytbccljpbnbobmaa
