/- The chunker's fingerprint: roll. Conditions: none. -/
import Derived.Test.YtgjofpefglbjjaaChunkP
import Derived.Deep.Cut
import Derived.Deep.RegionWith
namespace Go.Proofs.Ytgjofpefglbjjaa
open Go.RowKit
set_option maxRecDepth 100000

/-- The cells of a chunker. -/
def kcell (mn b mx : Nat) (ring : Nat → Nat) (t p : Nat) (ot : Nat → Nat) (v : Value) (cl : Bool) (i : Nat) : Value :=
  if i < 3 then .int .i64 ((if i = 0 then mn else if i = 1 then b else mx : Nat) : Int)
  else if i < 19 then .int .u8 (ring (i - 3) : Int)
  else if i < 21 then (if i = 19 then .int .i64 (t : Int) else .int .u64 (p : Int))
  else if i < 29 then .int .u64 (ot (i - 21) : Int)
  else if i = 29 then v else .bool cl
def kcells (mn b mx : Nat) (ring : Nat → Nat) (t p : Nat) (ot : Nat → Nat) (v : Value) (cl : Bool) : Array Value := fcells 31 (kcell mn b mx ring t p ot v cl)
def upd (f : Nat → Nat) (k x : Nat) : Nat → Nat := fun i => if i = k then x else f i

section
variable {mn b mx t p : Nat} {ring ot : Nat → Nat} {v : Value} {cl : Bool}
theorem k_ring (a x : Nat) (ha : a < 16) : (kcells mn b mx ring t p ot v cl).setIfInBounds (3 + a) (.int .u8 (x : Int)) = kcells mn b mx (upd ring a x) t p ot v cl := by
  unfold kcells
  rw [fcells_set]
  refine fcells_congr _ _ _ fun i _ => ?_
  unfold kcell
  by_cases e : i = 3 + a
  · subst e
    rw [if_pos rfl, if_neg (by omega), if_pos (by omega)]
    unfold upd
    rw [if_pos (by omega)]
  · rw [if_neg e]
    by_cases h1 : i < 3
    · rw [if_pos h1, if_pos h1]
    · rw [if_neg h1, if_neg h1]
      unfold upd
      rw [if_neg (show ¬ i - 3 = a by omega)]
theorem k_at (x : Nat) : (kcells mn b mx ring t p ot v cl).setIfInBounds 19 (.int .i64 (x : Int)) = kcells mn b mx ring x p ot v cl := by
  unfold kcells
  rw [fcells_set]
  refine fcells_congr _ _ _ fun i _ => ?_
  unfold kcell
  by_cases e : i = 19
  · subst e; rfl
  · rw [if_neg e]
    simp only [if_neg e]
theorem k_print (x : Nat) : (kcells mn b mx ring t p ot v cl).setIfInBounds 20 (.int .u64 (x : Int)) = kcells mn b mx ring t x ot v cl := by
  unfold kcells
  rw [fcells_set]
  refine fcells_congr _ _ _ fun i _ => ?_
  unfold kcell
  by_cases e : i = 20
  · subst e; rfl
  · rw [if_neg e]
    by_cases h1 : i < 21
    · by_cases h19 : i = 19
      · simp [h19]
      · simp only [show i < 19 by omega, if_true]
    · simp only [if_neg h1]
theorem k_out (a x : Nat) (ha : a < 8) : (kcells mn b mx ring t p ot v cl).setIfInBounds (21 + a) (.int .u64 (x : Int)) = kcells mn b mx ring t p (upd ot a x) v cl := by
  unfold kcells
  rw [fcells_set]
  refine fcells_congr _ _ _ fun i _ => ?_
  unfold kcell
  by_cases e : i = 21 + a
  · subst e
    rw [if_pos rfl, if_neg (by omega), if_neg (by omega), if_neg (by omega), if_pos (by omega)]
    unfold upd
    rw [if_pos (by omega)]
  · rw [if_neg e]
    by_cases h1 : i < 21
    · simp only [if_pos h1]
    · unfold upd
      simp only [if_neg (show ¬ i - 21 = a by omega)]
theorem k_begun (u : Value) : (kcells mn b mx ring t p ot v cl).setIfInBounds 29 u = kcells mn b mx ring t p ot u cl := by
  unfold kcells
  rw [fcells_set]
  refine fcells_congr _ _ _ fun i _ => ?_
  unfold kcell
  by_cases e : i = 29
  · subst e; rfl
  · rw [if_neg e]
    simp only [if_neg e]
theorem k_closed (c : Bool) : (kcells mn b mx ring t p ot v cl).setIfInBounds 30 (.bool c) = kcells mn b mx ring t p ot v c := by
  unfold kcells
  rw [fcells_set]
  refine fcells_congr _ _ _ fun i hi => ?_
  unfold kcell
  by_cases e : i = 30
  · subst e; rfl
  · rw [if_neg e]
    by_cases h29 : i = 29
    · simp [h29]
    · simp only [show i < 29 by omega, if_true]
theorem k_get (i : Nat) (hi : i < 31) : (kcells mn b mx ring t p ot v cl)[i]? = some (kcell mn b mx ring t p ot v cl i) := fcells_at _ _ _ hi
end

/-- What follows speaks of the world by these words alone. -/
theorem gen_code {P : Program} {c : Code} {Q : Exit → Act → World → Prop} {a : Act} {w : World} (R : World → Prop) (hR : R w) (h : ∀ w', R w' → Code.wp P c Q a w') : Code.wp P c Q a w := h w hR
theorem only_drewN {a w : World} {row : Option Nat} (h : a.grownBy w row) (n : Nat) : a.grownBy (w.drewN n) row := ⟨h.os, h.tape, h.output, h.size, h.block⟩
theorem only_drew {a w : World} {row : Option Nat} (h : a.grownBy w row) : a.grownBy w.drew row := ⟨h.os, h.tape, h.output, h.size, h.block⟩
theorem only_set {a w : World} {g : Nat} (h : a.grownBy w (some g)) (i : Nat) (u : Value) : a.grownBy (w.setCell ⟨g, i, none⟩ u) (some g) :=
  ⟨h.os, h.tape, h.output, by simpa [World.setCell] using h.size, fun k hk hne => (Below.heap_setCell w ⟨g, i, none⟩ u k (fun e => hne (by rw [e]))).trans (h.block k hk hne)⟩
theorem only_refl (w : World) (row : Option Nat) : w.grownBy w row := ⟨rfl, rfl, rfl, Nat.le_refl _, fun _ _ _ => rfl⟩
/-- The ring holds the last sixteen bytes. -/
def KRing (ring : Nat → Nat) (t : Nat) (h : List UInt8) : Prop := t < 16 ∧ ∀ j, j < 16 → ring ((t + j) % 16) = win h j
theorem KRing.start : KRing (fun _ => 0) 0 [] := ⟨by decide, fun j hj => (win_nil j hj).symm⟩
theorem KRing.next {ring : Nat → Nat} {t : Nat} {h : List UInt8} (c : UInt8) (k : KRing ring t h) : KRing (upd ring t c.toNat) ((t + 1) % 16) (h ++ [c]) := by
  have ht := k.1
  refine ⟨Nat.mod_lt _ (by decide), fun j hj => ?_⟩
  rw [win_snoc h c j hj]
  unfold upd
  by_cases e : j = 15
  · subst e
    rw [if_pos (show ((t + 1) % 16 + 15) % 16 = t by omega), if_pos rfl]
  · rw [if_neg (show ¬ ((t + 1) % 16 + j) % 16 = t by omega), if_neg e, show ((t + 1) % 16 + j) % 16 = (t + (j + 1)) % 16 by omega]
    exact k.2 (j + 1) (by omega)
theorem KRing.old {ring : Nat → Nat} {t : Nat} {h : List UInt8} (k : KRing ring t h) : ring t = win h 0 := by
  have := k.2 0 (by decide)
  rwa [Nat.add_zero, Nat.mod_eq_of_lt k.1] at this

set_option maxHeartbeats 2000000 in
theorem roll_any (P mn b mx t : Nat) (ring : Nat → Nat) (h : List UInt8) (v : Value) (cl : Bool) (c : UInt8) (w : World)
    (hB : Blk w P 74 (kcells mn b mx ring t (fp h) og v cl)) (hk : KRing ring t h) :
    Calls Try.prog 49 #[.pointer (some ⟨P, 0, none⟩), .int .u8 (c.toNat : Int)] w fun e w' => e = .returned (.tuple #[]) ∧
      ∃ ring' t', Blk w' P 74 (kcells mn b mx ring' t' (fp (h ++ [c])) og v cl) ∧ KRing ring' t' (h ++ [c]) ∧ w.grownBy w' (some P) ∧ w'.heap.size = w.heap.size := by
  have ht := hk.1
  have hold := hk.old
  have ho := win_lt h 0
  have hcb := c.toNat_lt
  have hfr := fp_roll h c
  have Hk2 := Lib.hid (hk.next c)
  have hpl : fp h < 9007199254740992 := lt53 _
  have hc19 : w.cell? ⟨P, 19, none⟩ = some (.int .i64 (t : Int)) := by rw [hB.cell, k_get 19 (by decide)]; rfl
  have hcr : w.cell? ⟨P, 3 + t, none⟩ = some (.int .u8 (win h 0 : Int)) := by
    rw [hB.cell, k_get _ (by omega)]
    unfold kcell
    rw [if_neg (by omega), if_pos (by omega), show 3 + t - 3 = t by omega, hold]
  have hc20 : w.cell? ⟨P, 20, none⟩ = some (.int .u64 (fp h : Int)) := by rw [hB.cell, k_get 20 (by decide)]; rfl
  have hf1 := hB.frozen (3 + t)
  have hf2 := hB.frozen 19
  have hf3 := hB.frozen 20
  obtain ⟨o, Ho⟩ : ∃ o, Hid (win h 0 = o) := ⟨_, Lib.hid (Eq.refl _)⟩
  rw [Ho.out] at hcr ho hfr
  obtain ⟨p, Hp⟩ : ∃ p, Hid (fp h = p) := ⟨_, Lib.hid (Eq.refl _)⟩
  rw [Hp.out] at hc20 hfr hpl hB
  have ca := fun W => append_yes p c.toNat QQ (by omega) hcb (by decide) fitQ W
  have hal := lt53 (p * 256 + c.toNat)
  obtain ⟨a, Ha⟩ : ∃ a, Hid (Gf.md (p * 256 + c.toNat) QQ = a) := ⟨_, Lib.hid (Eq.refl _)⟩
  rw [Ha.out] at ca hfr hal
  simp only [show ((QQ : Nat) : Int) = 17349423945073011 from rfl] at ca
  have Ca := Lib.hid ca
  have Hfr := Lib.hid hfr
  have HB := Lib.hid hB
  clear ca hfr hk hold hB
  go_enter Try.func49, Try.ntmps49
  go_wp2_with fail
  go_quiet (fail)
  go_wp2_with fail
  go_region
  all_goals
    go_upto_region 2 with (fail)
    refine gen_code (fun W => Blk W P 74 (kcells mn b mx (upd ring t c.toNat) t p og v cl) ∧ w.grownBy W (some P) ∧ W.heap.size = w.heap.size) ⟨?_, ?_, ?_⟩ ?_
    · rw [← k_ring t c.toNat ht]; exact ((HB.out.drewN _).drew).set_ _ _
    · exact only_set (only_drew (only_drewN (only_refl w _) _)) _ _
    · simp
    · clear hc19 hcr hc20 hf1 hf2 hf3
      rintro W ⟨hB, hgw, hsz⟩
      have hc19 : W.cell? ⟨P, 19, none⟩ = some (.int .i64 (t : Int)) := by rw [hB.cell, k_get 19 (by decide)]; rfl
      have hf2 := hB.frozen 19
      have HB2 := Lib.hid hB
      have Hgw := Lib.hid hgw
      have Hsz := Lib.hid hsz
      clear hB hgw hsz
      go_upto_region 3 with (fail)
      refine gen_code (fun W => Blk W P 74 (kcells mn b mx (upd ring t c.toNat) ((t + 1) % 16) p og v cl) ∧ w.grownBy W (some P) ∧ W.heap.size = w.heap.size) ⟨?_, ?_, ?_⟩ ?_
      · rw [← k_at (t := t) ((t + 1) % 16)]; exact HB2.out.set_ _ _
      · exact only_set Hgw.out _ _
      · simpa using Hsz.out
      · clear hc19 hf2 HB2 Hgw Hsz
        rintro W ⟨hB, hgw, hsz⟩
        have hc20 : W.cell? ⟨P, 20, none⟩ = some (.int .u64 (p : Int)) := by rw [hB.cell, k_get 20 (by decide)]; rfl
        have hf2 := hB.frozen 20
        have HB2 := Lib.hid hB
        have Hgw := Lib.hid hgw
        have Hsz := Lib.hid hsz
        clear hB hgw hsz
        go_wp2_with (refine (Ca.out _).mono ?_; rintro e w' ⟨rfl, rfl⟩)
        go_loopw [5, 45] (fun _ i wr => ∃ k : Nat, k ≤ 8 ∧ i = .int .i64 (k : Int) ∧ Blk wr P 74 (kcells mn b mx (upd ring t c.toNat) ((t + 1) % 16) (a ^^^ Gf.md ((o % 2 ^ k) * 2 ^ 128) QQ) og v cl) ∧ w.grownBy wr (some P) ∧ wr.heap.size = w.heap.size)
          (fun _ i _ => 8 - (intOf i).toNat)
        case atStart =>
          refine ⟨0, by omega, rfl, ?_, only_set Hgw.out _ _, by simpa using Hsz.out⟩
          rw [Nat.pow_zero, Nat.mod_one, Nat.zero_mul, Gf.md_zero, Nat.xor_zero, ← k_print (p := p) a]
          exact HB2.out.set_ _ _
        case round =>
          clear HB2 Hgw Hsz hc20 hf2
          obtain ⟨k, hk, rfl, hB, hgw, hsz⟩ := hrel
          by_cases hk8 : k < 8
          · have hst := og_step o k
            have hxl := lt53 ((o % 2 ^ k) * 2 ^ 128)
            obtain ⟨x, hx, hx2⟩ : ∃ x : Nat, o / 2 ^ k = x ∧ x < 256 := ⟨_, rfl, Nat.lt_of_le_of_lt (Nat.div_le_self _ _) ho⟩
            have hdv : (o : Int) / 2 ^ k = (x : Int) := by rw [← hx]; simp
            have hand : bits .and .u8 (x : Int) 1 = ((x % 2 : Nat) : Int) := by
              have := u8_and_nat x 1 hx2 (by decide)
              rw [Nat.and_one_is_mod] at this
              exact this
            rw [Nat.testBit_eq_decide_div_mod_eq, hx] at hst
            obtain ⟨y, hy, hyl⟩ : ∃ y, a ^^^ Gf.md ((o % 2 ^ k) * 2 ^ 128) QQ = y ∧ y < 9007199254740992 := ⟨_, rfl, by
              have := Nat.xor_lt_two_pow (n := 53) (x := a) (y := Gf.md ((o % 2 ^ k) * 2 ^ 128) QQ) (by simpa using hal) (by simpa using hxl)
              simpa using this⟩
            have Hy := Lib.hid hy
            rw [hy] at hB
            by_cases hodd : x % 2 = 1
            · rw [hodd] at hand
              rw [hodd] at hst
              simp only [decide_true, if_true] at hst
              have Hst := Lib.hid hst
              have hc20 : wr.cell? ⟨P, 20, none⟩ = some (.int .u64 (y : Int)) := by rw [hB.cell, k_get 20 (by decide)]; rfl
              have hco : wr.cell? ⟨P, 21 + k, none⟩ = some (.int .u64 (og k : Int)) := by
                rw [hB.cell, k_get _ (by omega)]
                unfold kcell
                rw [if_neg (by omega), if_neg (by omega), if_neg (by omega), if_pos (by omega), show 21 + k - 21 = k by omega]
              have hf20 := hB.frozen 20
              have hogl : og k < 9007199254740992 := lt53 _
              obtain ⟨q, Hq⟩ : ∃ q, Hid (og k = q) := ⟨_, Lib.hid (Eq.refl _)⟩
              rw [Hq.out] at hco hogl
              have Cadd := Lib.hid (fun W => add_any y q (by omega) (by omega) W)
              have HB2 := Lib.hid hB
              have Hgw := Lib.hid hgw
              have Hsz := Lib.hid hsz
              clear hodd hst hy hx hB hgw hsz
              go_wp2_with fail
              go_region_with (go_at_call 18; refine (Cadd.out _).mono ?_; rintro e w' ⟨rfl, rfl⟩)
              all_goals
                go_wp2_with fail
                go_roundw
                case rel =>
                  refine ⟨k + 1, by omega, by go_num, ?_, only_set (only_drew Hgw.out) _ _, by simpa using Hsz.out⟩
                  rw [Hst.out, ← Nat.xor_assoc, Hy.out, Hq.out, ← k_print (p := y)]
                  exact HB2.out.drew.set_ _ _
                case measure => simp [intOf]; omega
            · have hev : x % 2 = 0 := by omega
              rw [hev] at hand hst
              simp only [decide_false, Nat.zero_ne_one] at hst
              have Hst := Lib.hid hst
              clear hodd hev hst hy hx
              go_wp2_with fail
              go_roundw
              case rel => exact ⟨k + 1, by omega, by go_num, by rw [Hst.out]; simp only [Bool.false_eq_true, if_false, Nat.xor_zero]; rw [Hy.out]; exact hB, hgw, hsz⟩
              case measure => simp [intOf]; omega
          · obtain rfl : k = 8 := by omega
            go_wp2_with fail
            (try simp only [Exit.inBlock, Exit.then]); refine bodyPost_end (results_none rfl _ _ _) rfl ?_
            refine ⟨rfl, _, _, ?_, Hk2.out, hgw, hsz⟩
            rw [Hfr.out]
            rw [Nat.mod_eq_of_lt (show o < 2 ^ 8 from ho)] at hB
            exact hB
end Go.Proofs.Ytgjofpefglbjjaa
