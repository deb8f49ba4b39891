/- HuffLengths: the document's Cost, and what the lengths cost. Conditions: none. -/
import Derived.Test.YtahgeeklenojjaaHlP
import Derived.Test.YtahgeeklenojjaaIRow
import Derived.BigQuiet
namespace Go.Proofs.Ytahgeeklenojjaa
open Go.RowKit
set_option maxRecDepth 100000

theorem cost_pack {cnt : Nat → Int} {n most : Nat} (hm : 1 ≤ most) (hm15 : most ≤ 15) (hbig : (coinsB cnt n).length ≤ 2 ^ most) :
    sZ (fun i => cnt i * (finL cnt n most i : Int)) n = sZ (fun j => aA (isort ik (coinsB cnt n)) j * (finL cnt n most (symA (isort ik (coinsB cnt n)) j) : Int)) (coinsB cnt n).length := by
  have hok := fin_ok (cnt := cnt) (n := n) hm hm15 hbig
  have h1 : sZ (fun i => cnt i * (finL cnt n most i : Int)) n = sZ (fun i => (((if 0 < cnt i then (cnt i).toNat * finL cnt n most i else 0 : Nat)) : Int)) n := sZ_congr _ _ _ fun i hi => by
    by_cases h : 0 < cnt i
    · rw [if_pos h, Int.natCast_mul, Int.toNat_of_nonneg (by omega)]
    · rw [if_neg h, hok.zero i (fun x => h x.2)]; simp
  rw [h1, ← sZ_cast, sumTo_if_pos (fun s => (cnt s).toNat * finL cnt n most s) n, sZ_cast]
  refine sZ_congr _ _ _ fun j hj => ?_
  have hk := symA_k (cnt := cnt) (n := n) hj
  have hs := symA_mem (cnt := cnt) (n := n) hj
  have hl := (perm_A (cnt := cnt) (n := n)).length_eq
  have he : aA (isort ik (coinsB cnt n)) j = cnt (symA (isort ik (coinsB cnt n)) j) := by
    unfold aA
    rw [List.getElem?_eq_getElem (by omega)]
    exact hk
  rw [he, Int.natCast_mul, Int.toNat_of_nonneg (by omega)]
theorem costZ_bd (m : Nat → Int) (L : Nat → Nat) (k : Nat) (h : ∀ i, i < k → 0 ≤ m i ∧ m i ≤ 1000000) (hL : ∀ i, L i ≤ 15) : 0 ≤ sZ (fun i => m i * (L i : Int)) k ∧ sZ (fun i => m i * (L i : Int)) k ≤ 15000000 * (k : Int) := by
  induction k with
  | zero => exact ⟨Int.le_refl _, Int.le_refl _⟩
  | succ k ih =>
    obtain ⟨i1, i2⟩ := ih fun i hi => h i (by omega)
    obtain ⟨a1, a2⟩ := h k (by omega)
    have h1 := Int.mul_nonneg a1 (show (0 : Int) ≤ (L k : Int) by omega)
    have h2 : m k * (L k : Int) ≤ 1000000 * 15 := Int.mul_le_mul a2 (by have := hL k; omega) (by omega) (by omega)
    rw [sZ]
    omega
set_option maxHeartbeats 8000000 in
theorem cost_any (a b : Option Addr) (n c1 c2 : Nat) (m : Nat → Int) (L : Nat → Nat) (hn : n ≤ 320) (hm : ∀ i, i < n → 0 ≤ m i ∧ m i ≤ 1000000) (hL : ∀ i, L i ≤ 15) (w : World) (ha : IRow w a n m) (hb : IRow w b n fun i => (L i : Int)) :
    Calls Try.prog 20 #[.slice a n c1, .slice b n c2] w fun e w' => e = .returned (.int .i64 (sZ (fun i => m i * (L i : Int)) n)) ∧ ∃ nq, w' = w.drewN nq := by
  have Ha := Lib.hid ha
  have Hb := Lib.hid hb
  have Hm := Lib.hid hm
  have HL := Lib.hid hL
  obtain ⟨S, HS⟩ : ∃ R, Hid (sZ (fun i => m i * (L i : Int)) = R) := ⟨_, Lib.hid (Eq.refl _)⟩
  have HSB : Hid (∀ k, k ≤ n → 0 ≤ S k ∧ S k ≤ 15000000 * (k : Int)) := fun k hk => by rw [← HS.out]; exact costZ_bd m L k (fun i hi => hm i (by omega)) hL
  have HSS : Hid (∀ k, S (k + 1) = S k + m k * (L k : Int)) := fun k => by rw [← HS.out]; rfl
  have HS0 : Hid (S 0 = 0) := by show _ = _; rw [← HS.out]; rfl
  have e : sZ (fun i => m i * (L i : Int)) n = S n := by rw [← HS.out]
  rw [e]
  clear ha hb hm hL e HS
  go_enter Try.func20, Try.ntmps20
  go_wp2_with fail
  go_loopw [5, 9] (fun s_ i_ wr => ∃ i nq : Nat, i ≤ n ∧ i_ = .int .i64 (i : Int) ∧ (∃ s : Int, s_ = .int .i64 s ∧ Hid (s = S i)) ∧ Hid (wr = w.drewN nq)) (fun _ i _ => n - (intOf i).toNat)
  case atStart => exact ⟨0, 0, by omega, rfl, ⟨_, rfl, HS0.out.symm⟩, rfl⟩
  case round =>
    obtain ⟨i, nq0, hi, rfl, ⟨s, rfl, Hs⟩, HW⟩ := hrel
    have hW := HW.out
    have Haw : Hid (IRow wr a n m) := by show IRow _ _ _ _; rw [hW]; exact Ha.out
    have Hbw : Hid (IRow wr b n fun i => (L i : Int)) := by show IRow _ _ _ _; rw [hW]; exact Hb.out
    clear hW
    by_cases hlt : i < n
    · have d1 : decide ((i : Int) < (n : Int)) = true := by rw [decide_eq_true_eq]; omega
      obtain ⟨b1, o1, rfl, _, k1⟩ := Haw.out.get i hlt
      obtain ⟨b2, o2, rfl, _, k2⟩ := Hbw.out.get i hlt
      have hs1 := HSS.out i
      have hb1 := HSB.out (i + 1) (by omega)
      have hb0 := HSB.out i (by omega)
      rw [← Hs.out] at hs1 hb0
      obtain ⟨x, Hx⟩ : ∃ R, Hid (m i = R) := ⟨_, Lib.hid (Eq.refl _)⟩
      obtain ⟨l, Hl⟩ : ∃ R, Hid (L i = R) := ⟨_, Lib.hid (Eq.refl _)⟩
      rw [Hx.out] at k1 hs1
      simp only [Hl.out] at k2 hs1
      obtain ⟨y, Hy⟩ : ∃ R, Hid (x * (l : Int) = R) := ⟨_, Lib.hid (Eq.refl _)⟩
      rw [Hy.out] at hs1
      obtain ⟨t, Ht⟩ : ∃ R, Hid (S (i + 1) = R) := ⟨_, Lib.hid (Eq.refl _)⟩
      rw [Ht.out] at hs1 hb1
      have p1 : x * (l : Int) = y := Hy.out
      have p1w : IntKind.i64.wrap y = y := by rw [IntKind.wrap_i64]; omega
      have p2 : s + y = t := hs1.symm
      have p2w : IntKind.i64.wrap t = t := by rw [IntKind.wrap_i64]; omega
      have hlI : (i : Int) < (n : Int) := by omega
      have H2 : Hid (t = S (i + 1)) := Ht.out.symm
      clear hs1 hb1 hb0
      go_wp2_with fail
      go_quiet (fail)
      go_wp2_with fail
      go_roundw
      case rel => exact ⟨i + 1, nq0 + nq, by omega, by go_num, ⟨_, rfl, H2⟩, by show _ = _; rw [HW.out, World.drewN_drewN]⟩
      case measure => simp [intOf]; omega
    · obtain rfl : i = n := by omega
      have d1 : decide ((i : Int) < (i : Int)) = false := by rw [decide_eq_false_iff_not]; omega
      go_wp2_with fail
      go_ret
      exact ⟨by rw [← Hs.out]; rfl, _, HW.out⟩
end Go.Proofs.Ytahgeeklenojjaa
