/- The law PolyRests of layer 9, walked. Conditions: numbers of 64 bits. -/
import Derived.Test.YtgjofpefglbjjaaLaw9a
import Derived.Test.YtgjofpefglbjjaaRef9b
namespace Go.Proofs.Ytgjofpefglbjjaa
open Go.RowKit
set_option maxRecDepth 100000

theorem cl_lt (p q : Nat) : Gf.cl q p < 2 ^ (Gf.len p + Gf.len q) := by
  apply Gf.lt_of_len
  by_cases hp : p = 0
  · subst hp; rw [Gf.cl_zero, Gf.len_zero]; omega
  · by_cases hq : q = 0
    · subst hq; rw [Gf.zero_cl, Gf.len_zero]; omega
    · have := Gf.len_cl hq hp; omega

set_option maxHeartbeats 2000000 in
theorem polyRests_any (p q m : Nat) (hp : p < 18446744073709551616) (hq : q < 18446744073709551616) (hm : m < 18446744073709551616) (w : World) :
    Calls Try.prog 3 #[.int .u64 (p : Int), .int .u64 (q : Int), .int .u64 (m : Int)] w fun e w' => e = .returned (.bool true) ∧ Below w.heap.size w w' := by
  obtain ⟨d, hd⟩ : ∃ d : Int, d = (Gf.len p : Int) - 1 := ⟨_, rfl⟩
  have Hd := Lib.hid hd
  have hxor := u64_xor_nat p q hp hq
  have Cadd := Lib.hid (fun W => add_any p q hp hq W)
  have hlp := len_le64 hp
  have hlq := len_le64 hq
  have Hlp := Lib.hid (Gf.len_lt p)
  have Hlq := Lib.hid (Gf.len_lt q)
  have Hcl := Lib.hid (cl_lt p q)
  have Hcm := Lib.hid (Gf.cl_comm p q)
  clear hd
  cases hf : fitB m
  · have Hf := Lib.hid hf
    have C1 := Lib.hid (fun W => mod_no p m hm hf W)
    have C2 := Lib.hid (fun W => times_no p q m hm hf W)
    clear hf
    go_enter Try.func3, Try.ntmps3
    go_wp2_with fail
    refine (awake9_any _).mono ?_; rintro e w' ⟨rfl, rfl⟩
    go_wp2_with fail
    refine (degree_any p hp d Hd.out _).mono ?_; rintro e w' ⟨rfl, rfl⟩
    go_wp2_with fail
    refine (refDegree_any p hp d Hd.out _).mono ?_; rintro e w1 ⟨rfl, hb1⟩
    go_wp2_with fail
    refine (Cadd.out _).mono ?_; rintro e w' ⟨rfl, rfl⟩
    go_wp2_with fail
    refine (C1.out _).mono ?_; rintro e w' ⟨rfl, rfl⟩
    go_wp2_with fail
    refine (C2.out _).mono ?_; rintro e w' ⟨rfl, rfl⟩
    go_wp2_with fail
    refine (refFit_any m hm _).mono ?_; rw [Hf.out]; rintro e w2 ⟨rfl, hb2⟩
    go_wp2_with fail
    go_ret
    exact ⟨rfl, bthen hb1 hb2⟩
  · have Hf := Lib.hid hf
    have Hm0 := Lib.hid (fit_len hf).2.2
    have C1 := Lib.hid (fun W => mod_yes p m hp hm hf W)
    have C2 := Lib.hid (fun W => times_yes p q m hp hq hm hf W)
    clear hf
    go_enter Try.func3, Try.ntmps3
    go_wp2_with fail
    refine (awake9_any _).mono ?_; rintro e w' ⟨rfl, rfl⟩
    go_wp2_with fail
    refine (degree_any p hp d Hd.out _).mono ?_; rintro e w' ⟨rfl, rfl⟩
    go_wp2_with fail
    refine (refDegree_any p hp d Hd.out _).mono ?_; rintro e w1 ⟨rfl, hb1⟩
    go_wp2_with fail
    refine (Cadd.out _).mono ?_; rintro e w' ⟨rfl, rfl⟩
    go_wp2_with fail
    refine (C1.out _).mono ?_; rintro e w' ⟨rfl, rfl⟩
    go_wp2_with fail
    refine (C2.out _).mono ?_; rintro e w' ⟨rfl, rfl⟩
    go_wp2_with fail
    refine (refFit_any m hm _).mono ?_; rw [Hf.out]; rintro e w2 ⟨rfl, hb2⟩
    go_wp2_with fail
    refine (list_any p hp _).mono ?_
    rintro e w3 ⟨v, rfl, ⟨g3, c3, rfl, ho3⟩, hb3⟩
    go_wp2_with fail
    refine (rest_any _ _ _ p m (by omega) Hlp.out hm Hm0.out _ (OwnV.row ho3) (fun h => by cases h)).mono ?_
    rintro e w4 ⟨rfl, hb4⟩
    go_wp2_with fail
    refine (list_any p hp _).mono ?_
    rintro e w5 ⟨v, rfl, ⟨g5, c5, rfl, ho5⟩, hb5⟩
    go_wp2_with fail
    refine (list_any q hq _).mono ?_
    rintro e w6 ⟨v, rfl, ⟨g6, c6, rfl, ho6⟩, hb6⟩
    have hr5 := (OwnV.row ho5).below hb6 (Nat.le_refl _)
    go_wp2_with fail
    refine (product_any _ _ _ _ _ _ p q (by omega) (by omega) Hlp.out Hlq.out _ hr5 (OwnV.row ho6)).mono ?_
    rintro e w7 ⟨g7, rfl, hr7, hb7⟩
    go_wp2_with fail
    refine (rest_any _ _ _ _ m (by omega) Hcl.out hm Hm0.out _ hr7 (fun h => by cases h)).mono ?_
    rw [← Hcm.out]
    rintro e w8 ⟨rfl, hb8⟩
    go_wp2_with fail
    go_ret
    exact ⟨rfl, bthen (bthen (bthen (bthen (bthen (bthen (bthen hb1 hb2) hb3) hb4) hb5) hb6) hb7) hb8⟩
end Go.Proofs.Ytgjofpefglbjjaa
