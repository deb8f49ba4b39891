/- awake of layer 9 and the law PolyRing, walked. Conditions: numbers of 64 bits. -/
import Derived.Test.YtgjofpefglbjjaaPolyB
namespace Go.Proofs.Ytgjofpefglbjjaa
open Go.RowKit
set_option maxRecDepth 100000

theorem fitB_F (m : Nat) : fitB m = decide (2 ≤ Gf.lenF m ∧ Gf.lenF m ≤ 63) := by unfold fitB; rw [Gf.len_lenF]
theorem md_19_7 : Gf.md 19 7 = 1 := by rw [Gf.md_mdF 64 19 7 (by decide) (by decide +kernel)]; decide +kernel
theorem prB_big : prB 0x3da3358b4dc173 = true := by
  unfold prB
  have hl : Gf.len 0x3da3358b4dc173 = 54 := by rw [Gf.len_lenF]; decide +kernel
  have hf : fitB 0x3da3358b4dc173 = true := by rw [fitB_F]; decide +kernel
  rw [hl, hf, Gf.big_prime]
  rfl

theorem awake9_any (w : World) : Calls Try.prog 15 #[] w fun e w' => e = .returned (.bool true) ∧ w = w' := by
  have c1 := fun W => mod_yes 19 7 (by decide) (by decide) (by rw [fitB_F]; decide +kernel) W
  rw [md_19_7] at c1
  have c2 := fun W => mod_no 5 1 (by decide) (by rw [fitB_F]; decide +kernel) W
  have c3 := fun W => degree_any 19 (by decide) 4 (by rw [Gf.len_lenF]; decide +kernel) W
  have c4 := fun W => prime_any 0x3da3358b4dc173 (by decide) W
  rw [prB_big] at c4
  have C1 := Lib.hid c1
  have C2 := Lib.hid c2
  have C3 := Lib.hid c3
  have C4 := Lib.hid c4
  clear c1 c2 c3 c4
  go_enter Try.func15, Try.ntmps15
  go_wp2_with fail
  refine (C1.out _).mono ?_
  rintro e w' ⟨rfl, rfl⟩
  go_wp2_with fail
  refine (C2.out _).mono ?_
  rintro e w' ⟨rfl, rfl⟩
  go_wp2_with fail
  refine (C3.out _).mono ?_
  rintro e w' ⟨rfl, rfl⟩
  go_wp2_with fail
  refine (C4.out _).mono ?_
  rintro e w' ⟨rfl, rfl⟩
  go_wp2_with fail
  go_ret
  exact ⟨rfl, rfl⟩

theorem polyRing_no (a b c m i j : Nat) (hm : m < 18446744073709551616) (hf : fitB m = false) (w : World) :
    Calls Try.prog 6 #[.int .u64 (a : Int), .int .u64 (b : Int), .int .u64 (c : Int), .int .u64 (m : Int), .int .u64 (i : Int), .int .u64 (j : Int)] w fun e w' => e = .returned (.bool true) ∧ w = w' := by
  have hl := len_le64 hm
  obtain ⟨d, hd⟩ : ∃ d : Int, d = (Gf.len m : Int) - 1 := ⟨_, rfl⟩
  have C1 := Lib.hid (fun W => times_no a b m hm hf W)
  have C2 := Lib.hid (fun W => degree_any m hm d hd W)
  have hcase : (d < 1) ∨ (decide (d < 1) = false ∧ 62 < d) := by
    unfold fitB at hf
    simp at hf ⊢
    omega
  clear hf hd
  rcases hcase with h | ⟨h1, h⟩
  all_goals
    go_enter Try.func6, Try.ntmps6
    go_wp2_with (first
      | (go_at_call 20; refine (C1.out _).mono ?_; rintro e w' ⟨rfl, rfl⟩)
      | (go_at_call 15; refine (awake9_any _).mono ?_; rintro e w' ⟨rfl, rfl⟩)
      | (go_at_call 16; refine (C2.out _).mono ?_; rintro e w' ⟨rfl, rfl⟩))
    go_ret
    exact ⟨rfl, rfl⟩

set_option maxHeartbeats 2000000 in
theorem polyRing_yes (a b c m i j : Nat) (ha : a < 18446744073709551616) (hb : b < 18446744073709551616) (hc : c < 18446744073709551616) (hm : m < 18446744073709551616) (hf : fitB m = true) (w : World) :
    Calls Try.prog 6 #[.int .u64 (a : Int), .int .u64 (b : Int), .int .u64 (c : Int), .int .u64 (m : Int), .int .u64 (i : Int), .int .u64 (j : Int)] w fun e w' => e = .returned (.bool true) ∧ w = w' := by
  obtain ⟨hf1, hf2, hm0⟩ := fit_len hf
  have sm : ∀ z, Gf.md z m < 18446744073709551616 := fun z => lt64 (Gf.md_spec z hm0).2 hf2
  have sp : ∀ z n, Gf.pw z m n < 18446744073709551616 := fun z n => lt64 (Gf.pw_small z m n hm0) hf2
  have e1 : Gf.md (Gf.cl b a) m = Gf.md (Gf.cl a b) m := by rw [Gf.cl_comm]
  have e2 : Gf.md (Gf.cl a (Gf.md (Gf.cl b c) m)) m = Gf.md (Gf.cl (Gf.md (Gf.cl a b) m) c) m := by
    refine Gf.md_eq hm0 ?_
    refine Gf.Eqm.trans (b := Gf.cl a (Gf.cl b c)) ((Gf.Eqm.refl m a).mul2 (Gf.md_spec _ hm0).1) ?_
    rw [← Gf.cl_assoc]
    exact ((Gf.md_spec _ hm0).1.symm).mul c
  have e3 : Gf.md (Gf.cl a (b ^^^ c)) m = Gf.md (Gf.cl a b) m ^^^ Gf.md (Gf.cl a c) m := by rw [Gf.cl_xor_right, Gf.md_xor hm0]
  obtain ⟨I, hI, hIl⟩ : ∃ I : Nat, (i : Int) % 1000000 = (I : Int) ∧ I < 1000000 := ⟨i % 1000000, by omega, by omega⟩
  obtain ⟨J, hJ, hJl⟩ : ∃ I : Nat, (j : Int) % 1000000 = (I : Int) ∧ I < 1000000 := ⟨j % 1000000, by omega, by omega⟩
  have e4 : Gf.md (Gf.cl (Gf.pw a m I) (Gf.pw a m J)) m = Gf.pw a m (I + J) := Gf.pw_add a m I J hm0
  obtain ⟨K, hK, hKl⟩ : ∃ K : Nat, I + J = K ∧ K < 2000000 := ⟨I + J, rfl, by omega⟩
  have hK2 : (I : Int) + (J : Int) = (K : Int) := by omega
  rw [hK] at e4
  have hbc : b ^^^ c < 18446744073709551616 := Nat.xor_lt_two_pow (n := 64) (by simpa using hb) (by simpa using hc)
  have c1 := fun W => times_yes a b m ha hb hm hf W
  have c2 := fun W => times_yes b a m hb ha hm hf W
  have c3 := fun W => times_yes b c m hb hc hm hf W
  have c4 := fun W => times_yes (Gf.md (Gf.cl a b) m) c m (sm _) hc hm hf W
  have c5 := fun W => times_yes a (Gf.md (Gf.cl b c) m) m ha (sm _) hm hf W
  have c6 := fun W => times_yes a c m ha hc hm hf W
  have c7 := fun W => add_any b c hb hc W
  have c8 := fun W => times_yes a (b ^^^ c) m ha hbc hm hf W
  have c9 := fun W => power_yes a I m ha (by omega) hm hf W
  have c10 := fun W => power_yes a J m ha (by omega) hm hf W
  have c11 := fun W => times_yes (Gf.pw a m I) (Gf.pw a m J) m (sp _ _) (sp _ _) hm hf W
  have c12 := fun W => power_yes a K m ha (by omega) hm hf W
  have c13 := fun W => add_any (Gf.md (Gf.cl a b) m) (Gf.md (Gf.cl a c) m) (sm _) (sm _) W
  rw [e1] at c2
  rw [e2] at c5
  rw [e3] at c8
  rw [e4] at c11
  generalize Gf.md (Gf.cl (Gf.md (Gf.cl a b) m) c) m = x4 at *
  generalize Gf.md (Gf.cl a b) m ^^^ Gf.md (Gf.cl a c) m = x9 at *
  generalize Gf.md (Gf.cl a b) m = x1 at *
  generalize Gf.md (Gf.cl b c) m = x3 at *
  generalize Gf.md (Gf.cl a c) m = x6 at *
  generalize b ^^^ c = x7 at *
  generalize Gf.pw a m I = x8 at *
  generalize Gf.pw a m J = x10 at *
  generalize Gf.pw a m K = x11 at *
  have C := Lib.hid (show _ ∧ _ ∧ _ ∧ _ ∧ _ ∧ _ ∧ _ ∧ _ ∧ _ ∧ _ ∧ _ ∧ _ ∧ _ from ⟨c1, c2, c3, c4, c5, c6, c7, c8, c9, c10, c11, c12, c13⟩)
  clear c1 c2 c3 c4 c5 c6 c7 c8 c9 c10 c11 c12 c13 e1 e2 e3 e4 sm sp hf hf1 hf2 hm0 hK
  go_enter Try.func6, Try.ntmps6
  go_wp2_with fail
  refine (C.out.1 _).mono ?_; rintro e w' ⟨rfl, rfl⟩
  go_wp2_with fail
  refine (C.out.2.1 _).mono ?_; rintro e w' ⟨rfl, rfl⟩
  go_wp2_with fail
  refine (C.out.2.2.1 _).mono ?_; rintro e w' ⟨rfl, rfl⟩
  go_wp2_with fail
  refine (C.out.2.2.2.1 _).mono ?_; rintro e w' ⟨rfl, rfl⟩
  go_wp2_with fail
  refine (C.out.2.2.2.2.1 _).mono ?_; rintro e w' ⟨rfl, rfl⟩
  go_wp2_with fail
  refine (C.out.2.2.2.2.2.1 _).mono ?_; rintro e w' ⟨rfl, rfl⟩
  go_wp2_with fail
  refine (C.out.2.2.2.2.2.2.1 _).mono ?_; rintro e w' ⟨rfl, rfl⟩
  go_wp2_with fail
  refine (C.out.2.2.2.2.2.2.2.1 _).mono ?_; rintro e w' ⟨rfl, rfl⟩
  go_wp2_with fail
  refine (C.out.2.2.2.2.2.2.2.2.1 _).mono ?_; rintro e w' ⟨rfl, rfl⟩
  go_wp2_with fail
  refine (C.out.2.2.2.2.2.2.2.2.2.1 _).mono ?_; rintro e w' ⟨rfl, rfl⟩
  go_wp2_with fail
  refine (C.out.2.2.2.2.2.2.2.2.2.2.1 _).mono ?_; rintro e w' ⟨rfl, rfl⟩
  go_wp2_with fail
  refine (C.out.2.2.2.2.2.2.2.2.2.2.2.1 _).mono ?_; rintro e w' ⟨rfl, rfl⟩
  go_wp2_with fail
  refine (awake9_any _).mono ?_; rintro e w' ⟨rfl, rfl⟩
  go_wp2_with fail
  refine (C.out.2.2.2.2.2.2.2.2.2.2.2.2 _).mono ?_; rintro e w' ⟨rfl, rfl⟩
  go_wp2_with fail
  go_ret
  exact ⟨rfl, rfl⟩

theorem polyRing_any (a b c m i j : Nat) (ha : a < 18446744073709551616) (hb : b < 18446744073709551616) (hc : c < 18446744073709551616) (hm : m < 18446744073709551616) (w : World) :
    Calls Try.prog 6 #[.int .u64 (a : Int), .int .u64 (b : Int), .int .u64 (c : Int), .int .u64 (m : Int), .int .u64 (i : Int), .int .u64 (j : Int)] w fun e w' => e = .returned (.bool true) ∧ Below w.heap.size w w' := by
  cases hf : fitB m
  · exact (polyRing_no a b c m i j hm hf w).mono fun _ _ ⟨he, hw⟩ => ⟨he, by rw [← hw]; exact Below.refl _ _⟩
  · exact (polyRing_yes a b c m i j ha hb hc hm hf w).mono fun _ _ ⟨he, hw⟩ => ⟨he, by rw [← hw]; exact Below.refl _ _⟩
end Go.Proofs.Ytgjofpefglbjjaa
