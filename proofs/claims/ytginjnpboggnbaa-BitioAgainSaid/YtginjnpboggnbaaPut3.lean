/- The laws' put of layer 3. Conditions: none. -/
import Derived.Test.YtginjnpboggnbaaAgainP
import Derived.Test.YtginjnpboggnbaaSink3
namespace Go.Proofs.Ytginjnpboggnbaa
open Go.RowKit
set_option maxRecDepth 100000

theorem chg_alloc {w w' : World} {P : Nat} {v : Value} {o : Obj} (h : Chg (w.alloc o) w' P v) : Chg w w' P v := by
  have hs : w.heap.size ≤ (w.alloc o).heap.size := by simp
  exact ⟨h.1, Nat.le_trans hs h.2.1, fun g hg hP hv => (h.2.2 g (Nat.lt_of_lt_of_le hg hs) hP hv).trans (Below.heap_alloc w o g hg)⟩
theorem chg_below {w w' : World} {P : Nat} {v : Value} (h : Below w.heap.size w w') : Chg w w' P v := ⟨⟨h.os, h.tape, h.output⟩, h.size, fun g hg _ _ => h.block g hg⟩

set_option maxHeartbeats 4000000 in
theorem put_any (P : Nat) (v : Value) (V c : Nat) (hc : c ≤ 100000) (q : Ac) (hx : q.x < 4294967296) (hu : q.s.size ≤ maxLen) (w : World) (hS : SinkAt w P v V c) :
    Calls Try.prog 40 #[.pointer (some ⟨P, 0, none⟩), .agg #[.int .i64 q.kind, .int .i64 q.n, .int .u32 (q.x : Int), .string q.s]] w fun e w' =>
      e = .returned (.tuple #[]) ∧ ∃ v', SinkAt w' P v' (V + acZ q * 2 ^ acSt q c) (acSt q c + acLn q) ∧ Chg w w' P v := by
  obtain ⟨K, N, x, u⟩ := q
  have hk := kOf_clamp N
  have hk32 := kOf_le N
  obtain ⟨k, Hk⟩ : ∃ k, Hid (kOf N = k) := ⟨_, Lib.hid (Eq.refl _)⟩
  rw [Hk.out] at hk hk32
  have hba : Below w.heap.size w (w.alloc (.cells #[.int .i64 K, .int .i64 N, .int .u32 (x : Int), .string u] 40)) := (Below.refl w.heap.size w).alloc (Nat.le_refl _) _
  have hS0 := hS.below2 hba
  simp only at hx hu ⊢
  by_cases h0 : K = 0
  · subst h0
    obtain ⟨V', HV'⟩ : ∃ R, Hid (V + acZ ⟨0, N, x, u⟩ * 2 ^ acSt ⟨0, N, x, u⟩ c = R) := ⟨_, Lib.hid (Eq.refl _)⟩
    obtain ⟨c', Hc'⟩ : ∃ R, Hid (acSt ⟨0, N, x, u⟩ c + acLn ⟨0, N, x, u⟩ = R) := ⟨_, Lib.hid (Eq.refl _)⟩
    have CP0 := sinkPut_any P v V c x k N hx hk (by omega) _ hS0
    have eV : V + x % 2 ^ k * 2 ^ c = V' := by rw [← HV'.out, ← Hk.out]; simp [acZ, acSt]
    have ec : c + k = c' := by rw [← Hc'.out, ← Hk.out]; simp [acSt, acLn]
    rw [eV, ec] at CP0
    have CP := Lib.hid CP0
    rw [HV'.out, Hc'.out]
    clear CP0 hS0 hS hba eV ec hk hu
    go_enter Try.func40, Try.ntmps40
    go_wp2_with fail
    refine CP.out.mono ?_
    rintro e w2 ⟨rfl, v2, h1, h2, h3⟩
    go_wp2_with fail
    (try simp only [Exit.inBlock, Exit.then]); refine bodyPost_end (results_none rfl _ _ _) rfl ?_
    exact ⟨rfl, v2, h1, chg_alloc h2⟩
  by_cases h1 : K = 1
  · subst h1
    obtain ⟨V', HV'⟩ : ∃ R, Hid (V + acZ ⟨1, N, x, u⟩ * 2 ^ acSt ⟨1, N, x, u⟩ c = R) := ⟨_, Lib.hid (Eq.refl _)⟩
    obtain ⟨c', Hc'⟩ : ∃ R, Hid (acSt ⟨1, N, x, u⟩ c + acLn ⟨1, N, x, u⟩ = R) := ⟨_, Lib.hid (Eq.refl _)⟩
    have CP0 := sinkTurn_any P v V c x k N hx hk (by omega) _ hS0
    have eV : V + rev x k % 2 ^ k * 2 ^ c = V' := by rw [← HV'.out, ← Hk.out, Nat.mod_eq_of_lt (rev_lt x _)]; simp [acZ, acSt]
    have ec : c + k = c' := by rw [← Hc'.out, ← Hk.out]; simp [acSt, acLn]
    rw [eV, ec] at CP0
    have CP := Lib.hid CP0
    rw [HV'.out, Hc'.out]
    clear CP0 hS0 hS hba eV ec hk hu
    go_enter Try.func40, Try.ntmps40
    go_wp2_with fail
    refine CP.out.mono ?_
    rintro e w2 ⟨rfl, v2, h1, h2, h3⟩
    go_wp2_with fail
    (try simp only [Exit.inBlock, Exit.then]); refine bodyPost_end (results_none rfl _ _ _) rfl ?_
    exact ⟨rfl, v2, h1, chg_alloc h2⟩
  by_cases h2 : K = 2
  · subst h2
    obtain ⟨V', HV'⟩ : ∃ R, Hid (V + acZ ⟨2, N, x, u⟩ * 2 ^ acSt ⟨2, N, x, u⟩ c = R) := ⟨_, Lib.hid (Eq.refl _)⟩
    obtain ⟨c', Hc'⟩ : ∃ R, Hid (acSt ⟨2, N, x, u⟩ c + acLn ⟨2, N, x, u⟩ = R) := ⟨_, Lib.hid (Eq.refl _)⟩
    have CP0 := sinkEven_any P v V c (by omega) _ hS0
    have eV : V' = V := by rw [← HV'.out]; simp [acZ]
    have ec : (c + 7) / 8 * 8 = c' := by rw [← Hc'.out]; simp [acSt, acLn]
    rw [ec] at CP0
    have CP := Lib.hid CP0
    rw [HV'.out, Hc'.out]
    subst eV
    clear CP0 hS0 hS hba ec hk hu
    go_enter Try.func40, Try.ntmps40
    go_wp2_with fail
    refine CP.out.mono ?_
    rintro e w2 ⟨rfl, v2, h1, h2, h3⟩
    go_wp2_with fail
    (try simp only [Exit.inBlock, Exit.then]); refine bodyPost_end (results_none rfl _ _ _) rfl ?_
    exact ⟨rfl, v2, h1, chg_alloc h2⟩
  by_cases h3 : K = 3
  · subst h3
    obtain ⟨V', HV'⟩ : ∃ R, Hid (V + acZ ⟨3, N, x, u⟩ * 2 ^ acSt ⟨3, N, x, u⟩ c = R) := ⟨_, Lib.hid (Eq.refl _)⟩
    obtain ⟨c', Hc'⟩ : ∃ R, Hid (acSt ⟨3, N, x, u⟩ c + acLn ⟨3, N, x, u⟩ = R) := ⟨_, Lib.hid (Eq.refl _)⟩
    have CF := Lib.hid (fun W => few_any u 40 (by decide) hu W)
    have htl := few_size u 40
    have CP0 := sinkText_any P v V c (few u 40) (by omega) (by omega) _ hS0
    have eV : V + leN (few u 40).data.toList * 2 ^ ((c + 7) / 8 * 8) = V' := by rw [← HV'.out]; simp [acZ, acSt, num]
    have ec : (c + 7) / 8 * 8 + 8 * (few u 40).size = c' := by rw [← Hc'.out]; simp [acSt, acLn]
    rw [eV, ec] at CP0
    obtain ⟨t, Ht⟩ : ∃ R, Hid (few u 40 = R) := ⟨_, Lib.hid (Eq.refl _)⟩
    rw [Ht.out] at CP0 CF
    have CP := Lib.hid CP0
    rw [HV'.out, Hc'.out]
    clear CP0 hS0 hS hba eV ec hk hu htl
    go_enter Try.func40, Try.ntmps40
    go_wp2_with fail
    refine (CF.out _).mono ?_
    rintro e w1 ⟨rfl, rfl⟩
    go_wp2_with fail
    refine CP.out.mono ?_
    rintro e w2 ⟨rfl, v2, h1, h2, h3⟩
    go_wp2_with fail
    (try simp only [Exit.inBlock, Exit.then]); refine bodyPost_end (results_none rfl _ _ _) rfl ?_
    exact ⟨rfl, v2, h1, chg_alloc h2⟩
  · have eV : V + acZ ⟨K, N, x, u⟩ * 2 ^ acSt ⟨K, N, x, u⟩ c = V := by simp [acZ, h0, h1, h3]
    have ec : acSt ⟨K, N, x, u⟩ c + acLn ⟨K, N, x, u⟩ = c := by simp [acSt, acLn, h0, h1, h2, h3]
    rw [eV, ec]
    have k0 : (K == 0) = false := by simpa using h0
    have k1 : (K == 1) = false := by simpa using h1
    have k2 : (K == 2) = false := by simpa using h2
    have k3 : (K == 3) = false := by simpa using h3
    have HS0 := Lib.hid hS0
    have HC0 := Lib.hid (chg_below (P := P) (v := v) hba)
    clear hS0 hba h0 h1 h2 h3 eV ec hS hk hu
    go_enter Try.func40, Try.ntmps40
    go_wp2_with fail
    (try simp only [Exit.inBlock, Exit.then]); refine bodyPost_end (results_none rfl _ _ _) rfl ?_
    exact ⟨rfl, v, HS0.out, HC0.out⟩
end Go.Proofs.Ytginjnpboggnbaa
