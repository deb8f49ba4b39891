/- bitio's sinks: Turn, Even, All. Conditions: none. -/
import Derived.Test.YtahgeeklenojjaaSink
namespace Go.Proofs.Ytahgeeklenojjaa
open Go.RowKit
set_option maxRecDepth 100000

theorem clamp_run (N : Int) (k : Nat) (hN : Clamp N k) : ∃ M : Int, (∀ W, Sem.run Try.prog (Builtin.min_ #[3, 3] 3 #[.int .i64 N, .int .i64 32]) W = .ok (.int .i64 M) W) ∧ ∀ W, Sem.run Try.prog (Builtin.max_ #[3, 3] 3 #[.int .i64 0, .int .i64 M]) W = .ok (.int .i64 (k : Int)) W := by
  refine ⟨if (32 : Int) < N then 32 else N, fun W => rfl, fun W => ?_⟩
  have e : (if (if (32 : Int) < N then 32 else N) > 0 then (if (32 : Int) < N then 32 else N) else 0) = (k : Int) := by
    unfold Clamp at hN
    split <;> split <;> omega
  show Result.ok (Value.int .i64 (if (if (32 : Int) < N then 32 else N) > 0 then (if (32 : Int) < N then 32 else N) else 0)) W = _
  rw [e]

theorem sinkTurn_any (P : Nat) (v : Value) (V c x k : Nat) (N : Int) (hx : x < 4294967296) (hN : Clamp N k) (hc : c ≤ 1000000000) (w : World) (hS : SinkAt w P v V c) :
    Calls Try.prog 9 #[.pointer (some ⟨P, 0, none⟩), .int .u32 (x : Int), .int .i64 N] w fun e w' =>
      e = .returned (.tuple #[]) ∧ ∃ v', SinkAt w' P v' (V + rev x k % 2 ^ k * 2 ^ c) (c + k) ∧ Chg w w' P v ∧ Fresh w v v' := by
  have hk : k ≤ 32 := by unfold Clamp at hN; omega
  obtain ⟨M1, hmin, hmax⟩ := clamp_run N k hN
  have CT := Lib.hid (fun W => turn_any x k hx hk W)
  obtain ⟨y, Hy⟩ : ∃ y, Hid (rev x k = y) := ⟨_, Lib.hid (Eq.refl _)⟩
  have hyl : y < 4294967296 := by rw [← Hy.out]; exact Nat.lt_of_lt_of_le (rev_lt x k) (Nat.le_trans (Nat.pow_le_pow_right (by decide) hk) (by decide))
  have CP := Lib.hid (fun W hS => sinkPut_any P v V c y k N hyl hN hc W hS)
  have HS := Lib.hid hS
  rw [Hy.out] at CT ⊢
  clear hS hN
  go_enter Try.func9, Try.ntmps9
  go_wp2_with fail
  refine (CT.out _).mono ?_
  rintro e w1 ⟨rfl, rfl⟩
  go_wp2_with fail
  refine (CP.out _ HS.out).mono ?_
  rintro e w2 ⟨rfl, v', h1, h2, h3⟩
  go_wp2_with fail
  (try simp only [Exit.inBlock, Exit.then]); refine bodyPost_end (results_none rfl _ _ _) rfl ?_
  exact ⟨rfl, v', h1, h2, h3⟩

theorem mk_cat (l m : List UInt8) : (⟨l.toArray⟩ : ByteArray) ++ ⟨m.toArray⟩ = ⟨(l ++ m).toArray⟩ := by
  have h : ((⟨l.toArray⟩ : ByteArray) ++ ⟨m.toArray⟩).data = (⟨(l ++ m).toArray⟩ : ByteArray).data := by rw [ByteArray.data_append]; simp
  cases h2 : ((⟨l.toArray⟩ : ByteArray) ++ ⟨m.toArray⟩) with
  | mk d => rw [h2] at h; simp at h; subst h; rfl
/-- The text of all bits. -/
theorem sinkAll_any (P : Nat) (v : Value) (V c : Nat) (hc : c ≤ 1000000000) (w : World) (hS : SinkAt w P v V c) :
    Calls Try.prog 11 #[.pointer (some ⟨P, 0, none⟩)] w fun e w' => e = .returned (.string ⟨(bytesN V ((c + 7) / 8)).toArray⟩) ∧ Below w.heap.size w w' := by
  obtain ⟨hB, hO, hV⟩ := hS
  have c0 := hB.cell 0
  have c1 := hB.cell 1
  have c2 := hB.cell 2
  have hcv := run_string_own _ _ _ _ hO
  have hlen := bytesN_length V (c / 8)
  by_cases hm : c % 8 = 0
  · have e : bytesN V ((c + 7) / 8) = bytesN V (c / 8) := by rw [show (c + 7) / 8 = c / 8 by omega]
    rw [e]
    rw [hm] at c2
    simp at c0 c1 c2
    obtain ⟨L, HL⟩ : ∃ L, Hid (bytesN V (c / 8) = L) := ⟨_, Lib.hid (Eq.refl _)⟩
    rw [HL.out] at hcv ⊢
    clear hB hO hV hm e
    go_enter Try.func11, Try.ntmps11
    go_wp2_with fail
    go_ret
    exact ⟨rfl, Below.refl _ _⟩
  · have e : bytesN V ((c + 7) / 8) = bytesN V (c / 8) ++ [UInt8.ofNat (V / 256 ^ (c / 8) % 256)] := by rw [show (c + 7) / 8 = c / 8 + 1 by omega, bytesN_succ]
    rw [e, ← mk_cat]
    obtain ⟨m, Hm⟩ : ∃ m, Hid (c % 8 = m) := ⟨_, Lib.hid (Eq.refl _)⟩
    rw [Hm.out] at c2 hm
    obtain ⟨l, Hl⟩ : ∃ l, Hid (V / 2 ^ (8 * (c / 8)) = l) := ⟨_, Lib.hid (Eq.refl _)⟩
    have hp : V / 256 ^ (c / 8) = l := by rw [pow256]; exact Hl.out
    rw [Hl.out] at c1
    rw [hp]
    have hll : l < 256 := by
      rw [← Hl.out, Nat.div_lt_iff_lt_mul (pow_pos2 _), show (256 : Nat) = 2 ^ 8 by decide, ← Nat.pow_add]
      exact Nat.lt_of_lt_of_le hV (Nat.pow_le_pow_right (by decide) (by omega))
    have hl2 : l % 256 = l := by omega
    rw [hl2]
    simp at c0 c1 c2
    have hs1 := run_string_one w (l : Int)
    rw [Int.toNat_natCast] at hs1
    have hbb := (Below.refl w.heap.size w).alloc (Nat.le_refl _) (.cells #[.int .u8 (l : Int)] 5)
    have hm0 : 0 < m := by omega
    have hlw : IntKind.u8.wrap (l : Int) = (l : Int) := by rw [IntKind.wrap_u8]; omega
    have hsz : (⟨(bytesN V (c / 8)).toArray⟩ : ByteArray).size = c / 8 := by show (bytesN V (c / 8)).toArray.size = _; simp [hlen]
    have hov : ¬ 9223372036854775807 < c / 8 + 1 := by omega
    obtain ⟨L, HL⟩ : ∃ L : ByteArray, Hid ((⟨(bytesN V (c / 8)).toArray⟩ : ByteArray) = L) := ⟨_, Lib.hid (Eq.refl _)⟩
    rw [HL.out] at hcv hsz ⊢
    have Hbb := Lib.hid hbb
    have hov2 : ¬ 9223372036854775807 < L.size + 1 := by omega
    clear hB hO hV hm e hp hl2 hbb
    go_enter Try.func11, Try.ntmps11
    go_wp2_with fail
    go_ret
    exact ⟨rfl, Hbb.out⟩
end Go.Proofs.Ytahgeeklenojjaa
