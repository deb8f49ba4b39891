/- InflateLong. Printed by gen_law6d.py. Conditions: none. -/
import Derived.Test.YtjnglahjngiofaaLaw6a
import Derived.Test.YtjnglahjngiofaaLongP
import Derived.Test.YtjnglahjngiofaaFix6
namespace Go.Proofs.Ytjnglahjngiofaa
open Go.RowKit
set_option maxRecDepth 100000

theorem wpList_append_lits_at {ops : Array Oper} {rest : List Oper} {o : Oper} {a : Act} {Q : Exit → Act → World → Prop} (w : World) (hgd : o.guard = none) (s x : Operand) {t e : TypeId}
    (ho : o.op = .call { callee := .builtin .append, args := #[s, x], argTypes := #[t, t] })
    (ht : Try.prog.underlying t = some (.slice e)) {z : Value} {size bytes : Nat} (hI : (Try.prog.info? e).map (fun i => (i.zero, i.size, i.bytes)) = some (some z, size, bytes)) (hzs : z.cells.size = size) (hsz : 0 < size)
    (base : Nat) (v : Value) (n : Nat) (xs us : List Value) (k : Nat) (hown : w.ownsRow base e size v n xs) (hus : us.length = k * size) (h1 : ∀ u ∈ us, u.oneCell' = true) (hs : a.eval s = v)
    {sz : Nat} (hx : a.eval x = .slice (some ⟨sz, 0, none⟩) k k) (hsize : sz = w.heap.size) (hm : n + k ≤ maxLen) (hl : (n + k) * bytes ≤ 140737488355328) (hbase : base ≤ w.heap.size)
    (h : ∀ v' w', w'.ownsRow base e size v' (n + k) (xs ++ us) → w.grownBy w' v.ownBlock → (∀ g, g < w.heap.size → v.ownBlock ≠ some g → v'.ownBlock ≠ some g) → wpList Try.prog ops Q rest (a.put o.dst v') w') :
    wpList Try.prog ops Q (o :: rest) a (w.alloc (.cells us.toArray e)) :=
  wpList_plain hgd fun _ hK => wp_append_lit_at w s x ho ht hI hzs hsz base v n xs us k hown hus h1 hs hx hsize hm hl hbase rfl fun v' w' h2 h3 h4 => hK _ _ (h v' w' h2 h3 h4)
theorem icells_congr (n : Nat) (f g : Nat → Int) (h : ∀ i, i < n → f i = g i) : icells n f = icells n g := by
  unfold icells
  exact List.map_congr_left fun i hi => by rw [h i (List.mem_range.1 hi)]
theorem icells_add (n k : Nat) (m : Nat → Int) : icells n m ++ icells k (fun j => m (n + j)) = icells (n + k) m := by
  unfold icells
  rw [List.range_add, List.map_append, List.map_map]
  rfl
theorem irow_far {w : World} {a : Option Addr} {n : Nat} {m : Nat → Int} {p : Addr} {u : Value} (h : IRow w a n m) (hn : ∀ b off sp, a = some ⟨b, off, sp⟩ → p.block ≠ b) : IRow (w.setCell p u) a n m := by
  rcases h with h | ⟨b, off, rfl, h2, h3⟩
  · exact .inl h
  · have hb := Below.heap_setCell w p u b (fun e => hn b off none rfl e.symm)
    exact .inr ⟨b, off, rfl, by simpa [World.setCell] using h2, fun i hi => (World.cell?_of_block (a := ⟨b, off + i, none⟩) hb).trans (h3 i hi)⟩
/-- One bit more in the last byte. -/
theorem set_byte (X q m b : Nat) (hX : X < 2 ^ (8 * q + m)) (hm : m < 8) (hb : b < 2) : (bytesN X (q + 1)).set q (UInt8.ofNat (X / 256 ^ q % 256 + b * 2 ^ m)) = bytesN (X + b * 2 ^ (8 * q + m)) (q + 1) := by
  rw [bytesN_succ, bytesN_succ, bytesN_low X b (8 * q + m) q (by omega)]
  have hl : (bytesN X q).length = q := bytesN_length X q
  rw [List.set_append_right _ _ (by omega), hl, Nat.sub_self, List.set_cons_zero]
  congr 2
  rw [pow256, put_hi X b (8 * q + m) (8 * q) (by omega), show 8 * q + m - 8 * q = m by omega]
  have h1 : X / 2 ^ (8 * q) < 2 ^ m := by
    rw [Nat.div_lt_iff_lt_mul (Nat.two_pow_pos _), ← Nat.pow_add, Nat.add_comm]
    exact hX
  have h2 : 2 ^ m ≤ 2 ^ 7 := Nat.pow_le_pow_right (by decide) (by omega)
  have h3 : (2 : Nat) ^ 7 = 128 := by decide
  have h4 : b * 2 ^ m ≤ 2 ^ m := by
    have := Nat.mul_le_mul_right (2 ^ m) (show b ≤ 1 by omega)
    omega
  congr 1
  generalize b * 2 ^ m = z at *
  generalize 2 ^ m = y at *
  generalize X / 2 ^ (8 * q) = x at *
  omega
theorem byte_or (Y b m : Nat) (hY : Y < 2 ^ m) (hm : m < 8) (hb : b < 2) : bits .or .u8 (Y : Int) ((b * 2 ^ m : Nat) : Int) = ((Y + b * 2 ^ m : Nat) : Int) := by
  have key : ∀ m, m < 8 → ∀ b, b < 2 → ∀ Y : Nat, Y < 2 ^ m → bits .or .u8 (Y : Int) ((b * 2 ^ m : Nat) : Int) = ((Y + b * 2 ^ m : Nat) : Int) := by decide +kernel
  exact key m hm b hb Y hY

theorem wpList_append_byte_at {ops : Array Oper} {rest : List Oper} {o : Oper} {a : Act} {Q : Exit → Act → World → Prop} (w : World) (hgd : o.guard = none) (s x : Operand)
    (ho : o.op = .call { callee := .builtin .append, args := #[s, x], argTypes := #[47, 47] })
    (base : Nat) (v : Value) (l : List UInt8) (u : Int) (hown : OwnB w base v l) (hs : a.eval s = v)
    {sz : Nat} (hx : a.eval x = .slice (some ⟨sz, 0, none⟩) 1 1) (hsize : sz = w.heap.size) (h0 : 0 ≤ u) (h1 : u < 256) (hl : l.length < 140737488355328) (hbase : base ≤ w.heap.size)
    (h : ∀ v' w', OwnB w' base v' (l ++ [UInt8.ofNat u.toNat]) → w.grownBy w' v.ownBlock → (∀ g, g < w.heap.size → v.ownBlock ≠ some g → v'.ownBlock ≠ some g) → wpList Try.prog ops Q rest (a.put o.dst v') w') :
    wpList Try.prog ops Q (o :: rest) a (w.alloc (.cells #[.int .u8 u] 5)) := by
  refine wpList_append_elem_at w hgd s x ho Try.underlying47 info_u8 rfl (by decide) base v l.length (bcells l) [.int .u8 u] hown rfl (by intro y hy; simp at hy; subst hy; rfl) hs hx hsize
    (by unfold maxLen; omega) (by omega) hbase ?_
  intro v' w' h2 h3 h4
  refine h v' w' ?_ h3 h4
  unfold OwnB
  rw [bcells_append, List.length_append]
  have : bcells [UInt8.ofNat u.toNat] = [.int .u8 u] := by simp only [bcells, List.map_cons, List.map_nil, ofNat_byte u h0 h1]
  rw [this]
  exact h2

theorem long_out (n most : Int) (h : n < 0 ∨ 400 < n) (w : World) : Calls Try.prog 12 #[.int .i64 n, .int .i64 most] w fun e w' => e = .returned (.bool true) ∧ Below w.heap.size w w' := by
  have CA := Lib.hid awake6_any
  by_cases h0 : n < 0
  · have d0 : decide (n < 0) = true := by rw [decide_eq_true_eq]; exact h0
    clear h h0
    go_enter Try.func12, Try.ntmps12
    go_wp2_with fail
    refine (CA.out _).mono ?_
    rintro e w2 ⟨rfl, hb⟩
    go_wp2_with fail
    go_ret
    exact ⟨rfl, hb⟩
  · have d0 : decide (n < 0) = false := by rw [decide_eq_false_iff_not]; exact h0
    have d1 : decide (400 < n) = true := by rw [decide_eq_true_eq]; omega
    clear h h0
    go_enter Try.func12, Try.ntmps12
    go_wp2_with fail
    refine (CA.out _).mono ?_
    rintro e w2 ⟨rfl, hb⟩
    go_wp2_with fail
    go_ret
    exact ⟨rfl, hb⟩

set_option maxHeartbeats 32000000 in
theorem long_in (n : Nat) (hn : n ≤ 400) (most : Int) (lo : -9223372036854775808 ≤ most) (hi : most ≤ 9223372036854775807) (w : World) : Calls Try.prog 12 #[.int .i64 (n : Int), .int .i64 most] w fun e w' => e = .returned (.bool true) ∧ Below w.heap.size w w' := by
  have CA := Lib.hid awake6_any
  have d0 : decide ((n : Int) < 0) = false := by rw [decide_eq_false_iff_not]; omega
  have d1 : decide ((400 : Int) < (n : Int)) = false := by rw [decide_eq_false_iff_not]; omega
  have d1b : decide (400 < n) = false := by rw [decide_eq_false_iff_not]; omega
  obtain ⟨f, Hf⟩ : ∃ f, Hid ((fun i => ((longB n i : Nat) : Int)) = f) := ⟨_, Lib.hid (Eq.refl _)⟩
  have hfi : ∀ i, f i = ((longB n i : Nat) : Int) := fun i => by rw [← Hf.out]
  have hh : icells 11 f = [.int .i64 1, .int .i64 1, .int .i64 0, .int .i64 0, .int .i64 0, .int .i64 1, .int .i64 1, .int .i64 0, .int .i64 0, .int .i64 0, .int .i64 0] := by
    rw [icells_congr 11 f (fun i => ((99 / 2 ^ i % 2 : Nat) : Int)) (fun i hi => by rw [hfi, longB_head n i hi])]
    rfl
  have HR : Hid (∀ k, k < n → icells (11 + 13 * k) f ++ [.int .i64 1, .int .i64 1, .int .i64 0, .int .i64 0, .int .i64 0, .int .i64 1, .int .i64 0, .int .i64 1, .int .i64 0, .int .i64 0, .int .i64 0, .int .i64 0, .int .i64 0] = icells (11 + 13 * k + 13) f) := fun k hk => by
    rw [← icells_add (11 + 13 * k) 13 f]
    congr 1
    rw [icells_congr 13 (fun j => f (11 + 13 * k + j)) (fun j => ((163 / 2 ^ j % 2 : Nat) : Int)) (fun j hj => by rw [hfi, longB_rep n k j hk hj])]
    rfl
  have HE : Hid (icells (11 + 13 * n) f ++ [.int .i64 0, .int .i64 0, .int .i64 0, .int .i64 0, .int .i64 0, .int .i64 0, .int .i64 0] = icells (11 + 13 * n + 7) f) := by
    show _ = _
    rw [← icells_add (11 + 13 * n) 7 f]
    congr 1
    rw [icells_congr 7 (fun j => f (11 + 13 * n + j)) (fun j => 0) (fun j hj => by rw [hfi, longB_end n _ (by omega)]; rfl)]
    rfl
  have Hfi := Lib.hid hfi
  have hD0 := Blk.new w 5 #[]
  have hP0 := Blk.new (w.alloc (.cells #[] 5)) 3 #[.int .i64 1, .int .i64 1, .int .i64 0, .int .i64 0, .int .i64 0, .int .i64 1, .int .i64 1, .int .i64 0, .int .i64 0, .int .i64 0, .int .i64 0]
  have hb0 := ((Below.refl w.heap.size w).alloc (Nat.le_refl _) (.cells #[] 5)).alloc (by simp) (.cells #[.int .i64 1, .int .i64 1, .int .i64 0, .int .i64 0, .int .i64 0, .int .i64 1, .int .i64 1, .int .i64 0, .int .i64 0, .int .i64 0, .int .i64 0] 3)
  rw [size_new] at hP0
  have HD0 := Lib.hid (hD0.alloc (.cells #[.int .i64 1, .int .i64 1, .int .i64 0, .int .i64 0, .int .i64 0, .int .i64 1, .int .i64 1, .int .i64 0, .int .i64 0, .int .i64 0, .int .i64 0] 3))
  have HO0 : Hid (World.ownsRow _ w.heap.size 3 1 (.slice (some ⟨w.heap.size + 1, 0, none⟩) 11 11) 11 (icells 11 f)) :=
    ownsRow_blk hP0 (Nat.le_succ _) (Nat.le_refl _) (by decide) rfl (by rw [hh]; rfl)
  have HN0 : Hid ((Value.slice (some ⟨w.heap.size + 1, 0, none⟩) 11 11).ownBlock ≠ some w.heap.size) := fun e => by
    injection e with e
    exact absurd (show w.heap.size + 1 = w.heap.size from e) (by omega)
  have HB0 := Lib.hid hb0
  clear hh hfi hD0 hP0 hb0 Hf
  obtain ⟨G1, HG1⟩ : ∃ G1, Hid (w.heap.size + 1 = G1) := ⟨_, Lib.hid (Eq.refl _)⟩
  rw [HG1.out] at HO0 HN0
  obtain ⟨G, HG⟩ : ∃ G, Hid (w.heap.size = G) := ⟨_, Lib.hid (Eq.refl _)⟩
  rw [HG.out] at HN0 HD0
  go_enter Try.func12, Try.ntmps12
  go_wp2_with fail
  obtain ⟨w1, HW1⟩ : ∃ W, Hid ((w.alloc (.cells #[] 5)).alloc (.cells #[.int .i64 1, .int .i64 1, .int .i64 0, .int .i64 0, .int .i64 0, .int .i64 1, .int .i64 1, .int .i64 0, .int .i64 0, .int .i64 0, .int .i64 0] 3) = W) := ⟨_, Lib.hid (Eq.refl _)⟩
  rw [HW1.out] at HD0 HO0 HB0 ⊢
  clear HW1
  rw [HG1.out]
  rw [HG.out]
  clear HG1
  go_loopw [7, 8] (fun v_ i_ wr => ∃ (k : Nat) (a : Option Addr) (cap : Nat), k ≤ n ∧ i_ = .int .i64 (k : Int) ∧ v_ = .slice a (11 + 13 * k) cap ∧ Hid (wr.ownsRow w.heap.size 3 1 (.slice a (11 + 13 * k) cap) (11 + 13 * k) (icells (11 + 13 * k) f)) ∧ Hid (Blk wr G 5 #[]) ∧ Hid ((Value.slice a (11 + 13 * k) cap).ownBlock ≠ some G) ∧ Hid (Below w.heap.size w wr)) (fun _ i _ => n - (intOf i).toNat)
  case atStart => exact ⟨0, _, _, by omega, rfl, rfl, HO0, HD0, HN0, HB0⟩
  case round =>
    clear HO0 HD0 HN0 HB0
    obtain ⟨k, a, cap, hk, rfl, rfl, HO, HD, HN, HB⟩ := hrel
    by_cases hlt : k < n
    · have dk : decide ((k : Int) < (n : Int)) = true := by rw [decide_eq_true_eq]; omega
      have hos := HO.out
      have hbsw : w.heap.size ≤ wr.heap.size := HB.out.size
      obtain ⟨c, Hc⟩ : ∃ c, Hid (11 + 13 * k = c) := ⟨_, Lib.hid (Eq.refl _)⟩
      have hcl : c ≤ 10000 := by have := Hc.out; omega
      have Hcat := Lib.hid (HR.out k hlt)
      rw [Hc.out] at hos HN Hcat ⊢
      go_wp2_with (first
        | (at_builtin; go_must (refine wpList_append_lits_at wr rfl (.tmp 30) (.tmp 31) rfl Try.underlying22 info_int rfl (by decide) w.heap.size _ c (icells c f) [.int .i64 1, .int .i64 1, .int .i64 0, .int .i64 0, .int .i64 0, .int .i64 1, .int .i64 0, .int .i64 1, .int .i64 0, .int .i64 0, .int .i64 0, .int .i64 0, .int .i64 0] 13 hos rfl ?_ rfl rfl rfl ?_ ?_ hbsw ?_; (intro y hy; simp at hy; rcases hy with rfl | rfl | rfl | rfl | rfl | rfl <;> rfl); (unfold maxLen; omega); omega; intro v7 w7 hown7 hg7 hn7; rw [Hcat.out] at hown7; have HO7 := Lib.hid hown7; have HB7 := Lib.hid (HB.out.trans (below_grown hos hg7 hbsw)); have HD7 := Lib.hid (HD.out.grown hg7 (fun e => HN.out e.symm)); have HN7 : Hid (v7.ownBlock ≠ some G) := Lib.hid (hn7 G HD.out.lt HN.out); clear hown7 hg7 hn7))
        | fail)
      obtain ⟨a7, c7, rfl, _, _⟩ := irow_own HO7.out
      go_wp2_with fail
      go_roundw
      case rel =>
        have e : 11 + 13 * (k + 1) = c + 13 := by have := Hc.out; omega
        refine ⟨k + 1, a7, c7, by omega, by go_num, ?_, ?_, HD7, ?_, HB7⟩
        · rw [e]
        · rw [e]; exact HO7
        · rw [e]; exact HN7
      case measure => simp [intOf]; omega
    · have hkn : k = n := by omega
      subst hkn
      have dk : decide ((k : Int) < (k : Int)) = false := by rw [decide_eq_false_iff_not]; omega
      have hos := HO.out
      have hbsw : w.heap.size ≤ wr.heap.size := HB.out.size
      obtain ⟨c, Hc⟩ : ∃ c, Hid (11 + 13 * k = c) := ⟨_, Lib.hid (Eq.refl _)⟩
      have hcl : c ≤ 10000 := by have := Hc.out; omega
      rw [Hc.out] at hos HN HE ⊢
      go_wp2_with (first
        | (at_builtin; go_must (refine wpList_append_lits_at wr rfl (.tmp 33) (.tmp 34) rfl Try.underlying22 info_int rfl (by decide) w.heap.size _ c (icells c f) [.int .i64 0, .int .i64 0, .int .i64 0, .int .i64 0, .int .i64 0, .int .i64 0, .int .i64 0] 7 hos rfl ?_ rfl rfl rfl ?_ ?_ hbsw ?_; (intro y hy; simp at hy; subst hy; rfl); (unfold maxLen; omega); omega; intro v7 w7 hown7 hg7 hn7; rw [HE.out] at hown7; obtain ⟨a, ca, rfl, hI7, hA7⟩ := irow_own hown7; have HB7 := Lib.hid (HB.out.trans (below_grown hos hg7 hbsw)); have HD7 := Lib.hid (HD.out.grown hg7 (fun e => HN.out e.symm)); have HN7 : Hid ((Value.slice a (c + 7) ca).ownBlock ≠ some G) := Lib.hid (hn7 G HD.out.lt HN.out); clear hown7 hg7 hn7))
        | fail)
      obtain ⟨T, HT⟩ : ∃ T, Hid (c + 7 = T) := ⟨_, Lib.hid (Eq.refl _)⟩
      have hTI : (c : Int) + 7 = (T : Int) := by have := HT.out; omega
      rw [HT.out] at hI7 HN7 ⊢
      try rw [hTI]
      clear hTI
      have hTl : T ≤ 10007 := by have := HT.out; omega
      have HTn : Hid (T = 18 + 13 * k) := by have h1 := HT.out; have h2 := Hc.out; show _ = _; omega
      have HI7 := Lib.hid hI7
      have HF7 : Hid (∀ b off sp, a = some ⟨b, off, sp⟩ → b < w7.heap.size ∧ (Value.slice (some ⟨G, 0, none⟩) 0 0).ownBlock ≠ some b) := Lib.hid (fun b off sp e => ⟨(hA7 b off sp e).2, fun e2 => by
        injection e2 with e2
        subst e
        exact HN7.out (congrArg some e2.symm)⟩)
      have HOB : Hid (OwnB w7 w.heap.size (.slice (some ⟨G, 0, none⟩) 0 0) (bytesN (longV k % 2 ^ 0) ((0 + 7) / 8))) :=
        ownsRow_blk (cur := #[]) HD7.out (by have := HG.out; omega) (Nat.le_refl _) (Nat.zero_le _) rfl rfl
      clear hI7 hA7 HD7 HN7 HE HR hos
      go_loopw [5, 6, 38] (fun v_ at_ i_ wr => ∃ t : Nat, t ≤ T ∧ at_ = .int .i64 (t : Int) ∧ i_ = .int .i64 (t : Int) ∧ Hid (OwnB wr w.heap.size v_ (bytesN (longV k % 2 ^ t) ((t + 7) / 8))) ∧ Hid (IRow wr a T f) ∧ Hid (∀ b off sp, a = some ⟨b, off, sp⟩ → b < wr.heap.size ∧ v_.ownBlock ≠ some b) ∧ Hid (Below w.heap.size w wr)) (fun _ _ i _ => T - (intOf i).toNat)
      case atStart => exact ⟨0, by omega, rfl, rfl, HOB, HI7, HF7, HB7⟩
      case round =>
        clear HOB HI7 HF7 HB7
        obtain ⟨t, ht, rfl, rfl, HO, HI, HF, HB⟩ := hrel
        by_cases hlt2 : t < T
        · have dt : decide ((t : Int) < (T : Int)) = true := by rw [decide_eq_true_eq]; omega
          obtain ⟨b0, o0, rfl, hb0, x0⟩ := HI.out.get t hlt2
          obtain ⟨b, Hb⟩ : ∃ b, Hid (longB k t = b) := ⟨_, Lib.hid (Eq.refl _)⟩
          have hb2 : b < 2 := by rw [← Hb.out]; exact longB_two _ _
          rw [Hfi.out, Hb.out] at x0
          obtain ⟨q, Hq⟩ : ∃ q, Hid (t / 8 = q) := ⟨_, Lib.hid (Eq.refl _)⟩
          obtain ⟨m, Hm⟩ : ∃ m, Hid (t % 8 = m) := ⟨_, Lib.hid (Eq.refl _)⟩
          have hm8 : m < 8 := by have := Hm.out; omega
          have hql : q ≤ 2000 := by have := Hq.out; omega
          have q1 : (t : Int) / 8 = (q : Int) := by have := Hq.out; omega
          have q2 : (t : Int).tdiv 8 = (q : Int) := by rw [Int.tdiv_eq_ediv_of_nonneg (by omega)]; exact q1
          have m1 : (t : Int) % 8 = (m : Int) := by have := Hm.out; omega
          have m2 : (t : Int).tmod 8 = (m : Int) := by rw [Int.tmod_eq_emod_of_nonneg (by omega)]; exact m1
          have ht8 : t = 8 * q + m := by have := Hq.out; have := Hm.out; omega
          obtain ⟨X, HX⟩ : ∃ x, Hid (longV k % 2 ^ t = x) := ⟨_, Lib.hid (Eq.refl _)⟩
          obtain ⟨Y, HY⟩ : ∃ y, Hid (X / 256 ^ q % 256 = y) := ⟨_, Lib.hid (Eq.refl _)⟩
          obtain ⟨S, HS⟩ : ∃ y, Hid (b * 2 ^ m = y) := ⟨_, Lib.hid (Eq.refl _)⟩
          have hXl : X < 2 ^ (8 * q + m) := by rw [← HX.out, ← ht8]; exact Nat.mod_lt _ (Nat.two_pow_pos _)
          have hp7 : 2 ^ m ≤ 2 ^ 7 := Nat.pow_le_pow_right (by decide) (by omega)
          have hp7b : (2 : Nat) ^ 7 = 128 := by decide
          have hSl : S ≤ 2 ^ m := by
            have := Nat.mul_le_mul_right (2 ^ m) (show b ≤ 1 by omega)
            have := HS.out
            omega
          have hYl : Y < 2 ^ m := by
            have h1 : X / 256 ^ q < 2 ^ m := by
              rw [pow256, Nat.div_lt_iff_lt_mul (Nat.two_pow_pos _), ← Nat.pow_add, Nat.add_comm]
              exact hXl
            have := HY.out
            have := Nat.mod_le (X / 256 ^ q) 256
            omega
          have hor := byte_or Y b m hYl hm8 hb2
          rw [HS.out] at hor
          obtain ⟨Z, HZ⟩ : ∃ y, Hid (Y + S = y) := ⟨_, Lib.hid (Eq.refl _)⟩
          rw [HZ.out] at hor
          have hZl : Z < 256 := by have := HZ.out; omega
          have hsh : ((b : Int) * 2 ^ m) = (S : Int) := by rw [← HS.out]; simp
          have hshw : IntKind.i64.wrap (S : Int) = (S : Int) := IntWalk.i64_in _ (by omega)
          have hcvw : IntKind.u8.wrap (S : Int) = (S : Int) := by rw [IntKind.wrap_u8]; omega
          have hset : (bytesN X (q + 1)).set q (UInt8.ofNat Z) = bytesN (longV k % 2 ^ (t + 1)) ((t + 1 + 7) / 8) := by
            have h := set_byte X q m b hXl hm8 hb2
            rw [HY.out, HS.out, HZ.out] at h
            rw [h, show (t + 1 + 7) / 8 = q + 1 by omega]
            congr 1
            rw [← HX.out, Nat.pow_succ, Nat.mod_mul, ← ht8, ← Hb.out]
            unfold longB
            rw [Nat.mul_comm (2 ^ t)]
          have Hset := Lib.hid hset
          rw [HX.out] at HO
          have Ht8 := Lib.hid ht8
          clear hset hXl hYl hSl hp7 hp7b ht8
          by_cases hm0 : m = 0
          · subst hm0
            have e1 : (t + 7) / 8 = q := by have := Ht8.out; omega
            have m3 : (t : Int) % 8 = 0 := m1
            have m4 : (t : Int).tmod 8 = 0 := m2
            have hS0 : S = b := by have := HS.out; omega
            rw [hS0] at hor hshw hcvw
            clear m1 m2 hsh hS0
            rw [e1] at HO
            have hcat : bytesN X q ++ [0] = bytesN X (q + 1) := by
              rw [bytesN_succ]
              congr 2
              rw [Nat.div_eq_of_lt (by rw [pow256]; rw [← HX.out, Ht8.out]; exact Nat.mod_lt _ (Nat.two_pow_pos _))]
              rfl
            have Hcat := Lib.hid hcat
            have hos := HO.out
            have hbsw : w.heap.size ≤ wr.heap.size := HB.out.size
            clear hcat e1
            go_wp2_with (first
              | (at_builtin; go_must (refine wpList_append_byte_at _ rfl (.tmp 45) (.tmp 46) rfl w.heap.size _ (bytesN X q) 0 hos rfl rfl rfl ?_ ?_ ?_ hbsw ?_; omega; omega; (rw [bytesN_length]; omega); intro v5 WW hown5 hg5 hn5; have HB4 := Lib.hid (HB.out.trans (below_grown hos hg5 hbsw)); have HO4 : Hid (OwnB WW w.heap.size v5 (bytesN X (q + 1))) := Lib.hid (by rw [← Hcat.out]; exact hown5); have HI4 := Lib.hid (HI.out.grown hg5 fun b' off' sp' e e2 => (HF.out b' off' sp' e).2 e2.symm); have HF4 : Hid (∀ b' off' sp', (some ⟨b0, o0, none⟩ : Option Addr) = some ⟨b', off', sp'⟩ → b' < WW.heap.size ∧ v5.ownBlock ≠ some b') := Lib.hid (fun b' off' sp' e => ⟨Nat.lt_of_lt_of_le (HF.out b' off' sp' e).1 hg5.size, hn5 b' (HF.out b' off' sp' e).1 (HF.out b' off' sp' e).2⟩); clear hown5 hg5 hn5 hos))
              | fail)
            obtain ⟨g, cg, rfl, hgw⟩ := HO4.out.form (by rw [bytesN_length]; omega)
            rw [bytesN_length] at HO4 HF4 ⊢
            have c0 := HO4.out.cell q (by rw [bytesN_length]; omega)
            have hfz := HO4.out.free q
            have hY0 : ((bytesN X (q + 1))[q]'(by rw [bytesN_length]; omega)) = UInt8.ofNat (X / 256 ^ q % 256) := by
              have := bytesN_at X (q + 1) q (by omega)
              rw [List.getElem?_eq_getElem (by rw [bytesN_length]; omega)] at this
              injection this
            rw [hY0] at c0
            have hYt : (UInt8.ofNat (X / 256 ^ q % 256)).toNat = Y := by rw [← HY.out]; simp
            rw [hYt] at c0
            have HO5 : Hid (∀ i, OwnB ((WW.drewN i).setCell ⟨g, q, none⟩ (.int .u8 (Z : Int))) w.heap.size (.slice (some ⟨g, 0, none⟩) (q + 1) cg) (bytesN (longV k % 2 ^ (t + 1)) ((t + 1 + 7) / 8))) := by
              intro i
              have h := OwnB.set (w := WW.drewN i) (show OwnB (WW.drewN i) w.heap.size (.slice (some ⟨g, 0, none⟩) (q + 1) cg) (bytesN X (q + 1)) from HO4.out) q (Z : Int) (by omega) (by omega)
              rw [Int.toNat_natCast, Hset.out] at h
              exact h
            have HI5 : Hid (∀ i, IRow ((WW.drewN i).setCell ⟨g, q, none⟩ (.int .u8 (Z : Int))) (some ⟨b0, o0, none⟩) T f) := fun i => irow_far (show IRow (WW.drewN i) (some ⟨b0, o0, none⟩) T f from HI4.out) (fun b off sp e e2 => (HF4.out b off sp e).2 (congrArg some e2))
            have HF5 : Hid (∀ i b off sp, (some ⟨b0, o0, none⟩ : Option Addr) = some ⟨b, off, sp⟩ → b < ((WW.drewN i).setCell ⟨g, q, none⟩ (.int .u8 (Z : Int))).heap.size ∧ (Value.slice (some ⟨g, 0, none⟩) (q + 1) cg).ownBlock ≠ some b) := fun i b off sp e => ⟨by have := (HF4.out b off sp e).1; simpa [World.setCell] using this, (HF4.out b off sp e).2⟩
            have HB5 : Hid (∀ i, Below w.heap.size w ((WW.drewN i).setCell ⟨g, q, none⟩ (.int .u8 (Z : Int)))) := fun i => (below_drewN HB4.out i).setCell hgw _
            have hqI : (q : Int) < ((q + 1 : Nat) : Int) := by omega
            clear hY0 hYt HO4 HI4 HF4 HB4
            go_wp2_with fail
            go_region
            all_goals
              go_wp2_with fail
              go_roundw
              case rel => exact ⟨t + 1, by omega, by go_num, by go_num, HO5.out 1, HI5.out 1, HF5.out 1, HB5.out 1⟩
              case measure => simp [intOf]; omega
          · have dm : ((m : Int) == 0) = false := by simp; omega
            have e1 : (t + 7) / 8 = q + 1 := by have := Ht8.out; omega
            rw [e1] at HO
            obtain ⟨WW, HWW⟩ : ∃ W, Hid (wr = W) := ⟨_, Lib.hid (Eq.refl _)⟩
            rw [HWW.out] at HO HI HF HB x0 ⊢
            have HO4 := HO
            have HI4 := HI
            have HF4 := HF
            have HB4 := HB
            clear e1 HO HI HF HB
            obtain ⟨g, cg, rfl, hgw⟩ := HO4.out.form (by rw [bytesN_length]; omega)
            rw [bytesN_length] at HO4 HF4 ⊢
            have c0 := HO4.out.cell q (by rw [bytesN_length]; omega)
            have hfz := HO4.out.free q
            have hY0 : ((bytesN X (q + 1))[q]'(by rw [bytesN_length]; omega)) = UInt8.ofNat (X / 256 ^ q % 256) := by
              have := bytesN_at X (q + 1) q (by omega)
              rw [List.getElem?_eq_getElem (by rw [bytesN_length]; omega)] at this
              injection this
            rw [hY0] at c0
            have hYt : (UInt8.ofNat (X / 256 ^ q % 256)).toNat = Y := by rw [← HY.out]; simp
            rw [hYt] at c0
            have HO5 : Hid (∀ i, OwnB ((WW.drewN i).setCell ⟨g, q, none⟩ (.int .u8 (Z : Int))) w.heap.size (.slice (some ⟨g, 0, none⟩) (q + 1) cg) (bytesN (longV k % 2 ^ (t + 1)) ((t + 1 + 7) / 8))) := by
              intro i
              have h := OwnB.set (w := WW.drewN i) (show OwnB (WW.drewN i) w.heap.size (.slice (some ⟨g, 0, none⟩) (q + 1) cg) (bytesN X (q + 1)) from HO4.out) q (Z : Int) (by omega) (by omega)
              rw [Int.toNat_natCast, Hset.out] at h
              exact h
            have HI5 : Hid (∀ i, IRow ((WW.drewN i).setCell ⟨g, q, none⟩ (.int .u8 (Z : Int))) (some ⟨b0, o0, none⟩) T f) := fun i => irow_far (show IRow (WW.drewN i) (some ⟨b0, o0, none⟩) T f from HI4.out) (fun b off sp e e2 => (HF4.out b off sp e).2 (congrArg some e2))
            have HF5 : Hid (∀ i b off sp, (some ⟨b0, o0, none⟩ : Option Addr) = some ⟨b, off, sp⟩ → b < ((WW.drewN i).setCell ⟨g, q, none⟩ (.int .u8 (Z : Int))).heap.size ∧ (Value.slice (some ⟨g, 0, none⟩) (q + 1) cg).ownBlock ≠ some b) := fun i b off sp e => ⟨by have := (HF4.out b off sp e).1; simpa [World.setCell] using this, (HF4.out b off sp e).2⟩
            have HB5 : Hid (∀ i, Below w.heap.size w ((WW.drewN i).setCell ⟨g, q, none⟩ (.int .u8 (Z : Int)))) := fun i => (below_drewN HB4.out i).setCell hgw _
            have hqI : (q : Int) < ((q + 1 : Nat) : Int) := by omega
            clear hY0 hYt HO4 HI4 HF4 HB4
            go_wp2_with fail
            go_region
            all_goals
              go_wp2_with fail
              go_roundw
              case rel => exact ⟨t + 1, by omega, by go_num, by go_num, HO5.out 1, HI5.out 1, HF5.out 1, HB5.out 1⟩
              case measure => simp [intOf]; omega
        · have htT : t = T := by omega
          subst htT
          have dt : decide ((t : Int) < (t : Int)) = false := by rw [decide_eq_false_iff_not]; omega
          have hVm : longV k % 2 ^ t = longV k := Nat.mod_eq_of_lt (Nat.lt_of_lt_of_le (longV_lt k) (Nat.pow_le_pow_right (by decide) (by have := HTn.out; omega)))
          rw [hVm] at HO
          obtain ⟨U, HU⟩ : ∃ x, Hid (longS k = x) := ⟨_, Lib.hid (Eq.refl _)⟩
          have hUs : U.size = (t + 7) / 8 := by rw [← HU.out, longS_size, HTn.out]
          obtain ⟨g, cg, rfl, _⟩ := HO.out.form (by rw [bytesN_length]; have := HTn.out; omega)
          have hcv := run_string_own wr _ _ _ HO.out
          have hUe : (⟨(bytesN (longV k) ((t + 7) / 8)).toArray⟩ : ByteArray) = U := by rw [← HU.out, HTn.out]; rfl
          rw [hUe, bytesN_length, ← hUs] at hcv
          rw [bytesN_length, ← hUs]
          have hUl : U.size ≤ 2000 := by rw [hUs]; omega
          have HUs : Hid (U.size = (18 + 13 * k + 7) / 8) := by show _ = _; rw [hUs, HTn.out]
          clear hVm hUs hUe HO HI HF
          by_cases hm0 : most < 0
          · have e0 : decide (most < 0) = true := by rw [decide_eq_true_eq]; exact hm0
            have CI := Lib.hid (fun W => inflate_bad U 0 most (by omega) W)
            clear hm0
            go_wp2_with fail
            refine (CI.out _).mono ?_
            rintro e w3 ⟨rfl, rfl⟩
            go_wp2_with fail
            refine (CA.out _).mono ?_
            rintro e w4 ⟨rfl, hb4⟩
            have HB4 := Lib.hid (bthen HB.out hb4)
            clear hb4
            go_wp2_with fail
            go_ret
            exact ⟨rfl, HB4.out⟩
          · have e0 : decide (most < 0) = false := by rw [decide_eq_false_iff_not]; exact hm0
            by_cases hm1 : 65536 < most
            · have e1 : decide (65536 < most) = true := by rw [decide_eq_true_eq]; exact hm1
              have CI := Lib.hid (fun W => inflate_bad U 0 most (by omega) W)
              clear hm0 hm1
              go_wp2_with fail
              refine (CI.out _).mono ?_
              rintro e w3 ⟨rfl, rfl⟩
              go_wp2_with fail
              refine (CA.out _).mono ?_
              rintro e w4 ⟨rfl, hb4⟩
              have HB4 := Lib.hid (bthen HB.out hb4)
              clear hb4
              go_wp2_with fail
              go_ret
              exact ⟨rfl, HB4.out⟩
            · obtain ⟨M, rfl⟩ : ∃ M : Nat, most = (M : Int) := ⟨most.toNat, by omega⟩
              have e1 : decide ((65536 : Int) < (M : Int)) = false := by rw [decide_eq_false_iff_not]; exact hm1
              have e1b : decide (65536 < M) = false := by rw [decide_eq_false_iff_not]; omega
              obtain ⟨Z, HZ⟩ : ∃ z, Hid (258 * k = z) := ⟨_, Lib.hid (Eq.refl _)⟩
              have hZl : Z ≤ 103200 := by have := HZ.out; omega
              have w1 : (258 : Int) * (k : Int) = (Z : Int) := by have := HZ.out; omega
              have hli := long_infl k M
              rw [HU.out, HZ.out] at hli
              by_cases hfit : 1 + Z ≤ M
              · have d5 : decide ((M : Int) < 1 + (Z : Int)) = false := by rw [decide_eq_false_iff_not]; omega
                rw [if_pos hfit] at hli
                have CI0 := fun W => inflate_is_ok (s := U) (q := 0) (most := M) (by omega) (Nat.zero_le _) (by omega) (extract_all U) hli W
                rw [long_join k, HZ.out] at CI0
                obtain ⟨R, HR⟩ : ∃ x, Hid ((⟨(List.replicate (1 + Z) (0 : UInt8)).toArray⟩ : ByteArray) = x) := ⟨_, Lib.hid (Eq.refl _)⟩
                have hRs : R.size = 1 + Z := by
                  rw [← HR.out]
                  show (List.replicate (1 + Z) (0 : UInt8)).toArray.size = _
                  simp
                have HRb : Hid (∀ i (h : i < R.size), (R[i]).toNat = 0) := by
                  refine Lib.hid ?_
                  rw [← HR.out]
                  intro i h
                  have e : ((⟨(List.replicate (1 + Z) (0 : UInt8)).toArray⟩ : ByteArray)[i]).toNat = ((List.replicate (1 + Z) (0 : UInt8)).toArray[i]'h).toNat := rfl
                  rw [e]
                  simp
                have hk2 : (8 * U.size - (8 * ((18 + 13 * k + 7) / 8) - (18 + 13 * k)) + 7) / 8 = U.size := by rw [HUs.out]; omega
                rw [HR.out] at CI0
                dsimp only at CI0
                rw [hk2] at CI0
                have CI := Lib.hid CI0
                clear CI0 hk2 hli hm0 hm1 hfit
                go_wp2_with fail
                refine (CI.out _).mono ?_
                rintro e w3 ⟨rfl, hb3⟩
                have HB3 := Lib.hid (bthen HB.out hb3)
                have hRI : (R.size : Int) = 1 + (Z : Int) := by rw [hRs]; omega
                clear hb3 hcv
                go_wp2_with fail
                go_loopw [15] (fun i_ wx => ∃ i : Nat, i ≤ 1 + Z ∧ i_ = .int .i64 (i : Int) ∧ wx = w3) (fun i_ _ => 1 + Z - (intOf i_).toNat)
                case atStart => exact ⟨0, by omega, rfl, by first | rfl | trivial⟩
                case round =>
                  obtain ⟨i, hi, rfl, hwx⟩ := hrel
                  have hwy := hwx.symm
                  subst hwy
                  by_cases hlt3 : i < 1 + Z
                  · have d6 : decide ((i : Int) < 1 + (Z : Int)) = true := by rw [decide_eq_true_eq]; omega
                    have hiR : i < R.size := by omega
                    have hiRI : (i : Int) < (R.size : Int) := by omega
                    have hix : ∀ W, (Instr.index 9 (.string R) (.int .i64 (i : Int))).run Try.prog W = .ok (.int .u8 0) W := fun W => by
                      have e : ((i : Int)).toNat = i := by omega
                      rw [run_index_string W 9 R .i64 (i : Int) Try.underlying9, dif_pos ⟨by omega, by omega⟩]
                      simp only [e, HRb.out i hiR]
                      rfl
                    go_wp2_with fail
                    go_roundw
                    case rel => exact ⟨i + 1, by omega, by go_num, by first | rfl | trivial⟩
                    case measure => simp [intOf]; omega
                  · have d6 : decide ((i : Int) < 1 + (Z : Int)) = false := by rw [decide_eq_false_iff_not]; omega
                    go_wp2_with fail
                    refine (CA.out _).mono ?_
                    rintro e w4 ⟨rfl, hb4⟩
                    have HB4 := Lib.hid (bthen HB3.out hb4)
                    clear hb4
                    go_wp2_with fail
                    go_ret
                    exact ⟨rfl, HB4.out⟩
              · have d5 : decide ((M : Int) < 1 + (Z : Int)) = true := by rw [decide_eq_true_eq]; omega
                rw [if_neg hfit] at hli
                have CI := Lib.hid (fun W => inflate_is_err (s := U) (q := 0) (most := M) (by omega) (Nat.zero_le _) (by omega) (extract_all U) hli W)
                clear hli hm0 hm1 hfit
                go_wp2_with fail
                refine (CI.out _).mono ?_
                rintro e w3 ⟨rfl, hb3⟩
                have HB3 := Lib.hid (bthen HB.out hb3)
                clear hb3 hcv
                go_wp2_with fail
                refine (CA.out _).mono ?_
                rintro e w4 ⟨rfl, hb4⟩
                have HB4 := Lib.hid (bthen HB3.out hb4)
                clear hb4
                go_wp2_with fail
                go_ret
                exact ⟨rfl, HB4.out⟩

theorem long_any (n most : Int) (_l1 : -9223372036854775808 ≤ n) (_l2 : n ≤ 9223372036854775807) (lo : -9223372036854775808 ≤ most) (hi : most ≤ 9223372036854775807) (w : World) : Calls Try.prog 12 #[.int .i64 n, .int .i64 most] w fun e w' => e = .returned (.bool true) ∧ Below w.heap.size w w' := by
  by_cases h : n < 0 ∨ 400 < n
  · exact long_out n most h w
  · obtain ⟨m, rfl⟩ : ∃ m : Nat, n = (m : Int) := ⟨n.toNat, by omega⟩
    exact long_in m (by omega) most lo hi w
end Go.Proofs.Ytjnglahjngiofaa
