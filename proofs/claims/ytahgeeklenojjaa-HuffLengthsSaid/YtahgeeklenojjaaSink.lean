/- bitio's sinks: Put. Conditions: none. -/
import Derived.Test.YtahgeeklenojjaaTurn
namespace Go.Proofs.Ytahgeeklenojjaa
open Go.RowKit
set_option maxRecDepth 100000

/-- The sink at block P, whose full bytes are v, holds the first c bits of V. -/
def SinkAt (w : World) (P : Nat) (v : Value) (V c : Nat) : Prop :=
  Blk w P 36 #[v, .int .u64 ((V / 2 ^ (8 * (c / 8)) : Nat) : Int), .int .i64 ((c % 8 : Nat) : Int)] ∧ OwnB w (P + 1) v (bytesN V (c / 8)) ∧ V < 2 ^ c
/-- Nothing changed but the sink at P and its row v. -/
def Chg (w w' : World) (P : Nat) (v : Value) : Prop :=
  (w'.os = w.os ∧ w'.tape = w.tape ∧ w'.output = w.output) ∧ w.heap.size ≤ w'.heap.size ∧ ∀ g, g < w.heap.size → g ≠ P → v.ownBlock ≠ some g → w'.heap[g]? = w.heap[g]?

/-- The nearest of 0 to 32. -/
def Clamp (N : Int) (k : Nat) : Prop := (N < 0 ∧ k = 0) ∨ (N = (k : Int) ∧ k ≤ 32) ∨ (32 < N ∧ k = 32)

theorem Chg.refl (w : World) (P : Nat) (v : Value) : Chg w w P v := ⟨⟨rfl, rfl, rfl⟩, Nat.le_refl _, fun _ _ _ _ => rfl⟩
def Fresh (w : World) (v v' : Value) : Prop := ∀ g, g < w.heap.size → v.ownBlock ≠ some g → v'.ownBlock ≠ some g
theorem Chg.trans {w w1 w2 : World} {P : Nat} {v v1 : Value} (h1 : Chg w w1 P v) (hf : Fresh w v v1) (h2 : Chg w1 w2 P v1) : Chg w w2 P v :=
  ⟨⟨h2.1.1.trans h1.1.1, h2.1.2.1.trans h1.1.2.1, h2.1.2.2.trans h1.1.2.2⟩, Nat.le_trans h1.2.1 h2.2.1, fun g hg hP hv => (h2.2.2 g (Nat.lt_of_lt_of_le hg h1.2.1) hP (hf g hg hv)).trans (h1.2.2 g hg hP hv)⟩
theorem Chg.below {w0 w w' : World} {P : Nat} {v : Value} (h : Chg w w' P v) (hb : Below w0.heap.size w0 w) (hP : w0.heap.size ≤ P) (hv : ∀ g, v.ownBlock = some g → w0.heap.size ≤ g) : Below w0.heap.size w0 w' :=
  ⟨h.1.1.trans hb.os, h.1.2.1.trans hb.tape, h.1.2.2.trans hb.output, Nat.le_trans hb.size h.2.1, fun g hg =>
    (h.2.2 g (Nat.lt_of_lt_of_le hg hb.size) (by omega) (fun e => by have := hv g e; omega)).trans (hb.block g hg)⟩
theorem Fresh.refl (w : World) (v : Value) : Fresh w v v := fun _ _ h => h
theorem Fresh.trans {w w1 : World} {v v1 v2 : Value} (h1 : Fresh w v v1) (hs : w.heap.size ≤ w1.heap.size) (h2 : Fresh w1 v1 v2) : Fresh w v v2 := fun g hg h => h2 g (Nat.lt_of_lt_of_le hg hs) (h1 g hg h)

/-- The step of append in a region that draws its order, told besides that no older block but its own row holds the new one. -/
theorem step_append_lit_at {ops : Array Oper} {o : Oper} {a : Act} {K : Act → World → Prop} {Q : Exit → Act → World → Prop} {E : Prop} (w : World) (hgd : o.guard = none) (s x : Operand) {t e : TypeId}
    (ho : o.op = .call { callee := .builtin .append, args := #[s, x], argTypes := #[t, t] })
    (ht : Try.prog.underlying t = some (.slice e)) {z : Value} {size bytes : Nat} (hI : (Try.prog.info? e).map (fun i => (i.zero, i.size, i.bytes)) = some (some z, size, bytes)) (hzs : z.cells.size = size) (hsz : 0 < size)
    (base : Nat) (v : Value) (n : Nat) (xs us : List Value) (k : Nat) (hown : w.ownsRow base e size v n xs) (hus : us.length = k * size) (h1 : ∀ u ∈ us, u.oneCell' = true) (hs : a.eval s = v)
    {sz : Nat} (hx : a.eval x = .slice (some ⟨sz, 0, none⟩) k k) (hsize : sz = w.heap.size) (hm : n + k ≤ maxLen) (hl : (n + k) * bytes ≤ 140737488355328) (hbase : base ≤ w.heap.size)
    {w1 : World} (hw1 : w1 = w.alloc (.cells us.toArray e))
    (h : ∀ v' w', w'.ownsRow base e size v' (n + k) (xs ++ us) → w.grownBy w' v.ownBlock → (∀ g, g < w.heap.size → v.ownBlock ≠ some g → v'.ownBlock ≠ some g) → K (a.put o.dst v') w') :
    if Region.wanted o (yielded ops a.tmps) = true then Oper.wp Try.prog o a w1 K Q else E := by
  have hw : Region.wanted o (yielded ops a.tmps) = true := by simp [Region.wanted, hgd]
  rw [if_pos hw]
  exact wp_append_lit_at w s x ho ht hI hzs hsz base v n xs us k hown hus h1 hs hx hsize hm hl hbase hw1 h

def cellNat (w : World) (p : Addr) : Nat := (intOf ((w.cell? p).getD undef)).toNat
theorem cellNat_of {w : World} {p : Addr} {n : Nat} (h : w.cell? p = some (.int .i64 (n : Int))) : cellNat w p = n := by unfold cellNat; rw [h]; simp [intOf]

theorem mask_one (x k : Nat) (hx : x < 4294967296) (hk : k ≤ 32) : bits .and .u64 (x : Int) ((2 : Int) ^ k - 1) = ((x % 2 ^ k : Nat) : Int) := by
  have hp := pow_pos2 k
  have h6 : 2 ^ k ≤ 2 ^ 32 := Nat.pow_le_pow_right (by decide) hk
  have h7 : (2 : Nat) ^ 32 = 4294967296 := by decide
  have e : (2 : Int) ^ k - 1 = ((2 ^ k - 1 : Nat) : Int) := by
    have : (2 : Int) ^ k = ((2 ^ k : Nat) : Int) := by simp
    omega
  rw [e, u64_and_nat _ _ (by omega) (by omega), and_mask]
theorem wrap_pow (k : Nat) (hk : k ≤ 32) : IntKind.u64.wrap (IntKind.u64.wrap ((2 : Int) ^ k) - 1) = (2 : Int) ^ k - 1 := by
  have hp := pow_pos2 k
  have h6 : 2 ^ k ≤ 2 ^ 32 := Nat.pow_le_pow_right (by decide) hk
  have h7 : (2 : Nat) ^ 32 = 4294967296 := by decide
  have : (2 : Int) ^ k = ((2 ^ k : Nat) : Int) := by simp
  rw [this, IntKind.wrap_u64, IntKind.wrap_u64]
  omega

theorem own_cell {w : World} {base e size n : Nat} {v : Value} {xs : List Value} (h : w.ownsRow base e size v n xs) (P i : Nat) (hP : P < base) (u : Value) : (w.setCell ⟨P, i, none⟩ u).ownsRow base e size v n xs := by
  refine ⟨h.1, ?_⟩
  rcases h.2 with hn | ⟨g, cap, cur, rfl, hbb, hh, r⟩
  · exact .inl hn
  · exact .inr ⟨g, cap, cur, rfl, hbb, (heap_setCell_other w ⟨P, i, none⟩ g u (by show g ≠ P; omega)).trans hh, r⟩

/-- What the loop of Put holds: j bytes are full. -/
def PutAt (w : World) (P : Nat) (v : Value) (V c j : Nat) : Prop :=
  Blk w P 36 #[v, .int .u64 ((V / 2 ^ (8 * j) : Nat) : Int), .int .i64 ((c - 8 * j : Nat) : Int)] ∧ OwnB w (P + 1) v (bytesN V j)

theorem own_byte {w : World} {base : Nat} {v : Value} {U j L : Nat} (hL : U / 2 ^ (8 * j) = L) (h : w.ownsRow base 5 1 v ((bytesN U j).length + 1) (bcells (bytesN U j) ++ [.int .u8 ((L : Int) % 256)])) : OwnB w base v (bytesN U (j + 1)) := by
  unfold OwnB
  rw [bytesN_succ, bcells_append, List.length_append, pow256, hL]
  have e : bcells [UInt8.ofNat (L % 256)] = [.int .u8 ((L : Int) % 256)] := by
    simp [bcells]
  rw [e]
  exact h
theorem chg_step {w wr w2 : World} {P : Nat} {v v1 : Value} (hC : Chg w wr P v) (hF : Fresh w v v1) (hg : wr.drew.grownBy w2 v1.ownBlock) (a b c : Value) :
    Chg w (((w2.setCell ⟨P, 0, none⟩ a).setCell ⟨P, 1, none⟩ b).setCell ⟨P, 2, none⟩ c) P v := by
  refine Chg.trans hC hF ⟨⟨hg.os, hg.tape, hg.output⟩, ?_, fun g hg1 hP hv => ?_⟩
  · simp only [World.size_setCell]; exact hg.size
  · rw [heap_setCell_other _ _ _ _ (by simpa using hP), heap_setCell_other _ _ _ _ (by simpa using hP), heap_setCell_other _ _ _ _ (by simpa using hP)]
    exact hg.block g hg1 (fun h => hv h.symm)

set_option maxHeartbeats 8000000 in
theorem sinkPut_any (P : Nat) (v : Value) (V c x k : Nat) (N : Int) (hx : x < 4294967296) (hN : Clamp N k) (hc : c ≤ 1000000000) (w : World) (hS : SinkAt w P v V c) :
    Calls Try.prog 26 #[.pointer (some ⟨P, 0, none⟩), .int .u32 (x : Int), .int .i64 N] w fun e w' =>
      e = .returned (.tuple #[]) ∧ ∃ v', SinkAt w' P v' (V + x % 2 ^ k * 2 ^ c) (c + k) ∧ Chg w w' P v ∧ Fresh w v v' := by
  have hk : k ≤ 32 := by unfold Clamp at hN; omega
  obtain ⟨hB, hO, hV⟩ := hS
  have hc1 := hB.cell 0
  have hc2 := hB.cell 1
  have hc3 := hB.cell 2
  have hf1 := hB.frozen 0
  have hf2 := hB.frozen 1
  have hf3 := hB.frozen 2
  have hV' := put_lt V x k c hV
  have hT := put_hi V (x % 2 ^ k) c (8 * (c / 8)) (by omega)
  have hA2 : V / 2 ^ (8 * (c / 8)) < 2 ^ (c % 8) := by
    rw [Nat.div_lt_iff_lt_mul (pow_pos2 _), ← Nat.pow_add, show c % 8 + 8 * (c / 8) = c by omega]
    exact hV
  rw [show c - 8 * (c / 8) = c % 8 by omega] at hT
  have hlow := bytesN_low V (x % 2 ^ k) c (c / 8) (by omega)
  obtain ⟨A, hA⟩ : ∃ A, V / 2 ^ (8 * (c / 8)) = A := ⟨_, rfl⟩
  obtain ⟨m, hm⟩ : ∃ m, c % 8 = m := ⟨_, rfl⟩
  obtain ⟨e, he⟩ : ∃ e, x % 2 ^ k = e := ⟨_, rfl⟩
  have hmk := mask_one x k hx hk
  have hwk := wrap_pow k hk
  rw [hA] at hA2 hT
  rw [hm] at hA2 hT
  rw [he] at hmk hT hlow hV' ⊢
  have hm8 : m < 8 := by omega
  have he2 : e < 2 ^ k := by rw [← he]; exact Nat.mod_lt _ (pow_pos2 k)
  have hE : e * 2 ^ m + 2 ^ m ≤ 549755813888 := by
    have h1 := Nat.mul_le_mul_right (2 ^ m) (show e + 1 ≤ 2 ^ k from he2)
    rw [← Nat.pow_add, Nat.add_mul, Nat.one_mul] at h1
    have h2 : (2 : Nat) ^ (k + m) ≤ 2 ^ 39 := Nat.pow_le_pow_right (by decide) (by omega)
    have h3 : (2 : Nat) ^ 39 = 549755813888 := by decide
    omega
  have hw1 : IntKind.u64.wrap ((e : Int) * 2 ^ m) = ((e * 2 ^ m : Nat) : Int) := by
    have : (e : Int) * 2 ^ m = ((e * 2 ^ m : Nat) : Int) := by simp
    rw [this, IntKind.wrap_u64]; omega
  have hor : bits .or .u64 (A : Int) ((e * 2 ^ m : Nat) : Int) = ((A + e * 2 ^ m : Nat) : Int) := by
    rw [u64_or_nat _ _ (by omega) (by omega), or_add _ _ _ hA2]
  simp only [hA, hm] at hB hc1 hc2 hc3
  simp at hc1 hc2 hc3
  have HV := Lib.hid hV
  have HV' := Lib.hid hV'
  have Hlow := Lib.hid hlow
  have HT := Lib.hid hT
  have HA2 := Lib.hid hA2
  have HA := Lib.hid hA
  have Hm := Lib.hid hm
  have He := Lib.hid he
  have He2 := Lib.hid he2
  clear hV hV' hlow hT hA2 hA hm he he2
  obtain ⟨E, hE0⟩ : ∃ E, e * 2 ^ m = E := ⟨_, rfl⟩
  rw [hE0] at hw1 hor hE HT
  have HE := Lib.hid hE0
  clear hE0
  obtain ⟨U, HU⟩ : ∃ U, Hid (V + e * 2 ^ c = U) := ⟨_, rfl⟩
  rw [HU.out] at HT HV' Hlow ⊢
  go_enter Try.func26, Try.ntmps26
  obtain ⟨K, HK, hK32⟩ : ∃ K, Hid (K = k) ∧ K ≤ 32 := ⟨k, rfl, hk⟩
  obtain ⟨M1, HM1⟩ : ∃ M : Int, Hid ((if (32 : Int) < N then 32 else N) = M) := ⟨_, Lib.hid (Eq.refl _)⟩
  have hmin : ∀ W, Sem.run Try.prog (Builtin.min_ #[3, 3] 3 #[.int .i64 N, .int .i64 32]) W = .ok (.int .i64 M1) W := fun W => by
    rw [← HM1.out]
    show Result.ok (Value.int .i64 (if (32 : Int) < N then 32 else N)) W = _
    rfl
  have hmax : ∀ W, Sem.run Try.prog (Builtin.max_ #[3, 3] 3 #[.int .i64 0, .int .i64 M1]) W = .ok (.int .i64 (K : Int)) W := fun W => by
    have e : (if M1 > 0 then M1 else 0) = (K : Int) := by
      rw [← HM1.out, HK.out]
      unfold Clamp at hN
      split <;> split <;> omega
    show Result.ok (Value.int .i64 (if M1 > 0 then M1 else 0)) W = _
    rw [e]
  rw [← HK.out] at hmk hwk
  go_wp2_with fail
  clear hmin hmax
  go_region
  all_goals go_wp2_with fail
  go_loopw [38] (fun _ wr => ∃ j v', c / 8 ≤ j ∧ 8 * j ≤ c + K ∧ PutAt wr P v' U (c + K) j ∧ Chg w wr P v ∧ Fresh w v v')
    (fun _ wr => cellNat wr ⟨P, 2, none⟩)
  case atStart =>
    refine ⟨c / 8, v, Nat.le_refl _, by omega, ⟨?_, ?_⟩, ?_, Fresh.refl _ _⟩
    · rw [HT.out, show c + K - 8 * (c / 8) = m + K by have := Hm.out; omega, HK.out]
      exact (hB.set_ 1 (.int .u64 ((A + E : Nat) : Int))).drew.set_ 2 _
    · rw [Hlow.out]
      exact own_cell (own_cell hO P 1 (by omega) _) P 2 (by omega) _
    · exact ⟨⟨rfl, rfl, rfl⟩, by simp, fun g hg hP hv => (heap_setCell_other _ _ _ _ (by simpa using hP)).trans (heap_setCell_other _ _ _ _ (by simpa using hP))⟩
  case round =>
    clear hB hO hc1 hc2 hc3 hf1 hf2 hf3
    obtain ⟨j, v1, hj, hjc, ⟨hB, hO⟩, hC, hF⟩ := hrel
    have hc1 := hB.cell 0
    have hc2 := hB.cell 1
    have hc3 := hB.cell 2
    have hf1 := hB.frozen 0
    have hf2 := hB.frozen 1
    have hf3 := hB.frozen 2
    have hLe : U / 2 ^ (8 * j) ≤ A + E := by
      rw [← HT.out]
      exact Nat.div_le_div_left (Nat.pow_le_pow_right (by decide) (by omega)) (pow_pos2 _)
    have HA2' := HA2.out
    have hLl : U / 2 ^ (8 * j) < 549755813888 := by omega
    have hM := cellNat_of hc3
    obtain ⟨r, hr⟩ : ∃ r, c + K - 8 * j = r := ⟨_, rfl⟩
    obtain ⟨L, hL⟩ : ∃ L, U / 2 ^ (8 * j) = L := ⟨_, rfl⟩
    simp only [hr, hL] at hB hc1 hc2 hc3 hM
    rw [hL] at hLl
    have hlen := bytesN_length U j
    have Hr := Lib.hid hr
    have HL := Lib.hid hL
    simp at hc1 hc2 hc3
    have hrl : r ≤ 1000000032 := by omega
    have hPl := hB.lt
    clear hr hL hLe HA2' hmk hwk hw1 hor
    by_cases h8 : 8 ≤ r
    · go_wp2_with fail
      have hne : v1.ownBlock ≠ some P := fun h => by have := (World.ownsRow.lt hO _ h).1; omega
      go_region_law (refine step_append_lit_at wr.drew rfl (.tmp 51) (.tmp 57) rfl Try.underlying33 info_u8 rfl (by decide) (P + 1) v1 (bytesN U j).length (bcells (bytesN U j)) [.int .u8 ((L : Int) % 256)] 1 hO.drew rfl ?_ ?_ (sz := wr.heap.size) ?_ ?_ ?_ ?_ hPl ?_ ?_; intro y hy; simp at hy; subst hy; rfl; rfl; rfl; rfl; rw [hlen]; unfold maxLen; omega; rw [hlen]; omega; rfl; intro v2 w2 hown2 hg2 hat2; obtain ⟨g2, cap2, rfl, hg2b⟩ := World.ownsRow.form hown2 (Nat.succ_pos _); have hB2 := hB.drew.grown hg2 (fun h => hne h.symm); have hd1 := hB2.cell 0; have hd2 := hB2.cell 1; have hd3 := hB2.cell 2; have hfd1 := hB2.frozen 0; have hfd2 := hB2.frozen 1; have hfd3 := hB2.frozen 2; simp at hd1 hd2 hd3)
      all_goals
        go_wp2_with fail
        go_roundw
        case rel =>
          have hown3 := own_byte HL.out hown2
          rw [hlen] at hown3
          refine ⟨j + 1, _, by omega, by have := Hr.out; omega, ⟨?_, own_cell (own_cell (own_cell (hown3) P 0 (by omega) _) P 1 (by omega) _) P 2 (by omega) _⟩, chg_step hC hF hg2 _ _ _, hF.trans hC.2.1 (by rw [← hlen]; exact hat2)⟩
          have e1 : U / 2 ^ (8 * (j + 1)) = L / 256 := by
            rw [← HL.out, Nat.div_div_eq_div_mul, show (256 : Nat) = 2 ^ 8 by decide, ← Nat.pow_add]
            congr 1
          have e2 : ((c + K - 8 * (j + 1) : Nat) : Int) = (r : Int) - 8 := by have := Hr.out; omega
          rw [e1, e2]
          exact ((hB2.set_ 0 _).set_ 1 _).set_ 2 _
        case measure =>
          have hM2 : cellNat ((((w2.setCell ⟨P, 0, none⟩ (.slice (some ⟨g2, 0, none⟩) (j + 1) cap2)).setCell ⟨P, 1, none⟩ (.int .u64 ((L : Int) / 256))).setCell ⟨P, 2, none⟩ (.int .i64 ((r : Int) - 8)))) ⟨P, 2, none⟩ = r - 8 := by
            have h := (((hB2.set_ 0 (.slice (some ⟨g2, 0, none⟩) (j + 1) cap2)).set_ 1 (.int .u64 ((L : Int) / 256))).set_ 2 (.int .i64 ((r : Int) - 8))).cell 2
            refine cellNat_of (h.trans ?_)
            have e : (((r - 8 : Nat) : Int)) = (r : Int) - 8 := by omega
            rw [e]
            rfl
          rw [hM, hM2]
          omega
    · go_wp2_with fail
      (try simp only [Exit.inBlock, Exit.then]); refine bodyPost_end (results_none rfl _ _ _) rfl ?_
      have hj2 : j = (c + K) / 8 := by have := Hr.out; omega
      refine ⟨rfl, v1, ⟨?_, by rw [← HK.out, ← hj2]; exact hO, HV'.out⟩, hC, hF⟩
      have e2 : (c + K) % 8 = r := by have := Hr.out; omega
      rw [← HK.out, e2, ← hj2, HL.out]
      exact hB
end Go.Proofs.Ytahgeeklenojjaa
