/- digest.Hash.Sum. Printed by gen_shas.py. Conditions: texts of at most ten thousand bytes. -/
import Derived.Test.YtbccljpbnbobmaaShaW
namespace Go.Proofs.Ytbccljpbnbobmaa
open Go.RowKit
set_option maxRecDepth 100000

def be4 (x : Nat) : List UInt8 := [UInt8.ofNat (x / 16777216 % 256), UInt8.ofNat (x / 65536 % 256), UInt8.ofNat (x / 256 % 256), UInt8.ofNat (x % 256)]
def outB (D : Nat → Nat) : Nat → List UInt8
  | 0 => []
  | k + 1 => outB D k ++ be4 (D k)
theorem outB_succ (D : Nat → Nat) (k : Nat) : outB D (k + 1) = outB D k ++ be4 (D k) := by rw [outB]
theorem outB_len (D : Nat → Nat) (k : Nat) : (outB D k).length = 4 * k := by
  induction k with
  | zero => rfl
  | succ k ih => rw [outB_succ, List.length_append, ih]; show _ + 4 = _; omega
def shb (m k : Nat) : UInt8 := UInt8.ofNat (m / 2 ^ (56 - 8 * k) % 256)
def be8 (m : Nat) : Nat → List UInt8
  | 0 => []
  | k + 1 => be8 m k ++ [shb m k]
theorem be8_succ (m k : Nat) : be8 m (k + 1) = be8 m k ++ [shb m k] := by rw [be8]
theorem be8_len (m k : Nat) : (be8 m k).length = k := by
  induction k with
  | zero => rfl
  | succ k ih => rw [be8_succ, List.length_append, ih]; rfl
/-- What stands behind the last bytes: R of them in the last block, n in all. -/
def padL (R n : Nat) : List UInt8 := 128 :: List.replicate ((119 - R) % 64) 0 ++ be8 (n * 8) 8
theorem wpList_append_four {ops : Array Oper} {rest : List Oper} {o : Oper} {a : Act} {Q : Exit → Act → World → Prop} (w : World) (hgd : o.guard = none) (s x : Operand)
    (ho : o.op = .call { callee := .builtin .append, args := #[s, x], argTypes := #[31, 31] })
    (base : Nat) (v : Value) (l : List UInt8) (u0 u1 u2 u3 : Int) (hown : OwnB w base v l) (hs : a.eval s = v)
    {sz : Nat} (hx : a.eval x = .slice (some ⟨sz, 0, none⟩) 4 4) (hsize : sz = w.heap.size) (h0 : (0 ≤ u0 ∧ u0 < 256) ∧ (0 ≤ u1 ∧ u1 < 256) ∧ (0 ≤ u2 ∧ u2 < 256) ∧ (0 ≤ u3 ∧ u3 < 256)) (hl : l.length < 100000) (hbase : base ≤ w.heap.size)
    (h : ∀ v' w', OwnB w' base v' (l ++ [UInt8.ofNat u0.toNat, UInt8.ofNat u1.toNat, UInt8.ofNat u2.toNat, UInt8.ofNat u3.toNat]) → Below base w w' → wpList Try.prog ops Q rest (a.put o.dst v') w') :
    wpList Try.prog ops Q (o :: rest) a (w.alloc (.cells #[.int .u8 u0, .int .u8 u1, .int .u8 u2, .int .u8 u3] 5)) := by
  refine wpList_plain hgd fun _ hK => wp_append_lit w s x ho Try.underlying31 info_u8 rfl (by decide) base v l.length (bcells l) [.int .u8 u0, .int .u8 u1, .int .u8 u2, .int .u8 u3] 4 hown rfl (by intro y hy; simp at hy; rcases hy with rfl | rfl | rfl | rfl <;> rfl) hs hx hsize
    (by unfold maxLen; omega) (by omega) hbase rfl fun v' w' h2 h3 => hK _ _ ?_
  refine h v' w' ?_ (below_grown hown h3 hbase)
  unfold OwnB
  rw [bcells_append, List.length_append]
  have : bcells [UInt8.ofNat u0.toNat, UInt8.ofNat u1.toNat, UInt8.ofNat u2.toNat, UInt8.ofNat u3.toNat] = [.int .u8 u0, .int .u8 u1, .int .u8 u2, .int .u8 u3] := by
    simp only [bcells, List.map_cons, List.map_nil, ofNat_byte u0 h0.1.1 h0.1.2, ofNat_byte u1 h0.2.1.1 h0.2.1.2, ofNat_byte u2 h0.2.2.1.1 h0.2.2.1.2, ofNat_byte u3 h0.2.2.2.1 h0.2.2.2.2]
  rw [this]
  exact h2
theorem made_32 (W : World) : (Instr.makeSlice 31 (.int .i64 0) (.int .i64 32)).run Try.prog W = .ok (.slice (some ⟨W.heap.size, 0, none⟩) 0 32) (W.alloc (.cells (fcells 32 fun _ => .int .u8 0) 5)) := by kernel_rfl
theorem hcells_one (f : Nat → Nat) (r : ByteArray) (n : Nat) (b : Bool) : (hcells f r n b).all (·.oneCell') = true := by
  rw [Array.all_eq_true_iff_forall_mem]
  intro v hv
  unfold hcells fcells at hv
  simp only [List.mem_toArray, List.mem_map] at hv
  obtain ⟨i, _, rfl⟩ := hv
  unfold hval
  split
  · rfl
  split
  · rfl
  split <;> rfl
theorem ownB_pad (w : World) (g base z : Nat) (hg : base ≤ g) (hz : z ≤ 64) (h : Blk w g 5 ((fcells (1 + z) fun _ => Value.int .u8 0).setIfInBounds 0 (.int .u8 128))) : OwnB w base (.slice (some ⟨g, 0, none⟩) (1 + z) (1 + z)) (128 :: List.replicate z 0) := by
  have e : ((fcells (1 + z) fun _ => Value.int .u8 0).setIfInBounds 0 (.int .u8 128)).toList = bcells (128 :: List.replicate z 0) := by
    apply List.ext_getElem?
    intro i
    rw [Array.getElem?_toList, fcells_set]
    by_cases hi : i < 1 + z
    · rw [fcells_at _ _ _ hi]
      unfold bcells
      cases i with
      | zero => rfl
      | succ i =>
        rw [List.map_cons, List.getElem?_cons_succ, List.map_replicate, List.getElem?_replicate]
        have h1 : i < z := by omega
        rw [if_pos h1, if_neg (by omega)]
        rfl
    · rw [fcells_out _ _ _ hi]
      unfold bcells
      rw [List.getElem?_eq_none]
      simp; omega
  have hl : (128 :: List.replicate z (0 : UInt8)).length = 1 + z := by simp; omega
  unfold OwnB
  rw [hl]
  refine ⟨by simp [bcells]; omega, .inr ⟨g, 1 + z, _, rfl, hg, h, Nat.le_refl _, by unfold maxLen; omega, by simp [fcells_size], ?_⟩⟩
  rw [e, List.take_of_length_le (by simp [bcells]; omega)]

set_option maxHeartbeats 16000000 in
theorem sum_gen (H : Nat) (f F : Nat → Nat) (r : ByteArray) (hr : r.size < 64) (n : Nat) (hn : n ≤ 900000) (b : Bool)
    (hCW : ∀ W E (pad : ByteArray), pad.size ≤ 200 → Blk W E 55 (hcells f r n b) → Calls Try.prog 36 #[.pointer (some ⟨E, 0, none⟩), .string pad] W (endR W E F (r.data.toList ++ pad.data.toList) (n + pad.size)))
    (t : List UInt8) (ht : t = r.data.toList ++ padL r.size n) (DD : Nat → Nat) (hDD : DD = runG F t (t.length / 64)) (hDl : ∀ j, j < 72 → DD j < 4294967296)
    (w : World) (hB : Blk w H 55 (hcells f r n b)) :
    Calls Try.prog 37 #[.pointer (some ⟨H, 0, none⟩)] w fun e w' => e = .returned (.string ⟨(outB DD 8).toArray⟩) ∧ Below w.heap.size w w' := by
  have HCW := Lib.hid hCW
  have HB := Lib.hid hB
  obtain ⟨R, hR⟩ : ∃ R, R = r.size := ⟨_, rfl⟩
  obtain ⟨q, hq⟩ : ∃ q, q = 119 - R := ⟨_, rfl⟩
  obtain ⟨z, hz⟩ : ∃ z, z = q % 64 := ⟨_, rfl⟩
  obtain ⟨N, hN⟩ : ∃ N, N = 1 + z := ⟨_, rfl⟩
  obtain ⟨m, hm⟩ : ∃ m, m = n * 8 := ⟨_, rfl⟩
  have hpl : padL r.size n = 128 :: List.replicate z 0 ++ be8 m 8 := by unfold padL; rw [← hR, ← hq, ← hz, ← hm]
  rw [hpl] at ht
  have hRs : (r.size : Int) = (R : Int) := by omega
  have e1 : (R : Int) % 64 = (R : Int) := by omega
  have e2 : (119 : Int) - (R : Int) = (q : Int) := by omega
  have e3 : (q : Int) % 64 = (z : Int) := by omega
  have e4 : 1 + (z : Int) = (N : Int) := by omega
  have e1t : Int.tmod (R : Int) 64 = (R : Int) := by rw [Int.tmod_eq_emod_of_nonneg (by omega)]; exact e1
  have e3t : Int.tmod (q : Int) 64 = (z : Int) := by rw [Int.tmod_eq_emod_of_nonneg (by omega)]; exact e3
  have b1 : R < 64 ∧ q < 200 ∧ z < 64 ∧ N ≤ 64 := by omega
  have wq : IntKind.i64.wrap (q : Int) = (q : Int) := by rw [IntKind.wrap_i64]; omega
  have wz : IntKind.i64.wrap (z : Int) = (z : Int) := by rw [IntKind.wrap_i64]; omega
  have wN : IntKind.i64.wrap (N : Int) = (N : Int) := by rw [IntKind.wrap_i64]; omega
  have e5 : (n : Int) * 8 = (m : Int) := by omega
  have wm : IntKind.u64.wrap (m : Int) = (m : Int) := by rw [IntKind.wrap_u64]; omega
  have hm63 : m < 8000000 := by omega
  have HNz := Lib.hid hN
  have Ht := Lib.hid ht
  have HDD := Lib.hid hDD
  have HDl : Hid (∀ j, DD (j % 72) < 4294967296) := fun j => hDl _ (Nat.mod_lt _ (by decide))
  have hinfo := info_hash
  have hsz1 : (Try.prog.info? 55).map (·.size) = some (hcells f r n b).toList.length := by rw [hinfo]; simp [hcells_size]
  have hsz2 : (Try.prog.info? 55).map (·.size) = some (hcells f r n b).size := by rw [hinfo, hcells_size]
  have hr75 : w.rangeAt H 0 (hcells f r n b).toList := fun j v hv => by
    rw [Nat.zero_add, HB.out.cell j]
    simpa using hv
  have hz75 := zero_hash
  have hnew : (w.alloc (.cells (hcells (fun _ => 0) ⟨#[]⟩ 0 false) 55)).heap[w.heap.size]? = some (.cells (hcells (fun _ => 0) ⟨#[]⟩ 0 false) 55 (0, 0)) := Blk.new w 55 _
  have hszo : (hcells (fun _ => 0) ⟨#[]⟩ 0 false).size = (hcells f r n b).size := by rw [hcells_size, hcells_size]
  have h1c := hcells_one f r n b
  obtain ⟨CL, HCL⟩ : ∃ c, Hid ((hcells f r n b).toList = c) := ⟨_, Lib.hid (Eq.refl _)⟩
  have hCA : (hcells f r n b) = CL.toArray := by rw [← HCL.out]
  rw [HCL.out] at hsz1 hr75
  rw [hCA] at hsz2 hszo h1c
  have hlt := hB.lt
  clear hDl hinfo hN hq hz hm hpl ht hDD hB hCW hRs
  have hRs : (r.size : Int) = (R : Int) := by omega
  have HR := Lib.hid hR
  go_enter Try.func37, Try.ntmps37
  go_upto_region 2 with (first
    | (with_reducible refine wpList_load_mid rfl 55 _ rfl H 0 rfl CL _ hr75 Try.underlying55 rfl hsz1 ?_)
    | (with_reducible refine wpList_store_row rfl 55 _ _ rfl w.heap.size CL.toArray rfl rfl 55 (hcells (fun _ => 0) ⟨#[]⟩ 0 false) hnew hsz2 hszo h1c ?_)
    | fail)
  have hbl := (Below.refl w.heap.size w).alloc (Nat.le_refl _) (.cells (hcells (fun _ => 0) ⟨#[]⟩ 0 false) 55)
  have hb2 := hbl.trans (below_setRow (Below.refl w.heap.size (w.alloc (.cells (hcells (fun _ => 0) ⟨#[]⟩ 0 false) 55))) (Nat.le_refl _) CL.toArray)
  have hE2 : Blk ((w.alloc (.cells (hcells (fun _ => 0) ⟨#[]⟩ 0 false) 55)).setRow w.heap.size CL.toArray) w.heap.size 55 (hcells f r n b) := by
    rw [hCA]
    exact setRow_heap (w.alloc (.cells (hcells (fun _ => 0) ⟨#[]⟩ 0 false) 55)) w.heap.size _ CL.toArray _ _ hnew
  have HE2 := Lib.hid hE2
  have HB2 := Lib.hid hb2
  have HH2 := Lib.hid (HB.out.below hb2 hlt)
  clear hsz1 hsz2 hr75 hz75 hnew hszo h1c hCA HCL HB hbl hb2 hE2
  obtain ⟨W2, HW2⟩ : ∃ W, Hid ((w.alloc (.cells (hcells (fun _ => 0) ⟨#[]⟩ 0 false) 55)).setRow w.heap.size CL.toArray = W) := ⟨_, Lib.hid (Eq.refl _)⟩
  rw [HW2.out] at HE2 HB2 HH2 ⊢
  have hEW := HE2.out.lt
  have hEg : w.heap.size ≤ w.heap.size := Nat.le_refl _
  obtain ⟨E, HE⟩ : ∃ E, Hid (w.heap.size = E) := ⟨_, Lib.hid (Eq.refl _)⟩
  rw [HE.out] at hlt hEW
  have HE3 : Hid (Blk W2 E 55 (hcells f r n b)) := by rw [← HE.out]; exact HE2
  have hHE : H ≠ E := by omega
  try rw [HE.out]
  clear HW2 hEg HE2
  have c72 := HH2.out.cell 72
  rw [hcells_rest] at c72
  have c73 := HH2.out.cell 73
  rw [hcells_n] at c73
  have hmk := run_make_f (t := 31) (e := 5) Try.underlying31 info_u8 rfl N (N : Int) rfl (by omega) (by omega) W2
  have hnb := Blk.new W2 5 (fcells N fun _ => Value.int .u8 0)
  have p0 := hnb.cell 0
  rw [fcells_at _ _ _ (by have := HNz.out; omega)] at p0
  have p1 := hnb.frozen 0
  have hba2 := (Below.refl W2.heap.size W2).alloc (Nat.le_refl _) (.cells ((fcells N fun _ => Value.int .u8 0).setIfInBounds 0 (.int .u8 128)) 5)
  have hN0 : (0 : Int) < (N : Int) := by have := HNz.out; omega
  have hp2 := Blk.new W2 5 ((fcells N fun _ => Value.int .u8 0).setIfInBounds 0 (.int .u8 128))
  have HH3 := Lib.hid (HH2.out.below hba2 HH2.out.lt)
  have HE4 := Lib.hid (HE3.out.below hba2 HE3.out.lt)
  have HB3 := Lib.hid (HB2.out.trans (hba2.mono HB2.out.size))
  have HP2 := Lib.hid hp2
  have HB2s : Hid (w.heap.size ≤ W2.heap.size) := HB2.out.size
  have HEP : E < W2.heap.size := hEW
  clear hba2 hp2 hnb
  go_upto_region 4 with (fail)
  obtain ⟨W3, HW3⟩ : ∃ W, Hid (W2.alloc (.cells ((fcells N fun _ => Value.int .u8 0).setIfInBounds 0 (.int .u8 128)) 5) = W) := ⟨_, Lib.hid (Eq.refl _)⟩
  rw [HW3.out] at HH3 HE4 HB3 HP2 ⊢
  obtain ⟨G, HG⟩ : ∃ G, Hid (W2.heap.size = G) := ⟨_, Lib.hid (Eq.refl _)⟩
  rw [HG.out] at HP2 HEP HB2s ⊢
  have hOP : OwnB W3 G (.slice (some ⟨G, 0, none⟩) N N) (128 :: List.replicate z 0) := by
    have h := HP2.out
    rw [HNz.out] at h ⊢
    exact ownB_pad W3 G G z (Nat.le_refl _) (by omega) h
  have HOP := Lib.hid hOP
  have HGs : G ≤ W3.heap.size := Nat.le_of_lt HP2.out.lt
  have c73b := HH3.out.cell 73
  rw [hcells_n] at c73b
  clear c72 c73 hmk p0 p1 HW3 HP2 hOP HH2 HE3 HB2
  go_upto_region 6 with (fail)
  go_loopw [4, 6] (fun v_ i_ wr => ∃ (k : Nat) (I : Int), k ≤ 8 ∧ i_ = .int .i64 I ∧ Hid (I = 56 - 8 * (k : Int)) ∧ Hid (OwnB wr G v_ (128 :: List.replicate z 0 ++ be8 m k)) ∧ Hid (Below G W3 wr)) (fun _ i _ => (intOf i + 8).toNat)
  case atStart => exact ⟨0, 56, by omega, rfl, rfl, by show OwnB _ _ _ _; rw [be8, List.append_nil]; exact HOP.out, Below.refl _ _⟩
  case round =>
    clear HOP c73b
    obtain ⟨k, I, hk, rfl, HI, HOr, HBr⟩ := hrel
    have hlen : (128 :: List.replicate z (0 : UInt8) ++ be8 m k).length < 140737488355328 := by
      rw [List.length_append, List.length_cons, List.length_replicate, be8_len]; omega
    have hos := HOr.out
    have hbsw : G ≤ wr.heap.size := Nat.le_trans HGs HBr.out.size
    have Hsu := Lib.hid (be8_succ m k)
    have Hsh : Hid (shb m k = UInt8.ofNat (m / 2 ^ (56 - 8 * k) % 256)) := rfl
    have HmI : ∀ c : Nat, ((m : Int) / (c : Int) % 256).toNat = m / c % 256 := fun c => by
      have e1 : (m : Int) / (c : Int) = ((m / c : Nat) : Int) := (Int.natCast_ediv m c).symm
      rw [e1]; omega
    have HmJ := Lib.hid HmI
    clear HmI
    by_cases h8 : k < 8
    · rcases show k = 0 ∨ k = 1 ∨ k = 2 ∨ k = 3 ∨ k = 4 ∨ k = 5 ∨ k = 6 ∨ k = 7 by omega with rfl | rfl | rfl | rfl | rfl | rfl | rfl | rfl
      · obtain rfl : I = 56 := HI.out
        go_wp2_with (at_builtin; go_must (refine wpList_append_byte _ rfl _ _ rfl G _ _ _ hos rfl rfl rfl ?_ ?_ hlen hbsw ?_; omega; omega; intro v' w1 hown1 hb1; have HO1 := Lib.hid hown1; have HBn := Lib.hid (HBr.out.trans hb1); clear hown1 hb1 hos))
        go_roundw
        case rel =>
          refine ⟨1, 48, by omega, rfl, rfl, ?_, HBn⟩
          show OwnB _ _ _ _
          rw [Hsu.out, Hsh.out, ← List.append_assoc]
          have h := HO1.out
          have e1 : m / 2 ^ (56 - 8 * 0) % 256 = m / 72057594037927936 % 256 := rfl
          rw [e1]
          first
            | (have h2 : ((m : Int) / 72057594037927936 % 256).toNat = m / 72057594037927936 % 256 := by omega
               rw [h2] at h
               exact h)
            | (have h2 : ((m : Int) / 72057594037927936).toNat = m / 72057594037927936 % 256 := by omega
               rw [h2] at h
               exact h)
            | (have h2 : ((m : Int) % 256).toNat = m / 72057594037927936 % 256 := by omega
               rw [h2] at h
               exact h)
        case measure => simp [intOf]
      · obtain rfl : I = 48 := HI.out
        go_wp2_with (at_builtin; go_must (refine wpList_append_byte _ rfl _ _ rfl G _ _ _ hos rfl rfl rfl ?_ ?_ hlen hbsw ?_; omega; omega; intro v' w1 hown1 hb1; have HO1 := Lib.hid hown1; have HBn := Lib.hid (HBr.out.trans hb1); clear hown1 hb1 hos))
        go_roundw
        case rel =>
          refine ⟨2, 40, by omega, rfl, rfl, ?_, HBn⟩
          show OwnB _ _ _ _
          rw [Hsu.out, Hsh.out, ← List.append_assoc]
          have h := HO1.out
          have e1 : m / 2 ^ (56 - 8 * 1) % 256 = m / 281474976710656 % 256 := rfl
          rw [e1]
          first
            | (have h2 : ((m : Int) / 281474976710656 % 256).toNat = m / 281474976710656 % 256 := by omega
               rw [h2] at h
               exact h)
            | (have h2 : ((m : Int) / 281474976710656).toNat = m / 281474976710656 % 256 := by omega
               rw [h2] at h
               exact h)
            | (have h2 : ((m : Int) % 256).toNat = m / 281474976710656 % 256 := by omega
               rw [h2] at h
               exact h)
        case measure => simp [intOf]
      · obtain rfl : I = 40 := HI.out
        go_wp2_with (at_builtin; go_must (refine wpList_append_byte _ rfl _ _ rfl G _ _ _ hos rfl rfl rfl ?_ ?_ hlen hbsw ?_; omega; omega; intro v' w1 hown1 hb1; have HO1 := Lib.hid hown1; have HBn := Lib.hid (HBr.out.trans hb1); clear hown1 hb1 hos))
        go_roundw
        case rel =>
          refine ⟨3, 32, by omega, rfl, rfl, ?_, HBn⟩
          show OwnB _ _ _ _
          rw [Hsu.out, Hsh.out, ← List.append_assoc]
          have h := HO1.out
          have e1 : m / 2 ^ (56 - 8 * 2) % 256 = m / 1099511627776 % 256 := rfl
          rw [e1]
          first
            | (have h2 : ((m : Int) / 1099511627776 % 256).toNat = m / 1099511627776 % 256 := by omega
               rw [h2] at h
               exact h)
            | (have h2 : ((m : Int) / 1099511627776).toNat = m / 1099511627776 % 256 := by omega
               rw [h2] at h
               exact h)
            | (have h2 : ((m : Int) % 256).toNat = m / 1099511627776 % 256 := by omega
               rw [h2] at h
               exact h)
        case measure => simp [intOf]
      · obtain rfl : I = 32 := HI.out
        go_wp2_with (at_builtin; go_must (refine wpList_append_byte _ rfl _ _ rfl G _ _ _ hos rfl rfl rfl ?_ ?_ hlen hbsw ?_; omega; omega; intro v' w1 hown1 hb1; have HO1 := Lib.hid hown1; have HBn := Lib.hid (HBr.out.trans hb1); clear hown1 hb1 hos))
        go_roundw
        case rel =>
          refine ⟨4, 24, by omega, rfl, rfl, ?_, HBn⟩
          show OwnB _ _ _ _
          rw [Hsu.out, Hsh.out, ← List.append_assoc]
          have h := HO1.out
          have e1 : m / 2 ^ (56 - 8 * 3) % 256 = m / 4294967296 % 256 := rfl
          rw [e1]
          first
            | (have h2 : ((m : Int) / 4294967296 % 256).toNat = m / 4294967296 % 256 := by omega
               rw [h2] at h
               exact h)
            | (have h2 : ((m : Int) / 4294967296).toNat = m / 4294967296 % 256 := by omega
               rw [h2] at h
               exact h)
            | (have h2 : ((m : Int) % 256).toNat = m / 4294967296 % 256 := by omega
               rw [h2] at h
               exact h)
        case measure => simp [intOf]
      · obtain rfl : I = 24 := HI.out
        go_wp2_with (at_builtin; go_must (refine wpList_append_byte _ rfl _ _ rfl G _ _ _ hos rfl rfl rfl ?_ ?_ hlen hbsw ?_; omega; omega; intro v' w1 hown1 hb1; have HO1 := Lib.hid hown1; have HBn := Lib.hid (HBr.out.trans hb1); clear hown1 hb1 hos))
        go_roundw
        case rel =>
          refine ⟨5, 16, by omega, rfl, rfl, ?_, HBn⟩
          show OwnB _ _ _ _
          rw [Hsu.out, Hsh.out, ← List.append_assoc]
          have h := HO1.out
          have e1 : m / 2 ^ (56 - 8 * 4) % 256 = m / 16777216 % 256 := rfl
          rw [e1]
          first
            | (have h2 : ((m : Int) / 16777216 % 256).toNat = m / 16777216 % 256 := by omega
               rw [h2] at h
               exact h)
            | (have h2 : ((m : Int) / 16777216).toNat = m / 16777216 % 256 := by omega
               rw [h2] at h
               exact h)
            | (have h2 : ((m : Int) % 256).toNat = m / 16777216 % 256 := by omega
               rw [h2] at h
               exact h)
        case measure => simp [intOf]
      · obtain rfl : I = 16 := HI.out
        go_wp2_with (at_builtin; go_must (refine wpList_append_byte _ rfl _ _ rfl G _ _ _ hos rfl rfl rfl ?_ ?_ hlen hbsw ?_; omega; omega; intro v' w1 hown1 hb1; have HO1 := Lib.hid hown1; have HBn := Lib.hid (HBr.out.trans hb1); clear hown1 hb1 hos))
        go_roundw
        case rel =>
          refine ⟨6, 8, by omega, rfl, rfl, ?_, HBn⟩
          show OwnB _ _ _ _
          rw [Hsu.out, Hsh.out, ← List.append_assoc]
          have h := HO1.out
          have e1 : m / 2 ^ (56 - 8 * 5) % 256 = m / 65536 % 256 := rfl
          rw [e1]
          first
            | (have h2 : ((m : Int) / 65536 % 256).toNat = m / 65536 % 256 := by omega
               rw [h2] at h
               exact h)
            | (have h2 : ((m : Int) / 65536).toNat = m / 65536 % 256 := by omega
               rw [h2] at h
               exact h)
            | (have h2 : ((m : Int) % 256).toNat = m / 65536 % 256 := by omega
               rw [h2] at h
               exact h)
        case measure => simp [intOf]
      · obtain rfl : I = 8 := HI.out
        go_wp2_with (at_builtin; go_must (refine wpList_append_byte _ rfl _ _ rfl G _ _ _ hos rfl rfl rfl ?_ ?_ hlen hbsw ?_; omega; omega; intro v' w1 hown1 hb1; have HO1 := Lib.hid hown1; have HBn := Lib.hid (HBr.out.trans hb1); clear hown1 hb1 hos))
        go_roundw
        case rel =>
          refine ⟨7, 0, by omega, rfl, rfl, ?_, HBn⟩
          show OwnB _ _ _ _
          rw [Hsu.out, Hsh.out, ← List.append_assoc]
          have h := HO1.out
          have e1 : m / 2 ^ (56 - 8 * 6) % 256 = m / 256 % 256 := rfl
          rw [e1]
          first
            | (have h2 : ((m : Int) / 256 % 256).toNat = m / 256 % 256 := by omega
               rw [h2] at h
               exact h)
            | (have h2 : ((m : Int) / 256).toNat = m / 256 % 256 := by omega
               rw [h2] at h
               exact h)
            | (have h2 : ((m : Int) % 256).toNat = m / 256 % 256 := by omega
               rw [h2] at h
               exact h)
        case measure => simp [intOf]
      · obtain rfl : I = 0 := HI.out
        go_wp2_with (at_builtin; go_must (refine wpList_append_byte _ rfl _ _ rfl G _ _ _ hos rfl rfl rfl ?_ ?_ hlen hbsw ?_; omega; omega; intro v' w1 hown1 hb1; have HO1 := Lib.hid hown1; have HBn := Lib.hid (HBr.out.trans hb1); clear hown1 hb1 hos))
        go_roundw
        case rel =>
          refine ⟨8, -8, by omega, rfl, rfl, ?_, HBn⟩
          show OwnB _ _ _ _
          rw [Hsu.out, Hsh.out, ← List.append_assoc]
          have h := HO1.out
          have e1 : m / 2 ^ (56 - 8 * 7) % 256 = m / 1 % 256 := rfl
          rw [e1]
          first
            | (have h2 : ((m : Int) / 1 % 256).toNat = m / 1 % 256 := by omega
               rw [h2] at h
               exact h)
            | (have h2 : ((m : Int) / 1).toNat = m / 1 % 256 := by omega
               rw [h2] at h
               exact h)
            | (have h2 : ((m : Int) % 256).toNat = m / 1 % 256 := by omega
               rw [h2] at h
               exact h)
        case measure => simp [intOf]
    · have h8e : k = 8 := by omega
      have dk : decide ((0 : Int) ≤ I) = false := by rw [decide_eq_false_iff_not, HI.out]; omega
      rw [h8e] at hos hlen
      have hstr := run_string_own wr _ _ _ hos
      obtain ⟨pl, Hpl⟩ : ∃ l, Hid (128 :: List.replicate z (0 : UInt8) ++ be8 m 8 = l) := ⟨_, Lib.hid (Eq.refl _)⟩
      rw [Hpl.out] at hstr hlen
      have hpl2 : (⟨pl.toArray⟩ : ByteArray).data.toList = pl := rfl
      have hpls : (⟨pl.toArray⟩ : ByteArray).size ≤ 200 := by
        have e : (⟨pl.toArray⟩ : ByteArray).size = pl.length := rfl
        rw [e, ← Hpl.out, List.length_append, List.length_cons, List.length_replicate, be8_len]
        omega
      have HEr := Lib.hid (HE4.out.below HBr.out (by omega))
      have C := HCW.out wr E ⟨pl.toArray⟩ hpls HEr.out
      have hte : r.data.toList ++ pl = t := by rw [← Hpl.out, ← Ht.out]
      rw [hpl2, hte] at C
      have HC := Lib.hid C
      have HBw := Lib.hid (HB3.out.trans (HBr.out.mono (by have := HB2s.out; omega)))
      clear C hte hpl2 hpls hos hlen Hsu Hsh HmJ h8 hk h8e HOr
      go_wp2_with fail
      refine HC.out.mono ?_
      intro e w5 h5
      unfold endR at h5
      obtain ⟨rfl, hO5, R5, hR5, hE5⟩ := h5
      clear hR5
      rw [← HDD.out] at hE5
      have HE5 := Lib.hid hE5
      have HB5 := Lib.hid (hO5.old HBw.out (HBw.out.size) (by have := HE.out; omega))
      clear hO5 hE5 HC dk hstr
      obtain ⟨CD, HCD⟩ : ∃ c, Hid ((List.range 8).map (wval DD) = c) := ⟨_, Lib.hid (Eq.refl _)⟩
      have hCs : CD.length = 8 := by rw [← HCD.out]; simp
      have hi8b : (Try.prog.info? 52).map (·.size) = some CD.length := by rw [info_w8, hCs]
      have HCi : Hid (∀ j : Nat, j < 8 → ∀ W, (Instr.index 52 (.agg CD.toArray) (.int .i64 (j : Int))).run Try.prog W = .ok (.int .u32 (DD j : Int)) W) := fun j hj W => by rw [← HCD.out]; exact index_words DD j hj W
      clear hCs
      have hm32 := made_32 w5
      have hb6 := (Below.refl w5.heap.size w5).alloc (Nat.le_refl _) (.cells (fcells 32 fun _ => Value.int .u8 0) 5)
      have ho6 := World.ownsRow_made (base := w5.heap.size) (e := 5) (size := 1) w5 (fcells 32 fun _ => Value.int .u8 0) 32 (Nat.le_refl _) (by unfold maxLen; decide) (by rw [fcells_size])
      have HO6 : Hid (OwnB (w5.alloc (.cells (fcells 32 fun _ => Value.int .u8 0) 5)) w5.heap.size (.slice (some ⟨w5.heap.size, 0, none⟩) 0 32) []) := ho6
      have HE6 := Lib.hid (HE5.out.below hb6 HE5.out.lt)
      have HB6 := Lib.hid (HB5.out.trans (hb6.mono HB5.out.size))
      have h5E : E < w5.heap.size := HE5.out.lt
      clear hb6 ho6 HE5 HBr HBw
      go_upto_region 11 with (fail)
      obtain ⟨w6, HW6⟩ : ∃ W, Hid (w5.alloc (.cells (fcells 32 fun _ => Value.int .u8 0) 5) = W) := ⟨_, Lib.hid (Eq.refl _)⟩
      rw [HW6.out] at HO6 HE6 HB6 ⊢
      have h6s : w5.heap.size ≤ w6.heap.size := by rw [← HW6.out]; simp
      have h6b : w.heap.size ≤ w5.heap.size := HB5.out.size
      obtain ⟨G6, HG6⟩ : ∃ g, Hid (w5.heap.size = g) := ⟨_, Lib.hid (Eq.refl _)⟩
      rw [HG6.out] at HO6 h5E h6s h6b ⊢
      clear hm32 HW6 HB5
      have hr8 : w6.rangeAt E 0 CD := by
        have h := range_words HE6.out 8 (by decide)
        rw [HCD.out] at h
        exact h
      go_upto_region 12 with (first
        | (with_reducible refine wpList_load_mid rfl 52 _ rfl E 0 rfl CD _ hr8 Try.underlying52 rfl hi8b ?_)
        | fail)
      clear hr8 hi8b
      go_loopw [7, 47] (fun v_ i_ wr => ∃ j : Nat, j ≤ 8 ∧ i_ = .int .i64 (j : Int) ∧ Hid (OwnB wr G6 v_ (outB DD j)) ∧ Hid (Below G6 w6 wr)) (fun _ i _ => 8 - (intOf i).toNat)
      case atStart => exact ⟨0, by omega, rfl, by show OwnB _ _ _ _; rw [outB]; exact HO6.out, Below.refl _ _⟩
      case round =>
        clear HO6
        obtain ⟨j, hj, rfl, HOr, HBr⟩ := hrel
        have hos := HOr.out
        have hbsw : G6 ≤ wr.heap.size := Nat.le_trans h6s HBr.out.size
        have hlen : (outB DD j).length < 100000 := by rw [outB_len]; omega
        by_cases hlt : j < 8
        · have hx := HCi.out j hlt
          have HD := HDl.out j
          rw [Nat.mod_eq_of_lt (by omega)] at HD
          have Hsu := Lib.hid (outB_succ DD j)
          obtain ⟨x, Hx⟩ : ∃ x, Hid (DD j = x) := ⟨_, Lib.hid (Eq.refl _)⟩
          rw [Hx.out] at hx HD Hsu
          have hjI : (j : Int) < 8 := by omega
          go_wp2_with (at_builtin; go_must (refine wpList_append_four _ rfl _ _ rfl G6 _ _ _ _ _ _ hos rfl rfl rfl ?_ hlen hbsw ?_; omega; intro v' w7 hown1 hb1; have HO7 := Lib.hid hown1; have HB7 := Lib.hid (HBr.out.trans hb1); clear hown1 hb1 hos))
          go_roundw
          case rel =>
            refine ⟨j + 1, by omega, by go_num, ?_, HB7⟩
            show OwnB _ _ _ _
            rw [Hsu.out]
            have h := HO7.out
            have e : be4 x = [UInt8.ofNat ((x : Int) / 16777216 % 256).toNat, UInt8.ofNat ((x : Int) / 65536 % 256).toNat, UInt8.ofNat ((x : Int) / 256 % 256).toNat, UInt8.ofNat ((x : Int) % 256).toNat] := by
              unfold be4
              have e1 : ((x : Int) / 16777216 % 256).toNat = x / 16777216 % 256 := by omega
              have e2 : ((x : Int) / 65536 % 256).toNat = x / 65536 % 256 := by omega
              have e3 : ((x : Int) / 256 % 256).toNat = x / 256 % 256 := by omega
              have e4 : ((x : Int) % 256).toNat = x % 256 := by omega
              rw [e1, e2, e3, e4]
            rw [e]
            first
              | exact h
              | (have e5 : ((x : Int) / 16777216).toNat = ((x : Int) / 16777216 % 256).toNat := by omega
                 rw [e5] at h
                 exact h)
          case measure => simp [intOf]; omega
        · have hj8 : j = 8 := by omega
          have dj : decide ((j : Int) < 8) = false := by rw [decide_eq_false_iff_not]; omega
          rw [hj8] at hos hlen
          have hstr := run_string_own wr _ _ _ hos
          have HBf := Lib.hid (HB6.out.trans (HBr.out.mono (by omega)))
          clear hj8 hlt hj hos hlen HOr
          go_wp2_with fail
          go_ret
          exact ⟨rfl, HBf.out⟩
end Go.Proofs.Ytbccljpbnbobmaa
