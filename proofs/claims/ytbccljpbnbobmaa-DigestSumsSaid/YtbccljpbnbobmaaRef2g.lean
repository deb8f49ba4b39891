/- The document's Bits: a text's bits, padded. Conditions: at most a thousand bytes. -/
import Derived.Test.YtbccljpbnbobmaaRef2d
namespace Go.Proofs.Ytbccljpbnbobmaa
open Go.RowKit
set_option maxRecDepth 100000

def OwnT (w : World) (base : Nat) (v : Value) (L : List Bool) : Prop := w.ownsRow base 4 1 v L.length (L.map Value.bool)
theorem OwnT.empty (w : World) (base : Nat) (hb : base ≤ w.heap.size) : OwnT (w.alloc (.cells #[] 4)) base (.slice (some ⟨w.heap.size, 0, none⟩) 0 0) [] :=
  ⟨rfl, .inr ⟨w.heap.size, 0, #[], rfl, hb, Blk.new w _ _, Nat.le_refl _, Nat.zero_le _, rfl, rfl⟩⟩
theorem OwnT.snoc {w : World} {base : Nat} {v : Value} {L : List Bool} {u : Bool} (ho : w.ownsRow base 4 1 v (L.length + 1) (L.map Value.bool ++ [.bool u])) : OwnT w base v (L ++ [u]) := by
  unfold OwnT
  rw [List.length_append, List.map_append]
  exact ho
/-- A row of truths in memory. -/
def TRw (w : World) (a : Option Addr) (L : List Bool) : Prop := ∀ k (hk : k < L.length), ∃ b off, a = some ⟨b, off, none⟩ ∧ b < w.heap.size ∧ w.cell? ⟨b, off + k, none⟩ = some (.bool L[k])
theorem TRw.below {B : Nat} {w w' : World} {a : Option Addr} {L : List Bool} (h : TRw w a L) (hb : Below B w w') (hB : w.heap.size ≤ B) : TRw w' a L := fun k hk => by
  obtain ⟨b, off, rfl, hbl, hc⟩ := h k hk
  exact ⟨b, off, rfl, Nat.lt_of_lt_of_le hbl hb.size, (hb.cell (p := ⟨b, off + k, none⟩) (Nat.lt_of_lt_of_le hbl hB)).trans hc⟩
theorem OwnT.view {w : World} {base : Nat} {v : Value} {L : List Bool} (h : OwnT w base v L) : ∃ a cap, v = .slice a L.length cap ∧ TRw w a L := by
  have hlt := World.ownsRow.lt h
  have hc := fun g hg => World.ownsRow.cells h (g := g) hg
  rcases h.2 with ⟨rfl, h0⟩ | ⟨G, cap, cur, rfl, _⟩
  · exact ⟨none, 0, by rw [h0], fun k hk => by omega⟩
  · refine ⟨_, _, rfl, fun k hk => ⟨G, 0, rfl, (hlt G rfl).2, ?_⟩⟩
    have e0 : ∀ j, (⟨G, 0, none⟩ : Addr).add j = ⟨G, j, none⟩ := fun j => by unfold Addr.add; split <;> simp_all
    have := hc G rfl k (.bool L[k]) (by rw [List.getElem?_map, List.getElem?_eq_getElem hk]; rfl)
    rw [e0] at this
    rwa [Nat.zero_add]
def byteT (c : Nat) (k : Nat) : List Bool := (List.range k).map fun i => (c / 2 ^ (7 - i)) % 2 == 1
def textT (l : List UInt8) : List Bool := l.flatMap fun c => byteT c.toNat 8
def numT (n k : Nat) : List Bool := (List.range k).map fun i => (n / 2 ^ (63 - i)) % 2 == 1
def padN (n : Nat) : Nat := (448 + 512 - (n + 1) % 512) % 512
/-- What Bits says. -/
def bitsT (s : ByteArray) : List Bool := textT s.data.toList ++ [true] ++ List.replicate (padN (8 * s.size)) false ++ numT (8 * s.size) 64
theorem byteT_len (c k : Nat) : (byteT c k).length = k := by simp [byteT]
theorem numT_len (c k : Nat) : (numT c k).length = k := by simp [numT]
theorem byteT_succ (c k : Nat) : byteT c (k + 1) = byteT c k ++ [(c / 2 ^ (7 - k)) % 2 == 1] := by
  unfold byteT
  rw [List.range_succ, List.map_append]
  rfl
theorem numT_succ (c k : Nat) : numT c (k + 1) = numT c k ++ [(c / 2 ^ (63 - k)) % 2 == 1] := by
  unfold numT
  rw [List.range_succ, List.map_append]
  rfl
theorem textT_len (l : List UInt8) : (textT l).length = 8 * l.length := by
  induction l with
  | nil => rfl
  | cons c r ih =>
    have e : textT (c :: r) = byteT c.toNat 8 ++ textT r := rfl
    rw [e, List.length_append, byteT_len, ih, List.length_cons]; omega
theorem textT_snoc (l : List UInt8) (j : Nat) (h : j < l.length) : textT (l.take (j + 1)) = textT (l.take j) ++ byteT (l[j]).toNat 8 := by
  unfold textT
  rw [List.take_succ_eq_append_getElem h, List.flatMap_append]
  simp
theorem bitsT_len (s : ByteArray) : (bitsT s).length % 512 = 0 ∧ 512 ≤ (bitsT s).length ∧ (bitsT s).length ≤ 8 * s.size + 1000 := by
  have hl : s.data.toList.length = s.size := by simp
  unfold bitsT
  simp only [List.length_append, textT_len, List.length_replicate, numT_len, List.length_cons, List.length_nil, hl]
  unfold padN
  omega
theorem info_boolT : (Try.prog.info? 4).map (fun i => (i.zero, i.size, i.bytes)) = some (some (.bool false), 1, 1) := by kernel_rfl
theorem wpList_append_T {ops : Array Oper} {rest : List Oper} {o : Oper} {a : Act} {Q : Exit → Act → World → Prop} (w : World) (hgd : o.guard = none) (s x : Operand)
    (ho : o.op = .call { callee := .builtin .append, args := #[s, x], argTypes := #[51, 51] })
    (base : Nat) (v : Value) (L : List Bool) (u : Bool) (hown : OwnT w base v L) (hs : a.eval s = v)
    {sz : Nat} (hx : a.eval x = .slice (some ⟨sz, 0, none⟩) 1 1) (hsize : sz = w.heap.size) (hm : L.length ≤ 1000000) (hbase : base ≤ w.heap.size)
    (h : ∀ v' w', OwnT w' base v' (L ++ [u]) → Below base w w' → wpList Try.prog ops Q rest (a.put o.dst v') w') :
    wpList Try.prog ops Q (o :: rest) a (w.alloc (.cells #[.bool u] 4)) :=
  wpList_append_elem w hgd s x ho Try.underlying51 info_boolT rfl (by decide) base v L.length (L.map Value.bool) [.bool u] hown rfl (by intro y hy; simp at hy; subst hy; rfl) hs hx hsize (by unfold maxLen; omega) (by omega) hbase
    fun v' w' h2 h3 => h v' w' (OwnT.snoc h2) (below_grown hown h3 hbase)
theorem bit_u8 (c J : Nat) : (((c : Int) / 2 ^ J).tmod 2 == 1) = (c / 2 ^ J % 2 == 1) := by
  have h1 : ((c : Int) / 2 ^ J) = ((c / 2 ^ J : Nat) : Int) := by simp
  rw [h1]
  generalize c / 2 ^ J = q
  rw [Int.tmod_eq_emod_of_nonneg (by omega), Bool.eq_iff_iff, beq_iff_eq, beq_iff_eq]
  omega
theorem bit_u64 (c J : Nat) : (((c : Int) / 2 ^ J) % 2 == 1) = (c / 2 ^ J % 2 == 1) := by
  have h1 : ((c : Int) / 2 ^ J) = ((c / 2 ^ J : Nat) : Int) := by simp
  rw [h1]
  generalize c / 2 ^ J = q
  rw [Bool.eq_iff_iff, beq_iff_eq, beq_iff_eq]
  omega
def lenV : Value → Nat
  | .slice _ n _ => n
  | _ => 0

set_option maxHeartbeats 8000000 in
theorem bits2_any (s : ByteArray) (hs : s.size ≤ 1000) (w : World) :
    Calls Try.prog 48 #[.string s] w fun e w' => Below w.heap.size w w' ∧ ∃ v, e = .returned v ∧ OwnT w' w.heap.size v (bitsT s) := by
  have HU : Hid (bitsT s = textT s.data.toList ++ [true] ++ List.replicate (padN (8 * s.size)) false ++ numT (8 * s.size) 64) := rfl
  obtain ⟨RES, HRES⟩ : ∃ R, Hid (bitsT s = R) := ⟨_, Lib.hid (Eq.refl _)⟩
  rw [HRES.out] at HU ⊢
  clear HRES
  have HO0 : Hid (OwnT (w.alloc (.cells #[] 4)) w.heap.size (.slice (some ⟨w.heap.size, 0, none⟩) 0 0) (textT (s.data.toList.take 0))) := OwnT.empty w _ (Nat.le_refl _)
  have HB0 := Lib.hid ((Below.refl w.heap.size w).alloc (Nat.le_refl _) (.cells #[] 4))
  have hl : s.data.toList.length = s.size := by simp
  have Hl := Lib.hid hl
  clear hl
  go_enter Try.func48, Try.ntmps48
  go_wp2_with fail
  obtain ⟨w1, HW1⟩ : ∃ R, Hid (w.alloc (.cells #[] 4) = R) := ⟨_, Lib.hid (Eq.refl _)⟩
  rw [HW1.out] at HO0 HB0 ⊢
  clear HW1
  go_loopw [3, 4] (fun v_ j_ wr => ∃ j : Nat, j ≤ s.size ∧ j_ = .int .i64 (j : Int) ∧ Hid (OwnT wr w.heap.size v_ (textT (s.data.toList.take j))) ∧ Hid (Below w.heap.size w wr)) (fun _ j _ => s.size - (intOf j).toNat)
  case atStart => exact ⟨0, Nat.zero_le _, rfl, HO0, HB0⟩
  case round =>
    clear HO0 HB0
    obtain ⟨j, hj, rfl, HO, HB⟩ := hrel
    by_cases hlt : j < s.size
    · have dj : decide ((j : Int) < (s.size : Int)) = true := by rw [decide_eq_true_eq]; omega
      have djb : decide (j < s.size) = true := by rw [decide_eq_true_eq]; omega
      have hjI : (j : Int) < (s.size : Int) := by omega
      obtain ⟨c, Hc⟩ : ∃ c, Hid ((s[j]).toNat = c) := ⟨_, Lib.hid (Eq.refl _)⟩
      have hc : c < 256 := by rw [← Hc.out]; exact UInt8.toNat_lt _
      have hsn : textT (s.data.toList.take (j + 1)) = textT (s.data.toList.take j) ++ byteT c 8 := by
        rw [textT_snoc _ j (by rw [Hl.out]; exact hlt), ← Hc.out]
        rfl
      have hlen : (textT (s.data.toList.take j)).length = 8 * j := by
        rw [textT_len, List.length_take, Hl.out, Nat.min_eq_left hj]
      obtain ⟨T, HT⟩ : ∃ T, Hid (textT (s.data.toList.take j) = T) := ⟨_, Lib.hid (Eq.refl _)⟩
      rw [HT.out] at hsn hlen HO
      have Hsn := Lib.hid hsn
      have Hln := Lib.hid hlen
      have HO1 : Hid (OwnT wr w.heap.size u3 (T ++ byteT c 0)) := by show OwnT _ _ _ _; rw [show byteT c 0 = [] from rfl, List.append_nil]; exact HO.out
      have hix : ∀ W, (Instr.index 9 (.string s) (.int .i64 (j : Int))).run Try.prog W = .ok (.int .u8 (c : Int)) W := fun W => by
        have e : ((j : Int)).toNat = j := by omega
        rw [run_index_string W 9 s .i64 (j : Int) Try.underlying9, dif_pos ⟨by omega, by omega⟩]
        simp only [e, Hc.out]
      clear hsn hlen HO HT
      go_wp2_with fail
      go_loopw [3, 5] (fun v_ k_ wq => ∃ (k : Nat) (I : Int), k ≤ 8 ∧ k_ = .int .i64 I ∧ Hid (I = 7 - (k : Int)) ∧ Hid (OwnT wq w.heap.size v_ (T ++ byteT c k)) ∧ Hid (Below w.heap.size w wq)) (fun _ k _ => (intOf k + 1).toNat)
      case atStart => exact ⟨0, 7, Nat.zero_le _, rfl, rfl, HO1, HB⟩
      case round =>
        clear HO1 HB
        obtain ⟨k, I, hk, rfl, HI, HOk, HBk⟩ := hrel
        by_cases hlk : k < 8
        · obtain ⟨J, HJ⟩ : ∃ j : Nat, Hid (7 - k = j) := ⟨_, Lib.hid (Eq.refl _)⟩
          have hIJ : I = (J : Int) := by have := HI.out; have := HJ.out; omega
          subst hIJ
          have hJ : J < 8 := by have := HJ.out; omega
          have hJm : min J 8 = J := by omega
          obtain ⟨B, HBt⟩ : ∃ B, Hid ((c / 2 ^ J % 2 == 1) = B) := ⟨_, Lib.hid (Eq.refl _)⟩
          have hB := bit_u8 c J
          rw [HBt.out] at hB
          have hsk : Hid (T ++ byteT c (k + 1) = T ++ byteT c k ++ [B]) := by
            show _ = _
            rw [byteT_succ, HJ.out, HBt.out, List.append_assoc]
          have hln : (T ++ byteT c k).length ≤ 1000000 := by rw [List.length_append, Hln.out, byteT_len]; omega
          have hbs : w.heap.size ≤ wr.heap.size := HBk.out.size
          have HI2 : Hid ((J : Int) - 1 = 7 - ((k + 1 : Nat) : Int)) := by show _ = _; have := HI.out; omega
          go_wp2_with (first
            | (at_builtin; go_must (refine wpList_append_T wr rfl (.tmp 19) (.tmp 27) rfl w.heap.size _ (T ++ byteT c k) B HOk.out rfl rfl rfl hln hbs ?_; intro v8 w8 ho8 hb8; rw [← hsk.out] at ho8; have HO8 := Lib.hid ho8; have HB8 := Lib.hid (HBk.out.trans hb8); clear ho8 hb8))
            | fail)
          go_roundw
          case rel => exact ⟨k + 1, (J : Int) - 1, by omega, by go_num, HI2, HO8, HB8⟩
          case measure => simp [intOf]
        · have hk8 : k = 8 := by omega
          have hI : decide ((0 : Int) ≤ I) = false := by rw [decide_eq_false_iff_not, HI.out]; omega
          rw [hk8, ← Hsn.out] at HOk
          clear hk8 hlk hk
          go_wp2_with fail
          go_roundw
          case rel => exact ⟨j + 1, by omega, by go_num, HOk, HBk⟩
          case measure => simp [intOf]; omega
    · obtain rfl : j = s.size := by omega
      have dj : decide ((s.size : Int) < (s.size : Int)) = false := by rw [decide_eq_false_iff_not]; omega
      have hta : s.data.toList.take s.size = s.data.toList := List.take_of_length_le (by rw [Hl.out]; exact Nat.le_refl _)
      rw [hta] at HO
      have hlen : (textT s.data.toList).length = 8 * s.size := by rw [textT_len, Hl.out]
      have HPd : Hid (∀ z, (z < padN (8 * s.size) → (8 * s.size + 1 + z) % 512 ≠ 448) ∧ (z = padN (8 * s.size) → (8 * s.size + 1 + z) % 512 = 448)) := fun z => by unfold padN; omega
      have hpd : padN (8 * s.size) < 512 := by unfold padN; omega
      obtain ⟨N, HN⟩ : ∃ R, Hid (8 * s.size = R) := ⟨_, Lib.hid (Eq.refl _)⟩
      obtain ⟨T, HT⟩ : ∃ R, Hid (textT s.data.toList = R) := ⟨_, Lib.hid (Eq.refl _)⟩
      rw [HN.out] at HU HPd hpd hlen
      rw [HT.out] at HU HO hlen
      obtain ⟨PD, HPD⟩ : ∃ R, Hid (padN N = R) := ⟨_, Lib.hid (Eq.refl _)⟩
      rw [HPD.out] at HU HPd hpd
      have hN : N ≤ 8000 := by have := HN.out; omega
      obtain ⟨oa, oc, rfl, -⟩ := HO.out.view
      rw [hlen]
      rw [hlen] at HO
      have Hln := Lib.hid hlen
      have hTm : T.length ≤ 1000000 := by omega
      have hbs : w.heap.size ≤ wr.heap.size := HB.out.size
      have hwN : IntKind.u64.wrap (N : Int) = (N : Int) := by rw [IntKind.wrap_u64]; omega
      clear hlen hta hlt hj HT HN HPD
      go_wp2_with (first
        | (at_builtin; go_must (refine wpList_append_T wr rfl (.tmp 32) (.tmp 33) rfl w.heap.size _ T true HO.out rfl rfl rfl hTm hbs ?_; intro v8 w8 ho8 hb8; have HO8 := Lib.hid ho8; have HB8 := Lib.hid (HB.out.trans hb8); clear ho8 hb8))
        | fail)
      obtain ⟨a0, c0, rfl, -⟩ := HO8.out.view
      have hl8 : (T ++ [true]).length = N + 1 := by rw [List.length_append, Hln.out]; rfl
      rw [hl8]
      have HO9 : Hid (OwnT w8 w.heap.size (.slice a0 (N + 1) c0) (T ++ [true] ++ List.replicate 0 false)) := by show OwnT _ _ _ _; rw [List.replicate_zero, List.append_nil, ← hl8]; exact HO8.out
      clear hl8 HO8 HB HO hTm hbs
      obtain ⟨n0, Hn0⟩ : ∃ R, Hid (N + 1 = R) := ⟨_, Lib.hid (Eq.refl _)⟩
      rw [Hn0.out] at HO9 ⊢
      have Hn0' : Hid (n0 = N + 1 + 0) := Hn0.out.symm
      go_upto_region 11 with fail
      go_loopw [3] (fun v_ wr => ∃ (z n : Nat) (a : Option Addr) (c : Nat), z ≤ PD ∧ Hid (n = N + 1 + z) ∧ v_ = .slice a n c ∧ Hid (OwnT wr w.heap.size (.slice a n c) (T ++ [true] ++ List.replicate z false)) ∧ Hid (Below w.heap.size w wr)) (fun v _ => N + 1 + PD - lenV v)
      case atStart => exact ⟨0, n0, a0, c0, Nat.zero_le _, Hn0', rfl, HO9, HB8⟩
      case round =>
        clear HO9 HB8
        obtain ⟨z, n, a, c, hz, Hn, rfl, HO, HB⟩ := hrel
        have hn : n ≤ 10000 := by have := Hn.out; omega
        obtain ⟨x, Hx⟩ : ∃ R, Hid (n % 512 = R) := ⟨_, Lib.hid (Eq.refl _)⟩
        have hx1 : (n : Int) % 512 = (x : Int) := by have := Hx.out; omega
        have hx2 : (n : Int).tmod 512 = (x : Int) := by rw [Int.tmod_eq_emod_of_nonneg (by omega)]; exact hx1
        have hx3 : IntKind.i64.wrap (x : Int) = (x : Int) := by rw [IntKind.wrap_i64]; omega
        have hpd2 := HPd.out z
        rw [← Hn.out, Hx.out] at hpd2
        by_cases hlz : z < PD
        · have hxe : ((x : Int) == 448) = false := by rw [beq_eq_false_iff_ne]; have := hpd2.1 hlz; omega
          have hxe2 : ((x : Int) != 448) = true := by rw [bne_iff_ne]; have := hpd2.1 hlz; omega
          have hxe3 : ¬ (x : Int) = 448 := by have := hpd2.1 hlz; omega
          have hln : (T ++ [true] ++ List.replicate z false).length ≤ 1000000 := by simp only [List.length_append, Hln.out, List.length_replicate, List.length_cons, List.length_nil]; omega
          have hbs : w.heap.size ≤ wr.heap.size := HB.out.size
          have hrp : Hid (T ++ [true] ++ List.replicate z false ++ [false] = T ++ [true] ++ List.replicate (z + 1) false) := by show _ = _; rw [List.replicate_succ', List.append_assoc (T ++ [true])]
          have hrl : Hid ((T ++ [true] ++ List.replicate (z + 1) false).length = n + 1) := by show _ = _; simp only [List.length_append, Hln.out, List.length_replicate, List.length_cons, List.length_nil]; have := Hn.out; omega
          have HN2 : Hid (n + 1 = N + 1 + (z + 1)) := by show _ = _; have := Hn.out; omega
          clear hpd2
          go_wp2_with (first
            | (at_builtin; go_must (refine wpList_append_T wr rfl (.tmp 39) (.tmp 40) rfl w.heap.size _ (T ++ [true] ++ List.replicate z false) false HO.out rfl rfl rfl hln hbs ?_; intro v8 w8 ho8 hb8; rw [hrp.out] at ho8; obtain ⟨a8, c8, rfl, -⟩ := ho8.view; rw [hrl.out] at ho8 ⊢; have HO8 := Lib.hid ho8; have HB8 := Lib.hid (HB.out.trans hb8); clear ho8 hb8))
            | fail)
          go_roundw
          case rel => exact ⟨z + 1, n + 1, a8, c8, by omega, HN2, rfl, HO8, HB8⟩
          case measure => have := Hn.out; show N + 1 + PD - (n + 1) < N + 1 + PD - n; omega
        · have hzp : z = PD := by omega
          have hxe : x = 448 := hpd2.2 hzp
          subst hxe
          have HO1 : Hid (OwnT wr w.heap.size (.slice a n c) (T ++ [true] ++ List.replicate PD false ++ numT N 0)) := by show OwnT _ _ _ _; rw [show numT N 0 = [] from rfl, List.append_nil, ← hzp]; exact HO.out
          have hTl : (T ++ [true] ++ List.replicate PD false).length ≤ 20000 := by simp only [List.length_append, Hln.out, List.length_replicate, List.length_cons, List.length_nil]; omega
          obtain ⟨T2, HT2⟩ : ∃ R, Hid (T ++ [true] ++ List.replicate PD false = R) := ⟨_, Lib.hid (Eq.refl _)⟩
          rw [HT2.out] at HO1 hTl HU
          clear hpd2 HO hzp hlz hz Hx HPd HT2
          go_upto_region 14 with fail
          clear hx1 hx2 hx3
          go_loopw [3, 7] (fun v_ k_ wq => ∃ (k : Nat) (I : Int), k ≤ 64 ∧ k_ = .int .i64 I ∧ Hid (I = 63 - (k : Int)) ∧ Hid (OwnT wq w.heap.size v_ (T2 ++ numT N k)) ∧ Hid (Below w.heap.size w wq)) (fun _ k _ => (intOf k + 1).toNat)
          case atStart => exact ⟨0, 63, Nat.zero_le _, rfl, rfl, HO1, HB⟩
          case round =>
            clear HO1 HB
            obtain ⟨k, I, hk, rfl, HI, HOk, HBk⟩ := hrel
            by_cases hlk : k < 64
            · obtain ⟨J, HJ⟩ : ∃ j : Nat, Hid (63 - k = j) := ⟨_, Lib.hid (Eq.refl _)⟩
              have hIJ : I = (J : Int) := by have := HI.out; have := HJ.out; omega
              subst hIJ
              have hJ : J < 64 := by have := HJ.out; omega
              have hJm : min J 64 = J := by omega
              obtain ⟨B, HBt⟩ : ∃ B, Hid ((N / 2 ^ J % 2 == 1) = B) := ⟨_, Lib.hid (Eq.refl _)⟩
              have hB := bit_u8 N J
              have hB2 := bit_u64 N J
              rw [HBt.out] at hB hB2
              have hsk : Hid (T2 ++ numT N (k + 1) = T2 ++ numT N k ++ [B]) := by
                show _ = _
                rw [numT_succ, HJ.out, HBt.out, List.append_assoc]
              have hln : (T2 ++ numT N k).length ≤ 1000000 := by rw [List.length_append, numT_len]; omega
              have hbs : w.heap.size ≤ wr.heap.size := HBk.out.size
              have HI2 : Hid ((J : Int) - 1 = 63 - ((k + 1 : Nat) : Int)) := by show _ = _; have := HI.out; omega
              go_wp2_with (first
                | (at_builtin; go_must (refine wpList_append_T wr rfl (.tmp 46) (.tmp 52) rfl w.heap.size _ (T2 ++ numT N k) B HOk.out rfl rfl rfl hln hbs ?_; intro v8 w8 ho8 hb8; rw [← hsk.out] at ho8; have HO8 := Lib.hid ho8; have HB8 := Lib.hid (HBk.out.trans hb8); clear ho8 hb8))
                | fail)
              go_roundw
              case rel => exact ⟨k + 1, (J : Int) - 1, by omega, by go_num, HI2, HO8, HB8⟩
              case measure => simp [intOf]
            · have hk64 : k = 64 := by omega
              have hI : decide ((0 : Int) ≤ I) = false := by rw [decide_eq_false_iff_not, HI.out]; omega
              rw [hk64, ← HU.out] at HOk
              clear hk64 hlk hk
              go_wp2_with fail
              go_ret
              exact ⟨HBk.out, _, rfl, HOk.out⟩
end Go.Proofs.Ytbccljpbnbobmaa
