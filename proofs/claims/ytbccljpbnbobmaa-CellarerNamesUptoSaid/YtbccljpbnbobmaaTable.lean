/- bits.Table: what each byte does to a cyclic sum. Conditions: none. -/
import Derived.Test.YtbccljpbnbobmaaBase
namespace Go.Proofs.Ytbccljpbnbobmaa
open Go.RowKit

/-- One bit on. -/
def half (c : Nat) : Nat := if c % 2 = 1 then c / 2 ^^^ 0xedb88320 else c / 2

/-- A byte's number in the table. -/
def ent (b : Nat) : Nat := half (half (half (half (half (half (half (half b)))))))

/-- 256 numbers as cells. -/
def tcells (f : Nat → Nat) : Array Value := ((List.range 256).map fun i => .int .u32 (f i : Int)).toArray

theorem tcells_at (f : Nat → Nat) (j : Nat) (hj : j < 256) : (tcells f)[j]? = some (.int .u32 (f j : Int)) := by
  simp [tcells, hj]

theorem tcells_set (f : Nat → Nat) (j v : Nat) : (tcells f).setIfInBounds j (.int .u32 (v : Int)) = tcells (fun i => if i = j then v else f i) := by
  apply Array.ext_getElem?
  intro i
  rw [Array.getElem?_setIfInBounds]
  by_cases hi : i < 256
  · rw [tcells_at _ i hi, tcells_at _ i hi]
    by_cases e : j = i
    · subst e; simp [tcells, hi]
    · have e' : ¬ i = j := fun h => e h.symm
      simp [e, e']
  · have h1 : ∀ g, (tcells g)[i]? = none := fun g => by simp [tcells, hi]
    rw [h1, h1]
    by_cases e : j = i
    · subst e; simp [tcells, hi]
    · simp [e]

theorem zero_t (w : World) : (zeroValue 28).run Try.prog w = .ok (.agg (tcells fun _ => 0)) w := by kernel_rfl

/-- The places of one bit, and 0 behind the last one. -/
def pw : Nat → Nat
  | 0 => 0
  | m + 1 => 2 ^ m

/-- What stands in the table when the numbers of one bit above i have been laid. -/
def low (i : Nat) (j : Nat) : Nat := if (j = 128 ∨ j = 64 ∨ j = 32 ∨ j = 16 ∨ j = 8 ∨ j = 4 ∨ j = 2 ∨ j = 1) ∧ i < j then ent j else 0

theorem half_int (x : Nat) (hx : x < 4294967296) : bits .xor .u32 ((x : Int) / 2) ((x : Int) % 2 * 3988292384) = ((half x : Nat) : Int) := by
  have h1 : (x : Int) % 2 * 3988292384 = ((x % 2 * 3988292384 : Nat) : Int) := by omega
  have h2 : (x : Int) / 2 = ((x / 2 : Nat) : Int) := by omega
  rw [h1, h2, u32_xor_nat _ _ (by omega) (by omega)]
  unfold half
  split
  · rename_i h; rw [h]
  · rename_i h
    have : x % 2 = 0 := by omega
    rw [this]; simp

set_option maxRecDepth 100000
theorem ent_lt : ∀ b, b < 256 → ent b < 4294967296 := by decide +kernel
theorem ent_128 : ent 128 = 3988292384 := by decide +kernel
theorem ent_half : ∀ m, m < 7 → half (ent (pw (m + 2))) = ent (pw (m + 1)) := by decide +kernel
theorem low_next (m : Nat) (h : m < 7) : low (pw (m + 1)) (pw (m + 2)) = ent (pw (m + 2)) := by
  match m, h with
  | 0, _ => rfl
  | 1, _ => rfl
  | 2, _ => rfl
  | 3, _ => rfl
  | 4, _ => rfl
  | 5, _ => rfl
  | 6, _ => rfl
theorem low_at (p q i : Nat) (hq : q = 128 ∨ q = 64 ∨ q = 32 ∨ q = 16 ∨ q = 8 ∨ q = 4 ∨ q = 2 ∨ q = 1) (hp : ∀ j, (j = 128 ∨ j = 64 ∨ j = 32 ∨ j = 16 ∨ j = 8 ∨ j = 4 ∨ j = 2 ∨ j = 1) → (p < j ↔ q < j ∨ j = q)) :
    (if i = q then ent q else low q i) = low p i := by
  unfold low
  by_cases h : i = q
  · subst h
    rw [if_pos rfl, if_pos ⟨hq, (hp i hq).2 (.inr rfl)⟩]
  · rw [if_neg h]
    by_cases h2 : i = 128 ∨ i = 64 ∨ i = 32 ∨ i = 16 ∨ i = 8 ∨ i = 4 ∨ i = 2 ∨ i = 1
    · by_cases h3 : q < i
      · rw [if_pos ⟨h2, h3⟩, if_pos ⟨h2, (hp i h2).2 (.inl h3)⟩]
      · rw [if_neg (fun h4 => h3 h4.2), if_neg (fun h4 => by have := (hp i h2).1 h4.2; omega)]
    · rw [if_neg (fun h4 => h2 h4.1), if_neg (fun h4 => h2 h4.1)]
theorem low_set (m : Nat) (h : m < 8) : (fun i => if i = pw (m + 1) then ent (pw (m + 1)) else low (pw (m + 1)) i) = low (pw m) := by
  funext i
  match m, h with
  | 0, _ => exact low_at _ _ i (by decide) (by intro j hj; simp only [pw]; omega)
  | 1, _ => exact low_at _ _ i (by decide) (by intro j hj; simp only [pw]; omega)
  | 2, _ => exact low_at _ _ i (by decide) (by intro j hj; simp only [pw]; omega)
  | 3, _ => exact low_at _ _ i (by decide) (by intro j hj; simp only [pw]; omega)
  | 4, _ => exact low_at _ _ i (by decide) (by intro j hj; simp only [pw]; omega)
  | 5, _ => exact low_at _ _ i (by decide) (by intro j hj; simp only [pw]; omega)
  | 6, _ => exact low_at _ _ i (by decide) (by intro j hj; simp only [pw]; omega)
  | 7, _ => exact low_at _ _ i (by decide) (by intro j hj; simp only [pw]; omega)
theorem low_none : (fun i => low 128 i) = fun _ => 0 := by
  funext i
  unfold low
  rw [if_neg (by omega)]
theorem pw_two (m : Nat) : pw (m + 2) = 2 * pw (m + 1) := by simp only [pw, Nat.pow_succ]; omega
theorem pw_half (m : Nat) : pw (m + 1) / 2 = pw m := by
  match m with
  | 0 => rfl
  | m + 1 => simp only [pw, Nat.pow_succ]; omega
theorem pw_range (m : Nat) : 1 ≤ pw (m + 1) ∧ pw (m + 1) ≤ 2 ^ m := ⟨Nat.pow_pos (by decide), Nat.le_refl _⟩

/-- The cell that is read, and what becomes of it. -/
theorem low_read (m : Nat) (h : m < 7) : ∃ x : Nat, x < 4294967296 ∧ half x = ent (pw (m + 1)) ∧ (tcells (low (pw (m + 1))))[2 * pw (m + 1)]? = some (.int .u32 (x : Int)) := by
  have h1 : pw (m + 2) < 256 := by
    have := (pw_range (m + 1)).2
    have e2 : pw (m + 2) = pw (m + 1 + 1) := rfl
    have h3 : 2 ^ (m + 1) ≤ 2 ^ 7 := Nat.pow_le_pow_right (by decide) (by omega)
    have h4 : (2 : Nat) ^ 7 = 128 := by decide
    omega
  refine ⟨ent (pw (m + 2)), ent_lt _ h1, ent_half m h, ?_⟩
  rw [← pw_two, tcells_at _ _ h1, low_next m h]

/-- The lowest bit of k. -/
def lb (k : Nat) : Nat := if k = 0 then 0 else k &&& (256 - k)
theorem lb_and : ∀ k : Nat, k < 256 → bits .and .i64 (k : Int) (-(k : Int)) = ((lb k : Nat) : Int) := by decide +kernel
theorem lb_le (k : Nat) : lb k ≤ k := by
  unfold lb; split
  · exact Nat.zero_le _
  · exact Nat.and_le_left
/-- What stands in the table when the first k bytes' numbers, and those of one bit, have been laid. -/
def upto (k : Nat) (j : Nat) : Nat := if j < k then ent j else low 0 j

theorem upto_same : ∀ k, k < 256 → lb k = k → low 0 k = ent k := by decide +kernel
theorem upto_xor : ∀ k, k < 256 → lb k ≠ k → upto k (lb k) ^^^ upto k (k - lb k) = ent k := by decide +kernel
theorem upto_lt (k j : Nat) (hj : j < 256) : upto k j < 4294967296 := by
  unfold upto low
  split
  · exact ent_lt j hj
  · split
    · exact ent_lt j hj
    · decide
theorem upto_xor_int (k : Nat) (h : k < 256) (hl : lb k ≠ k) : bits .xor .u32 (upto k (lb k) : Int) (upto k (k - lb k) : Int) = (ent k : Int) := by
  have := lb_le k
  rw [u32_xor_nat _ _ (upto_lt _ _ (by omega)) (upto_lt _ _ (by omega)), upto_xor k h hl]
theorem upto_set (k : Nat) : (fun i => if i = k then ent k else upto k i) = upto (k + 1) := by
  funext i
  unfold upto
  by_cases h : i = k
  · subst h; simp
  · rw [if_neg h]
    by_cases h2 : i < k
    · rw [if_pos h2, if_pos (by omega)]
    · rw [if_neg h2, if_neg (by omega)]
theorem upto_skip (k : Nat) (h : k < 256) (hl : lb k = k) : upto k = upto (k + 1) := by
  rw [← upto_set]
  funext i
  by_cases h2 : i = k
  · subst h2
    rw [if_pos rfl, ← upto_same i h hl]
    unfold upto
    rw [if_neg (by omega)]
  · rw [if_neg h2]
theorem tcells_congr (f g : Nat → Nat) (h : ∀ i, i < 256 → f i = g i) : tcells f = tcells g := by
  apply Array.ext_getElem?
  intro i
  by_cases hi : i < 256
  · rw [tcells_at _ i hi, tcells_at _ i hi, h i hi]
  · have h1 : ∀ g, (tcells g)[i]? = none := fun g => by simp [tcells, hi]
    rw [h1, h1]
theorem upto_all : tcells (upto 256) = tcells ent := by
  refine tcells_congr _ _ fun i hi => ?_
  show (if i < 256 then ent i else low 0 i) = ent i
  rw [if_pos hi]
theorem tcells_size (f : Nat → Nat) : (tcells f).size = 256 := by simp [tcells]
theorem tcells_one (f : Nat → Nat) : (tcells f).all (·.oneCell') = true := by
  rw [Array.all_eq_true_iff_forall_mem]
  intro v hv
  simp only [tcells, List.mem_toArray, List.mem_map] at hv
  obtain ⟨i, _, rfl⟩ := hv
  rfl
theorem info_t (f : Nat → Nat) : (Try.prog.info? 28).map (·.size) = some (tcells f).size := by
  rw [tcells_size]; kernel_rfl
theorem upto_zero : low 0 = upto 0 := by
  funext i
  unfold upto
  rw [if_neg (by omega)]

set_option maxHeartbeats 2000000 in
theorem table_any (w : World) :
    Calls Try.prog 18 #[] w fun e w' => e = .returned (.agg (tcells ent)) ∧ Below w.heap.size w w' := by
  have hz := zero_t
  go_enter Try.func18, Try.ntmps18
  go_wp2_with fail
  go_loopw [2, 3] (fun i x wr => ∃ m : Nat, m ≤ 8 ∧ i = .int .i64 (pw m : Int) ∧ Blk wr (w.heap.size + 1) 28 (tcells (low (pw m))) ∧ Blk wr w.heap.size 28 (tcells fun _ => 0) ∧ Below w.heap.size w wr)
    (fun i _ _ => (intOf i).toNat)
  case atStart =>
    refine ⟨8, by omega, rfl, ?_, (Blk.new _ _ _).alloc _, ((Below.refl _ _).alloc (Nat.le_refl _) _).alloc (by simp) _⟩
    have := Blk.new (w.alloc (.cells (tcells fun _ => 0) 28)) 28 (tcells fun _ => 0)
    simp only [World.size_alloc] at this
    show Blk _ _ _ (tcells fun i => low 128 i)
    rw [low_none]
    exact this
  case round =>
    obtain ⟨m, hm, rfl, hT, hR, hb⟩ := hrel
    clear hz
    rcases m with _ | m
    · have e : pw 0 = 0 := rfl
      rw [e] at hT
      rw [e]
      clear e
      have hb0 := hb
      go_wp2_with fail
      clear hb
      go_loopw [4, 5, 27] (fun _ _ i wq => ∃ k : Nat, k ≤ 256 ∧ i = .int .i64 (k : Int) ∧ Blk wq (w.heap.size + 1) 28 (tcells (upto k)) ∧ Blk wq w.heap.size 28 (tcells fun _ => 0) ∧ Below w.heap.size w wq)
        (fun _ _ i _ => 256 - (intOf i).toNat)
      case atStart => exact ⟨0, by omega, rfl, by rw [← upto_zero]; exact hT, hR, hb0⟩
      case round =>
        clear hT hR hb0
        obtain ⟨k, hk, rfl, hT, hR, hb⟩ := hrel
        by_cases hlt : k < 256
        · have hand := lb_and k hlt
          have hlk := lb_le k
          by_cases hp : lb k = k
          · have hpb : ((lb k : Int) == (k : Int)) = true := by simp; omega
            have hpn : ((lb k : Int) != (k : Int)) = false := by simp; omega
            have Hk := Lib.hid (upto_skip k hlt hp)
            go_wp2_with fail
            go_roundw
            case rel => exact ⟨k + 1, by omega, by go_num, by rw [← Hk.out]; exact hT, hR, hb⟩
            case measure => simp [intOf]; omega
          · have hpn : ((lb k : Int) != (k : Int)) = true := by simp; omega
            have hc1 := hT.cell (lb k)
            have hc2 := hT.cell (k - lb k)
            rw [tcells_at _ _ (by omega)] at hc1 hc2
            have hf := hT.frozen k
            have hc3 := hT.cell k
            rw [tcells_at _ _ (by omega)] at hc3
            have hx := upto_xor_int k hlt hp
            go_wp2_with fail
            go_region
            all_goals go_wp2_with fail
            go_roundw
            case rel =>
              have hst := hT.set_ k (.int .u32 (ent k : Int))
              rw [tcells_set, upto_set] at hst
              exact ⟨k + 1, by omega, by go_num, hst, hR.far (p := ⟨w.heap.size + 1, k, none⟩) (by simp) _, (hb.setCell (p := ⟨w.heap.size + 1, k, none⟩) (by simp) _).drew⟩
            case measure => simp [intOf]; omega
        · obtain rfl : k = 256 := by omega
          rw [upto_all] at hT
          have hT2 : wr.heap[w.heap.size + 1]? = some (.cells (tcells ent) 28 (0, 0)) := hT
          have hR2 : wr.heap[w.heap.size]? = some (.cells (tcells fun _ => 0) 28 (0, 0)) := hR
          have hi := info_t ent
          have hsz : (tcells fun _ => 0).size = (tcells ent).size := by rw [tcells_size, tcells_size]
          have h1c := tcells_one ent
          go_wp2_with (first
            | (with_reducible refine wpList_load_row rfl 28 _ rfl (w.heap.size + 1) rfl 28 (tcells ent) (0, 0) _ hT2 Try.underlying28 rfl hi ?_)
            | (with_reducible refine wpList_store_row rfl 28 _ _ rfl w.heap.size (tcells ent) rfl rfl 28 (tcells fun _ => 0) hR2 hi hsz h1c ?_))
          exact bodyPost_ret (v := .agg (tcells ent)) (results_cell_row rfl _ _ w.heap.size 28 (tcells ent) (0, 0) _ rfl (setRow_heap _ _ _ _ _ _ hR2) Try.underlying28 rfl hi) rfl
            ⟨rfl, below_setRow hb (Nat.le_refl _) _⟩
    · by_cases h7 : m = 7
      · subst h7
        have Hs := Lib.hid (low_set 7 (by omega))
        have e : pw (7 + 1) = 128 := rfl
        rw [e] at hT Hs
        rw [e]
        clear e
        have hst := hT.set_ 128 (.int .u32 ((3988292384 : Nat) : Int))
        rw [tcells_set] at hst
        have hrs := hR.far (p := ⟨w.heap.size + 1, 128, none⟩) (by simp) (.int .u32 ((3988292384 : Nat) : Int))
        have hbs := hb.setCell (p := ⟨w.heap.size + 1, 128, none⟩) (by simp) (.int .u32 ((3988292384 : Nat) : Int))
        have hf := hT.frozen 128
        have hc := hT.cell 128
        rw [tcells_at _ _ (by omega)] at hc
        go_wp2_with fail
        go_roundw
        case rel =>
          refine ⟨7, by omega, rfl, ?_, hrs, hbs⟩
          rw [← Hs.out]
          exact hst
        case measure => simp [intOf]
      · obtain ⟨x, hxl, hxe, hc⟩ := low_read m (by omega)
        have Hp2 := Lib.hid (pw_half m)
        have Hs := Lib.hid (low_set m (by omega))
        have hp3 : 1 ≤ pw (m + 1) ∧ pw (m + 1) ≤ 64 := by
          have h1 := pw_range m
          have h3 : 2 ^ m ≤ 2 ^ 6 := Nat.pow_le_pow_right (by decide) (by omega)
          have h4 : (2 : Nat) ^ 6 = 64 := by decide
          omega
        have hh := half_int x hxl
        rw [hxe] at hh
        rw [← hT.cell] at hc
        generalize pw (m + 1) = i at *
        have hi0 : (0 : Int) ≤ 2 * (i : Int) := by omega
        have hi1 : 2 * (i : Int) < 256 := by omega
        have hf := hT.frozen i
        have hci := hT.cell i
        rw [tcells_at _ _ (by omega)] at hci
        clear hxe
        go_wp2_with fail
        go_quiet (fail)
        go_wp2_with fail
        rename_i nq
        have hst := (hT.drewN nq).set_ i (.int .u32 (ent i : Int))
        rw [tcells_set] at hst
        go_roundw
        case rel =>
          refine ⟨m, by omega, by rw [← Hp2.out]; rfl, ?_, (hR.drewN nq).far (p := ⟨w.heap.size + 1, i, none⟩) (by simp) _, (below_drewN hb nq).setCell (p := ⟨w.heap.size + 1, i, none⟩) (by simp) _⟩
          rw [← Hs.out]
          exact hst
        case measure => simp [intOf]; omega
end Go.Proofs.Ytbccljpbnbobmaa
