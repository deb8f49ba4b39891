/- huff.Codes: what it hands back. Conditions: none. -/
import Derived.Test.YtahgeeklenojjaaIRow
import Derived.Test.YtahgeeklenojjaaCodesP
namespace Go.Proofs.Ytahgeeklenojjaa
open Go.RowKit
set_option maxRecDepth 100000

/-- What has a code already: lengths below N, and those of length N before s. -/
def ahd (L : Nat → Nat) (N s t : Nat) : Bool := decide (0 < L t) && (decide (L t < N) || (decide (L t = N) && decide (t < s)))
def nxt (L : Nat → Nat) (n N s : Nat) : Nat := sumTo (fun t => if ahd L N s t then pt (L t) else 0) n
theorem nxt_pre (L : Nat → Nat) (n s : Nat) : nxt L n (L s) s = pre L n s := rfl
theorem nxt_step (L : Nat → Nat) (n N s : Nat) (hs : s < n) (hN : 0 < N) (h : L s = N) : nxt L n N (s + 1) = nxt L n N s + 2 ^ (15 - N) := by
  have e : nxt L n N s + 2 ^ (15 - N) = sumTo (fun t => (if ahd L N s t then pt (L t) else 0) + if t = s then 2 ^ (15 - N) else 0) n := by
    rw [sumTo_add, sumTo_one s _ n hs]; rfl
  rw [e]
  refine sumTo_congr _ _ _ fun t _ => ?_
  by_cases e : t = s
  · subst e
    have h1 : ahd L N t t = false := by unfold ahd; simp; omega
    have h2 : ahd L N (t + 1) t = true := by unfold ahd; simp; omega
    rw [h1, h2, if_pos rfl]
    unfold pt
    rw [h, if_pos hN]
    simp
  · have h1 : ahd L N (s + 1) t = ahd L N s t := by
      unfold ahd
      have : decide (t < s + 1) = decide (t < s) := by simp; omega
      rw [this]
    rw [h1, if_neg e]
    omega
theorem nxt_skip (L : Nat → Nat) (n N s : Nat) (h : L s ≠ N) : nxt L n N (s + 1) = nxt L n N s := by
  refine sumTo_congr _ _ _ fun t _ => ?_
  have h1 : ahd L N (s + 1) t = ahd L N s t := by
    unfold ahd
    by_cases e : t = s
    · subst e
      have : decide (L t = N) = false := by simpa using h
      rw [this]; simp
    · have : decide (t < s + 1) = decide (t < s) := by simp; omega
      rw [this]
  rw [h1]
theorem nxt_round (L : Nat → Nat) (n N : Nat) : nxt L n (N + 1) 0 = nxt L n N n := by
  refine sumTo_congr _ _ _ fun t ht => ?_
  have h1 : ahd L (N + 1) 0 t = ahd L N n t := by
    unfold ahd
    have : (decide (L t < N + 1) || (decide (L t = N + 1) && decide (t < 0))) = (decide (L t < N) || (decide (L t = N) && decide (t < n))) := by
      rw [Bool.eq_iff_iff]; simp; omega
    rw [this]
  rw [h1]
theorem nxt_zero (L : Nat → Nat) (n : Nat) : nxt L n 1 0 = 0 := by
  have : ∀ k, sumTo (fun t => if ahd L 1 0 t then pt (L t) else 0) k = 0 := by
    intro k
    induction k with
    | zero => rfl
    | succ k ih =>
      have h1 : ahd L 1 0 k = false := by unfold ahd; simp; omega
      simp only [sumTo, ih, h1]; simp
  exact this n
theorem nxt_le (L : Nat → Nat) (n N s : Nat) : nxt L n N s ≤ parts L n := sumTo_le _ _ _ fun t _ => by split <;> omega

/-- Symbol t's code and its length, where N, s have been reached. -/
def cbitsAt (L : Nat → Nat) (n N s t : Nat) : Nat := if ahd L N s t then codeOf L n t else 0
def lenAt (L : Nat → Nat) (N s t : Nat) : Nat := if ahd L N s t then L t else 0
/-- A symbol's code, 0 where it has none. -/
def bitsF (L : Nat → Nat) (n t : Nat) : Nat := if 0 < L t then codeOf L n t else 0
/-- The cells of codes. -/
def ccell (f g : Nat → Nat) (i : Nat) : Value := if i % 2 = 0 then .int .u32 (f (i / 2) : Int) else .int .i64 (g (i / 2) : Int)
def ccells (n : Nat) (f g : Nat → Nat) : Array Value := fcells (2 * n) (ccell f g)

theorem ccells_set (n : Nat) (f g : Nat → Nat) (s b l : Nat) :
    ((ccells n f g).setIfInBounds (2 * s) (.int .u32 (b : Int))).setIfInBounds (2 * s + 1) (.int .i64 (l : Int)) = ccells n (fun t => if t = s then b else f t) (fun t => if t = s then l else g t) := by
  unfold ccells
  rw [fcells_set, fcells_set]
  refine fcells_congr _ _ _ fun i _ => ?_
  unfold ccell
  by_cases h1 : i = 2 * s + 1
  · subst h1
    have e1 : (2 * s + 1) % 2 ≠ 0 := by omega
    have e2 : (2 * s + 1) / 2 = s := by omega
    rw [if_pos rfl, if_neg e1, e2]; simp
  · rw [if_neg h1]
    by_cases h2 : i = 2 * s
    · subst h2
      have e1 : (2 * s) % 2 = 0 := by omega
      have e2 : (2 * s) / 2 = s := by omega
      rw [if_pos rfl, if_pos e1, e2]; simp
    · rw [if_neg h2]
      have e : i / 2 ≠ s := by omega
      simp only [if_neg e]

theorem at_next (L : Nat → Nat) (n N s : Nat) (hN : 0 < N) (h : L s = N) : (fun t => if t = s then nxt L n N s / 2 ^ (15 - N) else cbitsAt L n N s t) = cbitsAt L n N (s + 1) ∧ (fun t => if t = s then N else lenAt L N s t) = lenAt L N (s + 1) := by
  constructor
  · funext t
    unfold cbitsAt
    by_cases e : t = s
    · subst e
      have h2 : ahd L N (t + 1) t = true := by unfold ahd; simp; omega
      rw [if_pos rfl, h2, if_pos rfl]
      unfold codeOf
      rw [← nxt_pre, h]
    · have h1 : ahd L N (s + 1) t = ahd L N s t := by
        unfold ahd
        have : decide (t < s + 1) = decide (t < s) := by simp; omega
        rw [this]
      rw [if_neg e, h1]
  · funext t
    unfold lenAt
    by_cases e : t = s
    · subst e
      have h2 : ahd L N (t + 1) t = true := by unfold ahd; simp; omega
      rw [if_pos rfl, h2, if_pos rfl, h]
    · have h1 : ahd L N (s + 1) t = ahd L N s t := by
        unfold ahd
        have : decide (t < s + 1) = decide (t < s) := by simp; omega
        rw [this]
      rw [if_neg e, h1]
theorem ahd_skip (L : Nat → Nat) (N s : Nat) (h : L s ≠ N) : ahd L N (s + 1) = ahd L N s := by
  funext t
  unfold ahd
  by_cases e : t = s
  · subst e
    have : decide (L t = N) = false := by simpa using h
    rw [this]; simp
  · have : decide (t < s + 1) = decide (t < s) := by simp; omega
    rw [this]
theorem at_skip (L : Nat → Nat) (n N s : Nat) (h : L s ≠ N) : cbitsAt L n N (s + 1) = cbitsAt L n N s ∧ lenAt L N (s + 1) = lenAt L N s := by
  constructor
  · funext t; unfold cbitsAt; rw [ahd_skip L N s h]
  · funext t; unfold lenAt; rw [ahd_skip L N s h]
theorem ahd_round (L : Nat → Nat) (n N t : Nat) (ht : t < n) : ahd L (N + 1) 0 t = ahd L N n t := by
  unfold ahd
  have : (decide (L t < N + 1) || (decide (L t = N + 1) && decide (t < 0))) = (decide (L t < N) || (decide (L t = N) && decide (t < n))) := by
    rw [Bool.eq_iff_iff]; simp; omega
  rw [this]
theorem ccells_congr (n : Nat) (f g f' g' : Nat → Nat) (h : ∀ t, t < n → f t = f' t ∧ g t = g' t) : ccells n f g = ccells n f' g' := by
  refine fcells_congr _ _ _ fun i hi => ?_
  unfold ccell
  have := h (i / 2) (by omega)
  rw [this.1, this.2]
theorem cc_round (L : Nat → Nat) (n N : Nat) : ccells n (cbitsAt L n N n) (lenAt L N n) = ccells n (cbitsAt L n (N + 1) 0) (lenAt L (N + 1) 0) := by
  refine ccells_congr _ _ _ _ _ fun t ht => ?_
  unfold cbitsAt lenAt
  rw [ahd_round L n N t ht]
  exact ⟨rfl, rfl⟩
theorem cc_start (L : Nat → Nat) (n : Nat) : ccells n (fun _ => 0) (fun _ => 0) = ccells n (cbitsAt L n 1 0) (lenAt L 1 0) := by
  refine ccells_congr _ _ _ _ _ fun t ht => ?_
  have h1 : ahd L 1 0 t = false := by unfold ahd; simp; omega
  unfold cbitsAt lenAt
  rw [h1]
  exact ⟨rfl, rfl⟩
theorem cc_end (L : Nat → Nat) (n : Nat) (h : ∀ t, t < n → L t ≤ 15) : ccells n (cbitsAt L n 16 0) (lenAt L 16 0) = ccells n (bitsF L n) L := by
  refine ccells_congr _ _ _ _ _ fun t ht => ?_
  have := h t ht
  unfold cbitsAt lenAt bitsF
  by_cases h0 : 0 < L t
  · have h1 : ahd L 16 0 t = true := by unfold ahd; simp; omega
    rw [h1, if_pos rfl, if_pos rfl, if_pos h0]
    exact ⟨rfl, rfl⟩
  · have h1 : ahd L 16 0 t = false := by unfold ahd; simp; omega
    rw [h1, if_neg h0]
    exact ⟨rfl, by simp; omega⟩

/-- Do the lengths make codes? -/
def Fits (p s : Nat) : Prop := p ≤ 32768 ∧ (p = 32768 ∨ s = 0 ∨ s = 1 ∧ p = 16384)
/-- The codes of the lengths L, in memory of the call's own. -/
def OwnC (w : World) (base n : Nat) (L : Nat → Nat) (v : Value) : Prop := ∃ g, v = .slice (some ⟨g, 0, none⟩) n n ∧ base ≤ g ∧ Blk w g 39 (ccells n (bitsF L n) L)
def lens (m : Nat → Int) (i : Nat) : Nat := (m i).toNat
def bad (k : Nat) : Ending := .returned (.tuple #[.slice none 0 0, .int .i64 (k : Int)])
/-- What Codes hands back. -/
def CodesPost (w : World) (n : Nat) (m : Nat → Int) (e : Ending) (w' : World) : Prop :=
  Below w.heap.size w w' ∧
  ((320 < n ∧ e = bad 2) ∨ (n ≤ 320 ∧ (∃ i, i < n ∧ ¬ (0 ≤ m i ∧ m i ≤ 15)) ∧ e = bad 1) ∨
   (n ≤ 320 ∧ (∀ i, i < n → 0 ≤ m i ∧ m i ≤ 15) ∧ ¬ Fits (parts (lens m) n) (someOf (lens m) n) ∧ e = bad 4) ∨
   (n ≤ 320 ∧ (∀ i, i < n → 0 ≤ m i ∧ m i ≤ 15) ∧ Fits (parts (lens m) n) (someOf (lens m) n) ∧ ∃ v, e = .returned (.tuple #[v, .int .i64 0]) ∧ OwnC w' w.heap.size n (lens m) v))

theorem info_code : (Try.prog.info? 39).map (fun i => (i.zero, i.size, i.bytes)) = some (some (.agg #[.int .u32 0, .int .i64 0]), 2, 16) := by kernel_rfl
theorem ccells_bits (n : Nat) (f g : Nat → Nat) (t i : Nat) (hi : i = t * 2) (ht : t < n) : (ccells n f g)[i]? = some (.int .u32 (f t : Int)) := by
  subst hi
  unfold ccells
  rw [fcells_at _ _ _ (by omega)]
  unfold ccell
  rw [if_pos (by omega), show t * 2 / 2 = t by omega]
theorem ccells_len (n : Nat) (f g : Nat → Nat) (t i : Nat) (hi : i = t * 2 + 1) (ht : t < n) : (ccells n f g)[i]? = some (.int .i64 (g t : Int)) := by
  subst hi
  unfold ccells
  rw [fcells_at _ _ _ (by omega)]
  unfold ccell
  rw [if_neg (by omega), show (t * 2 + 1) / 2 = t by omega]
theorem ccells_made (n : Nat) : madeCells #[.int .u32 0, .int .i64 0] (n * 2) = ccells n (fun _ => 0) (fun _ => 0) := by
  apply Array.ext_getElem?
  intro i
  unfold ccells
  by_cases hi : i < 2 * n
  · rw [fcells_at _ _ i hi]
    unfold madeCells ccell
    have h1 : (Array.range (n * 2))[i]? = some i := by simp [Array.getElem?_range]; omega
    rw [Array.getElem?_map, h1]
    rcases Nat.mod_two_eq_zero_or_one i with h | h
    · simp [h]
    · simp [h]
  · rw [fcells_out _ _ i hi]
    have : (madeCells #[.int .u32 0, .int .i64 0] (n * 2)).size ≤ i := by rw [size_madeCells]; omega
    exact Array.getElem?_eq_none this

/-- make([]Code, n) -/
theorem run_make_c (n : Nat) (hn : n ≤ 1000000) (w : World) :
    (Instr.makeSlice 27 (.int .i64 (n : Int)) (.int .i64 (n : Int))).run Try.prog w = .ok (.slice (some ⟨w.heap.size, 0, none⟩) n n) (w.alloc (.cells (ccells n (fun _ => 0) (fun _ => 0)) 39)) := by
  obtain ⟨i0, hi, hz0, hz1, hz2⟩ := info_parts info_code
  have hr := run_make (P := Try.prog) w 27 39 i0 _ Try.underlying27 hi hz0 .i64 .i64 n n (by omega) (by omega) (by rw [hz2]; omega) (by omega)
  simp only [Int.toNat_natCast] at hr
  have e : (Value.agg #[.int .u32 0, .int .i64 0]).cells = #[.int .u32 0, .int .i64 0] := rfl
  rw [hz1, e, ccells_made] at hr
  exact hr
end Go.Proofs.Ytahgeeklenojjaa
