/- digest.Hash: plain words, and how they lie in memory. Conditions: none. -/
import Derived.Test.YtbccljpbnbobmaaRotM
import Derived.Deep.MidRow
namespace Go.Proofs.Ytbccljpbnbobmaa
open Go.RowKit
set_option maxRecDepth 100000

/-- Only block H may have changed. -/
def Onl (H : Nat) (w w' : World) : Prop := w'.os = w.os ∧ w'.tape = w.tape ∧ w'.output = w.output ∧ w.heap.size ≤ w'.heap.size ∧ ∀ g, g < w.heap.size → g ≠ H → w'.heap[g]? = w.heap[g]?
section
variable {H : Nat} {w w1 w2 : World}
theorem Onl.refl (w : World) : Onl H w w := ⟨rfl, rfl, rfl, Nat.le_refl _, fun _ _ _ => rfl⟩
theorem Onl.trans (h : Onl H w w1) (k : Onl H w1 w2) : Onl H w w2 := ⟨k.1.trans h.1, k.2.1.trans h.2.1, k.2.2.1.trans h.2.2.1, Nat.le_trans h.2.2.2.1 k.2.2.2.1, fun g hg h1 => (k.2.2.2.2 g (Nat.lt_of_lt_of_le hg h.2.2.2.1) h1).trans (h.2.2.2.2 g hg h1)⟩
theorem Onl.drewN (h : Onl H w w1) (n : Nat) : Onl H w (w1.drewN n) := ⟨h.1, h.2.1, h.2.2.1, h.2.2.2.1, h.2.2.2.2⟩
theorem Onl.set_ (h : Onl H w w1) (i : Nat) (v : Value) : Onl H w (w1.setCell ⟨H, i, none⟩ v) :=
  h.trans ⟨rfl, rfl, rfl, by simp [World.setCell], fun g _ h1 => heap_setCell_other w1 _ _ _ (fun e => h1 (by rw [e]))⟩
theorem Onl.far (h : Onl H w w1) {g : Nat} (hg : w.heap.size ≤ g) (i : Nat) (v : Value) : Onl H w (w1.setCell ⟨g, i, none⟩ v) :=
  ⟨h.1, h.2.1, h.2.2.1, Nat.le_trans h.2.2.2.1 (by simp [World.setCell]), fun k hk h1 => (heap_setCell_other w1 _ _ _ (fun e => by have e2 : k = g := e; omega)).trans (h.2.2.2.2 k hk h1)⟩
theorem Onl.below (h : Onl H w w1) {B : Nat} (hb : Below B w1 w2) (hB : w.heap.size ≤ B) : Onl H w w2 :=
  ⟨hb.os.trans h.1, hb.tape.trans h.2.1, hb.output.trans h.2.2.1, Nat.le_trans h.2.2.2.1 hb.size, fun g hg h1 => (hb.block g (by omega)).trans (h.2.2.2.2 g hg h1)⟩
theorem Onl.old (h : Onl H w w1) {B : Nat} {w0 : World} (hb : Below B w0 w) (h1 : B ≤ w.heap.size) (hH : B ≤ H) : Below B w0 w1 :=
  ⟨h.1.trans hb.os, h.2.1.trans hb.tape, h.2.2.1.trans hb.output, Nat.le_trans hb.size h.2.2.2.1, fun g hg => (h.2.2.2.2 g (by omega) (by omega)).trans (hb.block g hg)⟩
theorem Onl.setRow (h : Onl H w w1) {g : Nat} (hg : w.heap.size ≤ g) (cs : Array Value) : Onl H w (w1.setRow g cs) := by
  have hb := below_setRow (Below.refl g w1) (Nat.le_refl g) cs
  exact h.below hb hg
theorem Onl.blk {t : TypeId} {g : Nat} {cs : Array Value} (h : Onl H w w1) (hb : Blk w g t cs) (hg : g ≠ H) : Blk w1 g t cs := (h.2.2.2.2 g hb.lt hg).trans hb
end

def M32 : Nat := 4294967296
/-- A word of four bytes. -/
def word4 (a b c d : Nat) : Nat := a * 16777216 + b * 65536 + c * 256 + d
def wordB (p : List UInt8) (i : Nat) : Nat := word4 (p.getD (4 * i) 0).toNat (p.getD (4 * i + 1) 0).toNat (p.getD (4 * i + 2) 0).toNat (p.getD (4 * i + 3) 0).toNat
def sg0 (x : Nat) : Nat := rotr x 7 ^^^ rotr x 18 ^^^ (x / 8)
def sg1 (x : Nat) : Nat := rotr x 17 ^^^ rotr x 19 ^^^ (x / 1024)
def schedNext (l : List Nat) : Nat := (l.getD (l.length - 16) 0 + sg0 (l.getD (l.length - 15) 0) + l.getD (l.length - 7) 0 + sg1 (l.getD (l.length - 2) 0)) % 4294967296
def schedL (p : List UInt8) : Nat → List Nat
  | 0 => (List.range 16).map (wordB p)
  | k + 1 => schedL p k ++ [schedNext (schedL p k)]
theorem schedL_len (p : List UInt8) (k : Nat) : (schedL p k).length = 16 + k := by
  induction k with
  | zero => simp [schedL]
  | succ k ih => simp only [schedL, List.length_append, ih, List.length_singleton]; omega
theorem schedL_same (p : List UInt8) (i : Nat) : ∀ j k, i < 16 + k → k ≤ j → (schedL p j).getD i 0 = (schedL p k).getD i 0 := by
  intro j
  induction j with
  | zero => intro k _ h2; obtain rfl : k = 0 := by omega
            rfl
  | succ j ih =>
    intro k h1 h2
    rcases Nat.lt_or_ge j k with h | h
    · obtain rfl : k = j + 1 := by omega
      rfl
    · rw [← ih k h1 h]
      simp only [schedL, List.getD]
      rw [List.getElem?_append_left (by rw [schedL_len]; omega)]
theorem schedL_word (p : List UInt8) (i m : Nat) (hi : i < 16) : (schedL p m).getD i 0 = wordB p i := by
  rw [schedL_same p i m 0 (by omega) (by omega)]
  simp [schedL, List.getD, hi]
theorem getD_last (L : List Nat) (y i : Nat) (h : L.length = i) : (L ++ [y]).getD i 0 = y := by
  subst h
  simp [List.getD]
theorem schedL_next (p : List UInt8) (m k : Nat) (hk : k < m) : (schedL p m).getD (k + 16) 0 = ((schedL p m).getD k 0 + sg0 ((schedL p m).getD (k + 1) 0) + (schedL p m).getD (k + 9) 0 + sg1 ((schedL p m).getD (k + 14) 0)) % 4294967296 := by
  have h : ∀ i, i < 16 + k → (schedL p m).getD i 0 = (schedL p k).getD i 0 := fun i hi => schedL_same p i m k hi (by omega)
  rw [h k (by omega), h (k + 1) (by omega), h (k + 9) (by omega), h (k + 14) (by omega)]
  rw [schedL_same p (k + 16) m (k + 1) (by omega) (by omega)]
  have e0 : schedL p (k + 1) = schedL p k ++ [schedNext (schedL p k)] := by rw [schedL]
  have hl := schedL_len p k
  rw [e0]
  generalize schedL p k = L at *
  rw [getD_last L (schedNext L) (k + 16) (by omega)]
  unfold schedNext
  rw [hl]
  have e1 : 16 + k - 16 = k := by omega
  have e2 : 16 + k - 15 = k + 1 := by omega
  have e3 : 16 + k - 7 = k + 9 := by omega
  have e4 : 16 + k - 2 = k + 14 := by omega
  rw [e1, e2, e3, e4]
/-- The 64 words of a block. -/
def sched (p : List UInt8) (i : Nat) : Nat := (schedL p 48).getD i 0
theorem sched_word (p : List UInt8) (i : Nat) (hi : i < 16) : sched p i = wordB p i := by
  unfold sched
  exact schedL_word p i 48 hi
theorem sched_next (p : List UInt8) (k : Nat) (hk : k < 48) : sched p (k + 16) = (sched p k + sg0 (sched p (k + 1)) + sched p (k + 9) + sg1 (sched p (k + 14))) % 4294967296 := by
  unfold sched
  exact schedL_next p 48 k hk
theorem wordB_lt (p : List UInt8) (i : Nat) : wordB p i < 4294967296 := by
  unfold wordB word4
  have h1 := (p.getD (4 * i) 0).toNat_lt
  have h2 := (p.getD (4 * i + 1) 0).toNat_lt
  have h3 := (p.getD (4 * i + 2) 0).toNat_lt
  have h4 := (p.getD (4 * i + 3) 0).toNat_lt
  omega
theorem sched_lt (p : List UInt8) (i : Nat) (hi : i < 64) : sched p i < 4294967296 := by
  rcases Nat.lt_or_ge i 16 with h | h
  · rw [sched_word p i h]; exact wordB_lt p i
  · obtain ⟨k, rfl⟩ : ∃ k, i = k + 16 := ⟨i - 16, by omega⟩
    rw [sched_next p k (by omega)]
    exact Nat.mod_lt _ (by decide)
/-- The two sums of a step. -/
def stT (k w : Nat) (v : List Nat) : Nat := (v.getD 7 0 + (rotr (v.getD 4 0) 6 ^^^ rotr (v.getD 4 0) 11 ^^^ rotr (v.getD 4 0) 25) + ((v.getD 4 0 &&& v.getD 5 0) ^^^ ((4294967295 - v.getD 4 0) &&& v.getD 6 0)) + k + w) % 4294967296
def stU (v : List Nat) : Nat := ((rotr (v.getD 0 0) 2 ^^^ rotr (v.getD 0 0) 13 ^^^ rotr (v.getD 0 0) 22) + ((v.getD 0 0 &&& v.getD 1 0) ^^^ (v.getD 0 0 &&& v.getD 2 0) ^^^ (v.getD 1 0 &&& v.getD 2 0))) % 4294967296
def stV (k w : Nat) (v : List Nat) : List Nat := [(stT k w v + stU v) % 4294967296, v.getD 0 0, v.getD 1 0, v.getD 2 0, (v.getD 3 0 + stT k w v) % 4294967296, v.getD 4 0, v.getD 5 0, v.getD 6 0]
def stepsL (K S : Nat → Nat) (v : List Nat) : Nat → List Nat
  | 0 => v
  | i + 1 => stV (K i) (S i) (stepsL K S v i)
theorem stV_ok (k w : Nat) (v : List Nat) (h : ∀ y ∈ v, y < 4294967296) : (stV k w v).length = 8 ∧ ∀ y ∈ stV k w v, y < 4294967296 := by
  refine ⟨rfl, fun y hy => ?_⟩
  have hg : ∀ i, v.getD i 0 < 4294967296 := fun i => by
    rcases Nat.lt_or_ge i v.length with hi | hi
    · have e : v.getD i 0 = v[i] := by simp [List.getD, hi]
      rw [e]
      exact h _ (List.getElem_mem hi)
    · have e : v.getD i 0 = 0 := by simp [List.getD, hi]
      rw [e]; decide
  unfold stV at hy
  simp only [List.mem_cons, List.not_mem_nil, or_false] at hy
  rcases hy with rfl | rfl | rfl | rfl | rfl | rfl | rfl | rfl
  · exact Nat.mod_lt _ (by decide)
  · exact hg 0
  · exact hg 1
  · exact hg 2
  · exact Nat.mod_lt _ (by decide)
  · exact hg 4
  · exact hg 5
  · exact hg 6
theorem stepsL_ok (K S : Nat → Nat) (v : List Nat) (hl : v.length = 8) (h : ∀ y ∈ v, y < 4294967296) (i : Nat) : (stepsL K S v i).length = 8 ∧ ∀ y ∈ stepsL K S v i, y < 4294967296 := by
  induction i with
  | zero => exact ⟨hl, h⟩
  | succ i ih => exact stV_ok _ _ _ ih.2
/-- What a block makes of the words (the first eight of f; behind them the numbers of the steps). -/
def blkF (f : Nat → Nat) (p : List UInt8) (j : Nat) : Nat :=
  if j < 8 then (f j + (stepsL (fun i => f (8 + i)) (sched p) ((List.range 8).map f) 64).getD j 0) % 4294967296 else f j

/-- The cells of a Hash. -/
def hval (f : Nat → Nat) (rest : ByteArray) (n : Nat) (b : Bool) (i : Nat) : Value :=
  if i < 72 then .int .u32 (f i : Int) else if i = 72 then .string rest else if i = 73 then .int .u64 (n : Int) else .bool b
def hcells (f : Nat → Nat) (rest : ByteArray) (n : Nat) (b : Bool) : Array Value := fcells 75 (hval f rest n b)
section
variable (f : Nat → Nat) (rest : ByteArray) (n : Nat) (b : Bool)
theorem hcells_size : (hcells f rest n b).size = 75 := fcells_size _ _
theorem hcells_word (j : Nat) (hj : j < 72) : (hcells f rest n b)[j]? = some (.int .u32 (f j : Int)) := by
  unfold hcells; rw [fcells_at _ _ _ (by omega)]; unfold hval; rw [if_pos hj]
theorem hcells_rest : (hcells f rest n b)[72]? = some (.string rest) := by unfold hcells; rw [fcells_at _ _ _ (by decide)]; rfl
theorem hcells_n : (hcells f rest n b)[73]? = some (.int .u64 (n : Int)) := by unfold hcells; rw [fcells_at _ _ _ (by decide)]; rfl
theorem hcells_b : (hcells f rest n b)[74]? = some (.bool b) := by unfold hcells; rw [fcells_at _ _ _ (by decide)]; rfl
theorem hcells_setw (j v : Nat) (hj : j < 72) : (hcells f rest n b).setIfInBounds j (.int .u32 (v : Int)) = hcells (fun i => if i = j then v else f i) rest n b := by
  unfold hcells
  rw [fcells_set]
  refine fcells_congr _ _ _ fun i hi => ?_
  by_cases h : i = j
  · subst h; rw [if_pos rfl]; unfold hval; rw [if_pos hj]; simp only [if_true]
  · rw [if_neg h]
    unfold hval
    by_cases h2 : i < 72
    · rw [if_pos h2, if_pos h2]; simp only [h, if_false]
    · rw [if_neg h2, if_neg h2]
theorem hcells_setr (r : ByteArray) : (hcells f rest n b).setIfInBounds 72 (.string r) = hcells f r n b := by
  unfold hcells
  rw [fcells_set]
  refine fcells_congr _ _ _ fun i hi => ?_
  unfold hval
  by_cases h : i = 72
  · subst h; rfl
  · rw [if_neg h, if_neg h, if_neg h]
theorem hcells_setn (m : Nat) : (hcells f rest n b).setIfInBounds 73 (.int .u64 (m : Int)) = hcells f rest m b := by
  unfold hcells
  rw [fcells_set]
  refine fcells_congr _ _ _ fun i hi => ?_
  unfold hval
  by_cases h : i = 73
  · subst h; rfl
  · rw [if_neg h, if_neg h, if_neg h]
theorem hcells_setb (c : Bool) : (hcells f rest n b).setIfInBounds 74 (.bool c) = hcells f rest n c := by
  unfold hcells
  rw [fcells_set]
  refine fcells_congr _ _ _ fun i hi => ?_
  unfold hval
  by_cases h : i = 74
  · subst h; rfl
  · rw [if_neg h]
    by_cases h2 : i < 72
    · rw [if_pos h2, if_pos h2]
    · rw [if_neg h2, if_neg h2]
      by_cases h3 : i = 72
      · rw [if_pos h3, if_pos h3]
      · rw [if_neg h3, if_neg h3, if_pos (by omega), if_pos (by omega)]
end
/-- n words as cells. -/
def wval (f : Nat → Nat) (i : Nat) : Value := .int .u32 (f i : Int)
theorem wcells_set (n : Nat) (f : Nat → Nat) (j v : Nat) : (fcells n (wval f)).setIfInBounds j (.int .u32 (v : Int)) = fcells n (wval fun i => if i = j then v else f i) := by
  rw [fcells_set]
  refine fcells_congr _ _ _ fun i hi => ?_
  unfold wval
  by_cases h : i = j
  · simp only [h, if_true]
  · simp only [h, if_false]
theorem wcells_at (n : Nat) (f : Nat → Nat) (j : Nat) (hj : j < n) : (fcells n (wval f))[j]? = some (.int .u32 (f j : Int)) := fcells_at n _ j hj
theorem zero_w64 (w : World) : (zeroValue 53).run Try.prog w = .ok (.agg (fcells 64 (wval fun _ => 0))) w := by kernel_rfl
theorem zero_w8 (w : World) : (zeroValue 52).run Try.prog w = .ok (.agg (fcells 8 (wval fun _ => 0))) w := by kernel_rfl
theorem zero_hash (w : World) : (zeroValue 55).run Try.prog w = .ok (.agg (hcells (fun _ => 0) ⟨#[]⟩ 0 false)) w := by kernel_rfl
theorem info_w8 : (Try.prog.info? 52).map (·.size) = some 8 := by kernel_rfl
theorem info_hash : (Try.prog.info? 55).map (·.size) = some 75 := by kernel_rfl
theorem enters_rot : ∀ args W, Sem.run Try.prog (callFunc 53 args) W = .ok (.enter 53 args) W := fun _ _ => by kernel_rfl
end Go.Proofs.Ytbccljpbnbobmaa
