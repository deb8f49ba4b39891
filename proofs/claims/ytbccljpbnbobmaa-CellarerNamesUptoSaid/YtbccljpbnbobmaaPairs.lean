/- The document's Pairs: the two digits of each byte. Conditions: none. -/
import Derived.Test.YtbccljpbnbobmaaHex
namespace Go.Proofs.Ytbccljpbnbobmaa
open Go.RowKit
set_option maxRecDepth 100000

theorem info_str : (Try.prog.info? 9).map (fun i => (i.zero, i.size, i.bytes)) = some (some (.string ⟨#[]⟩), 1, 16) := by kernel_rfl

def pairS (i : Nat) : ByteArray := ⟨#[dgt (i / 16), dgt (i % 16)]⟩
def pcells (n : Nat) : List Value := (List.range n).map fun i => .string (pairS i)
theorem pcells_succ (n : Nat) : pcells (n + 1) = pcells n ++ [.string (pairS n)] := by simp [pcells, List.range_succ]
theorem pcells_length (n : Nat) : (pcells n).length = n := by simp [pcells]
theorem pcells_at (n i : Nat) (h : i < n) : (pcells n)[i]? = some (.string (pairS i)) := by simp [pcells, h]

def dcell (i : Nat) : Value := .string ⟨#[dgt i]⟩
theorem lit16 : (#[.string ⟨#[48]⟩, .string ⟨#[49]⟩, .string ⟨#[50]⟩, .string ⟨#[51]⟩, .string ⟨#[52]⟩, .string ⟨#[53]⟩, .string ⟨#[54]⟩, .string ⟨#[55]⟩, .string ⟨#[56]⟩, .string ⟨#[57]⟩, .string ⟨#[97]⟩, .string ⟨#[98]⟩, .string ⟨#[99]⟩, .string ⟨#[100]⟩, .string ⟨#[101]⟩, .string ⟨#[102]⟩] : Array Value) = fcells 16 dcell := rfl
theorem two_digits (i j : Nat) (hj : j < 16) : (⟨#[dgt i]⟩ ++ ⟨#[dgt j]⟩ : ByteArray) = pairS (16 * i + j) := by
  have h1 : (16 * i + j) / 16 = i := by omega
  have h2 : (16 * i + j) % 16 = j := by omega
  unfold pairS
  rw [h1, h2]
  rfl

/-- The list of all pairs, in memory of the call's own. -/
def PairsPost (w : World) (e : Ending) (w' : World) : Prop := ∃ g cap, e = .returned (.slice (some ⟨g, 0, none⟩) 256 cap) ∧ w'.ownsRow w.heap.size 9 1 (.slice (some ⟨g, 0, none⟩) 256 cap) 256 (pcells 256) ∧ Below w.heap.size w w'

set_option maxHeartbeats 1000000 in
theorem pairs_any (w : World) : Calls Try.prog 41 #[] w (PairsPost w) := by
  go_enter Try.func41, Try.ntmps41
  go_wp2
  rw [lit16]
  have hB0 := Blk.new (w.alloc (.cells #[] 9)) 9 (fcells 16 dcell)
  have ho0 := (World.ownsRow_made (base := w.heap.size) (e := 9) (size := 1) w #[] 0 (Nat.le_refl _) (Nat.zero_le _) rfl).alloc (.cells (fcells 16 dcell) 9)
  have hb0 := ((Below.refl w.heap.size w).alloc (Nat.le_refl _) (.cells #[] 9)).alloc (by simp) (.cells (fcells 16 dcell) 9)
  simp only [World.size_alloc] at hB0
  generalize (w.alloc (.cells #[] 9)).alloc (.cells (fcells 16 dcell) 9) = w2 at *
  go_loopw [1, 3, 5, 9, 13, 14, 15, 16, 17, 18, 19, 20, 21, 22, 23, 24, 25] (fun v _ _ i _ _ _ _ _ _ _ _ _ _ _ _ _ wr => ∃ k : Nat, k ≤ 16 ∧ i = .int .i64 (k : Int) ∧ wr.ownsRow w.heap.size 9 1 v (16 * k) (pcells (16 * k)) ∧ v.ownBlock ≠ some (w.heap.size + 1) ∧
      Blk wr (w.heap.size + 1) 9 (fcells 16 dcell) ∧ Below w.heap.size w wr)
    (fun _ _ _ i _ _ _ _ _ _ _ _ _ _ _ _ _ _ => 16 - (intOf i).toNat)
  case atStart => exact ⟨0, by omega, rfl, ho0, by simp [Value.ownBlock], hB0, hb0⟩
  case round =>
    clear ho0 hB0 hb0
    obtain ⟨k, hk, rfl, hown, hne, hB, hb⟩ := hrel
    by_cases hlt : k < 16
    · have hc := hB.cell k
      rw [fcells_at _ _ _ hlt] at hc
      unfold dcell at hc
      have hkb : decide ((k : Int) < 16) = true := by simp; omega
      go_wp2_with fail
      rw [lit16]
      obtain ⟨G, hG⟩ : ∃ G, G = wr.heap.size := ⟨_, rfl⟩
      have hB1 := Blk.new wr 9 (fcells 16 dcell)
      have hB2 := hB.alloc (.cells (fcells 16 dcell) 9)
      have ho1 := hown.alloc (.cells (fcells 16 dcell) 9)
      have hb1 := hb.alloc hb.size (.cells (fcells 16 dcell) 9)
      have hneG : u1.ownBlock ≠ some G := fun h => by have := (hown.lt _ h).2; omega
      have hBG : w.heap.size + 1 < G := by rw [hG]; exact hB.lt
      rw [← hG] at hB1 ⊢
      have HG := Lib.hid hG
      clear hG
      generalize wr.alloc (.cells (fcells 16 dcell) 9) = w3 at *
      clear hown hB hb hc
      go_loopw [1, 5, 15] (fun v _ i wr => ∃ j : Nat, j ≤ 16 ∧ i = .int .i64 (j : Int) ∧ wr.ownsRow w.heap.size 9 1 v (16 * k + j) (pcells (16 * k + j)) ∧ v.ownBlock ≠ some (w.heap.size + 1) ∧ v.ownBlock ≠ some G ∧
          Blk wr (w.heap.size + 1) 9 (fcells 16 dcell) ∧ Blk wr G 9 (fcells 16 dcell) ∧ Below w.heap.size w wr)
        (fun _ _ i _ => 16 - (intOf i).toNat)
      case atStart => exact ⟨0, by omega, rfl, ho1, hne, hneG, hB2, hB1, hb1⟩
      case round =>
        clear ho1 hne hneG hB2 hB1 hb1
        obtain ⟨j, hj, rfl, hown, hne, hneG, hB, hB1, hb⟩ := hrel
        by_cases hltj : j < 16
        · have hc := hB1.cell j
          rw [fcells_at _ _ _ hltj] at hc
          unfold dcell at hc
          have ht := Lib.hid (two_digits k j hltj)
          have hbs := hb.size
          go_wp2_with (at_builtin; go_must (refine wpList_append_elem_at _ rfl _ _ rfl Try.underlying49 info_str rfl (by decide) w.heap.size _ (16 * k + j) (pcells (16 * k + j)) _ hown rfl ?_ rfl rfl rfl ?_ ?_ hbs ?_; (intro y hy; simp at hy; subst hy; rfl); unfold maxLen; omega; omega; intro v' w4 hown4 hg4 hat4))
          have hG2 : G < wr.heap.size := hB1.lt
          go_roundw
          case rel =>
            refine ⟨j + 1, by omega, by go_num, ?_, hat4 _ (by omega) hne, hat4 _ hG2 hneG, hB.grown hg4 hne.symm, hB1.grown hg4 hneG.symm, hb.trans (below_grown hown hg4 hbs)⟩
            have e : pcells (16 * k + (j + 1)) = pcells (16 * k + j) ++ [.string (⟨#[dgt k]⟩ ++ ⟨#[dgt j]⟩)] := by rw [ht.out, ← pcells_succ]; rfl
            rw [e]
            exact hown4
          case measure => simp [intOf]; omega
        · obtain rfl : j = 16 := by omega
          go_wp2_with fail
          go_roundw
          case rel => exact ⟨k + 1, by omega, by go_num, by rw [show 16 * (k + 1) = 16 * k + 16 by omega]; exact hown, hne, hB, hb⟩
          case measure => simp [intOf]; omega
    · obtain rfl : k = 16 := by omega
      obtain ⟨g, cap, rfl, _⟩ := World.ownsRow.form hown (by omega)
      go_wp2_with fail
      go_ret
      exact ⟨g, cap, rfl, hown, hb⟩
end Go.Proofs.Ytbccljpbnbobmaa
