/- The document's Table of layer 4. Conditions: none. -/
import Derived.Test.YtginjnpboggnbaaCode4
namespace Go.Proofs.Ytginjnpboggnbaa
open Go.RowKit
set_option maxRecDepth 100000

theorem info_u32w : (Try.prog.info? 29).map (fun i => (i.zero, i.size, i.bytes)) = some (some (.int .u32 0), 1, 4) := by kernel_rfl
/-- n numbers behind a. -/
def URow (w : World) (a : Option Addr) (n : Nat) (F : Nat → Nat) : Prop :=
  n = 0 ∨ ∃ b off, a = some ⟨b, off, none⟩ ∧ b < w.heap.size ∧ ∀ i, i < n → w.cell? ⟨b, off + i, none⟩ = some (.int .u32 (F i : Int))
theorem URow.get {w : World} {a : Option Addr} {n : Nat} {F : Nat → Nat} (h : URow w a n F) (i : Nat) (hi : i < n) : ∃ b off, a = some ⟨b, off, none⟩ ∧ b < w.heap.size ∧ w.cell? ⟨b, off + i, none⟩ = some (.int .u32 (F i : Int)) := by
  rcases h with h | ⟨b, off, h1, h2, h3⟩
  · omega
  · exact ⟨b, off, h1, h2, h3 i hi⟩
def ucells (n : Nat) (F : Nat → Nat) : List Value := (List.range n).map fun i => .int .u32 (F i : Int)
theorem ucells_at (n : Nat) (F : Nat → Nat) (i : Nat) (h : i < n) : (ucells n F)[i]? = some (.int .u32 (F i : Int)) := by simp [ucells, h]
theorem ucells_succ (n : Nat) (F : Nat → Nat) : ucells (n + 1) F = ucells n F ++ [.int .u32 (F n : Int)] := by simp [ucells, List.range_succ]
theorem urow_of {w : World} {base n : Nat} {F : Nat → Nat} {v : Value} (h : w.ownsRow base 29 1 v n (ucells n F)) : ∃ a cap, v = .slice a n cap ∧ URow w a n F ∧ ∀ b off sp, a = some ⟨b, off, sp⟩ → base ≤ b ∧ b < w.heap.size := by
  have hlt := World.ownsRow.lt h
  rcases h.2 with ⟨rfl, h0⟩ | ⟨g, cap, cur, rfl, _⟩
  · exact ⟨none, 0, by rw [h0], .inl h0, fun b off sp e => by cases e⟩
  · refine ⟨some ⟨g, 0, none⟩, cap, rfl, .inr ⟨g, 0, rfl, (hlt g rfl).2, fun i hi => ?_⟩, fun b off sp e => ?_⟩
    · rw [Nat.zero_add, World.ownsRow.cellAt h i (by omega)]
      exact ucells_at n F i hi
    · injection e with e
      injection e with e1
      rw [← e1]
      exact hlt g rfl

set_option maxHeartbeats 4000000 in
theorem table_any (a : Option Addr) (n cap : Nat) (m : Nat → Int) (hn : n ≤ 320) (h15 : ∀ i, i < n → 0 ≤ m i ∧ m i ≤ 15) (w : World) (hr : IRow w a n m) :
    Calls Try.prog 41 #[.slice a n cap] w fun e w' => ∃ v, e = .returned v ∧ w'.ownsRow w.heap.size 29 1 v n (ucells n (bitsF (lens m) n)) ∧ Below w.heap.size w w' := by
  have Hr := Lib.hid hr
  have H15 := Lib.hid h15
  have hb0 := (Below.refl w.heap.size w).alloc (Nat.le_refl _) (.cells #[] 29)
  have hr0 := World.ownsRow_made (base := w.heap.size) (e := 29) (size := 1) w #[] 0 (Nat.le_refl _) (Nat.zero_le _) rfl
  obtain ⟨L, HL⟩ : ∃ L, Hid (lens m = L) := ⟨_, Lib.hid (Eq.refl _)⟩
  rw [HL.out]
  obtain ⟨F, HF⟩ : ∃ L, Hid (bitsF (lens m) n = L) := ⟨_, Lib.hid (Eq.refl _)⟩
  have HF' : Hid (bitsF L n = F) := by show _ = _; rw [← HL.out]; exact HF.out
  rw [HF'.out]
  have HmL : Hid (∀ j, j < n → m j = (L j : Int)) := fun j hj => by
    have := h15 j hj
    rw [← HL.out]
    unfold lens
    omega
  have HO0 : Hid ((w.alloc (.cells #[] 29)).ownsRow w.heap.size 29 1 (.slice (some ⟨w.heap.size, 0, none⟩) 0 0) 0 (ucells 0 F)) := hr0
  have HB0 := Lib.hid hb0
  clear hr h15 hb0 hr0
  go_enter Try.func41, Try.ntmps41
  go_wp2_with fail
  obtain ⟨w1, HW1⟩ : ∃ W, Hid (w.alloc (.cells #[] 29) = W) := ⟨_, Lib.hid (Eq.refl _)⟩
  rw [HW1.out] at HO0 HB0 ⊢
  clear HW1
  go_loopw [3, 9] (fun v_ i_ wr => ∃ i : Nat, i ≤ n ∧ i_ = .int .i64 (i : Int) ∧ Hid (wr.ownsRow w.heap.size 29 1 v_ i (ucells i F)) ∧ Hid (Below w.heap.size w wr)) (fun _ i _ => n - (intOf i).toNat)
  case atStart => exact ⟨0, by omega, rfl, HO0, HB0⟩
  case round =>
    clear HO0 HB0
    obtain ⟨i, hi, rfl, HO, HB⟩ := hrel
    by_cases hlt : i < n
    · have d1 : decide ((i : Int) < (n : Int)) = true := by rw [decide_eq_true_eq]; omega
      have hlI : (i : Int) < (n : Int) := by omega
      have hrw := Hr.out.below HB.out
      have CC := Lib.hid (code_any a n cap m hn H15.out i hlt wr hrw)
      obtain ⟨b, off, rfl, _, c0⟩ := hrw.get i hlt
      have em := HmL.out i hlt
      obtain ⟨l, Hl⟩ : ∃ R, Hid (L i = R) := ⟨_, Lib.hid (Eq.refl _)⟩
      obtain ⟨f, Hf⟩ : ∃ R, Hid (F i = R) := ⟨_, Lib.hid (Eq.refl _)⟩
      rw [em, Hl.out] at c0
      have hos := HO.out
      have hbsw : w.heap.size ≤ wr.heap.size := HB.out.size
      have hsucc := ucells_succ i F
      rw [Hf.out] at hsucc
      have Hsucc := Lib.hid hsucc
      clear em hrw hsucc
      by_cases hl0 : l = 0
      · subst hl0
        have hf0 : f = 0 := by
          rw [← Hf.out, ← HF'.out]
          unfold bitsF
          rw [Hl.out]
          rfl
        subst hf0
        simp at c0
        go_wp2_with (first
          | (at_builtin; go_must (refine wpList_append_elem wr rfl (.tmp 20) (.tmp 22) rfl Try.underlying67 info_u32w rfl (by decide) w.heap.size _ i (ucells i F) [.int .u32 0] hos rfl ?_ rfl rfl rfl ?_ ?_ hbsw ?_; (intro y hy; simp at hy; subst hy; rfl); (unfold maxLen; omega); omega; intro v7 w7 hown7 hg7; have HO7 : Hid (w7.ownsRow w.heap.size 29 1 v7 (i + 1) (ucells (i + 1) F)) := (by show World.ownsRow _ _ _ _ _ _ _; rw [Hsucc.out]; exact hown7); have HB7 := Lib.hid (HB.out.trans (below_grown hos hg7 hbsw)); clear hown7 hg7))
          | fail)
        go_roundw
        case rel => exact ⟨i + 1, by omega, by go_num, HO7, HB7⟩
        case measure => simp [intOf]; omega
      · have f2 : decide (0 < (l : Int)) = true := by rw [decide_eq_true_eq]; omega
        have f3 : decide (0 < l) = true := by rw [decide_eq_true_eq]; omega
        have hfc : codeOf (lens m) n i = f := by
          rw [← Hf.out, ← HF'.out, HL.out]
          unfold bitsF
          rw [if_pos (by rw [Hl.out]; omega)]
        rw [hfc] at CC
        clear hfc
        go_wp2_with fail
        refine CC.out.mono ?_
        rintro e w6 ⟨rfl, rfl⟩
        clear CC
        go_wp2_with (first
          | (at_builtin; go_must (refine wpList_append_elem wr rfl (.tmp 20) (.tmp 22) rfl Try.underlying67 info_u32w rfl (by decide) w.heap.size _ i (ucells i F) [.int .u32 (f : Int)] hos rfl ?_ rfl rfl rfl ?_ ?_ hbsw ?_; (intro y hy; simp at hy; subst hy; rfl); (unfold maxLen; omega); omega; intro v7 w7 hown7 hg7; have HO7 : Hid (w7.ownsRow w.heap.size 29 1 v7 (i + 1) (ucells (i + 1) F)) := (by show World.ownsRow _ _ _ _ _ _ _; rw [Hsucc.out]; exact hown7); have HB7 := Lib.hid (HB.out.trans (below_grown hos hg7 hbsw)); clear hown7 hg7))
          | fail)
        go_roundw
        case rel => exact ⟨i + 1, by omega, by go_num, HO7, HB7⟩
        case measure => simp [intOf]; omega
    · obtain rfl : i = n := by omega
      have d1 : decide ((i : Int) < (i : Int)) = false := by rw [decide_eq_false_iff_not]; omega
      go_wp2_with fail
      go_ret
      exact ⟨_, rfl, HO.out, HB.out⟩
end Go.Proofs.Ytginjnpboggnbaa
