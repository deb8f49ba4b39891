/- The document's Fixed and Sizes of layer 6. Printed by gen_fix6.py. Conditions: none. -/
import Derived.Test.YtjnglahjngiofaaFixed
import Derived.Test.YtjnglahjngiofaaSize
namespace Go.Proofs.Ytjnglahjngiofaa
open Go.RowKit
set_option maxRecDepth 100000

theorem ownsRow_blk {w : World} {base e size g n cap : Nat} {cur : Array Value} {xs : List Value} (h : Blk w g e cur) (hb : base ≤ g) (hn : n ≤ cap) (hm : cap ≤ maxLen) (hs : cur.size = cap * size) (hx : cur.toList.take (n * size) = xs) : w.ownsRow base e size (.slice (some ⟨g, 0, none⟩) n cap) n xs := by
  refine ⟨?_, .inr ⟨g, cap, cur, rfl, hb, h, hn, hm, hs, hx⟩⟩
  rw [← hx, List.length_take]
  have h1 : cur.toList.length = cap * size := by rw [Array.length_toList, hs]
  have h2 := Nat.mul_le_mul_right size hn
  omega
theorem irow_own {w : World} {base n : Nat} {m : Nat → Int} {v : Value} (h : w.ownsRow base 3 1 v n (icells n m)) : ∃ a cap, v = .slice a n cap ∧ IRow w a n m ∧ ∀ b off sp, a = some ⟨b, off, sp⟩ → base ≤ b ∧ b < w.heap.size := by
  have hlt := World.ownsRow.lt h
  have h' := h
  rcases h.2 with ⟨rfl, h0⟩ | ⟨g, cap, cur, rfl, _⟩
  · exact ⟨none, 0, by rw [h0], .inl h0, fun b off sp e => by cases e⟩
  · refine ⟨some ⟨g, 0, none⟩, cap, rfl, IRow.ofOwn h', fun b off sp e => ?_⟩
    injection e with e
    injection e with e1
    rw [← e1]
    exact hlt g rfl

def lenV : Value → Nat
  | .slice _ n _ => n
  | _ => 0
theorem IRow.grown {w w' : World} {a : Option Addr} {n : Nat} {m : Nat → Int} {row : Option Nat} (h : IRow w a n m) (hg : w.grownBy w' row) (hn : ∀ b off sp, a = some ⟨b, off, sp⟩ → some b ≠ row) : IRow w' a n m := by
  rcases h with h | ⟨b, off, rfl, h2, h3⟩
  · exact .inl h
  · have hb := hg.block b h2 (hn b off none rfl)
    exact .inr ⟨b, off, rfl, Nat.lt_of_lt_of_le h2 hg.size, fun i hi => (World.cell?_of_block hb).trans (h3 i hi)⟩

set_option maxHeartbeats 8000000 in
theorem rfixed_any (w : World) : Calls Try.prog 32 #[] w fun e w' => ∃ a1 c1 a2 c2, e = .returned (.tuple #[.slice a1 288 c1, .slice a2 32 c2]) ∧ IRow w' a1 288 fixL ∧ IRow w' a2 32 (fun _ => 5) ∧ Below w.heap.size w w' := by
  have hr0 := World.ownsRow_made (base := w.heap.size) (e := 3) (size := 1) w #[] 0 (Nat.le_refl _) (Nat.zero_le _) rfl
  have hb0 := ((Below.refl w.heap.size w).alloc (Nat.le_refl _) (.cells #[] 3)).alloc (by simp) (.cells #[] 3)
  have hd0 := Blk.new (w.alloc (.cells #[] 3)) 3 #[]
  have hg0 : (w.alloc (.cells #[] 3)).grownBy ((w.alloc (.cells #[] 3)).alloc (.cells #[] 3)) none := World.grownBy_alloc _ _ none
  have HO0 : Hid (((w.alloc (.cells #[] 3)).alloc (.cells #[] 3)).ownsRow w.heap.size 3 1 (.slice (some ⟨w.heap.size, 0, none⟩) 0 0) 0 (icells 0 fixL)) :=
    ownsRow_blk (cur := #[]) ((Blk.new w 3 #[]).alloc _) (Nat.le_refl _) (Nat.le_refl _) (Nat.zero_le _) rfl rfl
  have HB0 := Lib.hid hb0
  have HD0 := Lib.hid hd0
  have hgs : (w.alloc (.cells #[] 3)).heap.size = w.heap.size + 1 := by simp
  rw [hgs] at HD0
  have HN0 : Hid ((Value.slice (some ⟨w.heap.size, 0, none⟩) 0 0).ownBlock ≠ some (w.heap.size + 1)) := fun e => by
    injection e with e
    exact absurd (show w.heap.size = w.heap.size + 1 from e) (by omega)
  obtain ⟨G, HG⟩ : ∃ G, Hid (w.heap.size + 1 = G) := ⟨_, Lib.hid (Eq.refl _)⟩
  rw [HG.out] at HD0 HN0
  clear hr0 hb0 hd0 hg0
  go_enter Try.func32, Try.ntmps32
  go_wp2_with fail
  obtain ⟨w1, HW1⟩ : ∃ W, Hid ((w.alloc (.cells #[] 3)).alloc (.cells #[] 3) = W) := ⟨_, Lib.hid (Eq.refl _)⟩
  rw [HW1.out] at HO0 HB0 HD0 ⊢
  try rw [hgs]
  rw [HG.out]
  clear HW1 hgs
  go_loopw [2, 4] (fun v_ i_ wr => ∃ i : Nat, i ≤ 288 ∧ i_ = .int .i64 (i : Int) ∧ Hid (wr.ownsRow w.heap.size 3 1 v_ i (icells i fixL)) ∧ Hid (Blk wr G 3 #[]) ∧ Hid (v_.ownBlock ≠ some G) ∧ Hid (Below w.heap.size w wr)) (fun _ i _ => 288 - (intOf i).toNat)
  case atStart => exact ⟨0, by omega, rfl, HO0, HD0, HN0, HB0⟩
  case round =>
    clear HO0 HD0 HN0 HB0
    obtain ⟨i, hi, rfl, HO, HD, HN, HB⟩ := hrel
    by_cases hlt : i < 288
    · have d1 : decide ((i : Int) < 288) = true := by rw [decide_eq_true_eq]; omega
      have hos := HO.out
      have hbsw : w.heap.size ≤ wr.heap.size := HB.out.size
      rcases show i < 144 ∨ (144 ≤ i ∧ i < 256) ∨ (256 ≤ i ∧ i < 280) ∨ 280 ≤ i by omega with h | ⟨h, h'⟩ | ⟨h, h'⟩ | h
      · have hx : fixL i = 8 := by unfold fixL; rw [if_pos h]
        have d2 : decide (144 ≤ (i : Int)) = false := by rw [decide_eq_false_iff_not]; omega
        have d3 : decide ((i : Int) < 256) = true := by rw [decide_eq_true_eq]; omega
        have d4 : decide (256 ≤ (i : Int)) = false := by rw [decide_eq_false_iff_not]; omega
        have d5 : decide ((i : Int) < 280) = true := by rw [decide_eq_true_eq]; omega
        have hsucc := icells_succ i fixL
        rw [hx] at hsucc
        have Hsucc := Lib.hid hsucc
        clear hsucc hx
        go_wp2_with (first
          | (at_builtin; go_must (refine wpList_append_elem_at wr rfl (.tmp 24) (.tmp 26) rfl Try.underlying22 info_int rfl (by decide) w.heap.size _ i (icells i fixL) [.int .i64 8] hos rfl ?_ rfl rfl rfl ?_ ?_ hbsw ?_; (intro y hy; simp at hy; subst hy; rfl); (unfold maxLen; omega); omega; intro v7 w7 hown7 hg7 hn7; have HO7 : Hid (w7.ownsRow w.heap.size 3 1 v7 (i + 1) (icells (i + 1) fixL)) := (by show World.ownsRow _ _ _ _ _ _ _; rw [Hsucc.out]; exact hown7); have HB7 := Lib.hid (HB.out.trans (below_grown hos hg7 hbsw)); have HD7 := Lib.hid (HD.out.grown hg7 (fun e => HN.out e.symm)); have HN7 : Hid (v7.ownBlock ≠ some G) := Lib.hid (hn7 G HD.out.lt HN.out); clear hown7 hg7 hn7))
          | fail)
        go_roundw
        case rel => exact ⟨i + 1, by omega, by go_num, HO7, HD7, HN7, HB7⟩
        case measure => simp [intOf]; omega
      · have hx : fixL i = 9 := by unfold fixL; rw [if_neg (by omega), if_pos h']
        have d2 : decide (144 ≤ (i : Int)) = true := by rw [decide_eq_true_eq]; omega
        have d3 : decide ((i : Int) < 256) = true := by rw [decide_eq_true_eq]; omega
        have d4 : decide (256 ≤ (i : Int)) = false := by rw [decide_eq_false_iff_not]; omega
        have d5 : decide ((i : Int) < 280) = true := by rw [decide_eq_true_eq]; omega
        have hsucc := icells_succ i fixL
        rw [hx] at hsucc
        have Hsucc := Lib.hid hsucc
        clear hsucc hx
        go_wp2_with (first
          | (at_builtin; go_must (refine wpList_append_elem_at wr rfl (.tmp 24) (.tmp 26) rfl Try.underlying22 info_int rfl (by decide) w.heap.size _ i (icells i fixL) [.int .i64 9] hos rfl ?_ rfl rfl rfl ?_ ?_ hbsw ?_; (intro y hy; simp at hy; subst hy; rfl); (unfold maxLen; omega); omega; intro v7 w7 hown7 hg7 hn7; have HO7 : Hid (w7.ownsRow w.heap.size 3 1 v7 (i + 1) (icells (i + 1) fixL)) := (by show World.ownsRow _ _ _ _ _ _ _; rw [Hsucc.out]; exact hown7); have HB7 := Lib.hid (HB.out.trans (below_grown hos hg7 hbsw)); have HD7 := Lib.hid (HD.out.grown hg7 (fun e => HN.out e.symm)); have HN7 : Hid (v7.ownBlock ≠ some G) := Lib.hid (hn7 G HD.out.lt HN.out); clear hown7 hg7 hn7))
          | fail)
        go_roundw
        case rel => exact ⟨i + 1, by omega, by go_num, HO7, HD7, HN7, HB7⟩
        case measure => simp [intOf]; omega
      · have hx : fixL i = 7 := by unfold fixL; rw [if_neg (by omega), if_neg (by omega), if_pos h']
        have d2 : decide (144 ≤ (i : Int)) = true := by rw [decide_eq_true_eq]; omega
        have d3 : decide ((i : Int) < 256) = false := by rw [decide_eq_false_iff_not]; omega
        have d4 : decide (256 ≤ (i : Int)) = true := by rw [decide_eq_true_eq]; omega
        have d5 : decide ((i : Int) < 280) = true := by rw [decide_eq_true_eq]; omega
        have hsucc := icells_succ i fixL
        rw [hx] at hsucc
        have Hsucc := Lib.hid hsucc
        clear hsucc hx
        go_wp2_with (first
          | (at_builtin; go_must (refine wpList_append_elem_at wr rfl (.tmp 24) (.tmp 26) rfl Try.underlying22 info_int rfl (by decide) w.heap.size _ i (icells i fixL) [.int .i64 7] hos rfl ?_ rfl rfl rfl ?_ ?_ hbsw ?_; (intro y hy; simp at hy; subst hy; rfl); (unfold maxLen; omega); omega; intro v7 w7 hown7 hg7 hn7; have HO7 : Hid (w7.ownsRow w.heap.size 3 1 v7 (i + 1) (icells (i + 1) fixL)) := (by show World.ownsRow _ _ _ _ _ _ _; rw [Hsucc.out]; exact hown7); have HB7 := Lib.hid (HB.out.trans (below_grown hos hg7 hbsw)); have HD7 := Lib.hid (HD.out.grown hg7 (fun e => HN.out e.symm)); have HN7 : Hid (v7.ownBlock ≠ some G) := Lib.hid (hn7 G HD.out.lt HN.out); clear hown7 hg7 hn7))
          | fail)
        go_roundw
        case rel => exact ⟨i + 1, by omega, by go_num, HO7, HD7, HN7, HB7⟩
        case measure => simp [intOf]; omega
      · have hx : fixL i = 8 := by unfold fixL; rw [if_neg (by omega), if_neg (by omega), if_neg (by omega)]
        have d2 : decide (144 ≤ (i : Int)) = true := by rw [decide_eq_true_eq]; omega
        have d3 : decide ((i : Int) < 256) = false := by rw [decide_eq_false_iff_not]; omega
        have d4 : decide (256 ≤ (i : Int)) = true := by rw [decide_eq_true_eq]; omega
        have d5 : decide ((i : Int) < 280) = false := by rw [decide_eq_false_iff_not]; omega
        have hsucc := icells_succ i fixL
        rw [hx] at hsucc
        have Hsucc := Lib.hid hsucc
        clear hsucc hx
        go_wp2_with (first
          | (at_builtin; go_must (refine wpList_append_elem_at wr rfl (.tmp 24) (.tmp 26) rfl Try.underlying22 info_int rfl (by decide) w.heap.size _ i (icells i fixL) [.int .i64 8] hos rfl ?_ rfl rfl rfl ?_ ?_ hbsw ?_; (intro y hy; simp at hy; subst hy; rfl); (unfold maxLen; omega); omega; intro v7 w7 hown7 hg7 hn7; have HO7 : Hid (w7.ownsRow w.heap.size 3 1 v7 (i + 1) (icells (i + 1) fixL)) := (by show World.ownsRow _ _ _ _ _ _ _; rw [Hsucc.out]; exact hown7); have HB7 := Lib.hid (HB.out.trans (below_grown hos hg7 hbsw)); have HD7 := Lib.hid (HD.out.grown hg7 (fun e => HN.out e.symm)); have HN7 : Hid (v7.ownBlock ≠ some G) := Lib.hid (hn7 G HD.out.lt HN.out); clear hown7 hg7 hn7))
          | fail)
        go_roundw
        case rel => exact ⟨i + 1, by omega, by go_num, HO7, HD7, HN7, HB7⟩
        case measure => simp [intOf]; omega
    · have h288 : i = 288 := by omega
      have d1 : decide ((i : Int) < 288) = false := by rw [decide_eq_false_iff_not]; omega
      obtain ⟨a1, c1, rfl, hI1, hA1⟩ := irow_own HO.out
      rw [h288] at hI1
      have H288 := Lib.hid h288
      clear h288 hlt
      have HI1 := Lib.hid hI1
      have HA1 := Lib.hid hA1
      have hGw : w.heap.size ≤ G := by have := HG.out; omega
      have HO0 : Hid (wr.ownsRow w.heap.size 3 1 (.slice (some ⟨G, 0, none⟩) 0 0) 0 (icells 0 fun _ => 5)) :=
        ownsRow_blk (cur := #[]) HD.out hGw (Nat.le_refl _) (Nat.zero_le _) rfl rfl
      have HN1 : Hid (∀ b off sp, a1 = some ⟨b, off, sp⟩ → (Value.slice (some ⟨G, 0, none⟩) 0 0).ownBlock ≠ some b) := fun b off sp e e2 => by
        injection e2 with e2
        subst e
        exact HN.out (congrArg some e2.symm)
      clear hI1 hA1 HO HD HN
      go_wp2_with fail
      go_loopw [3] (fun v_ wx => ∃ (i : Nat) (a : Option Addr) (cap : Nat), i ≤ 32 ∧ v_ = .slice a i cap ∧ Hid (wx.ownsRow w.heap.size 3 1 (.slice a i cap) i (icells i fun _ => 5)) ∧ Hid (IRow wx a1 288 fixL) ∧ Hid (∀ b off sp, a1 = some ⟨b, off, sp⟩ → b < wx.heap.size ∧ (Value.slice a i cap).ownBlock ≠ some b) ∧ Hid (Below w.heap.size w wx)) (fun v_ _ => 32 - lenV v_)
      case atStart => exact ⟨0, _, _, by omega, rfl, HO0, HI1, (fun b off sp e => ⟨(HA1.out b off sp e).2, HN1.out b off sp e⟩), HB⟩
      case round =>
        clear HO0 HI1 HA1 HN1 HB
        obtain ⟨j, a, cap, hj, rfl, HO, HI, HF, HB⟩ := hrel
        by_cases hlt2 : j < 32
        · have d2 : decide ((j : Int) < 32) = true := by rw [decide_eq_true_eq]; omega
          have hos := HO.out
          have hbsw : w.heap.size ≤ wr.heap.size := HB.out.size
          have Hsucc := Lib.hid (icells_succ j fun _ => (5 : Int))
          go_wp2_with (first
            | (at_builtin; go_must (refine wpList_append_elem_at wr rfl (.tmp 31) (.tmp 32) rfl Try.underlying22 info_int rfl (by decide) w.heap.size _ j (icells j fun _ => 5) [.int .i64 5] hos rfl ?_ rfl rfl rfl ?_ ?_ hbsw ?_; (intro y hy; simp at hy; subst hy; rfl); (unfold maxLen; omega); omega; intro v7 w7 hown7 hg7 hn7; have HO7 : Hid (w7.ownsRow w.heap.size 3 1 v7 (j + 1) (icells (j + 1) fun _ => 5)) := (by show World.ownsRow _ _ _ _ _ _ _; rw [Hsucc.out]; exact hown7); have HB7 := Lib.hid (HB.out.trans (below_grown hos hg7 hbsw)); have HI7 : Hid (IRow w7 a1 288 fixL) := Lib.hid (HI.out.grown hg7 fun b off sp e e2 => (HF.out b off sp e).2 e2.symm); have HF7 : Hid (∀ b off sp, a1 = some ⟨b, off, sp⟩ → b < w7.heap.size ∧ v7.ownBlock ≠ some b) := Lib.hid (fun b off sp e => ⟨Nat.lt_of_lt_of_le (HF.out b off sp e).1 hg7.size, hn7 b (HF.out b off sp e).1 (HF.out b off sp e).2⟩); clear hown7 hg7 hn7))
            | fail)
          go_roundw
          case rel =>
            obtain ⟨a7, c7, rfl, _, _⟩ := irow_own HO7.out
            exact ⟨j + 1, a7, c7, by omega, rfl, HO7, HI7, HF7, HB7⟩
          case measure =>
            obtain ⟨a7, c7, rfl, _, _⟩ := irow_own HO7.out
            show 32 - (j + 1) < 32 - j
            omega
        · obtain rfl : j = 32 := by omega
          obtain ⟨a7, c7, h7, hI7, _⟩ := irow_own HO.out
          injection h7 with h7a h7b h7c
          subst h7a h7c
          have HI7 := Lib.hid hI7
          clear hI7
          go_wp2_with fail
          go_ret2
          refine ⟨a1, c1, a, ⟨cap, ?_⟩, HI.out, HI7.out, HB.out⟩
          rw [H288.out]
          rfl

def szL : List Nat := [3, 4, 5, 6, 7, 8, 9, 10, 11, 13, 15, 17, 19, 23, 27, 31, 35, 43, 51, 59, 67, 83, 99, 115, 131, 163, 195, 227, 258]
def szB : List Nat := [0, 0, 0, 0, 0, 0, 0, 0, 1, 1, 1, 1, 2, 2, 2, 2, 3, 3, 3, 3, 4, 4, 4, 4, 5, 5, 5, 5, 0]
def farL : List Nat := [1, 2, 3, 4, 5, 7, 9, 13, 17, 25, 33, 49, 65, 97, 129, 193, 257, 385, 513, 769, 1025, 1537, 2049, 3073, 4097, 6145, 8193, 12289, 16385, 24577]
def farB : List Nat := [0, 0, 0, 0, 1, 1, 2, 2, 3, 3, 4, 4, 5, 5, 6, 6, 7, 7, 8, 8, 9, 9, 10, 10, 11, 11, 12, 12, 13, 13]
theorem blk_irow {w : World} {g n : Nat} {m : Nat → Int} {cs : Array Value} (h : Blk w g 3 cs) (hc : ∀ i, i < n → cs[i]? = some (.int .i64 (m i))) : IRow w (some ⟨g, 0, none⟩) n m :=
  .inr ⟨g, 0, rfl, h.lt, fun i hi => by rw [Nat.zero_add, h.cell, hc i hi]⟩
theorem lit_at (l : List Nat) (i : Nat) (h : i < l.length) : ((l.map fun (x : Nat) => Value.int .i64 (x : Int)).toArray)[i]? = some (.int .i64 ((l.getD i 0 : Nat) : Int)) := by simp [List.getD, h]
theorem sizes_far : ∀ i, i < 30 → ((farL.getD i 0 : Nat) : Int) = ((sizeS true (i : Int)).1 : Int) ∧ ((farB.getD i 0 : Nat) : Int) = ((sizeS true (i : Int)).2 : Int) := by decide
theorem sizes_near : ∀ i, i < 29 → ((szL.getD i 0 : Nat) : Int) = ((sizeS false (i : Int)).1 : Int) ∧ ((szB.getD i 0 : Nat) : Int) = ((sizeS false (i : Int)).2 : Int) := by decide

theorem results_tmp4 {fn : Func} {t u v x : Tmp} (h : fn.results = #[.tmp t, .tmp u, .tmp v, .tmp x]) (tmps : Array Value) (P : Program) (w : World) :
    (results fn tmps).run P w = .ok (.tuple #[tmps.getD t undef, tmps.getD u undef, tmps.getD v undef, tmps.getD x undef]) w := by
  simp [results, h]

set_option maxHeartbeats 4000000 in
theorem rsizes_any (w : World) : Calls Try.prog 33 #[] w fun e w' => ∃ a b c d, e = .returned (.tuple #[.slice (some ⟨a, 0, none⟩) 29 29, .slice (some ⟨b, 0, none⟩) 29 29, .slice (some ⟨c, 0, none⟩) 30 30, .slice (some ⟨d, 0, none⟩) 30 30]) ∧
    IRow w' (some ⟨a, 0, none⟩) 29 (fun i => ((sizeS false (i : Int)).1 : Int)) ∧ IRow w' (some ⟨b, 0, none⟩) 29 (fun i => ((sizeS false (i : Int)).2 : Int)) ∧ IRow w' (some ⟨c, 0, none⟩) 30 (fun i => ((sizeS true (i : Int)).1 : Int)) ∧ IRow w' (some ⟨d, 0, none⟩) 30 (fun i => ((sizeS true (i : Int)).2 : Int)) ∧ Below w.heap.size w w' := by
  obtain ⟨c1, Hc1⟩ : ∃ x, Hid ((#[.int .i64 3, .int .i64 4, .int .i64 5, .int .i64 6, .int .i64 7, .int .i64 8, .int .i64 9, .int .i64 10, .int .i64 11, .int .i64 13, .int .i64 15, .int .i64 17, .int .i64 19, .int .i64 23, .int .i64 27, .int .i64 31, .int .i64 35, .int .i64 43, .int .i64 51, .int .i64 59, .int .i64 67, .int .i64 83, .int .i64 99, .int .i64 115, .int .i64 131, .int .i64 163, .int .i64 195, .int .i64 227, .int .i64 258] : Array Value) = x) := ⟨_, Lib.hid (Eq.refl _)⟩
  obtain ⟨c2, Hc2⟩ : ∃ x, Hid ((#[.int .i64 0, .int .i64 0, .int .i64 0, .int .i64 0, .int .i64 0, .int .i64 0, .int .i64 0, .int .i64 0, .int .i64 1, .int .i64 1, .int .i64 1, .int .i64 1, .int .i64 2, .int .i64 2, .int .i64 2, .int .i64 2, .int .i64 3, .int .i64 3, .int .i64 3, .int .i64 3, .int .i64 4, .int .i64 4, .int .i64 4, .int .i64 4, .int .i64 5, .int .i64 5, .int .i64 5, .int .i64 5, .int .i64 0] : Array Value) = x) := ⟨_, Lib.hid (Eq.refl _)⟩
  obtain ⟨c3, Hc3⟩ : ∃ x, Hid ((#[.int .i64 1, .int .i64 2, .int .i64 3, .int .i64 4, .int .i64 5, .int .i64 7, .int .i64 9, .int .i64 13, .int .i64 17, .int .i64 25, .int .i64 33, .int .i64 49, .int .i64 65, .int .i64 97, .int .i64 129, .int .i64 193, .int .i64 257, .int .i64 385, .int .i64 513, .int .i64 769, .int .i64 1025, .int .i64 1537, .int .i64 2049, .int .i64 3073, .int .i64 4097, .int .i64 6145, .int .i64 8193, .int .i64 12289, .int .i64 16385, .int .i64 24577] : Array Value) = x) := ⟨_, Lib.hid (Eq.refl _)⟩
  obtain ⟨c4, Hc4⟩ : ∃ x, Hid ((#[.int .i64 0, .int .i64 0, .int .i64 0, .int .i64 0, .int .i64 1, .int .i64 1, .int .i64 2, .int .i64 2, .int .i64 3, .int .i64 3, .int .i64 4, .int .i64 4, .int .i64 5, .int .i64 5, .int .i64 6, .int .i64 6, .int .i64 7, .int .i64 7, .int .i64 8, .int .i64 8, .int .i64 9, .int .i64 9, .int .i64 10, .int .i64 10, .int .i64 11, .int .i64 11, .int .i64 12, .int .i64 12, .int .i64 13, .int .i64 13] : Array Value) = x) := ⟨_, Lib.hid (Eq.refl _)⟩
  have hB1 := Blk.new w 3 c1
  have hB2 := Blk.new (w.alloc (.cells c1 3)) 3 c2
  have hB3 := Blk.new ((w.alloc (.cells c1 3)).alloc (.cells c2 3)) 3 c3
  have hB4 := Blk.new (((w.alloc (.cells c1 3)).alloc (.cells c2 3)).alloc (.cells c3 3)) 3 c4
  have HI1 := Lib.hid (blk_irow (n := 29) (m := fun i => ((sizeS false (i : Int)).1 : Int)) (((hB1.alloc (.cells c2 3)).alloc (.cells c3 3)).alloc (.cells c4 3)) (fun i hi => by rw [← Hc1.out, ← (sizes_near i hi).1]; exact lit_at szL i hi))
  have HI2 := Lib.hid (blk_irow (n := 29) (m := fun i => ((sizeS false (i : Int)).2 : Int)) ((hB2.alloc (.cells c3 3)).alloc (.cells c4 3)) (fun i hi => by rw [← Hc2.out, ← (sizes_near i hi).2]; exact lit_at szB i hi))
  have HI3 := Lib.hid (blk_irow (n := 30) (m := fun i => ((sizeS true (i : Int)).1 : Int)) (hB3.alloc (.cells c4 3)) (fun i hi => by rw [← Hc3.out, ← (sizes_far i hi).1]; exact lit_at farL i hi))
  have HI4 := Lib.hid (blk_irow (n := 30) (m := fun i => ((sizeS true (i : Int)).2 : Int)) hB4 (fun i hi => by rw [← Hc4.out, ← (sizes_far i hi).2]; exact lit_at farB i hi))
  have HBl := Lib.hid (((((Below.refl w.heap.size w).alloc (Nat.le_refl _) (.cells c1 3)).alloc (by simp) (.cells c2 3)).alloc (by simp; omega) (.cells c3 3)).alloc (by simp; omega) (.cells c4 3))
  rw [size_new] at HI2
  rw [size_new, size_new] at HI3
  rw [size_new, size_new, size_new] at HI4
  clear hB1 hB2 hB3 hB4
  go_enter Try.func33, Try.ntmps33
  go_wp2_with fail
  rw [Hc1.out, Hc2.out, Hc3.out, Hc4.out]
  (try simp only [Exit.inBlock, Exit.then])
  refine bodyPost_ret (results_tmp4 rfl _ _ _) rfl ?_
  exact ⟨_, _, _, _, rfl, HI1.out, HI2.out, HI3.out, HI4.out, HBl.out⟩
end Go.Proofs.Ytjnglahjngiofaa
