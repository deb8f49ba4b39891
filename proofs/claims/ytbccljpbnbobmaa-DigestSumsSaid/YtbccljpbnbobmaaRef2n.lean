/- More on rows of words: appended whole, stored into; the steps' constants. Conditions: none. -/
import Derived.Test.YtbccljpbnbobmaaRef2l
namespace Go.Proofs.Ytbccljpbnbobmaa
open Go.RowKit
set_option maxRecDepth 100000

theorem size_setCells (b : Nat) (vs : List Value) : ∀ (o : Nat) (w : World), (w.setCells b o vs).heap.size = w.heap.size := by
  induction vs with
  | nil => intro o w; rfl
  | cons v r ih =>
    intro o w
    rw [World.setCells, ih]
    simp
theorem HWd.set {w : World} {g i y : Nat} {L : List Nat} (h : HWd w g L) (hi : i < 8) (hl : L.length = 8) : HWd (w.setCells g (i * 32) (wl y)) g (L.set i y) := by
  obtain ⟨h1, h2, h3⟩ := h
  refine ⟨fun j hj => ?_, World.there_setCells h2 _ _ _, by rw [size_setCells]; exact h3⟩
  by_cases e : j = i
  · subst e
    rw [show (L.set j y).getD j 0 = y by rw [List.getD_eq_getElem?_getD, List.getElem?_set_self (by omega)]; rfl]
    refine World.rangeAt_setCells_same _ _ _ _ fun q hq => ?_
    rw [wl_len] at hq
    have := h2 (j * 32 + q) (by omega)
    rw [Nat.zero_add] at this
    exact this
  · rw [show (L.set i y).getD j 0 = L.getD j 0 by simp only [List.getD_eq_getElem?_getD]; rw [List.getElem?_set_ne (by omega)]]
    refine World.rangeAt_setCells_apart (h1 j hj) _ _ _ (.inr ?_)
    rw [wl_len, wl_len]
    omega
theorem cells_of_rows {w : World} {g : Nat} {M : List Nat} (h : ∀ j, j < M.length → w.rangeAt g (j * 32) (wl (M.getD j 0))) : ∀ j y, (wcl M)[j]? = some y → w.cell? ((⟨g, 0, none⟩ : Addr).add j) = some y := fun j y hy => by
  have e1 : (⟨g, 0, none⟩ : Addr).add j = ⟨g, j, none⟩ := by unfold Addr.add; split <;> simp_all
  have hj : j < M.length * 32 := by rw [← wcl_len]; exact (List.getElem?_eq_some_iff.1 hy).1
  have h1 := wcl_at M (j / 32) (j % 32) (by omega) (by omega)
  rw [show j / 32 * 32 + j % 32 = j by omega, hy] at h1
  have h2 := h (j / 32) (by omega) (j % 32) (.bool (wbit (M.getD (j / 32) 0) (j % 32))) (by unfold wl; rw [List.getElem?_map, List.getElem?_range (by omega)]; rfl)
  rw [show j / 32 * 32 + j % 32 = j by omega] at h2
  rw [e1, h2, h1]
theorem wpList_append_WL {ops : Array Oper} {rest : List Oper} {o : Oper} {a : Act} {Q : Exit → Act → World → Prop} (w : World) (hgd : o.guard = none) (s x : Operand)
    (ho : o.op = .call { callee := .builtin .append, args := #[s, x], argTypes := #[67, 67] })
    (base : Nat) (v : Value) (L M : List Nat) (g n c : Nat) (hM : M.length = n) (hown : OwnWd w base v L) (hs : a.eval s = v) (hx : a.eval x = .slice (some ⟨g, 0, none⟩) n c)
    (hr : ∀ j, j < n → w.rangeAt g (j * 32) (wl (M.getD j 0))) (hm : L.length + n ≤ 1000) (hbase : base ≤ w.heap.size)
    (h : ∀ v' w', OwnWd w' base v' (L ++ M) → Below base w w' → wpList Try.prog ops Q rest (a.put o.dst v') w') :
    wpList Try.prog ops Q (o :: rest) a w := by
  subst hM
  refine wpList_plain hgd fun _ hK => ?_
  obtain ⟨i0, hi, hz0, hz1, hz2⟩ := info_parts info_wd
  obtain ⟨v', w', hrun, r2, r3, _⟩ := run_append_own w base 67 o.type 69 i0 _ 32 32 Try.underlying67 hi hz0 hz1 hz2 (by show (fcells 32 _).size = 32; rw [fcells_size]) (by decide) v _ _ hown ⟨g, 0, none⟩ M.length c (wcl M) (wcl_len M) (cells_of_rows hr) (wcl_cell M)
    (by unfold maxLen; omega) (by omega) hbase
  have hk := hK _ _ (h v' w' (by unfold OwnWd; rw [wcl_append, List.length_append]; exact r2) (below_grown hown r3 hbase))
  unfold Oper.wp execOp
  simp only [ho, resolve, invoke, builtin, Sem.run_bind, Sem.run_pure, Result.andThen_ok, List.map_toArray, List.map_cons, List.map_nil, hs, hx, hrun]
  exact hk
theorem runG_const (P : List UInt8) (k i : Nat) : runG shaK P k (8 + i) = shaK (8 + i) := by
  induction k with
  | zero => rw [runG]
  | succ k ih =>
    rw [runG_succ]
    unfold blkF
    rw [if_neg (by omega)]
    exact ih
theorem runG_next (P : List UInt8) (k j : Nat) (hj : j < 8) : runG shaK P (k + 1) j = (runG shaK P k j + (stepsL (fun i => shaK (8 + i)) (sched ((P.drop (64 * k)).take 64)) ((List.range 8).map (runG shaK P k)) 64).getD j 0) % 4294967296 := by
  have e : (fun i => runG shaK P k (8 + i)) = fun i => shaK (8 + i) := funext fun i => runG_const P k i
  have h : ∀ (f : Nat → Nat) (p : List UInt8), blkF f p j = (f j + (stepsL (fun i => f (8 + i)) (sched p) ((List.range 8).map f) 64).getD j 0) % 4294967296 := fun f p => by
    unfold blkF
    rw [if_pos hj]
  rw [runG_succ, h, e]
theorem ucl_tab (i : Nat) (hi : i < 64) : (ucl (tabL.drop 8)).toArray[i]? = some (.int .u64 ((shaK (8 + i) : Nat) : Int)) := by
  have h1 := tab_64 i hi
  have hl : (tabL.drop 8).length = 64 := by decide
  have h2 : (tabL.drop 8)[i]? = some (shaK (8 + i)) := by
    rw [List.getD_eq_getElem?_getD, List.getElem?_eq_getElem (by omega)] at h1
    rw [List.getElem?_eq_getElem (by omega)]
    exact congrArg some h1
  unfold ucl
  rw [List.getElem?_toArray, List.getElem?_map, h2]
  rfl
/-- The first i words are sums already. -/
def mixL (V W : List Nat) (i : Nat) : List Nat := (List.range 8).map fun j => if j < i then [V.getD j 0, W.getD j 0].sum % 4294967296 else V.getD j 0
theorem mixL_len (V W : List Nat) (i : Nat) : (mixL V W i).length = 8 := by simp [mixL]
theorem mixL_at (V W : List Nat) (i j : Nat) (hj : j < 8) : (mixL V W i).getD j 0 = if j < i then [V.getD j 0, W.getD j 0].sum % 4294967296 else V.getD j 0 := getD_map _ _ _ hj
theorem mixL_set (V W : List Nat) (i : Nat) (hi : i < 8) : (mixL V W i).set i ([V.getD i 0, W.getD i 0].sum % 4294967296) = mixL V W (i + 1) := by
  apply List.ext_getElem?
  intro j
  by_cases e : j = i
  · subst e
    rw [List.getElem?_set_self (by rw [mixL_len]; exact hi)]
    unfold mixL
    rw [List.getElem?_map, List.getElem?_range hi, Option.map_some, if_pos (by omega)]
  · rw [List.getElem?_set_ne (by omega)]
    unfold mixL
    rcases Nat.lt_or_ge j 8 with h | h
    · rw [List.getElem?_map, List.getElem?_map, List.getElem?_range h, Option.map_some, Option.map_some]
      by_cases h2 : j < i
      · rw [if_pos h2, if_pos (by omega)]
      · rw [if_neg h2, if_neg (by omega)]
    · rw [List.getElem?_eq_none (by simp; omega), List.getElem?_eq_none (by simp; omega)]
theorem HWd.congr {w : World} {g : Nat} {L M : List Nat} (h : HWd w g L) (e : ∀ j, j < 8 → L.getD j 0 = M.getD j 0) : HWd w g M :=
  ⟨fun j hj => by rw [← e j hj]; exact h.1 j hj, h.2⟩
theorem HWd.thereAt {w : World} {g i : Nat} {L : List Nat} (h : HWd w g L) (hi : i < 8) (n : Nat) (hn : n = 32) : w.there g (i * 32) n := fun q hq => by
  have := h.2.1 (i * 32 + q) (by omega)
  rw [Nat.zero_add] at this
  exact this
theorem HWd.onlSame {w w' : World} {g : Nat} {L : List Nat} (h : HWd w g L) (hb : Below w.heap.size w w') : HWd w' g L := h.bel hb
/-- The first r bits of the byte t of a word, as a number. -/
def accN (x t r : Nat) : Nat := x / 2 ^ (32 - 8 * t - r) % 2 ^ r
theorem accN_zero (x t : Nat) : accN x t 0 = 0 := by unfold accN; rw [Nat.pow_zero, Nat.mod_one]
theorem accN_lt (x t r : Nat) : accN x t r < 2 ^ r := Nat.mod_lt _ (Nat.two_pow_pos r)
theorem accN_succ (x t r : Nat) (ht : t < 4) (hr : r < 8) : accN x t (r + 1) = 2 * accN x t r + (if wbit x (8 * t + r) then 1 else 0) := by
  unfold accN wbit
  have e1 : 32 - 8 * t - (r + 1) = 31 - (8 * t + r) := by omega
  have e2 : 32 - 8 * t - r = 31 - (8 * t + r) + 1 := by omega
  rw [e1, e2, Nat.pow_succ 2 (31 - (8 * t + r)), ← Nat.div_div_eq_div_mul]
  generalize x / 2 ^ (31 - (8 * t + r)) = y
  rw [Nat.pow_succ, Nat.mul_comm (2 ^ r) 2, Nat.mod_mul]
  rcases Nat.mod_two_eq_zero_or_one y with h | h <;> rw [h] <;> simp
  omega
theorem accN_byte (x t : Nat) (ht : t < 4) : (be4 x).take (t + 1) = (be4 x).take t ++ [UInt8.ofNat (accN x t 8)] := by
  unfold accN be4
  match t, ht with
  | 0, _ => rfl
  | 1, _ => rfl
  | 2, _ => rfl
  | 3, _ => rw [show x / 2 ^ (32 - 8 * 3 - 8) = x by rw [show 32 - 8 * 3 - 8 = 0 from rfl, Nat.pow_zero, Nat.div_one]]; rfl
theorem OwnB.belowA {w w' : World} {base B : Nat} {v : Value} {l : List UInt8} (h : OwnB w base v l) (hb : Below B w w') (hB : w.heap.size ≤ B) : OwnB w' base v l := by
  have hlt := World.ownsRow.lt h
  refine ⟨h.1, ?_⟩
  rcases h.2 with h2 | ⟨g, cap, cur, rfl, h3, h4, h5⟩
  · exact .inl h2
  · exact .inr ⟨g, cap, cur, rfl, h3, (hb.block g (Nat.lt_of_lt_of_le (hlt g rfl).2 hB)).trans h4, h5⟩
theorem wpList_append_B1 {ops : Array Oper} {rest : List Oper} {o : Oper} {a : Act} {Q : Exit → Act → World → Prop} (w : World) (hgd : o.guard = none) (s x : Operand)
    (ho : o.op = .call { callee := .builtin .append, args := #[s, x], argTypes := #[31, 31] })
    (base : Nat) (v : Value) (l : List UInt8) (u : Nat) (hu : u < 256) (hown : OwnB w base v l) (hs : a.eval s = v)
    {sz : Nat} (hx : a.eval x = .slice (some ⟨sz, 0, none⟩) 1 1) (hsize : sz = w.heap.size) (hl : l.length < 100000) (hbase : base ≤ w.heap.size)
    (h : ∀ v' w', OwnB w' base v' (l ++ [UInt8.ofNat u]) → Below base w w' → (∀ g t cs, t ≠ 5 → Blk w g t cs → Blk w' g t cs) → wpList Try.prog ops Q rest (a.put o.dst v') w') :
    wpList Try.prog ops Q (o :: rest) a (w.alloc (.cells #[.int .u8 (u : Int)] 5)) := by
  refine wpList_plain hgd fun _ hK => wp_append_lit w s x ho Try.underlying31 info_u8 rfl (by decide) base v l.length (bcells l) [.int .u8 (u : Int)] 1 hown rfl (by intro y hy; simp at hy; subst hy; rfl) hs hx hsize
    (by unfold maxLen; omega) (by omega) hbase rfl fun v' w' h2 h3 => hK _ _ ?_
  refine h v' w' ?_ (below_grown hown h3 hbase) (fun g t cs ht hb => hb.grown h3 (fun e => ?_))
  rotate_left
  · rcases hown.2 with ⟨rfl, _⟩ | ⟨g', cap, cur, rfl, _, hh, _⟩
    · simp [Value.ownBlock] at e
    · have e2 : g = g' := by simpa [Value.ownBlock] using e
      subst e2
      unfold Blk at hb
      rw [hh] at hb
      simp only [Option.some.injEq, Obj.cells.injEq] at hb
      exact ht hb.2.1.symm
  unfold OwnB
  rw [bcells_append, List.length_append]
  have e := ofNat_byte (u : Int) (by omega) (by omega)
  have : bcells [UInt8.ofNat u] = [.int .u8 (u : Int)] := by
    simp only [bcells, List.map_cons, List.map_nil]
    rw [show u = ((u : Int)).toNat by omega, e]
    simp
  rw [this]
  exact h2
end Go.Proofs.Ytbccljpbnbobmaa
