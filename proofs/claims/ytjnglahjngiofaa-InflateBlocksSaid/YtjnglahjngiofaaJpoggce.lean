/- Texts joined: RBlkK Kinds Fit4 Code4 Table4 BRow Ref3 RNext4 Row3 Seen Pieces Whole Fix6. Conditions: each theorem says its own. -/
import Derived.Laws.AppendOwnNone
import Derived.StillTailTactics
import Derived.Laws.ResultCell
import Derived.Test.YtjnglahjngiofaaRLenJ
import Derived.Test.YtjnglahjngiofaaJcmeihm
import Derived.Test.YtjnglahjngiofaaRLenKJ
import Derived.Test.YtjnglahjngiofaaJabmhmi
namespace Go.Proofs.Ytjnglahjngiofaa
open Go.RowKit
set_option maxRecDepth 100000

theorem info_blk : (Try.prog.info? 61).map (fun i => (i.zero, i.size, i.bytes)) = some (some (.agg #[.int .i64 0, .string ⟨#[]⟩, .slice none 0 0]), 3, 48) := by kernel_rfl
/-- A block and where its tokens lie. -/
structure LBk where
  b : Bk
  a : Option Addr
  cap : Nat
def lbc (x : LBk) : List Value := [.int .i64 (x.b.kind : Int), .string ⟨x.b.bytes.toArray⟩, .slice x.a x.b.toks.length x.cap]
def lbcells (l : List LBk) : List Value := l.flatMap lbc
theorem lbcells_length (l : List LBk) : (lbcells l).length = l.length * 3 := by
  induction l with
  | nil => rfl
  | cons x r ih =>
    have e : lbcells (x :: r) = lbc x ++ lbcells r := rfl
    rw [e, List.length_append, ih, List.length_cons]
    show 3 + _ = _
    omega
theorem lbcells_append (l m : List LBk) : lbcells (l ++ m) = lbcells l ++ lbcells m := by simp [lbcells]
/-- Its tokens lie there, in a block that is not older than base. -/
def LTk (w : World) (base : Nat) (x : LBk) : Prop := TkRow w x.a x.b.toks ∧ ∀ b off sp, x.a = some ⟨b, off, sp⟩ → base ≤ b
section
variable {R P : Nat} {w w' : World}
theorem TkRow.rch {a : Option Addr} {S : List Tok} (h : TkRow w a S) (hc : Rch R P w w') (hn : ∀ b off sp, a = some ⟨b, off, sp⟩ → b ≠ R ∧ b ≠ P) : TkRow w' a S := by
  rcases h with h | ⟨b, off, e, hb, hcell⟩
  · exact .inl h
  · obtain ⟨h2, h3⟩ := hn b off none e
    refine .inr ⟨b, off, e, Nat.lt_of_lt_of_le hb hc.2.2.2.1, fun i hi => ?_⟩
    obtain ⟨c0, c1, c2⟩ := hcell i hi
    exact ⟨(hc.cell hb h2 h3).trans c0, (hc.cell hb h2 h3).trans c1, (hc.cell hb h2 h3).trans c2⟩
theorem TkRow.grown {a : Option Addr} {S : List Tok} {row : Option Nat} (h : TkRow w a S) (hg : w.grownBy w' row) (hn : 0 < S.length → ∀ b off sp, a = some ⟨b, off, sp⟩ → some b ≠ row) : TkRow w' a S := by
  rcases Nat.eq_zero_or_pos S.length with h0 | h0
  · exact .inl h0
  rcases h with h | ⟨b, off, e, hb, hcell⟩
  · exact .inl h
  · have h2 := hn h0 b off none e
    refine .inr ⟨b, off, e, Nat.lt_of_lt_of_le hb hg.size, fun i hi => ?_⟩
    obtain ⟨c0, c1, c2⟩ := hcell i hi
    have hx : ∀ o, w'.cell? ⟨b, o, none⟩ = w.cell? ⟨b, o, none⟩ := fun o => by unfold World.cell?; rw [hg.block b hb h2]
    exact ⟨(hx _).trans c0, (hx _).trans c1, (hx _).trans c2⟩
end
/-- The row v owns the blocks l; the world is w but for what is newer than base. -/
structure BS (w0 : World) (BB : Nat) (v : Value) (l : List LBk) (wt : World) : Prop where
  own : wt.ownsRow BB 61 3 v l.length (lbcells l)
  tk : ∀ x ∈ l, LTk wt BB x
  far : ∀ x ∈ l, 0 < x.b.toks.length → ∀ b off sp, x.a = some ⟨b, off, sp⟩ → v.ownBlock ≠ some b
  bel : Below w0.heap.size w0 wt
  sz : BB ≤ wt.heap.size
section
variable {w0 wt w' : World} {R P BB : Nat} {v v' : Value} {l : List LBk}
theorem BS.rch (h : BS w0 BB v l wt) (hc : Rch R P wt w') (hR : R < BB) (hP : P < BB) (h0R : w0.heap.size ≤ R) (h0P : w0.heap.size ≤ P) : BS w0 BB v l w' :=
  ⟨ownsRow_rch h.own hc hR hP, fun x hx => ⟨(h.tk x hx).1.rch hc fun b off sp e => by have := (h.tk x hx).2 b off sp e; omega, (h.tk x hx).2⟩, h.far,
    hc.old h.bel h.bel.size h0R h0P, Nat.le_trans h.sz hc.2.2.2.1⟩
theorem BS.app {x : LBk} {wa : World} (h : BS w0 BB v l wt) (h0 : w0.heap.size ≤ BB) (hg : wt.grownBy w' v.ownBlock) (hown : w'.ownsRow BB 61 3 v' (l.length + 1) (lbcells l ++ lbc x)) (hnew : ∀ g, g < wt.heap.size → v.ownBlock ≠ some g → v'.ownBlock ≠ some g)
    (hx : LTk wt BB x) (hA : ∀ g, v.ownBlock = some g → g < wa.heap.size) (hxa : ∀ b off sp, x.a = some ⟨b, off, sp⟩ → wa.heap.size ≤ b) : BS w0 BB v' (l ++ [x]) w' := by
  have hlt := World.ownsRow.lt h.own
  have hxf : ∀ b off sp, x.a = some ⟨b, off, sp⟩ → v.ownBlock ≠ some b := fun b off sp e e2 => by
    have := hA b e2
    have := hxa b off sp e
    omega
  refine ⟨?_, ?_, ?_, ?_, Nat.le_trans h.sz hg.size⟩
  · rw [List.length_append, lbcells_append]
    have e : lbcells [x] = lbc x := by unfold lbcells; simp
    rw [e]
    exact hown
  · intro y hy
    rcases List.mem_append.1 hy with hy | hy
    · exact ⟨(h.tk y hy).1.grown hg fun h0 b off sp e e2 => h.far y hy h0 b off sp e e2.symm, (h.tk y hy).2⟩
    · rw [List.mem_singleton.1 hy]
      exact ⟨hx.1.grown hg fun _ b off sp e e2 => hxf b off sp e e2.symm, hx.2⟩
  · intro y hy h0 b off sp e
    have hin : ∀ y : LBk, TkRow wt y.a y.b.toks → 0 < y.b.toks.length → y.a = some ⟨b, off, sp⟩ → b < wt.heap.size := fun y hy h0 e => by
      rcases hy with h | ⟨b', off', e', hb, _⟩
      · omega
      · rw [e'] at e
        injection e with e
        injection e with e
        omega
    rcases List.mem_append.1 hy with hy | hy
    · exact hnew b (hin y (h.tk y hy).1 h0 e) (h.far y hy h0 b off sp e)
    · rw [List.mem_singleton.1 hy] at e h0
      exact hnew b (hin x hx.1 h0 e) (hxf b off sp e)
  · exact ⟨hg.os.trans h.bel.os, hg.tape.trans h.bel.tape, hg.output.trans h.bel.output, Nat.le_trans h.bel.size hg.size, fun g hgl => (hg.block g (Nat.lt_of_lt_of_le hgl h.bel.size) (fun e => by
      have := (hlt g e.symm).1
      omega)).trans (h.bel.block g hgl)⟩
end
theorem lbc_one (k : Int) (t : ByteArray) (a : Option Addr) (n c : Nat) : ∀ u ∈ ([.int .i64 k, .string t, .slice a n c] : List Value), u.oneCell' = true := by
  intro u hu
  simp only [List.mem_cons, List.not_mem_nil, or_false] at hu
  rcases hu with rfl | rfl | rfl <;> rfl

theorem tokens_err (R P : Nat) (s : ByteArray) (p z most e : Nat) (he : e ≠ 0) (v1 v2 : Value) (w : World) (hR : RdAt w R P s p z most e) :
    Calls Try.prog 49 #[.pointer (some ⟨R, 0, none⟩), v1, v2] w fun r w' => r = .returned (.slice none 0 0) ∧ RdAt w' R P s p z most e ∧ Rch R P w w' := by
  have H1 := Lib.hid (plant_err R P s p z most e he v1 w hR)
  have H2 := Lib.hid (fun W h => plant_err R P s p z most e he v2 W h)
  have de : ((e : Int) == 0) = false := by simp; omega
  clear hR
  go_enter Try.func49, Try.ntmps49
  go_wp2_with fail
  refine H1.out.mono ?_
  rintro r w1 ⟨rfl, hR1, hC1⟩
  have HR1 := Lib.hid hR1
  have HC1 := Lib.hid hC1
  clear hR1 hC1 H1
  go_wp2_with fail
  refine (H2.out _ HR1.out).mono ?_
  rintro r w2 ⟨rfl, hR2, hC2⟩
  have HR2 := Lib.hid hR2
  have HC2 := Lib.hid (HC1.out.trans hC2)
  clear hR2 hC2 HR1 HC1 H2
  go_wp2_with fail
  go_loopw [9] (fun v_ wr => v_ = .slice none 0 0 ∧ wr = w2) (fun _ _ => 0)
  case atStart => exact ⟨rfl, rfl⟩
  case round =>
    obtain ⟨rfl, hw2⟩ := hrel
    have hw3 := hw2.symm
    subst hw3
    have c3 := HR2.out.1.cell 3
    simp at c3
    go_wp2_with fail
    go_ret
    exact ⟨rfl, HR2.out, HC2.out⟩
end Go.Proofs.Ytjnglahjngiofaa
namespace Go.Proofs.Ytjnglahjngiofaa
open Go.RowKit
set_option maxRecDepth 100000

/-- The error's number of n lengths m. -/
def KindOf (n : Nat) (m : Nat → Int) (k : Nat) : Prop :=
  (k = 2 ∧ 320 < n) ∨ (k = 1 ∧ n ≤ 320 ∧ ∃ i, i < n ∧ ¬ (0 ≤ m i ∧ m i ≤ 15)) ∨
  (k = 4 ∧ n ≤ 320 ∧ (∀ i, i < n → 0 ≤ m i ∧ m i ≤ 15) ∧ ¬ Fits (parts (lens m) n) (someOf (lens m) n)) ∨
  (k = 0 ∧ n ≤ 320 ∧ (∀ i, i < n → 0 ≤ m i ∧ m i ≤ 15) ∧ Fits (parts (lens m) n) (someOf (lens m) n))
theorem kind_ex (n : Nat) (m : Nat → Int) : ∃ k, KindOf n m k := by
  unfold KindOf
  by_cases h1 : 320 < n
  · exact ⟨2, .inl ⟨rfl, h1⟩⟩
  · by_cases h2 : ∃ i, i < n ∧ ¬ (0 ≤ m i ∧ m i ≤ 15)
    · exact ⟨1, .inr (.inl ⟨rfl, by omega, h2⟩)⟩
    · have h2' : ∀ i, i < n → 0 ≤ m i ∧ m i ≤ 15 := fun i hi => Decidable.byContradiction fun h => h2 ⟨i, hi, h⟩
      by_cases h3 : Fits (parts (lens m) n) (someOf (lens m) n)
      · exact ⟨0, .inr (.inr (.inr ⟨rfl, by omega, h2', h3⟩))⟩
      · exact ⟨4, .inr (.inr (.inl ⟨rfl, by omega, h2', h3⟩))⟩
theorem codes_k {w : World} {n : Nat} {m : Nat → Int} {e : Ending} {w' : World} {k : Nat} (hk : KindOf n m k) (h : CodesPost w n m e w') :
    Below w.heap.size w w' ∧ ((0 < k ∧ k ≤ 4 ∧ e = bad k) ∨ (k = 0 ∧ ∃ g, e = .returned (.tuple #[.slice (some ⟨g, 0, none⟩) n n, .int .i64 0]) ∧ w.heap.size ≤ g ∧ Blk w' g 88 (ccells n (bitsF (lens m) n) (lens m)))) := by
  obtain ⟨hb, h⟩ := h
  refine ⟨hb, ?_⟩
  rcases hk with ⟨rfl, k1⟩ | ⟨rfl, k1, i, k2, k3⟩ | ⟨rfl, k1, k2, k3⟩ | ⟨rfl, k1, k2, k3⟩ <;> rcases h with ⟨h1, rfl⟩ | ⟨h1, ⟨j, h2, h3⟩, rfl⟩ | ⟨h1, h2, h3, rfl⟩ | ⟨h1, h2, h3, v, rfl, g, rfl, hg, hB⟩
  · exact .inl ⟨by omega, by omega, rfl⟩
  · omega
  · omega
  · omega
  · omega
  · exact .inl ⟨by omega, by omega, rfl⟩
  · exact absurd (h2 i k2) k3
  · exact absurd (h2 i k2) k3
  · omega
  · exact absurd (k2 j h2) h3
  · exact .inl ⟨by omega, by omega, rfl⟩
  · exact absurd h3 k3
  · omega
  · exact absurd (k2 j h2) h3
  · exact absurd k3 h3
  · exact .inr ⟨rfl, g, rfl, hg, hB⟩
theorem plant_k {w : World} {n : Nat} {m : Nat → Int} {e : Ending} {w' : World} {k : Nat} (hk : KindOf n m k) (h : PlantPost w n m e w') :
    Below w.heap.size w w' ∧ ((0 < k ∧ k ≤ 4 ∧ e = badT k) ∨ (k = 0 ∧ ∃ (T g N cap : Nat) (B : Nat → Nat → Int) (pv pn : Nat → Nat), e = .returned (.tuple #[.pointer (some ⟨T, 0, none⟩), .int .i64 0]) ∧
      w.heap.size ≤ T ∧ w.heap.size ≤ g ∧ TreeAt w' T g N cap B ∧ N ≤ 10000 ∧ Grown (bitsF (lens m) n) (lens m) (InAll (lens m) n) B N pv pn)) := by
  obtain ⟨hb, h⟩ := h
  refine ⟨hb, ?_⟩
  rcases hk with ⟨rfl, k1⟩ | ⟨rfl, k1, i, k2, k3⟩ | ⟨rfl, k1, k2, k3⟩ | ⟨rfl, k1, k2, k3⟩ <;> rcases h with ⟨h1, rfl⟩ | ⟨h1, ⟨j, h2, h3⟩, rfl⟩ | ⟨h1, h2, h3, rfl⟩ | ⟨h1, h2, h3, h4⟩
  · exact .inl ⟨by omega, by omega, rfl⟩
  · omega
  · omega
  · omega
  · omega
  · exact .inl ⟨by omega, by omega, rfl⟩
  · exact absurd (h2 i k2) k3
  · exact absurd (h2 i k2) k3
  · omega
  · exact absurd (k2 j h2) h3
  · exact .inl ⟨by omega, by omega, rfl⟩
  · exact absurd h3 k3
  · omega
  · exact absurd (k2 j h2) h3
  · exact absurd k3 h3
  · exact .inr ⟨rfl, h4⟩
end Go.Proofs.Ytjnglahjngiofaa
namespace Go.Proofs.Ytjnglahjngiofaa
open Go.RowKit
set_option maxRecDepth 100000

def onesOf (L : Nat → Nat) (n : Nat) : Nat := cntTo (fun t => decide (L t = 1)) n
theorem ones_succ (L : Nat → Nat) (k : Nat) : onesOf L (k + 1) = onesOf L k + if L k = 1 then 1 else 0 := by
  unfold onesOf
  simp [cntTo]
theorem pt_one (l : Nat) (h0 : 0 < l) (h15 : l ≤ 15) : pt l = 16384 ↔ l = 1 := by
  unfold pt
  rw [if_pos h0]
  constructor
  · intro h
    by_cases e : l = 1
    · exact e
    · have h1 : 2 ^ (15 - l) ≤ 2 ^ 13 := Nat.pow_le_pow_right (by decide) (by omega)
      have h2 : (2 : Nat) ^ 13 = 8192 := by decide
      omega
  · rintro rfl
    decide
theorem fit_inv (L : Nat → Nat) (k : Nat) (h15 : ∀ i, i < k → L i ≤ 15) : (someOf L k = 0 → parts L k = 0 ∧ onesOf L k = 0) ∧ (someOf L k = 1 → (parts L k = 16384 ↔ onesOf L k = 1)) := by
  induction k with
  | zero => exact ⟨fun _ => ⟨rfl, rfl⟩, fun h => by simp [someOf, cntTo] at h⟩
  | succ k ih =>
    obtain ⟨i1, i2⟩ := ih fun i hi => h15 i (by omega)
    rw [some_succ, parts_succ, ones_succ]
    by_cases h0 : 0 < L k
    · rw [if_pos h0]
      refine ⟨fun h => by omega, fun h => ?_⟩
      obtain ⟨j1, j2⟩ := i1 (by omega)
      rw [j1, j2, Nat.zero_add, Nat.zero_add]
      have := pt_one (L k) h0 (h15 k (by omega))
      by_cases e : L k = 1
      · rw [if_pos e]; exact ⟨fun _ => rfl, fun _ => this.2 e⟩
      · rw [if_neg e]; exact ⟨fun h => absurd (this.1 h) e, fun h => by omega⟩
    · have e0 : pt (L k) = 0 := by unfold pt; rw [if_neg h0]
      rw [if_neg h0, e0, if_neg (by omega)]
      exact ⟨i1, i2⟩
theorem fit_iff (L : Nat → Nat) (n : Nat) (h15 : ∀ i, i < n → L i ≤ 15) : Fits (parts L n) (someOf L n) ↔ (someOf L n = 0 ∨ parts L n = 32768 ∨ someOf L n = 1 ∧ onesOf L n = 1) := by
  obtain ⟨h1, h2⟩ := fit_inv L n h15
  unfold Fits
  constructor
  · rintro ⟨_, h | h | ⟨h, h'⟩⟩
    · exact .inr (.inl h)
    · exact .inl h
    · exact .inr (.inr ⟨h, (h2 h).1 h'⟩)
  · rintro (h | h | ⟨h, h'⟩)
    · exact ⟨by rw [(h1 h).1]; omega, .inr (.inl h)⟩
    · exact ⟨by omega, .inl h⟩
    · have := (h2 h).2 h'
      exact ⟨by omega, .inr (.inr ⟨h, this⟩)⟩
theorem half_pow (i : Nat) (h : i < 15) : 2 ^ (15 - i) / 2 = 2 ^ (15 - (i + 1)) := by
  rw [show 15 - i = 15 - (i + 1) + 1 by omega, Nat.pow_succ, Nat.mul_div_cancel _ (by decide)]

set_option maxHeartbeats 8000000 in
theorem fit_any (a : Option Addr) (n cap : Nat) (m : Nat → Int) (hn : n ≤ 1000000) (k : Nat) (hk : KindOf n m k) (w : World) (hr : IRow w a n m) :
    Calls Try.prog 76 #[.slice a n cap] w fun e w' => e = .returned (.int .i64 (k : Int)) ∧ w' = w := by
  have Hr := Lib.hid hr
  have Hk := Lib.hid hk
  clear hr hk
  by_cases h320 : 320 < n
  · have d0 : decide ((320 : Int) < (n : Int)) = true := by rw [decide_eq_true_eq]; omega
    obtain rfl : k = 2 := by
      rcases Hk.out with ⟨h, _⟩ | ⟨_, h, _⟩ | ⟨_, h, _⟩ | ⟨_, h, _⟩ <;> omega
    go_enter Try.func76, Try.ntmps76
    go_wp2_with fail
    go_ret
    exact ⟨rfl, rfl⟩
  · have d0 : decide ((320 : Int) < (n : Int)) = false := by rw [decide_eq_false_iff_not]; omega
    go_enter Try.func76, Try.ntmps76
    go_wp2_with fail
    go_loopw [17] (fun i_ wr => ∃ i : Nat, i ≤ n ∧ i_ = .int .i64 (i : Int) ∧ Hid (∀ j, j < i → 0 ≤ m j ∧ m j ≤ 15) ∧ Hid (wr = w)) (fun i _ => n - (intOf i).toNat)
    case atStart => exact ⟨0, by omega, rfl, (fun j hj => by omega), rfl⟩
    case round =>
      obtain ⟨i, hi, rfl, HA, HW⟩ := hrel
      have HRw : Hid (IRow wr a n m) := by show IRow _ _ _ _; rw [HW.out]; exact Hr.out
      by_cases hlt : i < n
      · have d1 : decide ((i : Int) < (n : Int)) = true := by rw [decide_eq_true_eq]; omega
        obtain ⟨b, off, rfl, _, c0⟩ := HRw.out.get i hlt
        obtain ⟨x, Hx⟩ : ∃ R, Hid (m i = R) := ⟨_, Lib.hid (Eq.refl _)⟩
        rw [Hx.out] at c0
        by_cases hx0 : x < 0
        · have d2 : decide (x < 0) = true := by rw [decide_eq_true_eq]; exact hx0
          obtain rfl : k = 1 := by
            rcases Hk.out with ⟨_, h⟩ | ⟨h, _⟩ | ⟨_, _, h, _⟩ | ⟨_, _, h, _⟩
            · omega
            · exact h
            · have := h i hlt; rw [Hx.out] at this; omega
            · have := h i hlt; rw [Hx.out] at this; omega
          go_wp2_with fail
          go_ret
          exact ⟨rfl, HW.out⟩
        · have d2 : decide (x < 0) = false := by rw [decide_eq_false_iff_not]; exact hx0
          by_cases hx1 : 15 < x
          · have d3 : decide (15 < x) = true := by rw [decide_eq_true_eq]; exact hx1
            obtain rfl : k = 1 := by
              rcases Hk.out with ⟨_, h⟩ | ⟨h, _⟩ | ⟨_, _, h, _⟩ | ⟨_, _, h, _⟩
              · omega
              · exact h
              · have := h i hlt; rw [Hx.out] at this; omega
              · have := h i hlt; rw [Hx.out] at this; omega
            go_wp2_with fail
            go_ret
            exact ⟨rfl, HW.out⟩
          · have d3 : decide (15 < x) = false := by rw [decide_eq_false_iff_not]; exact hx1
            have HA2 : Hid (∀ j, j < i + 1 → 0 ≤ m j ∧ m j ≤ 15) := by
              intro j hj
              by_cases e : j = i
              · subst e; rw [Hx.out]; omega
              · exact HA.out j (by omega)
            go_wp2_with fail
            go_roundw
            case rel => exact ⟨i + 1, by omega, by go_num, HA2, HW⟩
            case measure => simp [intOf]; omega
      · obtain rfl : i = n := by omega
        have d1 : decide ((i : Int) < (i : Int)) = false := by rw [decide_eq_false_iff_not]; omega
        obtain ⟨L, HL⟩ : ∃ L, Hid (lens m = L) := ⟨_, Lib.hid (Eq.refl _)⟩
        have HmL : Hid (∀ j, j < i → m j = (L j : Int) ∧ L j ≤ 15) := fun j hj => by
          have := HA.out j hj
          rw [← HL.out]
          unfold lens
          omega
        go_wp2_with fail
        go_loopw [5, 6, 7, 30] (fun p_ s_ o_ i_ wr => ∃ j p s o : Nat, j ≤ i ∧ i_ = .int .i64 (j : Int) ∧ p_ = .int .i64 (p : Int) ∧ s_ = .int .i64 (s : Int) ∧ o_ = .int .i64 (o : Int) ∧ p ≤ 32768 * j ∧ s ≤ j ∧ o ≤ j ∧ Hid (parts L j = p) ∧ Hid (someOf L j = s) ∧ Hid (onesOf L j = o) ∧ Hid (wr = w)) (fun _ _ _ i_ _ => i - (intOf i_).toNat)
        case atStart => exact ⟨0, 0, 0, 0, by omega, rfl, rfl, rfl, rfl, by omega, by omega, by omega, rfl, rfl, rfl, HW⟩
        case round =>
          clear d1
          obtain ⟨j, p, s, o, hj, rfl, rfl, rfl, rfl, hp, hs, ho, Hp, Hs, Ho, HW⟩ := hrel
          have HRw : Hid (IRow wr a i m) := by show IRow _ _ _ _; rw [HW.out]; exact Hr.out
          by_cases hjl : j < i
          · have d1 : decide ((j : Int) < (i : Int)) = true := by rw [decide_eq_true_eq]; omega
            obtain ⟨b, off, rfl, _, c0⟩ := HRw.out.get j hjl
            obtain ⟨e1, hl15⟩ := HmL.out j hjl
            obtain ⟨l, Hl⟩ : ∃ R, Hid (L j = R) := ⟨_, Lib.hid (Eq.refl _)⟩
            rw [e1, Hl.out] at c0
            rw [Hl.out] at hl15
            clear e1
            by_cases hl0 : 0 < l
            · have d2 : decide (0 < (l : Int)) = true := by rw [decide_eq_true_eq]; omega
              obtain ⟨P2, HP2⟩ : ∃ R, Hid (2 ^ (15 - l) = R) := ⟨_, Lib.hid (Eq.refl _)⟩
              have hP2 : P2 ≤ 32768 := by
                rw [← HP2.out]
                exact Nat.le_trans (Nat.pow_le_pow_right (n := 2) (i := 15 - l) (j := 15) (by decide) (by omega)) (by decide)
              have Hp2 : Hid (parts L (j + 1) = p + P2) := by
                show _ = _
                rw [parts_succ, Hp.out, Hl.out]
                unfold pt
                rw [if_pos hl0, HP2.out]
              have Hs2 : Hid (someOf L (j + 1) = s + 1) := by
                show _ = _
                rw [some_succ, Hs.out, Hl.out, if_pos hl0]
              go_wp2_with fail
              go_loopw [10, 11] (fun q_ r_ wr => ∃ q r : Nat, r ≤ l ∧ r_ = .int .i64 (r : Int) ∧ q_ = .int .i64 (q : Int) ∧ q ≤ 32768 ∧ Hid (2 ^ (15 - r) = q) ∧ Hid (wr = w)) (fun _ r _ => l - (intOf r).toNat)
              case atStart => exact ⟨32768, 0, by omega, rfl, rfl, by omega, by show _ = _; decide, HW⟩
              case round =>
                obtain ⟨q, r, hr1, rfl, rfl, hq, Hq, HW3⟩ := hrel
                by_cases hrl : r < l
                · have d3 : decide ((r : Int) < (l : Int)) = true := by rw [decide_eq_true_eq]; omega
                  obtain ⟨q2, Hq2⟩ : ∃ R, Hid (q / 2 = R) := ⟨_, Lib.hid (Eq.refl _)⟩
                  have e1 : (q : Int) / 2 = (q2 : Int) := by have := Hq2.out; omega
                  have e2 : (q : Int).tdiv 2 = (q2 : Int) := by rw [Int.tdiv_eq_ediv_of_nonneg (by omega)]; exact e1
                  have Hq3 : Hid (2 ^ (15 - (r + 1)) = q2) := by
                    show _ = _
                    rw [← half_pow r (by omega), Hq.out, Hq2.out]
                  have hq2 : q2 ≤ 32768 := by have := Hq2.out; omega
                  go_wp2_with fail
                  go_roundw
                  case rel => exact ⟨q2, r + 1, by omega, by go_num, rfl, hq2, Hq3, HW3⟩
                  case measure => simp [intOf]; omega
                · obtain rfl : r = l := by omega
                  have d3 : decide ((r : Int) < (r : Int)) = false := by rw [decide_eq_false_iff_not]; omega
                  obtain rfl : q = P2 := by rw [← Hq.out, HP2.out]
                  by_cases h1 : r = 1
                  · subst h1
                    have Ho2 : Hid (onesOf L (j + 1) = o + 1) := by
                      show _ = _
                      rw [ones_succ, Ho.out, Hl.out, if_pos rfl]
                    go_wp2_with fail
                    go_roundw
                    case rel => exact ⟨j + 1, p + q, s + 1, o + 1, by omega, by go_num, by go_num, by go_num, by go_num, by omega, by omega, by omega, Hp2, Hs2, Ho2, HW3⟩
                    case measure => simp [intOf]; omega
                  · have d4 : ((r : Int) == 1) = false := by simp; omega
                    have Ho2 : Hid (onesOf L (j + 1) = o) := by
                      show _ = _
                      rw [ones_succ, Ho.out, Hl.out, if_neg h1, Nat.add_zero]
                    go_wp2_with fail
                    go_roundw
                    case rel => exact ⟨j + 1, p + q, s + 1, o, by omega, by go_num, by go_num, by go_num, rfl, by omega, by omega, by omega, Hp2, Hs2, Ho2, HW3⟩
                    case measure => simp [intOf]; omega
            · obtain rfl : l = 0 := by omega
              have Hp2 : Hid (parts L (j + 1) = p) := by
                show _ = _
                rw [parts_succ, Hp.out, Hl.out]
                rfl
              have Hs2 : Hid (someOf L (j + 1) = s) := by
                show _ = _
                rw [some_succ, Hs.out, Hl.out]
                rfl
              have Ho2 : Hid (onesOf L (j + 1) = o) := by
                show _ = _
                rw [ones_succ, Ho.out, Hl.out]
                rfl
              go_wp2_with fail
              go_roundw
              case rel => exact ⟨j + 1, p, s, o, by omega, by go_num, rfl, rfl, rfl, by omega, by omega, by omega, Hp2, Hs2, Ho2, HW⟩
              case measure => simp [intOf]; omega
          · obtain rfl : j = i := by omega
            have d1 : decide ((j : Int) < (j : Int)) = false := by rw [decide_eq_false_iff_not]; omega
            have hfit := fit_iff L j (fun t ht => (HmL.out t ht).2)
            rw [Hs.out, Hp.out, Ho.out] at hfit
            have hkk := Hk.out
            unfold KindOf at hkk
            rw [HL.out, Hp.out, Hs.out] at hkk
            have hk04 : (k = 0 ∧ (s = 0 ∨ p = 32768 ∨ s = 1 ∧ o = 1)) ∨ (k = 4 ∧ ¬ (s = 0 ∨ p = 32768 ∨ s = 1 ∧ o = 1)) := by
              rcases hkk with ⟨_, h⟩ | ⟨_, _, t, ht, h⟩ | ⟨h, _, _, h'⟩ | ⟨h, _, _, h'⟩
              · omega
              · exact absurd (HA.out t ht) h
              · exact .inr ⟨h, fun h2 => h' (hfit.2 h2)⟩
              · exact .inl ⟨h, hfit.1 h'⟩
            clear hfit hkk Hk HmL HA HL
            by_cases hs0 : s = 0
            · subst hs0
              obtain rfl : k = 0 := by omega
              clear hk04
              go_wp2_with fail
              go_ret
              exact ⟨rfl, HW.out⟩
            · have f1 : ((s : Int) == 0) = false := by simp; omega
              by_cases hp0 : p = 32768
              · subst hp0
                obtain rfl : k = 0 := by omega
                clear hk04
                go_wp2_with fail
                go_ret
                exact ⟨rfl, HW.out⟩
              · have f2 : ((p : Int) == 32768) = false := by simp; omega
                by_cases hs1 : s = 1
                · subst hs1
                  by_cases ho1 : o = 1
                  · subst ho1
                    obtain rfl : k = 0 := by omega
                    clear hk04
                    go_wp2_with fail
                    go_ret
                    exact ⟨rfl, HW.out⟩
                  · have f3 : ((o : Int) == 1) = false := by simp; omega
                    obtain rfl : k = 4 := by omega
                    clear hk04
                    go_wp2_with fail
                    go_ret
                    exact ⟨rfl, HW.out⟩
                · have f3 : ((s : Int) == 1) = false := by simp; omega
                  obtain rfl : k = 4 := by omega
                  clear hk04
                  go_wp2_with fail
                  go_ret
                  exact ⟨rfl, HW.out⟩
end Go.Proofs.Ytjnglahjngiofaa
namespace Go.Proofs.Ytjnglahjngiofaa
open Go.RowKit
set_option maxRecDepth 100000

/-- What Code has after k lengths. -/
def codeTo (L : Nat → Nat) (s k : Nat) : Nat := sumTo (fun t => if ahead L t s then 2 ^ (L s - L t) else 0) k
theorem codeTo_succ (L : Nat → Nat) (s k : Nat) : codeTo L s (k + 1) = codeTo L s k + (if ahead L k s then 2 ^ (L s - L k) else 0) := rfl
theorem codeTo_pre (L : Nat → Nat) (s k : Nat) (h15 : L s ≤ 15) : sumTo (fun t => if ahead L t s then pt (L t) else 0) k = codeTo L s k * 2 ^ (15 - L s) := by
  induction k with
  | zero => simp [sumTo, codeTo]
  | succ k ih =>
    show sumTo _ k + _ = _
    rw [ih, codeTo_succ, Nat.add_mul]
    congr 1
    show (if ahead L k s = true then pt (L k) else 0) = _
    by_cases h : ahead L k s = true
    · rw [if_pos h, if_pos h]
      unfold ahead at h
      simp at h
      unfold pt
      rw [if_pos h.1, ← Nat.pow_add]
      congr 1
      omega
    · rw [if_neg h, if_neg h, Nat.zero_mul]
theorem codeTo_all (L : Nat → Nat) (n s : Nat) (h15 : L s ≤ 15) : codeTo L s n = codeOf L n s := by
  unfold codeOf pre
  rw [codeTo_pre L s n h15, Nat.mul_div_cancel _ (pow_pos2' _)]
where pow_pos2' (k : Nat) : 0 < 2 ^ k := Nat.pow_pos (by decide)
theorem codeTo_le (L : Nat → Nat) (s k : Nat) (h15 : L s ≤ 15) : codeTo L s k ≤ 32768 * k := by
  unfold codeTo
  refine sumTo_bound _ _ _ fun j _ => ?_
  split
  · exact Nat.le_trans (Nat.pow_le_pow_right (n := 2) (i := L s - L j) (j := 15) (by decide) (by omega)) (by decide)
  · omega

set_option maxHeartbeats 8000000 in
theorem code_any (a : Option Addr) (n cap : Nat) (m : Nat → Int) (hn : n ≤ 320) (h15 : ∀ i, i < n → 0 ≤ m i ∧ m i ≤ 15) (s : Nat) (hs : s < n) (w : World) (hr : IRow w a n m) :
    Calls Try.prog 87 #[.slice a n cap, .int .i64 (s : Int)] w fun e w' => e = .returned (.int .u32 (codeOf (lens m) n s : Int)) ∧ w = w' := by
  have Hr := Lib.hid hr
  obtain ⟨L, HL⟩ : ∃ L, Hid (lens m = L) := ⟨_, Lib.hid (Eq.refl _)⟩
  rw [HL.out]
  have HmL : Hid (∀ j, j < n → m j = (L j : Int) ∧ L j ≤ 15) := fun j hj => by
    have := h15 j hj
    rw [← HL.out]
    unfold lens
    omega
  obtain ⟨e1, hls15⟩ := HmL.out s hs
  have Hend := Lib.hid (codeTo_all L n s hls15)
  have Hle := Lib.hid (fun k => codeTo_le L s k hls15)
  obtain ⟨b, off, rfl, _, cs⟩ := hr.get s hs
  obtain ⟨l, Hl⟩ : ∃ R, Hid (L s = R) := ⟨_, Lib.hid (Eq.refl _)⟩
  rw [e1, Hl.out] at cs
  rw [Hl.out] at hls15
  have hsn : (s : Int) < (n : Int) := by omega
  clear hr h15 e1
  go_enter Try.func87, Try.ntmps87
  go_wp2_with fail
  go_loopw [5, 10] (fun x_ i_ wr => ∃ i x : Nat, i ≤ n ∧ i_ = .int .i64 (i : Int) ∧ x_ = .int .u32 (x : Int) ∧ x ≤ 32768 * i ∧ Hid (codeTo L s i = x) ∧ Hid (w = wr)) (fun _ i _ => n - (intOf i).toNat)
  case atStart => exact ⟨0, 0, by omega, rfl, rfl, by omega, rfl, rfl⟩
  case round =>
    obtain ⟨i, x, hi, rfl, rfl, hx, Hx, HW⟩ := hrel
    have HRw : Hid (IRow wr (some ⟨b, off, none⟩) n m) := by show IRow _ _ _ _; rw [← HW.out]; exact Hr.out
    have cs2 : wr.cell? ⟨b, off + s, none⟩ = some (.int .i64 (l : Int)) := by rw [← HW.out]; exact cs
    by_cases hlt : i < n
    · have d1 : decide ((i : Int) < (n : Int)) = true := by rw [decide_eq_true_eq]; omega
      obtain ⟨b', off', e, _, c0⟩ := HRw.out.get i hlt
      injection e with e
      injection e with e2 e3
      subst e2 e3
      obtain ⟨e1, hli15⟩ := HmL.out i hlt
      obtain ⟨k, Hk⟩ : ∃ R, Hid (L i = R) := ⟨_, Lib.hid (Eq.refl _)⟩
      rw [e1, Hk.out] at c0
      rw [Hk.out] at hli15
      have hst := codeTo_succ L s i
      rw [Hx.out] at hst
      clear e1
      have skip : ¬ ahead L i s = true → Hid (codeTo L s (i + 1) = x) := fun h => by
        show _ = _
        rw [hst, if_neg h, Nat.add_zero]
      obtain ⟨d, Hd⟩ : ∃ R, Hid (l - k = R) := ⟨_, Lib.hid (Eq.refl _)⟩
      obtain ⟨Y, HY⟩ : ∃ R, Hid (2 ^ d = R) := ⟨_, Lib.hid (Eq.refl _)⟩
      have hY : Y ≤ 32768 := by
        rw [← HY.out]
        exact Nat.le_trans (Nat.pow_le_pow_right (n := 2) (i := d) (j := 15) (by decide) (by have := Hd.out; omega)) (by decide)
      have take : ahead L i s = true → Hid (codeTo L s (i + 1) = x + Y) := fun h => by
        show _ = _
        rw [hst, if_pos h, Hl.out, Hk.out, Hd.out, HY.out]
      have wY : IntKind.u32.wrap ((2 : Int) ^ d) = (Y : Int) := by
        have e : (2 : Int) ^ d = ((2 ^ d : Nat) : Int) := by simp
        rw [e, HY.out, IntKind.wrap_u32]
        omega
      have wY2 : (2 : Int) ^ d % 4294967296 = (Y : Int) := by
        have e : (2 : Int) ^ d = ((2 ^ d : Nat) : Int) := by simp
        rw [e, HY.out]
        omega
      have md : min d 32 = d := by have := Hd.out; omega
      have Hskip := Lib.hid skip
      have Htake := Lib.hid take
      have hahd : ahead L i s = (decide (0 < k) && (decide (k < l) || (decide (k = l) && decide (i < s)))) := by unfold ahead; rw [Hl.out, Hk.out]
      have Hahd := Lib.hid hahd
      clear skip take hahd hst
      by_cases hk0 : 0 < k
      · have f0 : decide (0 < (k : Int)) = true := by rw [decide_eq_true_eq]; omega
        by_cases hkl : k < l
        · have f1 : decide ((k : Int) < (l : Int)) = true := by rw [decide_eq_true_eq]; omega
          have hd : (l : Int) - (k : Int) = (d : Int) := by have := Hd.out; omega
          have H2 := Htake.out (by rw [Hahd.out, decide_eq_true hk0, decide_eq_true hkl]; rfl)
          go_wp2_with fail
          go_roundw
          case rel => exact ⟨i + 1, x + Y, by omega, by go_num, by go_num, by omega, H2, HW⟩
          case measure => simp [intOf]; omega
        · have f1 : decide ((k : Int) < (l : Int)) = false := by rw [decide_eq_false_iff_not]; omega
          by_cases hke : k = l
          · subst hke
            by_cases his : i < s
            · have f3 : decide ((i : Int) < (s : Int)) = true := by rw [decide_eq_true_eq]; omega
              have hd : (k : Int) - (k : Int) = (d : Int) := by have := Hd.out; omega
              have hd0 : d = 0 := by have := Hd.out; omega
              have H2 := Htake.out (by rw [Hahd.out, decide_eq_true hk0, decide_eq_true his]; simp)
              subst hd0
              have hY1 : Y = 1 := HY.out.symm
              subst hY1
              go_wp2_with fail
              go_roundw
              case rel => exact ⟨i + 1, x + 1, by omega, by go_num, by go_num, by omega, H2, HW⟩
              case measure => simp [intOf]; omega
            · have f3 : decide ((i : Int) < (s : Int)) = false := by rw [decide_eq_false_iff_not]; omega
              have H2 := Hskip.out (by rw [Hahd.out, decide_eq_false his]; simp)
              go_wp2_with fail
              go_roundw
              case rel => exact ⟨i + 1, x, by omega, by go_num, rfl, by omega, H2, HW⟩
              case measure => simp [intOf]; omega
          · have f2 : ((k : Int) == (l : Int)) = false := by simp; omega
            have H2 := Hskip.out (by rw [Hahd.out, decide_eq_false hkl, decide_eq_false hke]; simp)
            go_wp2_with fail
            go_roundw
            case rel => exact ⟨i + 1, x, by omega, by go_num, rfl, by omega, H2, HW⟩
            case measure => simp [intOf]; omega
      · obtain rfl : k = 0 := by omega
        have H2 := Hskip.out (by rw [Hahd.out]; simp)
        go_wp2_with fail
        go_roundw
        case rel => exact ⟨i + 1, x, by omega, by go_num, rfl, by omega, H2, HW⟩
        case measure => simp [intOf]; omega
    · obtain rfl : i = n := by omega
      have d1 : decide ((i : Int) < (i : Int)) = false := by rw [decide_eq_false_iff_not]; omega
      have e : codeOf L i s = x := by rw [← Hend.out]; exact Hx.out
      have He := Lib.hid e
      clear e
      go_wp2_with fail
      go_ret
      exact ⟨by rw [He.out]; rfl, HW.out⟩
end Go.Proofs.Ytjnglahjngiofaa
namespace Go.Proofs.Ytjnglahjngiofaa
open Go.RowKit
set_option maxRecDepth 100000

theorem info_u32w : (Try.prog.info? 86).map (fun i => (i.zero, i.size, i.bytes)) = some (some (.int .u32 0), 1, 4) := by kernel_rfl
/-- n numbers behind a. -/
def URow (w : World) (a : Option Addr) (n : Nat) (F : Nat → Nat) : Prop :=
  n = 0 ∨ ∃ b off, a = some ⟨b, off, none⟩ ∧ b < w.heap.size ∧ ∀ i, i < n → w.cell? ⟨b, off + i, none⟩ = some (.int .u32 (F i : Int))
theorem URow.get {w : World} {a : Option Addr} {n : Nat} {F : Nat → Nat} (h : URow w a n F) (i : Nat) (hi : i < n) : ∃ b off, a = some ⟨b, off, none⟩ ∧ b < w.heap.size ∧ w.cell? ⟨b, off + i, none⟩ = some (.int .u32 (F i : Int)) := by
  rcases h with h | ⟨b, off, h1, h2, h3⟩
  · omega
  · exact ⟨b, off, h1, h2, h3 i hi⟩
def ucells (n : Nat) (F : Nat → Nat) : List Value := (List.range n).map fun i => .int .u32 (F i : Int)
theorem ucells_at (n : Nat) (F : Nat → Nat) (i : Nat) (h : i < n) : (ucells n F)[i]? = some (.int .u32 (F i : Int)) := by simp [ucells, h]
theorem ucells_succ (n : Nat) (F : Nat → Nat) : ucells (n + 1) F = ucells n F ++ [.int .u32 (F n : Int)] := by simp [ucells, List.range_succ]
theorem urow_of {w : World} {base n : Nat} {F : Nat → Nat} {v : Value} (h : w.ownsRow base 86 1 v n (ucells n F)) : ∃ a cap, v = .slice a n cap ∧ URow w a n F ∧ ∀ b off sp, a = some ⟨b, off, sp⟩ → base ≤ b ∧ b < w.heap.size := by
  have hlt := World.ownsRow.lt h
  rcases h.2 with ⟨rfl, h0⟩ | ⟨g, cap, cur, rfl, _⟩
  · exact ⟨none, 0, by rw [h0], .inl h0, fun b off sp e => by cases e⟩
  · refine ⟨some ⟨g, 0, none⟩, cap, rfl, .inr ⟨g, 0, rfl, (hlt g rfl).2, fun i hi => ?_⟩, fun b off sp e => ?_⟩
    · rw [Nat.zero_add, World.ownsRow.cellAt h i (by omega)]
      exact ucells_at n F i hi
    · injection e with e
      injection e with e1
      rw [← e1]
      exact hlt g rfl

set_option maxHeartbeats 4000000 in
theorem table_any (a : Option Addr) (n cap : Nat) (m : Nat → Int) (hn : n ≤ 320) (h15 : ∀ i, i < n → 0 ≤ m i ∧ m i ≤ 15) (w : World) (hr : IRow w a n m) :
    Calls Try.prog 77 #[.slice a n cap] w fun e w' => ∃ v, e = .returned v ∧ w'.ownsRow w.heap.size 86 1 v n (ucells n (bitsF (lens m) n)) ∧ Below w.heap.size w w' := by
  have Hr := Lib.hid hr
  have H15 := Lib.hid h15
  have hb0 := (Below.refl w.heap.size w).alloc (Nat.le_refl _) (.cells #[] 86)
  have hr0 := World.ownsRow_made (base := w.heap.size) (e := 86) (size := 1) w #[] 0 (Nat.le_refl _) (Nat.zero_le _) rfl
  obtain ⟨L, HL⟩ : ∃ L, Hid (lens m = L) := ⟨_, Lib.hid (Eq.refl _)⟩
  rw [HL.out]
  obtain ⟨F, HF⟩ : ∃ L, Hid (bitsF (lens m) n = L) := ⟨_, Lib.hid (Eq.refl _)⟩
  have HF' : Hid (bitsF L n = F) := by show _ = _; rw [← HL.out]; exact HF.out
  rw [HF'.out]
  have HmL : Hid (∀ j, j < n → m j = (L j : Int)) := fun j hj => by
    have := h15 j hj
    rw [← HL.out]
    unfold lens
    omega
  have HO0 : Hid ((w.alloc (.cells #[] 86)).ownsRow w.heap.size 86 1 (.slice (some ⟨w.heap.size, 0, none⟩) 0 0) 0 (ucells 0 F)) := hr0
  have HB0 := Lib.hid hb0
  clear hr h15 hb0 hr0
  go_enter Try.func77, Try.ntmps77
  go_wp2_with fail
  obtain ⟨w1, HW1⟩ : ∃ W, Hid (w.alloc (.cells #[] 86) = W) := ⟨_, Lib.hid (Eq.refl _)⟩
  rw [HW1.out] at HO0 HB0 ⊢
  clear HW1
  go_loopw [3, 9] (fun v_ i_ wr => ∃ i : Nat, i ≤ n ∧ i_ = .int .i64 (i : Int) ∧ Hid (wr.ownsRow w.heap.size 86 1 v_ i (ucells i F)) ∧ Hid (Below w.heap.size w wr)) (fun _ i _ => n - (intOf i).toNat)
  case atStart => exact ⟨0, by omega, rfl, HO0, HB0⟩
  case round =>
    clear HO0 HB0
    obtain ⟨i, hi, rfl, HO, HB⟩ := hrel
    by_cases hlt : i < n
    · have d1 : decide ((i : Int) < (n : Int)) = true := by rw [decide_eq_true_eq]; omega
      have hlI : (i : Int) < (n : Int) := by omega
      have hrw := Hr.out.below HB.out
      have CC := Lib.hid (code_any a n cap m hn H15.out i hlt wr hrw)
      obtain ⟨b, off, rfl, _, c0⟩ := hrw.get i hlt
      have em := HmL.out i hlt
      obtain ⟨l, Hl⟩ : ∃ R, Hid (L i = R) := ⟨_, Lib.hid (Eq.refl _)⟩
      obtain ⟨f, Hf⟩ : ∃ R, Hid (F i = R) := ⟨_, Lib.hid (Eq.refl _)⟩
      rw [em, Hl.out] at c0
      have hos := HO.out
      have hbsw : w.heap.size ≤ wr.heap.size := HB.out.size
      have hsucc := ucells_succ i F
      rw [Hf.out] at hsucc
      have Hsucc := Lib.hid hsucc
      clear em hrw hsucc
      by_cases hl0 : l = 0
      · subst hl0
        have hf0 : f = 0 := by
          rw [← Hf.out, ← HF'.out]
          unfold bitsF
          rw [Hl.out]
          rfl
        subst hf0
        simp at c0
        go_wp2_with (first
          | (at_builtin; go_must (refine wpList_append_elem wr rfl (.tmp 20) (.tmp 22) rfl Try.underlying139 info_u32w rfl (by decide) w.heap.size _ i (ucells i F) [.int .u32 0] hos rfl ?_ rfl rfl rfl ?_ ?_ hbsw ?_; (intro y hy; simp at hy; subst hy; rfl); (unfold maxLen; omega); omega; intro v7 w7 hown7 hg7; have HO7 : Hid (w7.ownsRow w.heap.size 86 1 v7 (i + 1) (ucells (i + 1) F)) := (by show World.ownsRow _ _ _ _ _ _ _; rw [Hsucc.out]; exact hown7); have HB7 := Lib.hid (HB.out.trans (below_grown hos hg7 hbsw)); clear hown7 hg7))
          | fail)
        go_roundw
        case rel => exact ⟨i + 1, by omega, by go_num, HO7, HB7⟩
        case measure => simp [intOf]; omega
      · have f2 : decide (0 < (l : Int)) = true := by rw [decide_eq_true_eq]; omega
        have f3 : decide (0 < l) = true := by rw [decide_eq_true_eq]; omega
        have hfc : codeOf (lens m) n i = f := by
          rw [← Hf.out, ← HF'.out, HL.out]
          unfold bitsF
          rw [if_pos (by rw [Hl.out]; omega)]
        rw [hfc] at CC
        clear hfc
        go_wp2_with fail
        refine CC.out.mono ?_
        rintro e w6 ⟨rfl, rfl⟩
        clear CC
        go_wp2_with (first
          | (at_builtin; go_must (refine wpList_append_elem wr rfl (.tmp 20) (.tmp 22) rfl Try.underlying139 info_u32w rfl (by decide) w.heap.size _ i (ucells i F) [.int .u32 (f : Int)] hos rfl ?_ rfl rfl rfl ?_ ?_ hbsw ?_; (intro y hy; simp at hy; subst hy; rfl); (unfold maxLen; omega); omega; intro v7 w7 hown7 hg7; have HO7 : Hid (w7.ownsRow w.heap.size 86 1 v7 (i + 1) (ucells (i + 1) F)) := (by show World.ownsRow _ _ _ _ _ _ _; rw [Hsucc.out]; exact hown7); have HB7 := Lib.hid (HB.out.trans (below_grown hos hg7 hbsw)); clear hown7 hg7))
          | fail)
        go_roundw
        case rel => exact ⟨i + 1, by omega, by go_num, HO7, HB7⟩
        case measure => simp [intOf]; omega
    · obtain rfl : i = n := by omega
      have d1 : decide ((i : Int) < (i : Int)) = false := by rw [decide_eq_false_iff_not]; omega
      go_wp2_with fail
      go_ret
      exact ⟨_, rfl, HO.out, HB.out⟩
end Go.Proofs.Ytjnglahjngiofaa
namespace Go.Proofs.Ytjnglahjngiofaa
open Go.RowKit
set_option maxRecDepth 100000

/-- The first n bits of V, as values. -/
def bval (V i : Nat) : Value := .bool (V.testBit i)
def bvals (n V : Nat) : List Value := (List.range n).map (bval V)
theorem bvals_length (n V : Nat) : (bvals n V).length = n := by simp [bvals]
theorem bvals_at (n V i : Nat) (h : i < n) : (bvals n V)[i]? = some (bval V i) := by simp [bvals, h]
theorem bvals_one (n V : Nat) : ∀ u ∈ bvals n V, u.oneCell' = true := by
  intro u hu
  simp only [bvals, List.mem_map] at hu
  obtain ⟨i, _, rfl⟩ := hu
  rfl
theorem bvals_succ (n V : Nat) : bvals (n + 1) V = bvals n V ++ [.bool (V.testBit n)] := by simp [bvals, List.range_succ, bval]
theorem bvals_congr (n V U : Nat) (h : ∀ i, i < n → V.testBit i = U.testBit i) : bvals n V = bvals n U := by
  unfold bvals
  refine List.map_congr_left fun i hi => ?_
  unfold bval
  rw [h i (List.mem_range.1 hi)]
/-- One bit turned. -/
theorem bvals_flip (n V k : Nat) (hk : k < n) : (bvals n V).set k (.bool (!V.testBit k)) = bvals n (V ^^^ 2 ^ k) := by
  apply List.ext_getElem?
  intro i
  rw [List.getElem?_set]
  by_cases e : k = i
  · subst e
    rw [if_pos rfl, if_pos (by rw [bvals_length]; exact hk), bvals_at _ _ _ hk]
    unfold bval
    rw [Nat.testBit_xor, Nat.testBit_two_pow_self]
    simp
  · rw [if_neg e]
    by_cases hi : i < n
    · rw [bvals_at _ _ _ hi, bvals_at _ _ _ hi]
      unfold bval
      rw [Nat.testBit_xor, Nat.testBit_two_pow_of_ne e, Bool.xor_false]
    · rw [List.getElem?_eq_none (by rw [bvals_length]; omega), List.getElem?_eq_none (by rw [bvals_length]; omega)]

theorem info_bool : (Try.prog.info? 4).map (fun i => (i.zero, i.size, i.bytes)) = some (some (.bool false), 1, 1) := by kernel_rfl

/-- n bools behind a: the first n bits of V. -/
def BRow (w : World) (a : Option Addr) (n V : Nat) : Prop :=
  n = 0 ∨ ∃ b off, a = some ⟨b, off, none⟩ ∧ b < w.heap.size ∧ ∀ i, i < n → w.cell? ⟨b, off + i, none⟩ = some (bval V i)
section
variable {w w' : World} {a : Option Addr} {n V : Nat}
theorem BRow.get (h : BRow w a n V) (i : Nat) (hi : i < n) : ∃ b off, a = some ⟨b, off, none⟩ ∧ b < w.heap.size ∧ w.cell? ⟨b, off + i, none⟩ = some (.bool (V.testBit i)) := by
  rcases h with h | ⟨b, off, h1, h2, h3⟩
  · omega
  · exact ⟨b, off, h1, h2, h3 i hi⟩
theorem BRow.below {B : Nat} (h : BRow w a n V) (hb : Below B w w') (hB : w.heap.size ≤ B) : BRow w' a n V := by
  rcases h with h | ⟨b, off, h1, h2, h3⟩
  · exact .inl h
  · exact .inr ⟨b, off, h1, Nat.lt_of_lt_of_le h2 hb.size, fun i hi => (hb.cell (p := ⟨b, off + i, none⟩) (show b < B by omega)).trans (h3 i hi)⟩
theorem BRow.take (h : BRow w a n V) (k : Nat) (hk : k ≤ n) : BRow w a k V := by
  rcases h with h | ⟨b, off, h1, h2, h3⟩
  · exact .inl (by omega)
  · exact .inr ⟨b, off, h1, h2, fun i hi => h3 i (by omega)⟩
theorem BRow.congr (h : BRow w a n V) {U : Nat} (hU : ∀ i, i < n → V.testBit i = U.testBit i) : BRow w a n U := by
  rcases h with h | ⟨b, off, h1, h2, h3⟩
  · exact .inl h
  · exact .inr ⟨b, off, h1, h2, fun i hi => by rw [h3 i hi]; unfold bval; rw [hU i hi]⟩
end

/-- The slice v, of the call's own from base on, has the first n bits of V. -/
def OwnV (w : World) (base n V : Nat) (v : Value) : Prop := ∃ g cap, v = .slice (some ⟨g, 0, none⟩) n cap ∧ w.ownsRow base 4 1 v n (bvals n V)
section
variable {w w' : World} {base n V : Nat} {v : Value}
theorem OwnV.row {g cap : Nat} (h : w.ownsRow base 4 1 (.slice (some ⟨g, 0, none⟩) n cap) n (bvals n V)) : BRow w (some ⟨g, 0, none⟩) n V := by
  refine .inr ⟨g, 0, rfl, (World.ownsRow.lt h g (by simp [Value.ownBlock])).2, fun i hi => ?_⟩
  rw [Nat.zero_add, World.ownsRow.cellAt h i (by omega), bvals_at n V i hi]
theorem OwnV.empty (w : World) (base V : Nat) (hb : base ≤ w.heap.size) : OwnV (w.alloc (.cells #[] 4)) base 0 V (.slice (some ⟨w.heap.size, 0, none⟩) 0 0) :=
  ⟨w.heap.size, 0, rfl, World.ownsRow_made w #[] 0 hb (Nat.zero_le _) rfl⟩
theorem OwnV.below {B : Nat} (h : OwnV w base n V v) (hb : Below B w w') (hv : ∀ g, v.ownBlock = some g → g < B) : OwnV w' base n V v := by
  obtain ⟨g, cap, rfl, h1⟩ := h
  have hg := hv g (by simp [Value.ownBlock])
  refine ⟨g, cap, rfl, h1.1, ?_⟩
  rcases h1.2 with hn | ⟨g', cap', cur, e, hbb, hh, r⟩
  · exact .inl hn
  · simp only [Value.slice.injEq, Option.some.injEq, Addr.mk.injEq] at e
    obtain ⟨⟨rfl, _, _⟩, _, rfl⟩ := e
    exact .inr ⟨g, cap, cur, rfl, hbb, (hb.block g hg).trans hh, r⟩
/-- Behind an append of at least one. -/
theorem OwnV.more (hn : 0 < n) (h : w.ownsRow base 4 1 v n (bvals n V)) : OwnV w base n V v := by
  obtain ⟨g, cap, rfl, _⟩ := World.ownsRow.form h hn
  exact ⟨g, cap, rfl, h⟩
end

/-- append(own, l...) where l is a slice of bools that came in. -/
theorem wpList_append_brow {ops : Array Oper} {rest : List Oper} {o : Oper} {a : Act} {Q : Exit → Act → World → Prop} {w : World} (hgd : o.guard = none) (s x : Operand)
    (ho : o.op = .call { callee := .builtin .append, args := #[s, x], argTypes := #[105, 105] })
    (base : Nat) (v : Value) (n V0 : Nat) (hown : w.ownsRow base 4 1 v n (bvals n V0)) (hs : a.eval s = v)
    (p : Option Addr) (k c V1 : Nat) (hx : a.eval x = .slice p k c) (hr : BRow w p k V1) (hnil : p = none → k = 0 ∧ c = 0)
    (h63 : n + k ≤ 1000000000) (hbase : base ≤ w.heap.size)
    (h : ∀ v' w', w'.ownsRow base 4 1 v' (n + k) (bvals n V0 ++ bvals k V1) → w.grownBy w' v.ownBlock → (v = .slice none 0 0 ∨ v' ≠ .slice none 0 0) → wpList Try.prog ops Q rest (a.put o.dst v') w') :
    wpList Try.prog ops Q (o :: rest) a w := by
  obtain ⟨i0, hi, hz0, hz1, hz2⟩ := info_parts info_bool
  have hi' : Try.prog.info? 4 = some i0 := hi
  rcases p with _ | ⟨b, off, sp⟩
  · obtain ⟨rfl, rfl⟩ := hnil rfl
    refine wpList_append_own_none hgd s x 105 ho base 4 i0 1 Try.underlying105 hi' v n _ hs hown hx (h v w ?_ ?_ ?_)
    · simpa [bvals] using hown
    · exact World.grownBy.refl w _
    · by_cases e : v = .slice none 0 0
      · exact .inl e
      · exact .inr e
  · refine wpList_append_own w hgd s x 105 ho base 4 i0 (.bool false) 1 1 Try.underlying105 hi' hz0 hz1 hz2 rfl (by decide) v n _ hs hown ⟨b, off, sp⟩ k c (bvals k V1) hx (by rw [bvals_length, Nat.mul_one]) ?_ (bvals_one _ _) (by unfold maxLen; omega) (by omega) hbase ?_
    · intro j u hj
      have hjk : j < k := by
        have := (List.getElem?_eq_some_iff.1 hj).1
        rwa [bvals_length] at this
      rw [bvals_at k V1 j hjk] at hj
      obtain ⟨b', off', he, _, hc⟩ := hr.get j hjk
      injection he with he
      injection he with e1 e2 e3
      subst e1 e2 e3
      have e : (⟨b, off, none⟩ : Addr).add j = ⟨b, off + j, none⟩ := by unfold Addr.add; split <;> simp_all
      rw [e, hc]
      exact hj
    · intro v' w' h1 h2 h3
      refine h v' w' h1 h2 ?_
      by_cases e : v = .slice none 0 0
      · exact .inl e
      · exact .inr fun e2 => e (h3.1 e2).1

/-- append(own, x): one bool. -/
theorem wpList_append_bool {ops : Array Oper} {rest : List Oper} {o : Oper} {a : Act} {Q : Exit → Act → World → Prop} (w : World) (hgd : o.guard = none) (s x : Operand)
    (ho : o.op = .call { callee := .builtin .append, args := #[s, x], argTypes := #[105, 105] })
    (base : Nat) (v : Value) (n V : Nat) (b : Bool) (hown : OwnV w base n V v) (hb : V.testBit n = b) (hs : a.eval s = v)
    {sz : Nat} (hx : a.eval x = .slice (some ⟨sz, 0, none⟩) 1 1) (hsize : sz = w.heap.size) (hn : n < 1000000000) (hbase : base ≤ w.heap.size)
    (h : ∀ v' w', OwnV w' base (n + 1) V v' → Below base w w' → wpList Try.prog ops Q rest (a.put o.dst v') w') :
    wpList Try.prog ops Q (o :: rest) a (w.alloc (.cells #[.bool b] 4)) := by
  obtain ⟨g, cap, hv, hown⟩ := hown
  refine wpList_append_elem w hgd s x ho Try.underlying105 info_bool rfl (by decide) base v n (bvals n V) [.bool b] hown rfl (by intro y hy; simp at hy; subst hy; rfl) hs hx hsize
    (by unfold maxLen; omega) (by omega) hbase ?_
  intro v' w' h2 h3
  rw [← hb, ← bvals_succ] at h2
  exact h v' w' (OwnV.more (Nat.succ_pos _) h2) (below_grown hown h3 hbase)
end Go.Proofs.Ytjnglahjngiofaa
namespace Go.Proofs.Ytjnglahjngiofaa
open Go.RowKit
set_option maxRecDepth 100000

/-- One bit of a number. -/
def bit (V i : Nat) : Nat := V / 2 ^ i % 2
theorem bit_test (V i : Nat) : V.testBit i = decide (bit V i = 1) := by
  unfold bit
  rw [Nat.testBit_eq_decide_div_mod_eq]
theorem bit_lt (V i : Nat) : bit V i < 2 := Nat.mod_lt _ (by decide)
theorem bit_out (V n i : Nat) (hV : V < 2 ^ n) (h : n ≤ i) : bit V i = 0 := by
  unfold bit
  rw [Nat.div_eq_of_lt (Nat.lt_of_lt_of_le hV (Nat.pow_le_pow_right (by decide) h))]

theorem bit_any (a : Option Addr) (n cap V : Nat) (_hn : n ≤ 1000000000) (hV : V < 2 ^ n) (i : Nat) (hi : i ≤ 1000000000) (w : World) (hr : BRow w a n V) :
    Calls Try.prog 86 #[.slice a n cap, .int .i64 (i : Int)] w fun e w' => e = .returned (.int .u32 (bit V i : Int)) ∧ w = w' := by
  have d0 : decide (0 ≤ (i : Int)) = true := by rw [decide_eq_true_eq]; omega
  by_cases h : i < n
  · have d1 : decide ((i : Int) < (n : Int)) = true := by rw [decide_eq_true_eq]; omega
    obtain ⟨b, off, rfl, _, c0⟩ := hr.get i h
    obtain ⟨B, HB⟩ : ∃ B, Hid (V.testBit i = B) := ⟨_, Lib.hid (Eq.refl _)⟩
    rw [HB.out] at c0
    have hB := HB.out
    rw [bit_test] at hB
    have hl := bit_lt V i
    cases B with
    | true =>
      have e : bit V i = 1 := by simpa using hB
      rw [e]
      clear hr hV hB hl e HB
      go_enter Try.func86, Try.ntmps86
      go_wp2_with fail
      go_ret
      exact ⟨rfl, rfl⟩
    | false =>
      have e : bit V i = 0 := by have : ¬ bit V i = 1 := by simpa using hB
                                 omega
      rw [e]
      clear hr hV hB hl e HB
      go_enter Try.func86, Try.ntmps86
      go_wp2_with fail
      go_ret
      exact ⟨rfl, rfl⟩
  · have d1 : decide ((i : Int) < (n : Int)) = false := by rw [decide_eq_false_iff_not]; omega
    rw [bit_out V n i hV (by omega)]
    clear hr hV
    go_enter Try.func86, Try.ntmps86
    go_wp2_with fail
    go_ret
    exact ⟨rfl, rfl⟩

/-- What Number has after j bits. -/
def part (V p n j : Nat) : Bool → Nat
  | false => V / 2 ^ p % 2 ^ j
  | true => rev (V / 2 ^ p) j * 2 ^ (n - j)
theorem part_step (V p n j : Nat) (b : Bool) (h : j < n) : part V p n (j + 1) b = part V p n j b + bit V (p + j) * 2 ^ (if b then n - 1 - j else j) := by
  have e : V / 2 ^ p / 2 ^ j % 2 = bit V (p + j) := by unfold bit; rw [Nat.div_div_eq_div_mul, ← Nat.pow_add]
  cases b with
  | false =>
    unfold part
    rw [Nat.pow_succ, Nat.mod_mul, e, Nat.mul_comm (2 ^ j)]
    rfl
  | true =>
    unfold part
    simp only [rev, e]
    rw [show n - j = (n - (j + 1)) + 1 by omega, Nat.pow_succ, show n - 1 - j = n - (j + 1) by omega, Nat.add_mul]
    simp only [if_true]
    have : rev (V / 2 ^ p) j * (2 ^ (n - (j + 1)) * 2) = 2 * rev (V / 2 ^ p) j * 2 ^ (n - (j + 1)) := by
      rw [Nat.mul_comm (2 ^ (n - (j + 1))) 2, ← Nat.mul_assoc, Nat.mul_comm _ 2]
    omega
theorem part_lt (V p n j : Nat) (b : Bool) (h : j ≤ n) : part V p n j b < 2 ^ n := by
  cases b with
  | false => exact Nat.lt_of_lt_of_le (Nat.mod_lt _ (pow_pos2 j)) (Nat.pow_le_pow_right (by decide) h)
  | true =>
    show rev (V / 2 ^ p) j * 2 ^ (n - j) < 2 ^ n
    have h1 := Nat.mul_le_mul_right (2 ^ (n - j)) (show rev (V / 2 ^ p) j + 1 ≤ 2 ^ j from rev_lt _ _)
    rw [← Nat.pow_add, show j + (n - j) = n by omega, Nat.add_mul, Nat.one_mul] at h1
    have := pow_pos2 (n - j)
    omega
theorem part_zero (V p n : Nat) (b : Bool) : part V p n 0 b = 0 := by
  cases b with
  | false => unfold part; exact Nat.mod_one _
  | true => simp [part, rev]

/-- Number's answer. -/
def numAt (V p n : Nat) (b : Bool) : Nat := part V p n n b
theorem numAt_false (V p n : Nat) : numAt V p n false = V / 2 ^ p % 2 ^ n := rfl
theorem numAt_true (V p n : Nat) : numAt V p n true = rev (V / 2 ^ p % 2 ^ n) n := by
  unfold numAt part
  rw [Nat.sub_self, Nat.pow_zero, Nat.mul_one, rev_mod _ _ _ (Nat.le_refl _)]

theorem number_any (a : Option Addr) (n cap V : Nat) (hn : n ≤ 900000000) (hV : V < 2 ^ n) (p k : Nat) (hp : p ≤ 900000000) (hk : k ≤ 32) (b : Bool) (w : World) (hr : BRow w a n V) :
    Calls Try.prog 75 #[.slice a n cap, .int .i64 (p : Int), .int .i64 (k : Int), .bool b] w fun e w' => e = .returned (.int .u32 (numAt V p k b : Int)) ∧ w = w' := by
  have Hr := Lib.hid hr
  have HV := Lib.hid hV
  clear hr hV
  go_enter Try.func75, Try.ntmps75
  go_wp2_with fail
  go_loopw [9, 10] (fun x i wr => ∃ j A : Nat, j ≤ k ∧ i = .int .i64 (j : Int) ∧ x = .int .u32 (A : Int) ∧ A < 4294967296 ∧ Hid (part V p k j b = A) ∧ wr = w) (fun _ i _ => k - (intOf i).toNat)
  case atStart => exact ⟨0, 0, by omega, rfl, rfl, by decide, part_zero V p k b, rfl⟩
  case round =>
    obtain ⟨j, A, hj, rfl, rfl, hA, HA, rfl⟩ := hrel
    by_cases hlt : j < k
    · have CB := Lib.hid (bit_any a n cap V (by omega) HV.out (p + j) (by omega) _ Hr.out)
      obtain ⟨B, HB⟩ : ∃ B, Hid (bit V (p + j) = B) := ⟨_, Lib.hid (Eq.refl _)⟩
      have hBl : B < 2 := by rw [← HB.out]; exact bit_lt _ _
      rw [HB.out] at CB
      have e1 : ((p + j : Nat) : Int) = (p : Int) + (j : Int) := by omega
      rw [e1] at CB
      have d1 : decide ((j : Int) < (k : Int)) = true := by rw [decide_eq_true_eq]; omega
      obtain ⟨t, Ht⟩ : ∃ t, Hid ((if b then k - 1 - j else j) = t) := ⟨_, Lib.hid (Eq.refl _)⟩
      have htl : t ≤ 31 := by have := Ht.out; split at this <;> omega
      have hst := part_step V p k j b hlt
      have hlt2 := part_lt V p k (j + 1) b hlt
      rw [HA.out, HB.out, Ht.out] at hst
      have hk2 : 2 ^ k ≤ 4294967296 := Nat.le_trans (Nat.pow_le_pow_right (by decide) hk) (by decide)
      obtain ⟨D, HD⟩ : ∃ D, Hid (B * 2 ^ t = D) := ⟨_, Lib.hid (Eq.refl _)⟩
      rw [HD.out] at hst
      rw [hst] at hlt2
      have w1 : IntKind.u32.wrap ((B : Int) * 2 ^ t) = (D : Int) := by
        have e : (B : Int) * 2 ^ t = ((B * 2 ^ t : Nat) : Int) := by simp
        rw [e, HD.out, IntKind.wrap_u32]
        omega
      have HA2 : Hid (part V p k (j + 1) b = A + D) := hst
      have hAD : A + D < 4294967296 := by omega
      cases b with
      | false =>
        obtain rfl : j = t := by have := Ht.out; simpa using this
        clear hst hlt2 hk2 HB HD Ht e1
        go_wp2_with fail
        refine CB.out.mono ?_
        rintro e w2 ⟨rfl, rfl⟩
        go_wp2_with fail
        go_roundw
        case rel => exact ⟨j + 1, A + D, by omega, by go_num, by go_num, hAD, HA2, by first | trivial | rfl⟩
        case measure => simp [intOf]; omega
      | true =>
        have et : (k : Int) - 1 - (j : Int) = (t : Int) := by have := Ht.out; simp at this; omega
        clear hst hlt2 hk2 HB HD Ht e1
        go_wp2_with fail
        refine CB.out.mono ?_
        rintro e w2 ⟨rfl, rfl⟩
        go_wp2_with fail
        go_roundw
        case rel => exact ⟨j + 1, A + D, by omega, by go_num, by go_num, hAD, HA2, by first | trivial | rfl⟩
        case measure => simp [intOf]; omega
    · obtain rfl : j = k := by omega
      have d1 : decide ((j : Int) < (j : Int)) = false := by rw [decide_eq_false_iff_not]; omega
      go_wp2_with fail
      go_ret
      exact ⟨by rw [← HA.out]; rfl, rfl⟩
end Go.Proofs.Ytjnglahjngiofaa
namespace Go.Proofs.Ytjnglahjngiofaa
open Go.RowKit
set_option maxRecDepth 100000

set_option maxHeartbeats 16000000 in
theorem rnext_any (a : Option Addr) (n cap : Nat) (m : Nat → Int) (hn : n ≤ 320) (h15 : ∀ i, i < n → 0 ≤ m i ∧ m i ≤ 15) (au : Option Addr) (capu : Nat) (F : Nat → Nat) (ab : Option Addr) (nb capb V : Nat) (hnb : nb ≤ 1000000) (hV : V < 2 ^ nb) (p : Nat) (hp : p ≤ 1000000) (w : World) (hr : IRow w a n m) (hu : URow w au n F) (hb : BRow w ab nb V) :
    Calls Try.prog 88 #[.slice a n cap, .slice au n capu, .slice ab nb capb, .int .i64 (p : Int)] w fun e w' =>
      ∃ sym err taken : Nat, e = .returned (.tuple #[.int .i64 (sym : Int), .int .i64 (taken : Int), .int .i64 (err : Int)]) ∧ NextOut F (lens m) (InAll (lens m) n) (V / 2 ^ p) nb p sym err taken ∧ w = w' := by
  have Hr := Lib.hid hr
  have Hu := Lib.hid hu
  have Hb := Lib.hid hb
  have HV := Lib.hid hV
  obtain ⟨L, HL⟩ : ∃ L, Hid (lens m = L) := ⟨_, Lib.hid (Eq.refl _)⟩
  rw [HL.out]
  have HmL : Hid (∀ j, j < n → m j = (L j : Int) ∧ L j ≤ 15) := fun j hj => by
    have := h15 j hj
    rw [← HL.out]
    unfold lens
    omega
  obtain ⟨X, HX⟩ : ∃ L, Hid (V / 2 ^ p = L) := ⟨_, Lib.hid (Eq.refl _)⟩
  rw [HX.out]
  clear hr hu hb hV h15
  go_enter Try.func88, Try.ntmps88
  go_wp2_with fail
  go_loopw [11] (fun n_ wr => ∃ d : Nat, d ≤ 15 ∧ n_ = .int .i64 ((d : Int) + 1) ∧ Hid (∀ m, 1 ≤ m → m < d + 1 → p + m ≤ nb ∧ ∃ σ, InAll L n σ ∧ Ext F L (rev X m) m σ ∧ m < L σ) ∧ Hid (w = wr)) (fun n_ _ => 17 - (intOf n_).toNat)
  case atStart => exact ⟨0, by omega, rfl, (fun m h1 h2 => by omega), rfl⟩
  case round =>
    obtain ⟨d, hd15, rfl, Hpre, HW⟩ := hrel
    have HRw : Hid (IRow wr a n m) := by show IRow _ _ _ _; rw [← HW.out]; exact Hr.out
    have HUw : Hid (URow wr au n F) := by show URow _ _ _ _; rw [← HW.out]; exact Hu.out
    have HBw : Hid (BRow wr ab nb V) := by show BRow _ _ _ _; rw [← HW.out]; exact Hb.out
    obtain ⟨D, HD⟩ : ∃ R, Hid (d + 1 = R) := ⟨_, Lib.hid (Eq.refl _)⟩
    have hD : (d : Int) + 1 = (D : Int) := by have := HD.out; omega
    have hD16 : D ≤ 16 := by have := HD.out; omega
    have hD1 : 1 ≤ D := by have := HD.out; omega
    rw [HD.out] at Hpre
    rw [hD]
    clear hD hd15
    by_cases hsh : nb < p + D
    · have d1 : decide ((nb : Int) < (p : Int) + (D : Int)) = true := by rw [decide_eq_true_eq]; omega
      go_wp2_with fail
      go_ret3
      exact ⟨0, 6, D, rfl, ⟨hD1, Hpre.out, .inl ⟨hsh, rfl, rfl⟩⟩, HW.out⟩
    · have d1 : decide ((nb : Int) < (p : Int) + (D : Int)) = false := by rw [decide_eq_false_iff_not]; omega
      have CN0 := number_any ab nb capb V (by omega) HV.out p D (by omega) (by omega) true wr HBw.out
      obtain ⟨f, Hf⟩ : ∃ R, Hid (rev X D = R) := ⟨_, Lib.hid (Eq.refl _)⟩
      have ef : numAt V p D true = f := by
        rw [numAt_true, rev_mod _ _ _ (Nat.le_refl _), HX.out]
        exact Hf.out
      rw [ef] at CN0
      have CN := Lib.hid CN0
      clear CN0 ef
      go_wp2_with fail
      refine CN.out.mono ?_
      rintro e w2 ⟨rfl, rfl⟩
      clear CN
      go_wp2_with fail
      go_loopw [13, 32] (fun b_ i_ wr => ∃ (j : Nat) (bg : Bool), j ≤ n ∧ i_ = .int .i64 (j : Int) ∧ b_ = .bool bg ∧ Hid (bg = true ↔ ∃ s, s < j ∧ Ext F L f D s ∧ D < L s) ∧ Hid (∀ s, s < j → L s = D → F s ≠ f) ∧ Hid (w = wr)) (fun _ i _ => n - (intOf i).toNat)
      case atStart => exact ⟨0, false, by omega, rfl, rfl, Lib.hid (show (false = true ↔ ∃ s, s < 0 ∧ Ext F L f D s ∧ D < L s) from ⟨fun h => (by cases h), fun ⟨s, h, _⟩ => (by omega)⟩), (fun s h => by omega), HW⟩
      case round =>
        clear HRw HUw HBw HW
        obtain ⟨j, bg, hj, rfl, rfl, Hbg, Hno, HW⟩ := hrel
        have HRw : Hid (IRow wr a n m) := by show IRow _ _ _ _; rw [← HW.out]; exact Hr.out
        have HUw : Hid (URow wr au n F) := by show URow _ _ _ _; rw [← HW.out]; exact Hu.out
        by_cases hlt : j < n
        · have d2 : decide ((j : Int) < (n : Int)) = true := by rw [decide_eq_true_eq]; omega
          have hlI : (j : Int) < (n : Int) := by omega
          obtain ⟨b1, o1, rfl, _, c0⟩ := HRw.out.get j hlt
          obtain ⟨b2, o2, rfl, _, c1⟩ := HUw.out.get j hlt
          obtain ⟨em, hl15⟩ := HmL.out j hlt
          obtain ⟨l, Hl⟩ : ∃ R, Hid (L j = R) := ⟨_, Lib.hid (Eq.refl _)⟩
          obtain ⟨c, Hc⟩ : ∃ R, Hid (F j = R) := ⟨_, Lib.hid (Eq.refl _)⟩
          rw [em, Hl.out] at c0
          rw [Hc.out] at c1
          rw [Hl.out] at hl15
          clear em
          by_cases hlD : l < D
          · have d3 : decide ((l : Int) < (D : Int)) = true := by rw [decide_eq_true_eq]; omega
            have Hbg2 : Hid (bg = true ↔ ∃ s, s < j + 1 ∧ Ext F L f D s ∧ D < L s) := by
              show _ ↔ _
              rw [Hbg.out]
              constructor
              · rintro ⟨s, h1, h2⟩; exact ⟨s, by omega, h2⟩
              · rintro ⟨s, h1, h2, h3⟩
                by_cases e : s = j
                · subst e; rw [Hl.out] at h3; omega
                · exact ⟨s, by omega, h2, h3⟩
            have Hno2 : Hid (∀ s, s < j + 1 → L s = D → F s ≠ f) := fun s h1 h2 => by
              by_cases e : s = j
              · subst e; rw [Hl.out] at h2; omega
              · exact Hno.out s (by omega) h2
            go_wp2_with fail
            go_roundw
            case rel => exact ⟨j + 1, bg, by omega, by go_num, rfl, Hbg2, Hno2, HW⟩
            case measure => simp [intOf]; omega
          · have d3 : decide ((l : Int) < (D : Int)) = false := by rw [decide_eq_false_iff_not]; omega
            obtain ⟨q, Hq⟩ : ∃ R, Hid (l - D = R) := ⟨_, Lib.hid (Eq.refl _)⟩
            have hq : (l : Int) - (D : Int) = (q : Int) := by have := Hq.out; omega
            have mq : min q 32 = q := by have := Hq.out; omega
            obtain ⟨y, Hy⟩ : ∃ R, Hid (c / 2 ^ q = R) := ⟨_, Lib.hid (Eq.refl _)⟩
            have hy : (c : Int) / 2 ^ q = (y : Int) := by rw [← Hy.out]; simp
            obtain ⟨E, HE⟩ : ∃ R, Hid (((y : Int) == (f : Int)) = R) := ⟨_, Lib.hid (Eq.refl _)⟩
            have hE := HE.out
            have hext : Ext F L f D j ↔ E = true := by
              unfold Ext
              rw [Hl.out, Hc.out, Hq.out, Hy.out, ← HE.out]
              simp
              omega
            have Hext := Lib.hid hext
            clear hext
            by_cases hle : l = D
            · subst hle
              have f1 : ((l : Int) == (l : Int)) = true := by simp
              obtain rfl : q = 0 := by have := Hq.out; omega
              by_cases hcf : c = f
              · subst hcf
                go_wp2_with fail
                go_ret3
                exact ⟨j, 0, l, rfl, ⟨hD1, Hpre.out, .inr (.inr ⟨by omega, ⟨hlt, by rw [Hl.out]; omega⟩, Hl.out, by rw [Hc.out]; exact Hf.out.symm, rfl⟩)⟩, HW.out⟩
              · have f2 : ((c : Int) == (f : Int)) = false := by simp; omega
                have hyc : y = c := by rw [← Hy.out]; simp
                subst hyc
                obtain rfl : E = false := by rw [← HE.out]; exact f2
                have Hbg2 : Hid (bg = true ↔ ∃ s, s < j + 1 ∧ Ext F L f l s ∧ l < L s) := by
                  show _ ↔ _
                  rw [Hbg.out]
                  constructor
                  · rintro ⟨s, h1, h2⟩; exact ⟨s, by omega, h2⟩
                  · rintro ⟨s, h1, h2, h3⟩
                    by_cases e : s = j
                    · subst e; rw [Hl.out] at h3; omega
                    · exact ⟨s, by omega, h2, h3⟩
                have Hno2 : Hid (∀ s, s < j + 1 → L s = l → F s ≠ f) := fun s h1 h2 => by
                  by_cases e : s = j
                  · subst e; rw [Hc.out]; exact hcf
                  · exact Hno.out s (by omega) h2
                cases bg with
                | true =>
                  go_wp2_with fail
                  go_roundw
                  case rel => exact ⟨j + 1, true, by omega, by go_num, rfl, Hbg2, Hno2, HW⟩
                  case measure => simp [intOf]; omega
                | false =>
                  go_wp2_with fail
                  go_roundw
                  case rel => exact ⟨j + 1, false, by omega, by go_num, rfl, Hbg2, Hno2, HW⟩
                  case measure => simp [intOf]; omega
            · have f1 : ((l : Int) == (D : Int)) = false := by simp; omega
              have Hbg2 : Hid ((bg || E) = true ↔ ∃ s, s < j + 1 ∧ Ext F L f D s ∧ D < L s) := by
                show _ ↔ _
                rw [Bool.or_eq_true, Hbg.out, ← Hext.out]
                constructor
                · rintro (⟨s, h1, h2⟩ | h)
                  · exact ⟨s, by omega, h2⟩
                  · exact ⟨j, by omega, h, by rw [Hl.out]; omega⟩
                · rintro ⟨s, h1, h2, h3⟩
                  by_cases e : s = j
                  · subst e; exact .inr h2
                  · exact .inl ⟨s, by omega, h2, h3⟩
              have Hno2 : Hid (∀ s, s < j + 1 → L s = D → F s ≠ f) := fun s h1 h2 => by
                by_cases e : s = j
                · subst e; rw [Hl.out] at h2; exact absurd h2 hle
                · exact Hno.out s (by omega) h2
              cases bg with
              | true =>
                go_wp2_with fail
                go_roundw
                case rel => exact ⟨j + 1, true, by omega, by go_num, rfl, Hbg2, Hno2, HW⟩
                case measure => simp [intOf]; omega
              | false =>
                go_wp2_with fail
                go_roundw
                case rel => exact ⟨j + 1, E, by omega, by go_num, rfl, Hbg2, Hno2, HW⟩
                case measure => simp [intOf]; omega
        · obtain rfl : j = n := by omega
          have d2 : decide ((j : Int) < (j : Int)) = false := by rw [decide_eq_false_iff_not]; omega
          cases bg with
          | true =>
            obtain ⟨s, h1, h2, h3⟩ := Hbg.out.1 rfl
            have h4 := (HmL.out s h1).2
            have Hpre2 : Hid (∀ m, 1 ≤ m → m < D + 1 → p + m ≤ nb ∧ ∃ σ, InAll L j σ ∧ Ext F L (rev X m) m σ ∧ m < L σ) := by
              intro m h5 h6
              by_cases e : m = D
              · subst e
                rw [Hf.out]
                exact ⟨by omega, s, ⟨h1, by omega⟩, h2, h3⟩
              · exact Hpre.out m h5 (by omega)
            have hDl : D ≤ 15 := by omega
            clear h1 h2 h3 h4
            go_wp2_with fail
            go_roundw
            case rel => exact ⟨D, hDl, rfl, Hpre2, HW⟩
            case measure => simp [intOf]; omega
          | false =>
            have Hnone : Hid (∀ s, InAll L j s → ¬ Ext F L (rev X D) D s) := by
              rintro s ⟨h1, h2⟩ h3
              rw [Hf.out] at h3
              by_cases e : D < L s
              · have := Hbg.out.2 ⟨s, h1, h3, e⟩
                cases this
              · have h4 := h3.1
                have h5 : L s = D := by omega
                refine Hno.out s h1 h5 ?_
                have h6 := h3.2
                rw [h5, Nat.sub_self, Nat.pow_zero, Nat.div_one] at h6
                exact h6
            go_wp2_with fail
            go_ret3
            exact ⟨0, 3, D, rfl, ⟨hD1, Hpre.out, .inr (.inl ⟨by omega, Hnone.out, rfl, rfl⟩)⟩, HW.out⟩
end Go.Proofs.Ytjnglahjngiofaa
namespace Go.Proofs.Ytjnglahjngiofaa
open Go.RowKit
set_option maxRecDepth 100000

def tcell (X k i : Nat) : Value := .bool (decide (i < k) && X.testBit i)
theorem made_bools3 (n : Nat) (hn : n ≤ 1000000) (I : Int) (hI : I = (n : Int)) (w : World) :
    (Instr.makeSlice 105 (.int .i64 I) (.int .i64 I)).run Try.prog w = .ok (.slice (some ⟨w.heap.size, 0, none⟩) n n) (w.alloc (.cells (fcells n fun _ => .bool false) 4)) :=
  run_make_f (t := 105) (e := 4) Try.underlying105 info_bool rfl n I hI (by omega) (by omega) w

/-- A bit of the text's number is one of its byte. -/
theorem num_bit (s : ByteArray) (k q m : Nat) (hq : k / 8 = q) (hm : k % 8 = m) (h : q < s.size) : (num s).testBit k = (s[q]).toNat.testBit m := by
  subst hq hm
  rw [← num_byte s (k / 8) h, pow256, show (256 : Nat) = 2 ^ 8 by decide, Nat.testBit_mod_two_pow, Nat.testBit_div_two_pow, decide_eq_true (show k % 8 < 8 by omega), Bool.true_and]
  congr 1
  omega

theorem band_bit : ∀ c : Nat, c < 256 → ∀ m : Nat, m < 8 → decide (0 < bits .and .u8 (c : Int) ((2 ^ m : Nat) : Int)) = c.testBit m := by decide +kernel

theorem row_any (s : ByteArray) (hs : s.size ≤ 100000) (w : World) :
    Calls Try.prog 53 #[.string s] w fun e w' => e = .returned (.slice (some ⟨w.heap.size, 0, none⟩) (8 * s.size) (8 * s.size)) ∧ BRow w' (some ⟨w.heap.size, 0, none⟩) (8 * s.size) (num s) ∧ Below w.heap.size w w' := by
  obtain ⟨N, HN⟩ : ∃ N, Hid (8 * s.size = N) := ⟨_, Lib.hid (Eq.refl _)⟩
  have eN : 8 * (s.size : Int) = (N : Int) := by have := HN.out; omega
  have hN : N ≤ 800000 := by have := HN.out; omega
  have hmk := made_bools3 N (by omega) (N : Int) rfl w
  obtain ⟨X, HX⟩ : ∃ X, Hid (num s = X) := ⟨_, Lib.hid (Eq.refl _)⟩
  obtain ⟨G, HG⟩ : ∃ P, Hid (w.heap.size = P) := ⟨_, Lib.hid (Eq.refl _)⟩
  have hB0 := Blk.new w 4 (fcells N fun _ => .bool false)
  have hb0 := (Below.refl w.heap.size w).alloc (Nat.le_refl _) (.cells (fcells N fun _ => .bool false) 4)
  rw [fcells_congr N (fun _ => Value.bool false) (tcell X 0) (fun i hi => by unfold tcell; simp), HG.out] at hB0
  rw [fcells_congr N (fun _ => Value.bool false) (tcell X 0) (fun i hi => by unfold tcell; simp)] at hb0 hmk
  have HB0 := Lib.hid hB0
  have Hb0 := Lib.hid hb0
  rw [HG.out] at hmk
  rw [HN.out, HX.out]
  clear hB0 hb0
  go_enter Try.func53, Try.ntmps53
  go_wp2_with fail
  obtain ⟨w1, HW1⟩ : ∃ W, Hid (w.alloc (.cells (fcells N (tcell X 0)) 4) = W) := ⟨_, Lib.hid (Eq.refl _)⟩
  rw [HW1.out] at HB0 Hb0 ⊢
  clear hmk HW1
  go_loopw [11] (fun i wr => ∃ k : Nat, k ≤ N ∧ i = .int .i64 (k : Int) ∧ Hid (Blk wr G 4 (fcells N (tcell X k))) ∧ Hid (Below w.heap.size w wr)) (fun i _ => N - (intOf i).toNat)
  case atStart => exact ⟨0, by omega, rfl, HB0, Hb0⟩
  case round =>
    clear HB0 Hb0
    obtain ⟨k, hk, rfl, HB, Hb⟩ := hrel
    by_cases hlt : k < N
    · have d1 : decide ((k : Int) < (N : Int)) = true := by rw [decide_eq_true_eq]; omega
      obtain ⟨q, Hq⟩ : ∃ q, Hid (k / 8 = q) := ⟨_, Lib.hid (Eq.refl _)⟩
      obtain ⟨m, Hm⟩ : ∃ q, Hid (k % 8 = q) := ⟨_, Lib.hid (Eq.refl _)⟩
      have hql : q < s.size := by have := HN.out; have := Hq.out; omega
      have hnb := num_bit s k q m Hq.out Hm.out hql
      rw [HX.out] at hnb
      obtain ⟨c, Hc⟩ : ∃ c, Hid ((s[q]).toNat = c) := ⟨_, Lib.hid (Eq.refl _)⟩
      have hcl : c < 256 := by rw [← Hc.out]; exact UInt8.toNat_lt _
      rw [Hc.out] at hnb
      have hm8 : m < 8 := by have := Hm.out; omega
      have e1 : (k : Int) / 8 = (q : Int) := by have := Hq.out; omega
      have e2 : (k : Int).tdiv 8 = (q : Int) := by rw [Int.tdiv_eq_ediv_of_nonneg (by omega)]; exact e1
      have e3 : (k : Int) % 8 = (m : Int) := by have := Hm.out; omega
      have e4 : (k : Int).tmod 8 = (m : Int) := by rw [Int.tmod_eq_emod_of_nonneg (by omega)]; exact e3
      have hix : ∀ W, (Instr.index 9 (.string s) (.int .i64 (q : Int))).run Try.prog W = .ok (.int .u8 (c : Int)) W := fun W => by
        have e : ((q : Int)).toNat = q := by omega
        rw [run_index_string W 9 s .i64 (q : Int) Try.underlying9, dif_pos ⟨by omega, by omega⟩]
        simp only [e, Hc.out]
      have hfz := HB.out.frozen k
      obtain ⟨B, HBt⟩ : ∃ B, Hid (X.testBit k = B) := ⟨_, Lib.hid (Eq.refl _)⟩
      obtain ⟨M, HM⟩ : ∃ M, Hid (2 ^ m = M) := ⟨_, Lib.hid (Eq.refl _)⟩
      have hM : (2 : Int) ^ m % 256 = (M : Int) := by
        have h1 : 2 ^ m ≤ 2 ^ 7 := Nat.pow_le_pow_right (by decide) (by omega)
        have h2 : (2 : Nat) ^ 7 = 128 := by decide
        have h3 : ((2 : Int) ^ m) = ((2 ^ m : Nat) : Int) := by simp
        rw [h3, HM.out]
        rw [HM.out] at h1
        omega
      have hD : decide (0 < bits .and .u8 (c : Int) (M : Int)) = B := by
        rw [← HM.out, band_bit c hcl m hm8, ← hnb, HBt.out]
      have hcell := HB.out.cell k
      rw [fcells_at _ _ _ hlt] at hcell
      have HB2 : Hid (∀ n, Blk ((wr.drewN n).setCell ⟨G, k, none⟩ (.bool B)) G 4 (fcells N (tcell X (k + 1)))) := by
        intro n
        have h := (HB.out.drewN n).set_ k (.bool B)
        rw [fcells_set] at h
        rw [fcells_congr N (tcell X (k + 1)) (fun i => if i = k then .bool B else tcell X k i)]
        · exact h
        · intro i hi
          unfold tcell
          by_cases e : i = k
          · subst e
            rw [if_pos rfl, HBt.out, decide_eq_true (by omega), Bool.true_and]
          · rw [if_neg e]
            by_cases e2 : i < k
            · rw [decide_eq_true e2, decide_eq_true (show i < k + 1 by omega)]
            · rw [decide_eq_false e2, decide_eq_false (show ¬ i < k + 1 by omega)]
      have Hb2 : Hid (∀ n, Below w.heap.size w ((wr.drewN n).setCell ⟨G, k, none⟩ (.bool B))) := fun n => (below_drewN Hb.out n).setCell (by rw [HG.out]; exact Nat.le_refl _) _
      clear hnb hcl
      go_wp2_with fail
      go_region
      all_goals
        go_wp2_with fail
        go_roundw
        case rel => exact ⟨k + 1, by omega, by go_num, HB2.out 1, Hb2.out 1⟩
        case measure => simp [intOf]; omega
    · obtain rfl : k = N := by omega
      have d1 : decide ((k : Int) < (k : Int)) = false := by rw [decide_eq_false_iff_not]; omega
      have hR : BRow wr (some ⟨G, 0, none⟩) k X := by
        refine .inr ⟨G, 0, rfl, HB.out.lt, fun i hi => ?_⟩
        rw [HB.out.cell (0 + i), Nat.zero_add, fcells_at _ _ _ hi]
        unfold tcell bval
        rw [decide_eq_true hi, Bool.true_and]
      have HR := Lib.hid hR
      clear hR
      go_wp2_with fail
      go_ret
      exact ⟨by rw [HG.out]; rfl, by rw [HG.out]; exact HR.out, Hb.out⟩
end Go.Proofs.Ytjnglahjngiofaa
namespace Go.Proofs.Ytjnglahjngiofaa
open Go.RowKit
set_option maxRecDepth 100000

/-- How far the document's reader is, as a value. -/
def SnC (a : Option Addr) (n cap p z most e : Nat) : Array Value := #[.slice a n cap, .int .i64 (p : Int), .int .i64 (z : Int), .int .i64 (most : Int), .int .i64 (e : Int)]
def SnV (a : Option Addr) (n cap p z most e : Nat) : Value := .agg (SnC a n cap p z most e)
theorem seen_one {fn : Func} {p : Tmp} (h : fn.results = #[.cell p 108]) {tmps : Array Value} {w : World} {g : Nat} {a : Option Addr} {n cap q z most e : Nat}
    (hp : tmps.getD p undef = .pointer (some ⟨g, 0, none⟩)) (hg : Blk w g 108 (SnC a n cap q z most e)) : (results fn tmps).run Try.prog w = .ok (SnV a n cap q z most e) w :=
  results_cell_row h tmps w g 108 _ (0, 0) _ hp hg Try.underlying108 rfl (by kernel_rfl)
theorem seen_two {fn : Func} {p u : Tmp} (h : fn.results = #[.cell p 108, .tmp u]) {tmps : Array Value} {w : World} {g : Nat} {a : Option Addr} {n cap q z most e : Nat}
    (hp : tmps.getD p undef = .pointer (some ⟨g, 0, none⟩)) (hg : Blk w g 108 (SnC a n cap q z most e)) : (results fn tmps).run Try.prog w = .ok (.tuple #[SnV a n cap q z most e, tmps.getD u undef]) w := by
  rw [results_cell_tmp h tmps Try.prog w, hp]
  have h1 : (asAddr (.pointer (some ⟨g, 0, none⟩))).run Try.prog w = .ok ⟨g, 0, none⟩ w := rfl
  rw [h1]
  show ((loadVar _ _).run _ _).andThen _ = _
  rw [run_loadVar_row w g 108 _ (SnC a n cap q z most e) (0, 0) _ hg Try.underlying108 rfl (by kernel_rfl)]
  rfl

theorem wrong_any (a : Option Addr) (n cap p z most e c : Nat) (is : Bool) (w : World) :
    Calls Try.prog 58 #[SnV a n cap p z most e, .bool is, .int .i64 (c : Int)] w fun r w' => r = .returned (SnV a n cap p z most (if is then firstE e c else e)) ∧ Below w.heap.size w w' := by
  have hb : ∀ (A B : Array Value), Below w.heap.size w ((w.alloc (.cells A 108)).alloc (.cells B 108)) := fun A B => ((Below.refl w.heap.size w).alloc (Nat.le_refl _) _).alloc (by simp) _
  have hB : ∀ (A B : Array Value), Blk ((w.alloc (.cells A 108)).alloc (.cells B 108)) (w.heap.size + 1) 108 B := fun A B => heap_alloc2_new w _ _
  have Hb := Lib.hid hb
  have HB := Lib.hid hB
  clear hb hB
  cases is with
  | false =>
    unfold SnV SnC
    go_enter Try.func58, Try.ntmps58
    go_wp2_with fail
    (try simp only [Exit.inBlock, Exit.then])
    refine bodyPost_ret (seen_one rfl rfl (HB.out _ _)) rfl ?_
    exact ⟨rfl, Hb.out _ _⟩
  | true =>
    by_cases he : e = 0
    · subst he
      unfold SnV SnC
      go_enter Try.func58, Try.ntmps58
      go_wp2_with fail
      (try simp only [Exit.inBlock, Exit.then])
      refine bodyPost_ret (seen_one rfl rfl (HB.out _ _)) rfl ?_
      exact ⟨rfl, Hb.out _ _⟩
    · have de : ((e : Int) == 0) = false := by simp; omega
      have he2 : (if true = true then firstE e c else e) = e := by rw [if_pos rfl]; unfold firstE; rw [if_neg he]
      rw [he2]
      clear he he2
      unfold SnV SnC
      go_enter Try.func58, Try.ntmps58
      go_wp2_with fail
      (try simp only [Exit.inBlock, Exit.then])
      refine bodyPost_ret (seen_one rfl rfl (HB.out _ _)) rfl ?_
      exact ⟨rfl, Hb.out _ _⟩

theorem LR.moved {β : Type} {s : ByteArray} {RES : Rs β} {p p' z z' e : Nat} {K K' : Sg → Rs β} (h : LR s RES p z e K) (he : e ≠ 0) : LR s RES p' z' e K' := by
  rcases h with ⟨h0, _⟩ | h
  · exact absurd h0 he
  · exact .inr h
/-- number. -/
theorem rnum_any (a : Option Addr) (cap : Nat) (s : ByteArray) (hs : s.size ≤ 100000) (p z most e k : Nat) (hk : k ≤ 16) (hp : p ≤ 1000000) {β : Type} (RES : Rs β) (f : Nat → Sg → Rs β) (hL : LR s RES p z e (fun σ => thenR (bitsM k σ) f))
    (w : World) (hb : BRow w a (8 * s.size) (num s)) :
    Calls Try.prog 54 #[SnV a (8 * s.size) cap p z most e, .int .i64 (k : Int)] w fun r w' => ∃ p' v e' : Nat, r = .returned (.tuple #[SnV a (8 * s.size) cap p' z most e', .int .i64 (v : Int)]) ∧ Hid (LR s RES p' z e' (f v)) ∧ v < 2 ^ k ∧ p ≤ p' ∧ p' ≤ p + k ∧ ((e' ≠ 0 → v = 0) ∧ (e' = 0 → e = 0)) ∧ Below w.heap.size w w' := by
  obtain ⟨N, HN⟩ : ∃ N, Hid (8 * s.size = N) := ⟨_, Lib.hid (Eq.refl _)⟩
  have hNl : N ≤ 800000 := by have := HN.out; omega
  have HV : Hid (num s < 2 ^ N) := by
    show _ < _
    rw [← HN.out]
    have := leN_lt s.data.toList
    rw [show s.data.toList.length = s.size by simp, pow256] at this
    exact this
  rw [HN.out] at hb ⊢
  have hbb : ∀ (A B : Array Value), Below w.heap.size w ((w.alloc (.cells A 108)).alloc (.cells B 108)) := fun A B => ((Below.refl w.heap.size w).alloc (Nat.le_refl _) _).alloc (by simp) _
  have hB : ∀ (A B : Array Value), Blk ((w.alloc (.cells A 108)).alloc (.cells B 108)) (w.heap.size + 1) 108 B := fun A B => heap_alloc2_new w _ _
  have Hb := Lib.hid hbb
  have HB := Lib.hid hB
  have HR := Lib.hid hb
  have HL := Lib.hid hL
  clear hbb hB hb hL
  by_cases he : e = 0
  · subst he
    by_cases hlt : N < p + k
    · have d1 : decide ((N : Int) < (p : Int) + (k : Int)) = true := by rw [decide_eq_true_eq]; omega
      have HL2 : Hid (LR s RES p z 6 (f 0)) := by
        have h := LR.bits HL.out
        have e1 : bitsE s p k 0 = 6 := by unfold bitsE; rw [HN.out, if_pos hlt]; rfl
        rw [e1] at h
        exact h.moved (by decide)
      clear hlt HL
      unfold SnV SnC
      go_enter Try.func54, Try.ntmps54
      go_wp2_with fail
      (try simp only [Exit.inBlock, Exit.then])
      refine bodyPost_ret (seen_two rfl rfl (HB.out _ _)) rfl ?_
      exact ⟨p, 0, 6, rfl, HL2, Nat.two_pow_pos k, Nat.le_refl _, by omega, ⟨fun _ => rfl, fun _ => by first | rfl | trivial⟩, Hb.out _ _⟩
    · have d1 : decide ((N : Int) < (p : Int) + (k : Int)) = false := by rw [decide_eq_false_iff_not]; omega
      have hNk : p + k ≤ N := by omega
      obtain ⟨v, Hv⟩ : ∃ v, Hid (bitsAt s p k = v) := ⟨_, Lib.hid (Eq.refl _)⟩
      have HL2 : Hid (LR s RES (p + k) z 0 (f v)) := by
        have h := LR.bits HL.out
        have e1 : bitsE s p k 0 = 0 := by unfold bitsE; rw [HN.out, if_neg hlt]
        rw [e1, Hv.out] at h
        exact h
      have hvl : v < 2 ^ k := by rw [← Hv.out]; exact Nat.mod_lt _ (Nat.two_pow_pos k)
      have hv2 : v < 65536 := Nat.lt_of_lt_of_le hvl (Nat.le_trans (Nat.pow_le_pow_right (by decide) hk) (by decide))
      have CN : Hid (∀ A B : Array Value, Calls Try.prog 75 #[.slice a N cap, .int .i64 (p : Int), .int .i64 (k : Int), .bool false] ((w.alloc (.cells A 108)).alloc (.cells B 108)) fun e w' => e = .returned (.int .u32 (v : Int)) ∧ ((w.alloc (.cells A 108)).alloc (.cells B 108)) = w') := by
        refine Lib.hid fun A B => ?_
        have := number_any a N cap (num s) (by omega) HV.out p k (by omega) (by omega) false _ (HR.out.below (Hb.out A B) (Nat.le_refl _))
        rw [numAt_false, show num s / 2 ^ p % 2 ^ k = v from Hv.out] at this
        exact this
      have hvw : IntKind.i64.wrap (v : Int) = (v : Int) := IntWalk.i64_in _ (by omega)
      clear hlt HL
      unfold SnV SnC
      go_enter Try.func54, Try.ntmps54
      go_wp2_with fail
      refine (CN.out _ _).mono ?_
      rintro r w1 ⟨rfl, rfl⟩
      go_wp2_with fail
      (try simp only [Exit.inBlock, Exit.then])
      refine bodyPost_ret (seen_two rfl rfl (HB.out _ _)) rfl ?_
      exact ⟨p + k, v, 0, rfl, HL2, hvl, by omega, Nat.le_refl _, ⟨fun h => absurd rfl h, fun _ => by first | rfl | trivial⟩, Hb.out _ _⟩
  · have de : ((e : Int) == 0) = false := by simp; omega
    have HL2 : Hid (LR s RES p z e (f 0)) := HL.out.moved he
    have he2 : e ≠ 0 := he
    clear HL he
    unfold SnV SnC
    go_enter Try.func54, Try.ntmps54
    go_wp2_with fail
    (try simp only [Exit.inBlock, Exit.then])
    refine bodyPost_ret (seen_two rfl rfl (HB.out _ _)) rfl ?_
    exact ⟨p, 0, e, rfl, HL2, Nat.two_pow_pos k, Nat.le_refl _, by omega, ⟨fun _ => rfl, fun h => h⟩, Hb.out _ _⟩

/-- symbol. -/
theorem rsym_any (al : Option Addr) (c capl : Nat) (m : Nat → Int) (hc : c ≤ 320) (h15 : ∀ i, i < c → 0 ≤ m i ∧ m i ≤ 15) (au : Option Addr) (capu : Nat)
    (a : Option Addr) (cap : Nat) (s : ByteArray) (hs : s.size ≤ 100000) (p z most e : Nat) (hp : p ≤ 900000) {β : Type} (RES : Rs β) (f : Nat → Sg → Rs β) (hL : LR s RES p z e (fun σ => thenR (symM (lens m) c σ) f))
    (w : World) (hb : BRow w a (8 * s.size) (num s)) (hl : IRow w al c m) (hu : URow w au c (bitsF (lens m) c)) :
    Calls Try.prog 78 #[SnV a (8 * s.size) cap p z most e, .slice al c capl, .slice au c capu] w fun r w' => ∃ p' v e' : Nat, r = .returned (.tuple #[SnV a (8 * s.size) cap p' z most e', .int .i64 (v : Int)]) ∧ Hid (LR s RES p' z e' (f v)) ∧ p ≤ p' ∧ (e' = 0 → p < p' ∧ p' ≤ 8 * s.size ∧ v < c) ∧ p' ≤ p + 20 ∧ (e' ≠ 0 → v = 0) ∧ Below w.heap.size w w' := by
  obtain ⟨N, HN⟩ : ∃ N, Hid (8 * s.size = N) := ⟨_, Lib.hid (Eq.refl _)⟩
  have hNl : N ≤ 800000 := by have := HN.out; omega
  have HV : Hid (num s < 2 ^ N) := by
    show _ < _
    rw [← HN.out]
    have := leN_lt s.data.toList
    rw [show s.data.toList.length = s.size by simp, pow256] at this
    exact this
  rw [HN.out] at hb ⊢
  have hbb : ∀ (A B : Array Value), Below w.heap.size w ((w.alloc (.cells A 108)).alloc (.cells B 108)) := fun A B => ((Below.refl w.heap.size w).alloc (Nat.le_refl _) _).alloc (by simp) _
  have hB : ∀ (A B : Array Value), Blk ((w.alloc (.cells A 108)).alloc (.cells B 108)) (w.heap.size + 1) 108 B := fun A B => heap_alloc2_new w _ _
  have Hb := Lib.hid hbb
  have HB := Lib.hid hB
  have HR := Lib.hid hb
  have HI := Lib.hid hl
  have HU := Lib.hid hu
  have HL := Lib.hid hL
  have H15 := Lib.hid h15
  clear hbb hB hb hL hl hu h15
  by_cases he : e = 0
  · subst he
    have CN : Hid (∀ A B : Array Value, Calls Try.prog 88 #[.slice al c capl, .slice au c capu, .slice a N cap, .int .i64 (p : Int)] ((w.alloc (.cells A 108)).alloc (.cells B 108)) fun r w' =>
        ∃ v t e', r = .returned (.tuple #[.int .i64 ((v : Nat) : Int), .int .i64 ((t : Nat) : Int), .int .i64 ((e' : Nat) : Int)]) ∧ Hid (LR s RES (p + t) z e' (f v)) ∧ (e' = 0 → p < p + t ∧ p + t ≤ N ∧ v < c) ∧ t ≤ 16 ∧ (e' ≠ 0 → v = 0) ∧ ((w.alloc (.cells A 108)).alloc (.cells B 108)) = w') := by
      refine Lib.hid fun A B => ?_
      have hur : URow ((w.alloc (.cells A 108)).alloc (.cells B 108)) au c (bitsF (lens m) c) := by
        rcases HU.out with h | ⟨b, off, rfl, h2, h3⟩
        · exact .inl h
        · exact .inr ⟨b, off, rfl, Nat.lt_of_lt_of_le h2 (Hb.out A B).size, fun i hi => ((Hb.out A B).cell (p := ⟨b, off + i, none⟩) h2).trans (h3 i hi)⟩
      refine (rnext_any al c capl m hc H15.out au capu (bitsF (lens m) c) a N cap (num s) (by omega) HV.out p (by omega) _ (HI.out.below (Hb.out A B)) hur (HR.out.below (Hb.out A B) (Nat.le_refl _))).mono ?_
      rintro r w1 ⟨sym, err, t, rfl, hn, rfl⟩
      have hL15 : ∀ i, i < c → lens m i ≤ 15 := fun i hi => by have := (H15.out i hi).2; unfold lens; omega
      have ht : t ≤ 16 := by
        obtain ⟨h1, h2, _⟩ := hn
        by_cases h : t ≤ 1
        · omega
        · obtain ⟨_, q, h3, _, h4⟩ := h2 (t - 1) (by omega) (by omega)
          have := hL15 q h3.1
          omega
      have hnp : p ≤ N ∧ thenR (symM (lens m) c (sg s p z)) f = RES := by
        have h := HL.out.ok
        rw [HN.out] at h
        exact h
      have hr := hn.rest hnp.1
      have hsg : sg s p z = ⟨num s / 2 ^ p, N - p, z⟩ := by unfold sg; rw [HN.out]
      refine ⟨sym, t, err, rfl, ?_, ?_, ht, ?_, rfl⟩
      · show LR _ _ _ _ _ _
        by_cases h0 : err = 0
        · subst h0
          have hok := symM_ok hL15 (σ := sg s p z) (by rw [hsg]; exact hr)
          have hle : p + t ≤ N := by
            obtain ⟨_, _, ⟨_, h, _⟩ | ⟨_, _, h, _⟩ | ⟨h, _⟩⟩ := hn
            · cases h
            · cases h
            · exact h
          refine .inl ⟨rfl, by rw [HN.out]; exact hle, ?_⟩
          have h2 := hnp.2
          rw [hok, thenR_ok] at h2
          rw [← h2]
          congr 1
          unfold sg
          rw [Nat.div_div_eq_div_mul, ← Nat.pow_add, HN.out]
          show (⟨_, N - (p + t), z⟩ : Sg) = ⟨_, N - p - t, z⟩
          rw [Nat.sub_sub]
        · have herr := symM_error hL15 (σ := sg s p z) h0 (by rw [hsg]; exact hr)
          refine .inr ⟨h0, ?_⟩
          rw [← hnp.2, herr]
          rfl
      · intro h0
        subst h0
        have hn1 := hn.1
        obtain ⟨_, _, ⟨_, h, _⟩ | ⟨_, _, h, _⟩ | ⟨h, h2, _⟩⟩ := hn
        · cases h
        · cases h
        · exact ⟨by have := hn1; omega, h, h2.1⟩
      · intro h0
        obtain ⟨_, _, ⟨_, _, h⟩ | ⟨_, _, _, h⟩ | ⟨_, _, _, _, h⟩⟩ := hn
        · exact h
        · exact h
        · exact absurd h h0
    clear HL
    unfold SnV SnC
    go_enter Try.func78, Try.ntmps78
    go_wp2_with fail
    refine (CN.out _ _).mono ?_
    rintro r w1 ⟨v, t, e', rfl, HL2, hz, ht, hv, rfl⟩
    have Hz := Lib.hid hz
    have Hv := Lib.hid hv
    clear hz hv CN
    go_wp2_with fail
    (try simp only [Exit.inBlock, Exit.then])
    refine bodyPost_ret (seen_two rfl rfl (HB.out _ _)) rfl ?_
    exact ⟨p + t, v, e', rfl, HL2, by omega, Hz.out, by omega, Hv.out, Hb.out _ _⟩
  · have de : ((e : Int) == 0) = false := by simp; omega
    have HL2 : Hid (LR s RES p z e (f 0)) := HL.out.moved he
    have he2 : e ≠ 0 := he
    clear HL he
    unfold SnV SnC
    go_enter Try.func78, Try.ntmps78
    go_wp2_with fail
    (try simp only [Exit.inBlock, Exit.then])
    refine bodyPost_ret (seen_two rfl rfl (HB.out _ _)) rfl ?_
    exact ⟨p, 0, e, rfl, HL2, Nat.le_refl _, fun h => absurd h he2, by omega, fun _ => rfl, Hb.out _ _⟩
end Go.Proofs.Ytjnglahjngiofaa
namespace Go.Proofs.Ytjnglahjngiofaa
open Go.RowKit
set_option maxRecDepth 100000

theorem rev_test (x n j : Nat) (h : j < n) : (rev x n).testBit j = x.testBit (n - 1 - j) := by
  induction n generalizing j with
  | zero => omega
  | succ n ih =>
    have e : rev x (n + 1) = 2 ^ 1 * rev x n + x / 2 ^ n % 2 := by simp [rev]
    rw [e, Nat.testBit_two_pow_mul_add _ (Nat.mod_lt _ (by decide))]
    by_cases h0 : j = 0
    · subst h0
      rw [if_pos (by decide), Nat.testBit_eq_decide_div_mod_eq, Nat.testBit_eq_decide_div_mod_eq]
      simp
    · rw [if_neg (by omega), ih (j - 1) (by omega)]
      congr 1
      omega
/-- What is put. -/
def pc (x k : Nat) : Bool → Nat
  | false => x % 2 ^ k
  | true => rev x k
theorem pc_lt (x k : Nat) (b : Bool) : pc x k b < 2 ^ k := by
  cases b with
  | false => exact Nat.mod_lt _ (pow_pos2 k)
  | true => exact rev_lt x k
theorem pc_test (x k j : Nat) (b : Bool) (h : j < k) : (pc x k b).testBit j = x.testBit (if b then k - 1 - j else j) := by
  cases b with
  | false =>
    show (x % 2 ^ k).testBit j = _
    rw [Nat.testBit_mod_two_pow, decide_eq_true h, Bool.true_and]
    rfl
  | true => exact rev_test x k j h
theorem joined_low (V z c i : Nat) (hV : V < 2 ^ c) (h : i < c) : V.testBit i = (V + z * 2 ^ c).testBit i := by
  rw [Nat.add_comm, Nat.mul_comm, Nat.testBit_two_pow_mul_add _ hV, if_pos h]
theorem joined_high (V z c j : Nat) (hV : V < 2 ^ c) : (V + z * 2 ^ c).testBit (c + j) = z.testBit j := by
  rw [Nat.add_comm, Nat.mul_comm, Nat.testBit_two_pow_mul_add _ hV, if_neg (by omega), Nat.add_sub_cancel_left]
theorem test_out (V c i : Nat) (hV : V < 2 ^ c) (h : c ≤ i) : V.testBit i = false :=
  Nat.testBit_lt_two_pow (Nat.lt_of_lt_of_le hV (Nat.pow_le_pow_right (by decide) h))
theorem OwnV.lt {w : World} {base n V : Nat} {v : Value} (h : OwnV w base n V v) : ∃ g cap, v = .slice (some ⟨g, 0, none⟩) n cap ∧ base ≤ g ∧ g < w.heap.size ∧ BRow w (some ⟨g, 0, none⟩) n V := by
  obtain ⟨g, cap, rfl, h1⟩ := h
  have := World.ownsRow.lt h1 g (by simp [Value.ownBlock])
  exact ⟨g, cap, rfl, this.1, this.2, OwnV.row h1⟩

theorem own_v_of {w : World} {base c U : Nat} {v : Value} (h : w.ownsRow base 4 1 v c (bvals c U)) (hne : v ≠ .slice none 0 0) : OwnV w base c U v := by
  rcases h.2 with ⟨rfl, _⟩ | ⟨g, cap, cur, rfl, _⟩
  · exact absurd rfl hne
  · exact ⟨g, cap, rfl, h⟩

set_option maxHeartbeats 4000000 in
theorem pieces_any (a : Option Addr) (cap c V : Nat) (hc : c ≤ 100000) (hV : V < 2 ^ c) (x k : Nat) (hx : x < 4294967296) (hk : k ≤ 32) (b : Bool) (w : World) (hr : BRow w a c V) (hnil : a = none → c = 0 ∧ cap = 0) :
    Calls Try.prog 63 #[.slice a c cap, .int .u32 (x : Int), .int .i64 (k : Int), .bool b] w fun e w' => ∃ v, e = .returned v ∧ OwnV w' w.heap.size (c + k) (V + pc x k b * 2 ^ c) v ∧ Below w.heap.size w w' := by
  obtain ⟨U, HU⟩ : ∃ U, Hid (V + pc x k b * 2 ^ c = U) := ⟨_, Lib.hid (Eq.refl _)⟩
  have HV := Lib.hid hV
  have hb0 := (Below.refl w.heap.size w).alloc (Nat.le_refl _) (.cells #[] 4)
  have ho0 := World.ownsRow_made (base := w.heap.size) (e := 4) (size := 1) w #[] 0 (Nat.le_refl _) (Nat.zero_le _) rfl
  have hrr : BRow (w.alloc (.cells #[] 4)) a c U := (hr.below hb0 (Nat.le_refl _)).congr (fun i hi => by rw [← HU.out]; exact joined_low V _ c i hV hi)
  have hbs := hb0.size
  rw [HU.out]
  clear hV hr
  go_enter Try.func63, Try.ntmps63
  go_wp2_with (first
    | (at_builtin; go_must (refine wpList_append_brow rfl (.tmp 12) (.tmp 13) rfl w.heap.size _ 0 U ho0 rfl a c cap U rfl hrr hnil ?_ hbs ?_; omega; intro v' w1 hown1 hg1 hne))
    | fail)
  have hown2 : w1.ownsRow w.heap.size 4 1 v' c (bvals c U) := by simpa [bvals] using hown1
  have HO1 := Lib.hid (own_v_of hown2 (hne.resolve_left (by simp)))
  have HB1 := Lib.hid (hb0.trans (below_grown ho0 hg1 hbs))
  clear hown1 hown2 hne hg1 hb0 ho0 hrr hbs hnil
  go_loopw [9, 10] (fun vo i wr => ∃ j : Nat, j ≤ k ∧ i = .int .i64 (j : Int) ∧ Hid (OwnV wr w.heap.size (c + j) U vo) ∧ Hid (Below w.heap.size w wr)) (fun _ i _ => k - (intOf i).toNat)
  case atStart => exact ⟨0, by omega, rfl, HO1, HB1⟩
  case round =>
    clear HO1 HB1
    obtain ⟨j, hj, rfl, HO, HB⟩ := hrel
    by_cases hlt : j < k
    · have d1 : decide ((j : Int) < (k : Int)) = true := by rw [decide_eq_true_eq]; omega
      obtain ⟨t, Ht⟩ : ∃ t, Hid ((if b then k - 1 - j else j) = t) := ⟨_, Lib.hid (Eq.refl _)⟩
      have htl : t ≤ 31 := by have := Ht.out; split at this <;> omega
      obtain ⟨z, Hz⟩ : ∃ u, Hid (x / 2 ^ t % 2 = u) := ⟨_, Lib.hid (Eq.refl _)⟩
      obtain ⟨y, Hy⟩ : ∃ z, Hid (x / 2 ^ t = z) := ⟨_, Lib.hid (Eq.refl _)⟩
      have hy : (x : Int) / 2 ^ t = (y : Int) := by rw [← Hy.out]; simp
      rw [Hy.out] at Hz
      have hyl : y < 4294967296 := by rw [← Hy.out]; exact Nat.lt_of_le_of_lt (Nat.div_le_self _ _) hx
      have hz1 : (y : Int) % 2 = (z : Int) := by have := Hz.out; omega
      have hz2 : (y : Int).tmod 2 = (z : Int) := by rw [Int.tmod_eq_emod_of_nonneg (by omega)]; exact hz1
      obtain ⟨B, HBt⟩ : ∃ B, Hid (((z : Int) == 1) = B) := ⟨_, Lib.hid (Eq.refl _)⟩
      have hB := HBt.out
      have htest : Hid (U.testBit (c + j) = B) := by
        show _ = _
        rw [← HU.out, joined_high _ _ _ _ HV.out, pc_test x k j b hlt, Ht.out, ← HBt.out, Nat.testBit_eq_decide_div_mod_eq, Hy.out, Hz.out]
        by_cases e : z = 1
        · subst e; rfl
        · rw [decide_eq_false e]
          symm
          simp
          omega
      have hos := HO.out
      have hbsw : w.heap.size ≤ wr.heap.size := HB.out.size
      cases b with
      | false =>
        obtain rfl : j = t := by have := Ht.out; simpa using this
        clear Ht HBt
        go_wp2_with (first
          | (at_builtin; go_must (refine wpList_append_bool wr rfl (.tmp 26) (.tmp 32) rfl w.heap.size _ (c + j) U B hos htest.out rfl rfl rfl ?_ hbsw ?_; omega; intro v2 w2 hown2 hb2))
          | fail)
        have HO2 := Lib.hid hown2
        have HB2 := Lib.hid (HB.out.trans hb2)
        clear hos hown2 hb2 HO HB
        go_wp2_with fail
        go_roundw
        case rel => exact ⟨j + 1, by omega, by go_num, HO2, HB2⟩
        case measure => simp [intOf]; omega
      | true =>
        have et : (k : Int) - 1 - (j : Int) = (t : Int) := by have := Ht.out; simp at this; omega
        clear Ht HBt
        go_wp2_with (first
          | (at_builtin; go_must (refine wpList_append_bool wr rfl (.tmp 26) (.tmp 32) rfl w.heap.size _ (c + j) U B hos htest.out rfl rfl rfl ?_ hbsw ?_; omega; intro v2 w2 hown2 hb2))
          | fail)
        have HO2 := Lib.hid hown2
        have HB2 := Lib.hid (HB.out.trans hb2)
        clear hos hown2 hb2 HO HB
        go_wp2_with fail
        go_roundw
        case rel => exact ⟨j + 1, by omega, by go_num, HO2, HB2⟩
        case measure => simp [intOf]; omega
    · obtain rfl : j = k := by omega
      have d1 : decide ((j : Int) < (j : Int)) = false := by rw [decide_eq_false_iff_not]; omega
      go_wp2_with fail
      go_ret
      exact ⟨_, rfl, HO.out, HB.out⟩
end Go.Proofs.Ytjnglahjngiofaa
namespace Go.Proofs.Ytjnglahjngiofaa
open Go.RowKit
set_option maxRecDepth 100000

set_option maxHeartbeats 4000000 in
theorem whole_any (a : Option Addr) (cap c V : Nat) (hc : c ≤ 100000) (hV : V < 2 ^ c) (w : World) (hr : BRow w a c V) (hnil : a = none → c = 0 ∧ cap = 0) :
    Calls Try.prog 62 #[.slice a c cap] w fun e w' => ∃ v, e = .returned v ∧ OwnV w' w.heap.size ((c + 7) / 8 * 8) V v ∧ Below w.heap.size w w' := by
  have HV := Lib.hid hV
  have hb0 := (Below.refl w.heap.size w).alloc (Nat.le_refl _) (.cells #[] 4)
  have ho0 := World.ownsRow_made (base := w.heap.size) (e := 4) (size := 1) w #[] 0 (Nat.le_refl _) (Nat.zero_le _) rfl
  have hrr : BRow (w.alloc (.cells #[] 4)) a c V := hr.below hb0 (Nat.le_refl _)
  have hbs := hb0.size
  obtain ⟨d, Hd⟩ : ∃ d, Hid ((c + 7) / 8 * 8 = d) := ⟨_, Lib.hid (Eq.refl _)⟩
  rw [Hd.out]
  clear hV hr
  go_enter Try.func62, Try.ntmps62
  go_wp2_with (first
    | (at_builtin; go_must (refine wpList_append_brow rfl (.tmp 4) (.tmp 5) rfl w.heap.size _ 0 V ho0 rfl a c cap V rfl hrr hnil ?_ hbs ?_; omega; intro v' w1 hown1 hg1 hne))
    | fail)
  have hown2 : w1.ownsRow w.heap.size 4 1 v' c (bvals c V) := by simpa [bvals] using hown1
  have HO1 := Lib.hid (own_v_of hown2 (hne.resolve_left (by simp)))
  have HB1 := Lib.hid (hb0.trans (below_grown ho0 hg1 hbs))
  clear hown1 hown2 hne hg1 hb0 ho0 hrr hbs hnil
  go_loopw [3] (fun vo wr => ∃ m cap g : Nat, c ≤ m ∧ m ≤ d ∧ vo = .slice (some ⟨g, 0, none⟩) m cap ∧ Hid (OwnV wr w.heap.size m V vo) ∧ Hid (Below w.heap.size w wr)) (fun vo _ => 100008 - (match vo with | .slice _ m _ => m | _ => 0))
  case atStart =>
    obtain ⟨g, cap1, e, _⟩ := HO1.out
    exact ⟨c, cap1, g, Nat.le_refl _, by have := Hd.out; omega, e, HO1, HB1⟩
  case round =>
    clear HO1 HB1
    obtain ⟨m, cap1, g, hcm, hmd, rfl, HO, HB⟩ := hrel
    have hdl : d ≤ 100007 := by have := Hd.out; omega
    obtain ⟨z, Hz⟩ : ∃ u, Hid (m % 8 = u) := ⟨_, Lib.hid (Eq.refl _)⟩
    have hz1 : (m : Int) % 8 = (z : Int) := by have := Hz.out; omega
    have hz2 : (m : Int).tmod 8 = (z : Int) := by rw [Int.tmod_eq_emod_of_nonneg (by omega)]; exact hz1
    by_cases h0 : 0 < z
    · have d1 : decide (0 < (z : Int)) = true := by rw [decide_eq_true_eq]; omega
      have hmd2 : m + 1 ≤ d := by have := Hd.out; have := Hz.out; omega
      have htest : Hid (V.testBit m = false) := test_out V c m HV.out hcm
      have hos := HO.out
      have hbsw : w.heap.size ≤ wr.heap.size := HB.out.size
      go_wp2_with (first
        | (at_builtin; go_must (refine wpList_append_bool wr rfl (.tmp 11) (.tmp 12) rfl w.heap.size _ m V false hos htest.out rfl rfl rfl ?_ hbsw ?_; omega; intro v2 w2 hown2 hb2))
        | fail)
      obtain ⟨g2, cap2, rfl, _⟩ := hown2
      rename_i hown3
      have HO2 : Hid (OwnV w2 w.heap.size (m + 1) V (.slice (some ⟨g2, 0, none⟩) (m + 1) cap2)) := ⟨g2, cap2, rfl, hown3⟩
      have HB2 := Lib.hid (HB.out.trans hb2)
      clear hos hown3 hb2 HO HB
      go_wp2_with fail
      go_roundw
      case rel => exact ⟨m + 1, cap2, g2, by omega, hmd2, rfl, HO2, HB2⟩
      case measure => simp; omega
    · obtain rfl : z = 0 := by omega
      have hm : m = d := by have := Hd.out; have := Hz.out; omega
      subst hm
      go_wp2_with fail
      go_ret
      exact ⟨_, rfl, HO.out, HB.out⟩

theorem byte_cat (V j Y : Nat) (hY : V / 2 ^ (8 * j) % 2 ^ 8 = Y) : (⟨(bytesN V j).toArray⟩ : ByteArray) ++ ⟨#[UInt8.ofNat Y]⟩ = ⟨(bytesN V (j + 1)).toArray⟩ := by
  rw [show (⟨#[UInt8.ofNat Y]⟩ : ByteArray) = ⟨([UInt8.ofNat Y]).toArray⟩ from rfl, mk_cat, bytesN_succ, pow256, ← hY]

set_option maxHeartbeats 4000000 in
theorem rtext_any (a : Option Addr) (cap c V : Nat) (hc : c ≤ 100000) (hV : V < 2 ^ c) (w : World) (hr : BRow w a c V) (hnil : a = none → c = 0 ∧ cap = 0) :
    Calls Try.prog 64 #[.slice a c cap] w fun e w' => e = .returned (.string ⟨(bytesN V ((c + 7) / 8)).toArray⟩) ∧ Below w.heap.size w w' := by
  have CW := Lib.hid (whole_any a cap c V hc hV w hr hnil)
  obtain ⟨q, Hq⟩ : ∃ d, Hid ((c + 7) / 8 = d) := ⟨_, Lib.hid (Eq.refl _)⟩
  have HV : Hid (V < 2 ^ (8 * q)) := Nat.lt_of_lt_of_le hV (Nat.pow_le_pow_right (by decide) (by have := Hq.out; omega))
  have hql : q ≤ 12501 := by have := Hq.out; omega
  rw [Hq.out] at CW ⊢
  rw [Nat.mul_comm q 8] at CW
  clear hV hr hc hnil
  go_enter Try.func64, Try.ntmps64
  go_wp2_with fail
  refine CW.out.mono ?_
  rintro e w1 ⟨v, rfl, hO1, hB1⟩
  obtain ⟨g, cap1, rfl, _, hgl, hrow⟩ := hO1.lt
  have HR1 := Lib.hid hrow
  have HB1 := Lib.hid hB1
  obtain ⟨n, Hn⟩ : ∃ d, Hid (8 * q = d) := ⟨_, Lib.hid (Eq.refl _)⟩
  have hnl : n ≤ 100008 := by have := Hn.out; omega
  rw [Hn.out] at HR1 HV ⊢
  clear hO1 hB1 hrow CW
  go_wp2_with fail
  go_loopw [3, 5] (fun t_ i_ wr => ∃ j i : Nat, ∃ t : ByteArray, j ≤ q ∧ Hid (i = 8 * j) ∧ i_ = .int .i64 (i : Int) ∧ t_ = .string t ∧ Hid (t.size = j) ∧ Hid (t = ⟨(bytesN V j).toArray⟩) ∧ Hid (BRow wr (some ⟨g, 0, none⟩) n V) ∧ Hid (Below w.heap.size w wr)) (fun _ i _ => n - (intOf i).toNat)
  case atStart => exact ⟨0, 0, _, by omega, rfl, rfl, rfl, rfl, rfl, HR1, HB1⟩
  case round =>
    clear HR1 HB1
    obtain ⟨j, i, t, hj, Hi, rfl, rfl, Hts, HT, HR, HB⟩ := hrel
    by_cases hlt : i < n
    · have d1 : decide ((i : Int) < (n : Int)) = true := by rw [decide_eq_true_eq]; omega
      have hjq : j + 1 ≤ q := by have := Hn.out; have := Hi.out; omega
      have CN := Lib.hid (number_any (some ⟨g, 0, none⟩) n cap1 V (by omega) HV.out i 8 (by omega) (by decide) false wr HR.out)
      obtain ⟨Y, HY⟩ : ∃ d, Hid (numAt V i 8 false = d) := ⟨_, Lib.hid (Eq.refl _)⟩
      have hYl : Y < 256 := by rw [← HY.out, numAt_false]; exact Nat.mod_lt _ (by decide)
      rw [HY.out] at CN
      have hw8 : IntKind.u8.wrap (Y : Int) = (Y : Int) := by rw [IntKind.wrap_u8]; omega
      have hs1 := run_string_one wr (Y : Int)
      rw [Int.toNat_natCast] at hs1
      have HT2 : Hid (t ++ ⟨#[UInt8.ofNat Y]⟩ = ⟨(bytesN V (j + 1)).toArray⟩) := by
        show _ = _
        rw [HT.out]
        exact byte_cat V j Y (by rw [← HY.out, numAt_false, Hi.out])
      have hbb := (Below.refl wr.heap.size wr).alloc (Nat.le_refl _) (.cells #[.int .u8 (Y : Int)] 5)
      have HR2 := Lib.hid (HR.out.below hbb (Nat.le_refl _))
      have HB2 := Lib.hid (HB.out.trans (hbb.mono HB.out.size))
      have hov : ¬ 9223372036854775807 < t.size + 1 := by have := Hts.out; omega
      have hts2 : Hid ((t ++ (⟨#[UInt8.ofNat Y]⟩ : ByteArray)).size = j + 1) := by
        show _ = _
        rw [ByteArray.size_append, Hts.out]; rfl
      obtain ⟨t2, Ht2⟩ : ∃ d, Hid (t ++ (⟨#[UInt8.ofNat Y]⟩ : ByteArray) = d) := ⟨_, Lib.hid (Eq.refl _)⟩
      rw [Ht2.out] at HT2 hts2
      have ht2 := Ht2.out
      clear hbb HR HB
      go_wp2_with fail
      refine CN.out.mono ?_
      rintro e w2 ⟨rfl, rfl⟩
      clear CN
      go_wp2_with fail
      go_roundw
      case rel => exact ⟨j + 1, i + 8, t2, hjq, (by show _ = _; have := Hi.out; omega), by go_num, by rw [← ht2], hts2, HT2, HR2, HB2⟩
      case measure => simp [intOf]; omega
    · have hjq : j = q := by have := Hn.out; have := Hi.out; omega
      subst hjq
      clear Hi
      have d1 : decide ((i : Int) < (n : Int)) = false := by rw [decide_eq_false_iff_not]; omega
      go_wp2_with fail
      go_ret
      exact ⟨by rw [← HT.out]; rfl, HB.out⟩
end Go.Proofs.Ytjnglahjngiofaa
namespace Go.Proofs.Ytjnglahjngiofaa
open Go.RowKit
set_option maxRecDepth 100000

theorem ownsRow_blk {w : World} {base e size g n cap : Nat} {cur : Array Value} {xs : List Value} (h : Blk w g e cur) (hb : base ≤ g) (hn : n ≤ cap) (hm : cap ≤ maxLen) (hs : cur.size = cap * size) (hx : cur.toList.take (n * size) = xs) : w.ownsRow base e size (.slice (some ⟨g, 0, none⟩) n cap) n xs := by
  refine ⟨?_, .inr ⟨g, cap, cur, rfl, hb, h, hn, hm, hs, hx⟩⟩
  rw [← hx, List.length_take]
  have h1 : cur.toList.length = cap * size := by rw [Array.length_toList, hs]
  have h2 := Nat.mul_le_mul_right size hn
  omega
theorem irow_own {w : World} {base n : Nat} {m : Nat → Int} {v : Value} (h : w.ownsRow base 3 1 v n (icells n m)) : ∃ a cap, v = .slice a n cap ∧ IRow w a n m ∧ ∀ b off sp, a = some ⟨b, off, sp⟩ → base ≤ b ∧ b < w.heap.size := by
  have hlt := World.ownsRow.lt h
  have h' := h
  rcases h.2 with ⟨rfl, h0⟩ | ⟨g, cap, cur, rfl, _⟩
  · exact ⟨none, 0, by rw [h0], .inl h0, fun b off sp e => by cases e⟩
  · refine ⟨some ⟨g, 0, none⟩, cap, rfl, IRow.ofOwn h', fun b off sp e => ?_⟩
    injection e with e
    injection e with e1
    rw [← e1]
    exact hlt g rfl

def lenV : Value → Nat
  | .slice _ n _ => n
  | _ => 0
theorem IRow.grown {w w' : World} {a : Option Addr} {n : Nat} {m : Nat → Int} {row : Option Nat} (h : IRow w a n m) (hg : w.grownBy w' row) (hn : ∀ b off sp, a = some ⟨b, off, sp⟩ → some b ≠ row) : IRow w' a n m := by
  rcases h with h | ⟨b, off, rfl, h2, h3⟩
  · exact .inl h
  · have hb := hg.block b h2 (hn b off none rfl)
    exact .inr ⟨b, off, rfl, Nat.lt_of_lt_of_le h2 hg.size, fun i hi => (World.cell?_of_block hb).trans (h3 i hi)⟩

set_option maxHeartbeats 8000000 in
theorem rfixed_any (w : World) : Calls Try.prog 32 #[] w fun e w' => ∃ a1 c1 a2 c2, e = .returned (.tuple #[.slice a1 288 c1, .slice a2 32 c2]) ∧ IRow w' a1 288 fixL ∧ IRow w' a2 32 (fun _ => 5) ∧ Below w.heap.size w w' := by
  have hr0 := World.ownsRow_made (base := w.heap.size) (e := 3) (size := 1) w #[] 0 (Nat.le_refl _) (Nat.zero_le _) rfl
  have hb0 := ((Below.refl w.heap.size w).alloc (Nat.le_refl _) (.cells #[] 3)).alloc (by simp) (.cells #[] 3)
  have hd0 := Blk.new (w.alloc (.cells #[] 3)) 3 #[]
  have hg0 : (w.alloc (.cells #[] 3)).grownBy ((w.alloc (.cells #[] 3)).alloc (.cells #[] 3)) none := World.grownBy_alloc _ _ none
  have HO0 : Hid (((w.alloc (.cells #[] 3)).alloc (.cells #[] 3)).ownsRow w.heap.size 3 1 (.slice (some ⟨w.heap.size, 0, none⟩) 0 0) 0 (icells 0 fixL)) :=
    ownsRow_blk (cur := #[]) ((Blk.new w 3 #[]).alloc _) (Nat.le_refl _) (Nat.le_refl _) (Nat.zero_le _) rfl rfl
  have HB0 := Lib.hid hb0
  have HD0 := Lib.hid hd0
  have hgs : (w.alloc (.cells #[] 3)).heap.size = w.heap.size + 1 := by simp
  rw [hgs] at HD0
  have HN0 : Hid ((Value.slice (some ⟨w.heap.size, 0, none⟩) 0 0).ownBlock ≠ some (w.heap.size + 1)) := fun e => by
    injection e with e
    exact absurd (show w.heap.size = w.heap.size + 1 from e) (by omega)
  obtain ⟨G, HG⟩ : ∃ G, Hid (w.heap.size + 1 = G) := ⟨_, Lib.hid (Eq.refl _)⟩
  rw [HG.out] at HD0 HN0
  clear hr0 hb0 hd0 hg0
  go_enter Try.func32, Try.ntmps32
  go_wp2_with fail
  obtain ⟨w1, HW1⟩ : ∃ W, Hid ((w.alloc (.cells #[] 3)).alloc (.cells #[] 3) = W) := ⟨_, Lib.hid (Eq.refl _)⟩
  rw [HW1.out] at HO0 HB0 HD0 ⊢
  try rw [hgs]
  rw [HG.out]
  clear HW1 hgs
  go_loopw [2, 4] (fun v_ i_ wr => ∃ i : Nat, i ≤ 288 ∧ i_ = .int .i64 (i : Int) ∧ Hid (wr.ownsRow w.heap.size 3 1 v_ i (icells i fixL)) ∧ Hid (Blk wr G 3 #[]) ∧ Hid (v_.ownBlock ≠ some G) ∧ Hid (Below w.heap.size w wr)) (fun _ i _ => 288 - (intOf i).toNat)
  case atStart => exact ⟨0, by omega, rfl, HO0, HD0, HN0, HB0⟩
  case round =>
    clear HO0 HD0 HN0 HB0
    obtain ⟨i, hi, rfl, HO, HD, HN, HB⟩ := hrel
    by_cases hlt : i < 288
    · have d1 : decide ((i : Int) < 288) = true := by rw [decide_eq_true_eq]; omega
      have hos := HO.out
      have hbsw : w.heap.size ≤ wr.heap.size := HB.out.size
      rcases show i < 144 ∨ (144 ≤ i ∧ i < 256) ∨ (256 ≤ i ∧ i < 280) ∨ 280 ≤ i by omega with h | ⟨h, h'⟩ | ⟨h, h'⟩ | h
      · have hx : fixL i = 8 := by unfold fixL; rw [if_pos h]
        have d2 : decide (144 ≤ (i : Int)) = false := by rw [decide_eq_false_iff_not]; omega
        have d3 : decide ((i : Int) < 256) = true := by rw [decide_eq_true_eq]; omega
        have d4 : decide (256 ≤ (i : Int)) = false := by rw [decide_eq_false_iff_not]; omega
        have d5 : decide ((i : Int) < 280) = true := by rw [decide_eq_true_eq]; omega
        have hsucc := icells_succ i fixL
        rw [hx] at hsucc
        have Hsucc := Lib.hid hsucc
        clear hsucc hx
        go_wp2_with (first
          | (at_builtin; go_must (refine wpList_append_elem_at wr rfl (.tmp 24) (.tmp 26) rfl Try.underlying22 info_int rfl (by decide) w.heap.size _ i (icells i fixL) [.int .i64 8] hos rfl ?_ rfl rfl rfl ?_ ?_ hbsw ?_; (intro y hy; simp at hy; subst hy; rfl); (unfold maxLen; omega); omega; intro v7 w7 hown7 hg7 hn7; have HO7 : Hid (w7.ownsRow w.heap.size 3 1 v7 (i + 1) (icells (i + 1) fixL)) := (by show World.ownsRow _ _ _ _ _ _ _; rw [Hsucc.out]; exact hown7); have HB7 := Lib.hid (HB.out.trans (below_grown hos hg7 hbsw)); have HD7 := Lib.hid (HD.out.grown hg7 (fun e => HN.out e.symm)); have HN7 : Hid (v7.ownBlock ≠ some G) := Lib.hid (hn7 G HD.out.lt HN.out); clear hown7 hg7 hn7))
          | fail)
        go_roundw
        case rel => exact ⟨i + 1, by omega, by go_num, HO7, HD7, HN7, HB7⟩
        case measure => simp [intOf]; omega
      · have hx : fixL i = 9 := by unfold fixL; rw [if_neg (by omega), if_pos h']
        have d2 : decide (144 ≤ (i : Int)) = true := by rw [decide_eq_true_eq]; omega
        have d3 : decide ((i : Int) < 256) = true := by rw [decide_eq_true_eq]; omega
        have d4 : decide (256 ≤ (i : Int)) = false := by rw [decide_eq_false_iff_not]; omega
        have d5 : decide ((i : Int) < 280) = true := by rw [decide_eq_true_eq]; omega
        have hsucc := icells_succ i fixL
        rw [hx] at hsucc
        have Hsucc := Lib.hid hsucc
        clear hsucc hx
        go_wp2_with (first
          | (at_builtin; go_must (refine wpList_append_elem_at wr rfl (.tmp 24) (.tmp 26) rfl Try.underlying22 info_int rfl (by decide) w.heap.size _ i (icells i fixL) [.int .i64 9] hos rfl ?_ rfl rfl rfl ?_ ?_ hbsw ?_; (intro y hy; simp at hy; subst hy; rfl); (unfold maxLen; omega); omega; intro v7 w7 hown7 hg7 hn7; have HO7 : Hid (w7.ownsRow w.heap.size 3 1 v7 (i + 1) (icells (i + 1) fixL)) := (by show World.ownsRow _ _ _ _ _ _ _; rw [Hsucc.out]; exact hown7); have HB7 := Lib.hid (HB.out.trans (below_grown hos hg7 hbsw)); have HD7 := Lib.hid (HD.out.grown hg7 (fun e => HN.out e.symm)); have HN7 : Hid (v7.ownBlock ≠ some G) := Lib.hid (hn7 G HD.out.lt HN.out); clear hown7 hg7 hn7))
          | fail)
        go_roundw
        case rel => exact ⟨i + 1, by omega, by go_num, HO7, HD7, HN7, HB7⟩
        case measure => simp [intOf]; omega
      · have hx : fixL i = 7 := by unfold fixL; rw [if_neg (by omega), if_neg (by omega), if_pos h']
        have d2 : decide (144 ≤ (i : Int)) = true := by rw [decide_eq_true_eq]; omega
        have d3 : decide ((i : Int) < 256) = false := by rw [decide_eq_false_iff_not]; omega
        have d4 : decide (256 ≤ (i : Int)) = true := by rw [decide_eq_true_eq]; omega
        have d5 : decide ((i : Int) < 280) = true := by rw [decide_eq_true_eq]; omega
        have hsucc := icells_succ i fixL
        rw [hx] at hsucc
        have Hsucc := Lib.hid hsucc
        clear hsucc hx
        go_wp2_with (first
          | (at_builtin; go_must (refine wpList_append_elem_at wr rfl (.tmp 24) (.tmp 26) rfl Try.underlying22 info_int rfl (by decide) w.heap.size _ i (icells i fixL) [.int .i64 7] hos rfl ?_ rfl rfl rfl ?_ ?_ hbsw ?_; (intro y hy; simp at hy; subst hy; rfl); (unfold maxLen; omega); omega; intro v7 w7 hown7 hg7 hn7; have HO7 : Hid (w7.ownsRow w.heap.size 3 1 v7 (i + 1) (icells (i + 1) fixL)) := (by show World.ownsRow _ _ _ _ _ _ _; rw [Hsucc.out]; exact hown7); have HB7 := Lib.hid (HB.out.trans (below_grown hos hg7 hbsw)); have HD7 := Lib.hid (HD.out.grown hg7 (fun e => HN.out e.symm)); have HN7 : Hid (v7.ownBlock ≠ some G) := Lib.hid (hn7 G HD.out.lt HN.out); clear hown7 hg7 hn7))
          | fail)
        go_roundw
        case rel => exact ⟨i + 1, by omega, by go_num, HO7, HD7, HN7, HB7⟩
        case measure => simp [intOf]; omega
      · have hx : fixL i = 8 := by unfold fixL; rw [if_neg (by omega), if_neg (by omega), if_neg (by omega)]
        have d2 : decide (144 ≤ (i : Int)) = true := by rw [decide_eq_true_eq]; omega
        have d3 : decide ((i : Int) < 256) = false := by rw [decide_eq_false_iff_not]; omega
        have d4 : decide (256 ≤ (i : Int)) = true := by rw [decide_eq_true_eq]; omega
        have d5 : decide ((i : Int) < 280) = false := by rw [decide_eq_false_iff_not]; omega
        have hsucc := icells_succ i fixL
        rw [hx] at hsucc
        have Hsucc := Lib.hid hsucc
        clear hsucc hx
        go_wp2_with (first
          | (at_builtin; go_must (refine wpList_append_elem_at wr rfl (.tmp 24) (.tmp 26) rfl Try.underlying22 info_int rfl (by decide) w.heap.size _ i (icells i fixL) [.int .i64 8] hos rfl ?_ rfl rfl rfl ?_ ?_ hbsw ?_; (intro y hy; simp at hy; subst hy; rfl); (unfold maxLen; omega); omega; intro v7 w7 hown7 hg7 hn7; have HO7 : Hid (w7.ownsRow w.heap.size 3 1 v7 (i + 1) (icells (i + 1) fixL)) := (by show World.ownsRow _ _ _ _ _ _ _; rw [Hsucc.out]; exact hown7); have HB7 := Lib.hid (HB.out.trans (below_grown hos hg7 hbsw)); have HD7 := Lib.hid (HD.out.grown hg7 (fun e => HN.out e.symm)); have HN7 : Hid (v7.ownBlock ≠ some G) := Lib.hid (hn7 G HD.out.lt HN.out); clear hown7 hg7 hn7))
          | fail)
        go_roundw
        case rel => exact ⟨i + 1, by omega, by go_num, HO7, HD7, HN7, HB7⟩
        case measure => simp [intOf]; omega
    · have h288 : i = 288 := by omega
      have d1 : decide ((i : Int) < 288) = false := by rw [decide_eq_false_iff_not]; omega
      obtain ⟨a1, c1, rfl, hI1, hA1⟩ := irow_own HO.out
      rw [h288] at hI1
      have H288 := Lib.hid h288
      clear h288 hlt
      have HI1 := Lib.hid hI1
      have HA1 := Lib.hid hA1
      have hGw : w.heap.size ≤ G := by have := HG.out; omega
      have HO0 : Hid (wr.ownsRow w.heap.size 3 1 (.slice (some ⟨G, 0, none⟩) 0 0) 0 (icells 0 fun _ => 5)) :=
        ownsRow_blk (cur := #[]) HD.out hGw (Nat.le_refl _) (Nat.zero_le _) rfl rfl
      have HN1 : Hid (∀ b off sp, a1 = some ⟨b, off, sp⟩ → (Value.slice (some ⟨G, 0, none⟩) 0 0).ownBlock ≠ some b) := fun b off sp e e2 => by
        injection e2 with e2
        subst e
        exact HN.out (congrArg some e2.symm)
      clear hI1 hA1 HO HD HN
      go_wp2_with fail
      go_loopw [3] (fun v_ wx => ∃ (i : Nat) (a : Option Addr) (cap : Nat), i ≤ 32 ∧ v_ = .slice a i cap ∧ Hid (wx.ownsRow w.heap.size 3 1 (.slice a i cap) i (icells i fun _ => 5)) ∧ Hid (IRow wx a1 288 fixL) ∧ Hid (∀ b off sp, a1 = some ⟨b, off, sp⟩ → b < wx.heap.size ∧ (Value.slice a i cap).ownBlock ≠ some b) ∧ Hid (Below w.heap.size w wx)) (fun v_ _ => 32 - lenV v_)
      case atStart => exact ⟨0, _, _, by omega, rfl, HO0, HI1, (fun b off sp e => ⟨(HA1.out b off sp e).2, HN1.out b off sp e⟩), HB⟩
      case round =>
        clear HO0 HI1 HA1 HN1 HB
        obtain ⟨j, a, cap, hj, rfl, HO, HI, HF, HB⟩ := hrel
        by_cases hlt2 : j < 32
        · have d2 : decide ((j : Int) < 32) = true := by rw [decide_eq_true_eq]; omega
          have hos := HO.out
          have hbsw : w.heap.size ≤ wr.heap.size := HB.out.size
          have Hsucc := Lib.hid (icells_succ j fun _ => (5 : Int))
          go_wp2_with (first
            | (at_builtin; go_must (refine wpList_append_elem_at wr rfl (.tmp 31) (.tmp 32) rfl Try.underlying22 info_int rfl (by decide) w.heap.size _ j (icells j fun _ => 5) [.int .i64 5] hos rfl ?_ rfl rfl rfl ?_ ?_ hbsw ?_; (intro y hy; simp at hy; subst hy; rfl); (unfold maxLen; omega); omega; intro v7 w7 hown7 hg7 hn7; have HO7 : Hid (w7.ownsRow w.heap.size 3 1 v7 (j + 1) (icells (j + 1) fun _ => 5)) := (by show World.ownsRow _ _ _ _ _ _ _; rw [Hsucc.out]; exact hown7); have HB7 := Lib.hid (HB.out.trans (below_grown hos hg7 hbsw)); have HI7 : Hid (IRow w7 a1 288 fixL) := Lib.hid (HI.out.grown hg7 fun b off sp e e2 => (HF.out b off sp e).2 e2.symm); have HF7 : Hid (∀ b off sp, a1 = some ⟨b, off, sp⟩ → b < w7.heap.size ∧ v7.ownBlock ≠ some b) := Lib.hid (fun b off sp e => ⟨Nat.lt_of_lt_of_le (HF.out b off sp e).1 hg7.size, hn7 b (HF.out b off sp e).1 (HF.out b off sp e).2⟩); clear hown7 hg7 hn7))
            | fail)
          go_roundw
          case rel =>
            obtain ⟨a7, c7, rfl, _, _⟩ := irow_own HO7.out
            exact ⟨j + 1, a7, c7, by omega, rfl, HO7, HI7, HF7, HB7⟩
          case measure =>
            obtain ⟨a7, c7, rfl, _, _⟩ := irow_own HO7.out
            show 32 - (j + 1) < 32 - j
            omega
        · obtain rfl : j = 32 := by omega
          obtain ⟨a7, c7, h7, hI7, _⟩ := irow_own HO.out
          injection h7 with h7a h7b h7c
          subst h7a h7c
          have HI7 := Lib.hid hI7
          clear hI7
          go_wp2_with fail
          go_ret2
          refine ⟨a1, c1, a, ⟨cap, ?_⟩, HI.out, HI7.out, HB.out⟩
          rw [H288.out]
          rfl

def szL : List Nat := [3, 4, 5, 6, 7, 8, 9, 10, 11, 13, 15, 17, 19, 23, 27, 31, 35, 43, 51, 59, 67, 83, 99, 115, 131, 163, 195, 227, 258]
def szB : List Nat := [0, 0, 0, 0, 0, 0, 0, 0, 1, 1, 1, 1, 2, 2, 2, 2, 3, 3, 3, 3, 4, 4, 4, 4, 5, 5, 5, 5, 0]
def farL : List Nat := [1, 2, 3, 4, 5, 7, 9, 13, 17, 25, 33, 49, 65, 97, 129, 193, 257, 385, 513, 769, 1025, 1537, 2049, 3073, 4097, 6145, 8193, 12289, 16385, 24577]
def farB : List Nat := [0, 0, 0, 0, 1, 1, 2, 2, 3, 3, 4, 4, 5, 5, 6, 6, 7, 7, 8, 8, 9, 9, 10, 10, 11, 11, 12, 12, 13, 13]
theorem blk_irow {w : World} {g n : Nat} {m : Nat → Int} {cs : Array Value} (h : Blk w g 3 cs) (hc : ∀ i, i < n → cs[i]? = some (.int .i64 (m i))) : IRow w (some ⟨g, 0, none⟩) n m :=
  .inr ⟨g, 0, rfl, h.lt, fun i hi => by rw [Nat.zero_add, h.cell, hc i hi]⟩
theorem lit_at (l : List Nat) (i : Nat) (h : i < l.length) : ((l.map fun (x : Nat) => Value.int .i64 (x : Int)).toArray)[i]? = some (.int .i64 ((l.getD i 0 : Nat) : Int)) := by simp [List.getD, h]
theorem sizes_far : ∀ i, i < 30 → ((farL.getD i 0 : Nat) : Int) = ((sizeS true (i : Int)).1 : Int) ∧ ((farB.getD i 0 : Nat) : Int) = ((sizeS true (i : Int)).2 : Int) := by decide
theorem sizes_near : ∀ i, i < 29 → ((szL.getD i 0 : Nat) : Int) = ((sizeS false (i : Int)).1 : Int) ∧ ((szB.getD i 0 : Nat) : Int) = ((sizeS false (i : Int)).2 : Int) := by decide

theorem results_tmp4 {fn : Func} {t u v x : Tmp} (h : fn.results = #[.tmp t, .tmp u, .tmp v, .tmp x]) (tmps : Array Value) (P : Program) (w : World) :
    (results fn tmps).run P w = .ok (.tuple #[tmps.getD t undef, tmps.getD u undef, tmps.getD v undef, tmps.getD x undef]) w := by
  simp [results, h]

set_option maxHeartbeats 4000000 in
theorem rsizes_at (w : World) : Calls Try.prog 33 #[] w fun e w' => ∃ a b c d, w.heap.size ≤ a ∧ w.heap.size ≤ b ∧ w.heap.size ≤ c ∧ w.heap.size ≤ d ∧ e = .returned (.tuple #[.slice (some ⟨a, 0, none⟩) 29 29, .slice (some ⟨b, 0, none⟩) 29 29, .slice (some ⟨c, 0, none⟩) 30 30, .slice (some ⟨d, 0, none⟩) 30 30]) ∧
    IRow w' (some ⟨a, 0, none⟩) 29 (fun i => ((sizeS false (i : Int)).1 : Int)) ∧ IRow w' (some ⟨b, 0, none⟩) 29 (fun i => ((sizeS false (i : Int)).2 : Int)) ∧ IRow w' (some ⟨c, 0, none⟩) 30 (fun i => ((sizeS true (i : Int)).1 : Int)) ∧ IRow w' (some ⟨d, 0, none⟩) 30 (fun i => ((sizeS true (i : Int)).2 : Int)) ∧ Below w.heap.size w w' := by
  obtain ⟨c1, Hc1⟩ : ∃ x, Hid ((#[.int .i64 3, .int .i64 4, .int .i64 5, .int .i64 6, .int .i64 7, .int .i64 8, .int .i64 9, .int .i64 10, .int .i64 11, .int .i64 13, .int .i64 15, .int .i64 17, .int .i64 19, .int .i64 23, .int .i64 27, .int .i64 31, .int .i64 35, .int .i64 43, .int .i64 51, .int .i64 59, .int .i64 67, .int .i64 83, .int .i64 99, .int .i64 115, .int .i64 131, .int .i64 163, .int .i64 195, .int .i64 227, .int .i64 258] : Array Value) = x) := ⟨_, Lib.hid (Eq.refl _)⟩
  obtain ⟨c2, Hc2⟩ : ∃ x, Hid ((#[.int .i64 0, .int .i64 0, .int .i64 0, .int .i64 0, .int .i64 0, .int .i64 0, .int .i64 0, .int .i64 0, .int .i64 1, .int .i64 1, .int .i64 1, .int .i64 1, .int .i64 2, .int .i64 2, .int .i64 2, .int .i64 2, .int .i64 3, .int .i64 3, .int .i64 3, .int .i64 3, .int .i64 4, .int .i64 4, .int .i64 4, .int .i64 4, .int .i64 5, .int .i64 5, .int .i64 5, .int .i64 5, .int .i64 0] : Array Value) = x) := ⟨_, Lib.hid (Eq.refl _)⟩
  obtain ⟨c3, Hc3⟩ : ∃ x, Hid ((#[.int .i64 1, .int .i64 2, .int .i64 3, .int .i64 4, .int .i64 5, .int .i64 7, .int .i64 9, .int .i64 13, .int .i64 17, .int .i64 25, .int .i64 33, .int .i64 49, .int .i64 65, .int .i64 97, .int .i64 129, .int .i64 193, .int .i64 257, .int .i64 385, .int .i64 513, .int .i64 769, .int .i64 1025, .int .i64 1537, .int .i64 2049, .int .i64 3073, .int .i64 4097, .int .i64 6145, .int .i64 8193, .int .i64 12289, .int .i64 16385, .int .i64 24577] : Array Value) = x) := ⟨_, Lib.hid (Eq.refl _)⟩
  obtain ⟨c4, Hc4⟩ : ∃ x, Hid ((#[.int .i64 0, .int .i64 0, .int .i64 0, .int .i64 0, .int .i64 1, .int .i64 1, .int .i64 2, .int .i64 2, .int .i64 3, .int .i64 3, .int .i64 4, .int .i64 4, .int .i64 5, .int .i64 5, .int .i64 6, .int .i64 6, .int .i64 7, .int .i64 7, .int .i64 8, .int .i64 8, .int .i64 9, .int .i64 9, .int .i64 10, .int .i64 10, .int .i64 11, .int .i64 11, .int .i64 12, .int .i64 12, .int .i64 13, .int .i64 13] : Array Value) = x) := ⟨_, Lib.hid (Eq.refl _)⟩
  have hB1 := Blk.new w 3 c1
  have hB2 := Blk.new (w.alloc (.cells c1 3)) 3 c2
  have hB3 := Blk.new ((w.alloc (.cells c1 3)).alloc (.cells c2 3)) 3 c3
  have hB4 := Blk.new (((w.alloc (.cells c1 3)).alloc (.cells c2 3)).alloc (.cells c3 3)) 3 c4
  have HI1 := Lib.hid (blk_irow (n := 29) (m := fun i => ((sizeS false (i : Int)).1 : Int)) (((hB1.alloc (.cells c2 3)).alloc (.cells c3 3)).alloc (.cells c4 3)) (fun i hi => by rw [← Hc1.out, ← (sizes_near i hi).1]; exact lit_at szL i hi))
  have HI2 := Lib.hid (blk_irow (n := 29) (m := fun i => ((sizeS false (i : Int)).2 : Int)) ((hB2.alloc (.cells c3 3)).alloc (.cells c4 3)) (fun i hi => by rw [← Hc2.out, ← (sizes_near i hi).2]; exact lit_at szB i hi))
  have HI3 := Lib.hid (blk_irow (n := 30) (m := fun i => ((sizeS true (i : Int)).1 : Int)) (hB3.alloc (.cells c4 3)) (fun i hi => by rw [← Hc3.out, ← (sizes_far i hi).1]; exact lit_at farL i hi))
  have HI4 := Lib.hid (blk_irow (n := 30) (m := fun i => ((sizeS true (i : Int)).2 : Int)) hB4 (fun i hi => by rw [← Hc4.out, ← (sizes_far i hi).2]; exact lit_at farB i hi))
  have HBl := Lib.hid (((((Below.refl w.heap.size w).alloc (Nat.le_refl _) (.cells c1 3)).alloc (by simp) (.cells c2 3)).alloc (by simp; omega) (.cells c3 3)).alloc (by simp; omega) (.cells c4 3))
  rw [size_new] at HI2
  rw [size_new, size_new] at HI3
  rw [size_new, size_new, size_new] at HI4
  clear hB1 hB2 hB3 hB4
  go_enter Try.func33, Try.ntmps33
  go_wp2_with fail
  rw [Hc1.out, Hc2.out, Hc3.out, Hc4.out]
  (try simp only [Exit.inBlock, Exit.then])
  refine bodyPost_ret (results_tmp4 rfl _ _ _) rfl ?_
  exact ⟨_, _, _, _, Nat.le_refl _, by omega, by omega, by omega, rfl, HI1.out, HI2.out, HI3.out, HI4.out, HBl.out⟩
theorem rsizes_any (w : World) : Calls Try.prog 33 #[] w fun e w' => ∃ a b c d, e = .returned (.tuple #[.slice (some ⟨a, 0, none⟩) 29 29, .slice (some ⟨b, 0, none⟩) 29 29, .slice (some ⟨c, 0, none⟩) 30 30, .slice (some ⟨d, 0, none⟩) 30 30]) ∧
    IRow w' (some ⟨a, 0, none⟩) 29 (fun i => ((sizeS false (i : Int)).1 : Int)) ∧ IRow w' (some ⟨b, 0, none⟩) 29 (fun i => ((sizeS false (i : Int)).2 : Int)) ∧ IRow w' (some ⟨c, 0, none⟩) 30 (fun i => ((sizeS true (i : Int)).1 : Int)) ∧ IRow w' (some ⟨d, 0, none⟩) 30 (fun i => ((sizeS true (i : Int)).2 : Int)) ∧ Below w.heap.size w w' :=
  (rsizes_at w).mono fun _ _ ⟨a, b, c, d, _, _, _, _, h⟩ => ⟨a, b, c, d, h⟩
end Go.Proofs.Ytjnglahjngiofaa
