/- inflate's reader: fail, bits, symbol, plant, grow. Conditions: texts of at most a hundred thousand bytes. -/
import Derived.Test.YtjnglahjngiofaaNext4
namespace Go.Proofs.Ytjnglahjngiofaa
open Go.RowKit
set_option maxRecDepth 100000

/-- At R lies a reader of the source at P, that has read p bits of s and told z bytes; at most so many; its error's number. -/
def RdAt (w : World) (R P : Nat) (s : ByteArray) (p z most e : Nat) : Prop :=
  Blk w R 100 #[.pointer (some ⟨P, 0, none⟩), .int .i64 (z : Int), .int .i64 (most : Int), .int .i64 (e : Int)] ∧ SrcAt w P s p ∧ R ≠ P
/-- Nothing old but R and P has changed. -/
def Rch (R P : Nat) (w w' : World) : Prop :=
  w'.os = w.os ∧ w'.tape = w.tape ∧ w'.output = w.output ∧ w.heap.size ≤ w'.heap.size ∧ ∀ g, g < w.heap.size → g ≠ R → g ≠ P → w'.heap[g]? = w.heap[g]?
section
variable {R P : Nat} {w w1 w2 : World}
theorem Rch.refl (w : World) : Rch R P w w := ⟨rfl, rfl, rfl, Nat.le_refl _, fun _ _ _ _ => rfl⟩
theorem Rch.trans (h : Rch R P w w1) (k : Rch R P w1 w2) : Rch R P w w2 :=
  ⟨k.1.trans h.1, k.2.1.trans h.2.1, k.2.2.1.trans h.2.2.1, Nat.le_trans h.2.2.2.1 k.2.2.2.1, fun g hg h1 h2 => (k.2.2.2.2 g (Nat.lt_of_lt_of_le hg h.2.2.2.1) h1 h2).trans (h.2.2.2.2 g hg h1 h2)⟩
theorem Rch.row (h : w.grownBy w1 (some P)) : Rch R P w w1 := ⟨h.os, h.tape, h.output, h.size, fun g hg _ h2 => h.block g hg (fun e => h2 (by injection e))⟩
theorem Rch.drewN (n : Nat) : Rch R P w (w.drewN n) := ⟨rfl, rfl, rfl, Nat.le_refl _, fun _ _ _ _ => rfl⟩
theorem Rch.set_ (i : Nat) (v : Value) : Rch R P w (w.setCell ⟨R, i, none⟩ v) := ⟨rfl, rfl, rfl, by simp [World.setCell], fun g _ h1 _ => heap_setCell_other w _ _ _ (fun e => h1 (by rw [e]))⟩
theorem Rch.old (h : Rch R P w w1) {B : Nat} {w0 : World} (hb : Below B w0 w) (h1 : B ≤ w.heap.size) (hR : B ≤ R) (hP : B ≤ P) : Below B w0 w1 :=
  ⟨h.1.trans hb.os, h.2.1.trans hb.tape, h.2.2.1.trans hb.output, Nat.le_trans hb.size h.2.2.2.1, fun g hg => (h.2.2.2.2 g (by omega) (by omega) (by omega)).trans (hb.block g hg)⟩
theorem Rch.below {B : Nat} (h : Below B w w1) (hB : w.heap.size ≤ B) : Rch R P w w1 := ⟨h.os, h.tape, h.output, h.size, fun g hg _ _ => h.block g (by omega)⟩
theorem Rch.blk (h : Rch R P w w1) {g t : Nat} {cs : Array Value} (hb : Blk w g t cs) (h1 : g ≠ R) (h2 : g ≠ P) : Blk w1 g t cs := (h.2.2.2.2 g hb.lt h1 h2).trans hb
end
section
variable {w w1 : World} {R P p z most e : Nat} {s : ByteArray}
theorem RdAt.drewN (h : RdAt w R P s p z most e) (n : Nat) : RdAt (w.drewN n) R P s p z most e := h
theorem RdAt.below {B : Nat} (h : RdAt w R P s p z most e) (hb : Below B w w1) (hR : R < B) (hP : P < B) : RdAt w1 R P s p z most e := ⟨h.1.below hb hR, h.2.1.below hb hP, h.2.2⟩
theorem RdAt.keep (h : RdAt w R P s p z most e) (hb : Below w.heap.size w w1) : RdAt w1 R P s p z most e := h.below hb h.1.lt h.2.1.lt
theorem RdAt.read (h : RdAt w R P s p z most e) {p' : Nat} (hS : SrcAt w1 P s p') (hg : w.grownBy w1 (some P)) : RdAt w1 R P s p' z most e := ⟨h.1.grown hg (fun e => h.2.2 (by injection e)), hS, h.2.2⟩
theorem RdAt.err (h : RdAt w R P s p z most e) (x : Nat) : RdAt (w.setCell ⟨R, 3, none⟩ (.int .i64 (x : Int))) R P s p z most x := by
  refine ⟨?_, Blk.far h.2.1 (Ne.symm h.2.2) _, h.2.2⟩
  have := h.1.set_ 3 (.int .i64 (x : Int))
  simpa using this
theorem RdAt.size (h : RdAt w R P s p z most e) (x : Nat) : RdAt (w.setCell ⟨R, 1, none⟩ (.int .i64 (x : Int))) R P s p x most e := by
  refine ⟨?_, Blk.far h.2.1 (Ne.symm h.2.2) _, h.2.2⟩
  have := h.1.set_ 1 (.int .i64 (x : Int))
  simpa using this
end
/-- The first error counts. -/
def firstE (e x : Nat) : Nat := if e = 0 then x else e

theorem fail_any (R P : Nat) (s : ByteArray) (p z most e x : Nat) (w : World) (hR : RdAt w R P s p z most e) :
    Calls Try.prog 51 #[.pointer (some ⟨R, 0, none⟩), .int .i64 (x : Int)] w fun r w' => r = .returned (.tuple #[]) ∧ RdAt w' R P s p z most (firstE e x) ∧ Rch R P w w' := by
  have c3 := hR.1.cell 3
  have f3 := hR.1.frozen 3
  simp at c3
  unfold firstE
  by_cases h0 : e = 0
  · have d0 : ((e : Int) == 0) = true := by simp; omega
    have HR := Lib.hid (hR.err x)
    have HC : Hid (Rch R P w (w.setCell ⟨R, 3, none⟩ (.int .i64 (x : Int)))) := Rch.set_ 3 _
    rw [if_pos h0]
    clear hR h0
    go_enter Try.func51, Try.ntmps51
    go_wp2_with fail
    (try simp only [Exit.inBlock, Exit.then]); refine bodyPost_end (results_none rfl _ _ _) rfl ?_
    exact ⟨rfl, HR.out, HC.out⟩
  · have d0 : ((e : Int) == 0) = false := by simp; omega
    have HR := Lib.hid hR
    rw [if_neg h0]
    clear hR h0
    go_enter Try.func51, Try.ntmps51
    go_wp2_with fail
    (try simp only [Exit.inBlock, Exit.then]); refine bodyPost_end (results_none rfl _ _ _) rfl ?_
    exact ⟨rfl, HR.out, Rch.refl _⟩

theorem bitsAt_lt (s : ByteArray) (p k : Nat) (hk : k ≤ 16) : bitsAt s p k < 65536 := by
  unfold bitsAt
  have h1 : num s / 2 ^ p % 2 ^ k < 2 ^ k := Nat.mod_lt _ (Nat.two_pow_pos k)
  have h2 : 2 ^ k ≤ 2 ^ 16 := Nat.pow_le_pow_right (by decide) hk
  have h3 : (2 : Nat) ^ 16 = 65536 := by decide
  omega

/-- The error behind k bits at p. -/
def bitsE (s : ByteArray) (p k e : Nat) : Nat := if 8 * s.size < p + k then firstE e 6 else e

theorem bits_any (R P : Nat) (s : ByteArray) (p z most e k : Nat) (hk : k ≤ 16) (hs : s.size ≤ 100000) (hp : p ≤ 1000000) (w : World) (hR : RdAt w R P s p z most e) :
    Calls Try.prog 47 #[.pointer (some ⟨R, 0, none⟩), .int .i64 (k : Int)] w fun r w' => r = .returned (.int .i64 (bitsAt s p k : Int)) ∧ RdAt w' R P s (p + k) z most (bitsE s p k e) ∧ Rch R P w w' := by
  have c0 := hR.1.cell 0
  simp at c0
  have CT := Lib.hid (srcTake_any P s p k (k : Int) (.inr (.inl ⟨rfl, by omega⟩)) (by omega) (by omega) w hR.2.1)
  have hlt := bitsAt_lt s p k hk
  obtain ⟨v, Hv⟩ : ∃ v, Hid (bitsAt s p k = v) := ⟨_, Lib.hid (Eq.refl _)⟩
  rw [Hv.out] at CT hlt ⊢
  have hw : IntKind.i64.wrap (v : Int) = (v : Int) := IntWalk.i64_in _ (by omega)
  have HR := Lib.hid hR
  obtain ⟨E, HE⟩ : ∃ E, Hid (bitsE s p k e = E) := ⟨_, Lib.hid (Eq.refl _)⟩
  rw [HE.out]
  clear hR
  go_enter Try.func47, Try.ntmps47
  go_wp2_with fail
  refine CT.out.mono ?_
  rintro r w1 ⟨rfl, hS1, hg1, _⟩
  have HR1 := Lib.hid (HR.out.read hS1 hg1)
  have HC1 : Hid (Rch R P w w1) := Rch.row hg1
  have c1 := HR1.out.1.cell 0
  simp at c1
  have CS := srcShort_any P s (p + k) (by omega) w1 HR1.out.2.1
  obtain ⟨b, Hb⟩ : ∃ b, Hid (decide (8 * s.size < p + k) = b) := ⟨_, Lib.hid (Eq.refl _)⟩
  rw [Hb.out] at CS
  have HCS := Lib.hid CS
  clear CS hS1 hg1 c0
  go_wp2_with fail
  refine HCS.out.mono ?_
  rintro r w2 ⟨rfl, n, rfl⟩
  have HR2 := Lib.hid (HR1.out.drewN n)
  have HC2 : Hid (Rch R P w (w1.drewN n)) := HC1.out.trans (Rch.drewN n)
  clear HCS HR1 HC1 c1
  cases b with
  | true =>
    have hb : 8 * s.size < p + k := by simpa using Hb.out
    have CF := Lib.hid (fail_any R P s (p + k) z most e 6 (w1.drewN n) HR2.out)
    have eE : firstE e 6 = E := by rw [← HE.out]; unfold bitsE; rw [if_pos hb]
    rw [eE] at CF
    go_wp2_with fail
    refine CF.out.mono ?_
    rintro r w3 ⟨rfl, hR3, hC3⟩
    have HR3 := Lib.hid hR3
    have HC3 := Lib.hid (HC2.out.trans hC3)
    clear hR3 hC3 CF
    go_wp2_with fail
    go_ret
    exact ⟨rfl, HR3.out, HC3.out⟩
  | false =>
    have hb : ¬ 8 * s.size < p + k := by simpa using Hb.out
    have eE : E = e := by rw [← HE.out]; unfold bitsE; rw [if_neg hb]
    go_wp2_with fail
    go_ret
    exact ⟨rfl, by rw [eE]; exact HR2.out, HC2.out⟩

/-- The error when z bytes have come out. -/
def growE (most z e : Nat) : Nat := if most < z then firstE e 2 else e
theorem grow_any (R P : Nat) (s : ByteArray) (p z most e k : Nat) (hz : z ≤ 1000000000000) (_hm : most ≤ 1000000) (hk : k ≤ 1000000) (w : World) (hR : RdAt w R P s p z most e) :
    Calls Try.prog 72 #[.pointer (some ⟨R, 0, none⟩), .int .i64 (k : Int)] w fun r w' => r = .returned (.tuple #[]) ∧ RdAt w' R P s p (z + k) most (growE most (z + k) e) ∧ Rch R P w w' := by
  have c1 := hR.1.cell 1
  have f1 := hR.1.frozen 1
  simp at c1
  obtain ⟨z2, Hz2⟩ : ∃ v, Hid (z + k = v) := ⟨_, Lib.hid (Eq.refl _)⟩
  have e2 : (z : Int) + (k : Int) = (z2 : Int) := by have := Hz2.out; omega
  have hz2 : z2 ≤ 2000000000000 := by have := Hz2.out; omega
  have hw : IntKind.i64.wrap ((z : Int) + (k : Int)) = (z2 : Int) := by rw [e2]; exact IntWalk.i64_in _ (by omega)
  have HR2 := Lib.hid (hR.size z2)
  have HC : Hid (Rch R P w (w.setCell ⟨R, 1, none⟩ (.int .i64 (z2 : Int)))) := Rch.set_ 1 _
  rw [Hz2.out]
  obtain ⟨E, HE⟩ : ∃ E, Hid (growE most z2 e = E) := ⟨_, Lib.hid (Eq.refl _)⟩
  rw [HE.out]
  clear hR
  go_enter Try.func72, Try.ntmps72
  go_wp2_with fail
  obtain ⟨w1, HW1⟩ : ∃ W, Hid (w.setCell ⟨R, 1, none⟩ (.int .i64 (z2 : Int)) = W) := ⟨_, Lib.hid (Eq.refl _)⟩
  rw [HW1.out] at HR2 HC ⊢
  have g1 := HR2.out.1.cell 1
  have g2 := HR2.out.1.cell 2
  simp at g1 g2
  clear HW1 c1 f1 hw e2
  obtain ⟨b, Hb⟩ : ∃ b, Hid (decide (most < z2) = b) := ⟨_, Lib.hid (Eq.refl _)⟩
  have hb1 : decide ((most : Int) < (z2 : Int)) = b := by
    rw [← Hb.out]
    by_cases h : most < z2
    · rw [decide_eq_true h, decide_eq_true (by omega)]
    · rw [decide_eq_false h, decide_eq_false (by omega)]
  cases b with
  | true =>
    have hlt : most < z2 := by simpa using Hb.out
    have eE : firstE e 2 = E := by rw [← HE.out]; unfold growE; rw [if_pos hlt]
    go_wp2_with fail
    go_quiet (fail)
    have CF := Lib.hid (fun W hR => fail_any R P s p z2 most e 2 W hR)
    rw [eE] at CF
    go_wp2_with fail
    refine (CF.out _ (HR2.out.drewN _)).mono ?_
    rintro r w3 ⟨rfl, hR3, hC3⟩
    have HR3 := Lib.hid hR3
    have HC3 := Lib.hid (HC.out.trans ((Rch.drewN _).trans hC3))
    clear hR3 hC3 CF
    go_wp2_with fail
    (try simp only [Exit.inBlock, Exit.then]); refine bodyPost_end (results_none rfl _ _ _) rfl ?_
    exact ⟨rfl, HR3.out, HC3.out⟩
  | false =>
    have hlt : ¬ most < z2 := by simpa using Hb.out
    have eE : E = e := by rw [← HE.out]; unfold growE; rw [if_neg hlt]
    go_wp2_with fail
    go_quiet (fail)
    go_wp2_with fail
    (try simp only [Exit.inBlock, Exit.then]); refine bodyPost_end (results_none rfl _ _ _) rfl ?_
    exact ⟨rfl, by rw [eE]; exact HR2.out, HC.out.trans (Rch.drewN _)⟩

theorem symbol_err (R P : Nat) (s : ByteArray) (p z most e : Nat) (he : e ≠ 0) (t : Value) (w : World) (hR : RdAt w R P s p z most e) :
    Calls Try.prog 74 #[.pointer (some ⟨R, 0, none⟩), t] w fun r w' => r = .returned (.int .i64 0) ∧ RdAt w' R P s p z most e ∧ Rch R P w w' := by
  have c3 := hR.1.cell 3
  simp at c3
  have d0 : ((e : Int) != 0) = true := by simp; omega
  have HR := Lib.hid hR
  clear hR
  go_enter Try.func74, Try.ntmps74
  go_wp2_with fail
  go_ret
  exact ⟨rfl, HR.out, Rch.refl _⟩

theorem symbol_ok (L : Nat → Nat) (n : Nat) (hL : ∀ s, InAll L n s → L s ≤ 15) (hn : n ≤ 400) (T g N cap : Nat) (B : Nat → Nat → Int) (pv pn : Nat → Nat) (hG : Grown (bitsF L n) L (InAll L n) B N pv pn)
    (R P : Nat) (s : ByteArray) (p z most : Nat) (hs : s.size ≤ 100000) (hp : p ≤ 1000000) (hTP : T ≠ P) (hgP : g ≠ P) (w : World) (hA : TreeAt w T g N cap B) (hR : RdAt w R P s p z most 0) :
    Calls Try.prog 74 #[.pointer (some ⟨R, 0, none⟩), .pointer (some ⟨T, 0, none⟩)] w fun r w' => ∃ sym err taken : Nat, r = .returned (.int .i64 (sym : Int)) ∧
      NextOut (bitsF L n) L (InAll L n) (num s / 2 ^ p) (8 * s.size) p sym err taken ∧ taken ≤ 16 ∧ RdAt w' R P s (p + taken) z most err ∧ Rch R P w w' := by
  have CN := Lib.hid (next_any (bitsF L n) L (InAll L n) T g N cap B pv pn hG hL (fun s h => by have := h.1; omega) P s p hs hp hTP hgP w hA hR.2.1)
  have c0 := hR.1.cell 0
  have c3 := hR.1.cell 3
  simp at c0 c3
  have HR := Lib.hid hR
  clear hR hA hG
  go_enter Try.func74, Try.ntmps74
  go_wp2_with fail
  refine CN.out.mono ?_
  rintro r w1 ⟨sym, err, taken, rfl, hN, ht, hS1, hg1, _⟩
  have HN := Lib.hid hN
  have HR1 := Lib.hid (HR.out.read hS1 hg1)
  have HC1 : Hid (Rch R P w w1) := Rch.row hg1
  have CF := Lib.hid (fail_any R P s (p + taken) z most 0 err w1 HR1.out)
  clear hN hS1 hg1 c0 c3 CN
  go_wp2_with fail
  refine CF.out.mono ?_
  rintro r w2 ⟨rfl, hR2, hC2⟩
  have HR2 := Lib.hid hR2
  have HC2 := Lib.hid (HC1.out.trans hC2)
  clear hR2 hC2 CF
  go_wp2_with fail
  go_ret
  exact ⟨sym, err, taken, rfl, HN.out, ht, HR2.out, HC2.out⟩

theorem plant_err (R P : Nat) (s : ByteArray) (p z most e : Nat) (he : e ≠ 0) (v : Value) (w : World) (hR : RdAt w R P s p z most e) :
    Calls Try.prog 73 #[.pointer (some ⟨R, 0, none⟩), v] w fun r w' => r = .returned (.pointer none) ∧ RdAt w' R P s p z most e ∧ Rch R P w w' := by
  have c3 := hR.1.cell 3
  simp at c3
  have d0 : ((e : Int) != 0) = true := by simp; omega
  have HR := Lib.hid hR
  clear hR
  go_enter Try.func73, Try.ntmps73
  go_wp2_with fail
  go_ret
  exact ⟨rfl, HR.out, Rch.refl _⟩

theorem rplant_ok (a : Option Addr) (n cap : Nat) (m : Nat → Int) (hn : n ≤ 320) (hm : ∀ i, i < n → 0 ≤ m i ∧ m i ≤ 15) (R P : Nat) (s : ByteArray) (p z most : Nat) (w : World) (hr : IRow w a n m) (hR : RdAt w R P s p z most 0) :
    Calls Try.prog 73 #[.pointer (some ⟨R, 0, none⟩), .slice a n cap] w fun r w' => Rch R P w w' ∧
      ((¬ Fits (parts (lens m) n) (someOf (lens m) n) ∧ r = .returned (.pointer none) ∧ RdAt w' R P s p z most 3) ∨
       (Fits (parts (lens m) n) (someOf (lens m) n) ∧ ∃ (T g N cap : Nat) (B : Nat → Nat → Int) (pv pn : Nat → Nat), r = .returned (.pointer (some ⟨T, 0, none⟩)) ∧ w.heap.size ≤ T ∧ w.heap.size ≤ g ∧ TreeAt w' T g N cap B ∧
          Grown (bitsF (lens m) n) (lens m) (InAll (lens m) n) B N pv pn ∧ RdAt w' R P s p z most 0)) := by
  have CP := Lib.hid (plant_any a n cap m (by omega) w hr)
  have c3 := hR.1.cell 3
  simp at c3
  have HR := Lib.hid hR
  have Hm := Lib.hid hm
  clear hR hr hm
  go_enter Try.func73, Try.ntmps73
  go_wp2_with fail
  refine CP.out.mono ?_
  intro r w1 h
  obtain ⟨hb, ⟨h1, rfl⟩ | ⟨h1, ⟨i, h2, h3⟩, rfl⟩ | ⟨h1, h2, h3, rfl⟩ | ⟨h1, h2, h3, T, g, N, cp, B, pv, pn, rfl, hT, hg, hA, hN, hG⟩⟩ := h
  · omega
  · exact absurd (Hm.out i h2) h3
  · have HR1 := Lib.hid (HR.out.keep hb)
    have HC1 : Hid (Rch R P w w1) := Rch.below hb (Nat.le_refl _)
    have H3 := Lib.hid h3
    have CF := Lib.hid (fail_any R P s p z most 0 3 w1 HR1.out)
    clear hb h1 h2 h3 CP c3
    unfold badT
    go_wp2_with fail
    refine CF.out.mono ?_
    rintro r w2 ⟨rfl, hR2, hC2⟩
    have HR2 := Lib.hid hR2
    have HC2 := Lib.hid (HC1.out.trans hC2)
    clear hR2 hC2 CF
    go_wp2_with fail
    go_ret
    exact ⟨HC2.out, .inl ⟨H3.out, rfl, HR2.out⟩⟩
  · have HR1 := Lib.hid (HR.out.keep hb)
    have HC1 : Hid (Rch R P w w1) := Rch.below hb (Nat.le_refl _)
    have H3 := Lib.hid h3
    have HA := Lib.hid hA
    have HG := Lib.hid hG
    clear hb h1 h2 h3 CP c3 hA hG
    go_wp2_with fail
    go_ret
    exact ⟨HC1.out, .inr ⟨H3.out, T, g, N, cp, B, pv, pn, rfl, hT, hg, HA.out, HG.out, HR1.out⟩⟩
end Go.Proofs.Ytjnglahjngiofaa
