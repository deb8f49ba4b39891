/- Texts joined: Rdr Xor16 RSto RStoM InfWays ZipO WrP Hds Wr RfcA Rfe Rff RTokK FixR EncP. Conditions: each theorem says its own. -/
import Derived.WalkKit
import Derived.Laws.BitsAllLaws
import Derived.BigQuiet
import Derived.Deep.CutRange
import Derived.Test.YthehocmfpoglgaaJcamjjk
import Derived.Test.YthehocmfpoglgaaJkcmgfp
import Derived.Test.YthehocmfpoglgaaLaw5aJ
namespace Go.Proofs.Ythehocmfpoglgaa
open Go.RowKit
set_option maxRecDepth 100000
def RdAt (w : World) (R P : Nat) (s : ByteArray) (p z most e : Nat) : Prop :=
 Blk w R 126 #[.pointer (some ⟨P, 0, none⟩), .int .i64 (z : Int), .int .i64 (most : Int), .int .i64 (e : Int)] /\ SrcAt w P s p /\ R ≠ P
def Rch (R P : Nat) (w w' : World) : Prop :=
 w'.os = w.os /\ w'.tape = w.tape /\ w'.output = w.output /\ w.heap.size <= w'.heap.size /\ ∀ g, g < w.heap.size -> g ≠ R -> g ≠ P -> w'.heap[g]? = w.heap[g]?
section
variable {R P : Nat} {w w1 w2 : World}
theorem Rch.refl (w : World) : Rch R P w w := ⟨rfl, rfl, rfl, Qa _, fun _ _ _ _ => rfl⟩
theorem Rch.trans (h : Rch R P w w1) (k : Rch R P w1 w2) : Rch R P w w2 :=
 ⟨k.1.trans h.1, k.2.1.trans h.2.1, k.2.2.1.trans h.2.2.1, Qe h.2.2.2.1 k.2.2.2.1, fun g hg h1 h2 => (k.2.2.2.2 g (Qb hg h.2.2.2.1) h1 h2).trans (h.2.2.2.2 g hg h1 h2)⟩
theorem Rch.row (h : w.grownBy w1 (some P)) : Rch R P w w1 := ⟨h.os, h.tape, h.output, h.size, fun g hg _ h2 => h.block g hg (fun e => h2 (by injection e))⟩
theorem Rch.drewN (n : Nat) : Rch R P w (w.drewN n) := ⟨rfl, rfl, rfl, Qa _, fun _ _ _ _ => rfl⟩
theorem Rch.set_ (i : Nat) (v : Value) : Rch R P w (w.setCell ⟨R, i, none⟩ v) := ⟨rfl, rfl, rfl, by simp [World.setCell], fun g _ h1 _ => heap_setCell_other w _ _ _ (fun e => h1 (by rw [e]))⟩
theorem Rch.old (h : Rch R P w w1) {B : Nat} {w0 : World} (hb : Below B w0 w) (h1 : B <= w.heap.size) (hR : B <= R) (hP : B <= P) : Below B w0 w1 :=
 ⟨h.1.trans hb.os, h.2.1.trans hb.tape, h.2.2.1.trans hb.output, Qe hb.size h.2.2.2.1, fun g hg => (h.2.2.2.2 g (by omega) (by omega) (by omega)).trans (hb.block g hg)⟩
theorem Rch.below {B : Nat} (h : Below B w w1) (hB : w.heap.size <= B) : Rch R P w w1 := ⟨h.os, h.tape, h.output, h.size, fun g hg _ _ => h.block g (by omega)⟩
theorem Rch.blk (h : Rch R P w w1) {g t : Nat} {cs : Array Value} (hb : Blk w g t cs) (h1 : g ≠ R) (h2 : g ≠ P) : Blk w1 g t cs := (h.2.2.2.2 g hb.lt h1 h2).trans hb
end
section
variable {w w1 : World} {R P p z most e : Nat} {s : ByteArray}
theorem RdAt.drewN (h : RdAt w R P s p z most e) (n : Nat) : RdAt (w.drewN n) R P s p z most e := h
theorem RdAt.below {B : Nat} (h : RdAt w R P s p z most e) (hb : Below B w w1) (hR : R < B) (hP : P < B) : RdAt w1 R P s p z most e := ⟨h.1.below hb hR, h.2.1.below hb hP, h.2.2⟩
theorem RdAt.keep (h : RdAt w R P s p z most e) (hb : Below w.heap.size w w1) : RdAt w1 R P s p z most e := h.below hb h.1.lt h.2.1.lt
theorem RdAt.read (h : RdAt w R P s p z most e) {p' : Nat} (hS : SrcAt w1 P s p') (hg : w.grownBy w1 (some P)) : RdAt w1 R P s p' z most e := ⟨h.1.grown hg (fun e => h.2.2 (by injection e)), hS, h.2.2⟩
theorem RdAt.err (h : RdAt w R P s p z most e) (x : Nat) : RdAt (w.setCell ⟨R, 3, none⟩ (.int .i64 (x : Int))) R P s p z most x := by
 refine ⟨?_, Blk.far h.2.1 (Ne.symm h.2.2) _, h.2.2⟩
 have := h.1.set_ 3 (.int .i64 (x : Int))
 simpa using this
theorem RdAt.size (h : RdAt w R P s p z most e) (x : Nat) : RdAt (w.setCell ⟨R, 1, none⟩ (.int .i64 (x : Int))) R P s p x most e := by
 refine ⟨?_, Blk.far h.2.1 (Ne.symm h.2.2) _, h.2.2⟩
 have := h.1.set_ 1 (.int .i64 (x : Int))
 simpa using this
end
def firstE (e x : Nat) : Nat := if e = 0 then x else e
theorem fail_any (R P : Nat) (s : ByteArray) (p z most e x : Nat) (w : World) (hR : RdAt w R P s p z most e) :
 Calls Try.prog 69 #[.pointer (some ⟨R, 0, none⟩), .int .i64 (x : Int)] w fun r w' => r = .returned (.tuple #[]) /\ RdAt w' R P s p z most (firstE e x) /\ Rch R P w w' := by
 have c3 := hR.1.cell 3
 have f3 := hR.1.frozen 3
 simp at c3
 unfold firstE
 by_cases h0 : e = 0
 . have d0 : ((e : Int) == 0) = true := by simp; omega
   have HR := Qf (hR.err x)
   have HC : Hid (Rch R P w (w.setCell ⟨R, 3, none⟩ (.int .i64 (x : Int)))) := Rch.set_ 3 _
   rw [if_pos h0]
   clear hR h0
   go_enter Try.func69, Try.ntmps69
   go_wp2_with fail
   (try simp only [Exit.inBlock, Exit.then]); refine bodyPost_end (results_none rfl _ _ _) rfl ?_
   exact ⟨rfl, HR.out, HC.out⟩
 . have d0 : ((e : Int) == 0) = false := by simp; omega
   have HR := Qf hR
   rw [if_neg h0]
   clear hR h0
   go_enter Try.func69, Try.ntmps69
   go_wp2_with fail
   (try simp only [Exit.inBlock, Exit.then]); refine bodyPost_end (results_none rfl _ _ _) rfl ?_
   exact ⟨rfl, HR.out, Rch.refl _⟩
theorem bitsAt_lt (s : ByteArray) (p k : Nat) (hk : k <= 16) : bitsAt s p k < 65536 := by
 unfold bitsAt
 have h1 : num s / 2 ^ p % 2 ^ k < 2 ^ k := Nat.mod_lt _ (Nat.two_pow_pos k)
 have h2 : 2 ^ k <= 2 ^ 16 := Nat.pow_le_pow_right (by decide) hk
 have h3 : (2 : Nat) ^ 16 = 65536 := by decide
 omega
def bitsE (s : ByteArray) (p k e : Nat) : Nat := if 8 * s.size < p + k then firstE e 6 else e
theorem bits_any (R P : Nat) (s : ByteArray) (p z most e k : Nat) (hk : k <= 16) (hs : s.size <= 100000) (hp : p <= 1000000) (w : World) (hR : RdAt w R P s p z most e) :
 Calls Try.prog 65 #[.pointer (some ⟨R, 0, none⟩), .int .i64 (k : Int)] w fun r w' => r = .returned (.int .i64 (bitsAt s p k : Int)) /\ RdAt w' R P s (p + k) z most (bitsE s p k e) /\ Rch R P w w' := by
 have c0 := hR.1.cell 0
 simp at c0
 have CT := Qf (srcTake_any P s p k (k : Int) (.inr (.inl ⟨rfl, by omega⟩)) (by omega) (by omega) w hR.2.1)
 have hlt := bitsAt_lt s p k hk
 obtain ⟨v, Hv⟩ := Qi (bitsAt s p k)
 rw [Hv.out] at CT hlt ⊢
 have hw : IntKind.i64.wrap (v : Int) = (v : Int) := IntWalk.i64_in _ (by omega)
 have HR := Qf hR
 obtain ⟨E, HE⟩ := Qi (bitsE s p k e)
 rw [HE.out]
 clear hR
 go_enter Try.func65, Try.ntmps65
 go_wp2_with fail
 refine CT.out.mono ?_
 rintro r w1 ⟨rfl, hS1, hg1, _⟩
 have HR1 := Qf (HR.out.read hS1 hg1)
 have HC1 : Hid (Rch R P w w1) := Rch.row hg1
 have c1 := HR1.out.1.cell 0
 simp at c1
 have CS := srcShort_any P s (p + k) (by omega) w1 HR1.out.2.1
 obtain ⟨b, Hb⟩ := Qi (decide (8 * s.size < p + k))
 rw [Hb.out] at CS
 have HCS := Qf CS
 clear CS hS1 hg1 c0
 go_wp2_with fail
 refine HCS.out.mono ?_
 rintro r w2 ⟨rfl, n, rfl⟩
 have HR2 := Qf (HR1.out.drewN n)
 have HC2 : Hid (Rch R P w (w1.drewN n)) := HC1.out.trans (Rch.drewN n)
 clear HCS HR1 HC1 c1
 cases b with
 | true =>
  have hb : 8 * s.size < p + k := by simpa using Hb.out
  have CF := Qf (fail_any R P s (p + k) z most e 6 (w1.drewN n) HR2.out)
  have eE : firstE e 6 = E := by rw [<- HE.out]; unfold bitsE; rw [if_pos hb]
  rw [eE] at CF
  go_wp2_with fail
  refine CF.out.mono ?_
  rintro r w3 ⟨rfl, hR3, hC3⟩
  have HR3 := Qf hR3
  have HC3 := Qf (HC2.out.trans hC3)
  clear hR3 hC3 CF
  go_wp2_with fail
  go_ret
  exact ⟨rfl, HR3.out, HC3.out⟩
 | false =>
  have hb : ¬ 8 * s.size < p + k := by simpa using Hb.out
  have eE : E = e := by rw [<- HE.out]; unfold bitsE; rw [if_neg hb]
  go_wp2_with fail
  go_ret
  exact ⟨rfl, by rw [eE]; exact HR2.out, HC2.out⟩
def growE (most z e : Nat) : Nat := if most < z then firstE e 2 else e
theorem grow_any (R P : Nat) (s : ByteArray) (p z most e k : Nat) (hz : z <= 1000000000000) (_hm : most <= 1000000) (hk : k <= 1000000) (w : World) (hR : RdAt w R P s p z most e) :
 Calls Try.prog 87 #[.pointer (some ⟨R, 0, none⟩), .int .i64 (k : Int)] w fun r w' => r = .returned (.tuple #[]) /\ RdAt w' R P s p (z + k) most (growE most (z + k) e) /\ Rch R P w w' := by
 have c1 := hR.1.cell 1
 have f1 := hR.1.frozen 1
 simp at c1
 obtain ⟨z2, Hz2⟩ := Qi (z + k)
 have e2 : (z : Int) + (k : Int) = (z2 : Int) := by have := Hz2.out; omega
 have hz2 : z2 <= 2000000000000 := by have := Hz2.out; omega
 have hw : IntKind.i64.wrap ((z : Int) + (k : Int)) = (z2 : Int) := by rw [e2]; exact IntWalk.i64_in _ (by omega)
 have HR2 := Qf (hR.size z2)
 have HC : Hid (Rch R P w (w.setCell ⟨R, 1, none⟩ (.int .i64 (z2 : Int)))) := Rch.set_ 1 _
 rw [Hz2.out]
 obtain ⟨E, HE⟩ := Qi (growE most z2 e)
 rw [HE.out]
 clear hR
 go_enter Try.func87, Try.ntmps87
 go_wp2_with fail
 obtain ⟨w1, HW1⟩ := Qi (w.setCell ⟨R, 1, none⟩ (.int .i64 (z2 : Int)))
 rw [HW1.out] at HR2 HC ⊢
 have g1 := HR2.out.1.cell 1
 have g2 := HR2.out.1.cell 2
 simp at g1 g2
 clear HW1 c1 f1 hw e2
 obtain ⟨b, Hb⟩ := Qi (decide (most < z2))
 have hb1 : decide ((most : Int) < (z2 : Int)) = b := by
  rw [<- Hb.out]
  by_cases h : most < z2
  . rw [decide_eq_true h, decide_eq_true (by omega)]
  . rw [decide_eq_false h, decide_eq_false (by omega)]
 cases b with
 | true =>
  have hlt : most < z2 := by simpa using Hb.out
  have eE : firstE e 2 = E := by rw [<- HE.out]; unfold growE; rw [if_pos hlt]
  go_wp2_with fail
  go_quiet (fail)
  have CF := Qf (fun W hR => fail_any R P s p z2 most e 2 W hR)
  rw [eE] at CF
  go_wp2_with fail
  refine (CF.out _ (HR2.out.drewN _)).mono ?_
  rintro r w3 ⟨rfl, hR3, hC3⟩
  have HR3 := Qf hR3
  have HC3 := Qf (HC.out.trans ((Rch.drewN _).trans hC3))
  clear hR3 hC3 CF
  go_wp2_with fail
  (try simp only [Exit.inBlock, Exit.then]); refine bodyPost_end (results_none rfl _ _ _) rfl ?_
  exact ⟨rfl, HR3.out, HC3.out⟩
 | false =>
  have hlt : ¬ most < z2 := by simpa using Hb.out
  have eE : E = e := by rw [<- HE.out]; unfold growE; rw [if_neg hlt]
  go_wp2_with fail
  go_quiet (fail)
  go_wp2_with fail
  (try simp only [Exit.inBlock, Exit.then]); refine bodyPost_end (results_none rfl _ _ _) rfl ?_
  exact ⟨rfl, by rw [eE]; exact HR2.out, HC.out.trans (Rch.drewN _)⟩
theorem symbol_err (R P : Nat) (s : ByteArray) (p z most e : Nat) (he : e ≠ 0) (t : Value) (w : World) (hR : RdAt w R P s p z most e) :
 Calls Try.prog 89 #[.pointer (some ⟨R, 0, none⟩), t] w fun r w' => r = .returned (.int .i64 0) /\ RdAt w' R P s p z most e /\ Rch R P w w' := by
 have c3 := hR.1.cell 3
 simp at c3
 have d0 : ((e : Int) != 0) = true := by simp; omega
 have HR := Qf hR
 clear hR
 go_enter Try.func89, Try.ntmps89
 go_wp2_with fail
 go_ret
 exact ⟨rfl, HR.out, Rch.refl _⟩
theorem symbol_ok (L : Nat -> Nat) (n : Nat) (hL : ∀ s, InAll L n s -> L s <= 15) (hn : n <= 400) (T g N cap : Nat) (B : Nat -> Nat -> Int) (pv pn : Nat -> Nat) (hG : Grown (bitsF L n) L (InAll L n) B N pv pn)
 (R P : Nat) (s : ByteArray) (p z most : Nat) (hs : s.size <= 100000) (hp : p <= 1000000) (hTP : T ≠ P) (hgP : g ≠ P) (w : World) (hA : TreeAt w T g N cap B) (hR : RdAt w R P s p z most 0) :
 Calls Try.prog 89 #[.pointer (some ⟨R, 0, none⟩), .pointer (some ⟨T, 0, none⟩)] w fun r w' => ∃ sym err taken : Nat, r = .returned (.int .i64 (sym : Int)) /\
  NextOut (bitsF L n) L (InAll L n) (num s / 2 ^ p) (8 * s.size) p sym err taken /\ taken <= 16 /\ RdAt w' R P s (p + taken) z most err /\ Rch R P w w' := by
 have CN := Qf (next_any (bitsF L n) L (InAll L n) T g N cap B pv pn hG hL (fun s h => by have := h.1; omega) P s p hs hp hTP hgP w hA hR.2.1)
 have c0 := hR.1.cell 0
 have c3 := hR.1.cell 3
 simp at c0 c3
 have HR := Qf hR
 clear hR hA hG
 go_enter Try.func89, Try.ntmps89
 go_wp2_with fail
 refine CN.out.mono ?_
 rintro r w1 ⟨sym, err, taken, rfl, hN, ht, hS1, hg1, _⟩
 have HN := Qf hN
 have HR1 := Qf (HR.out.read hS1 hg1)
 have HC1 : Hid (Rch R P w w1) := Rch.row hg1
 have CF := Qf (fail_any R P s (p + taken) z most 0 err w1 HR1.out)
 clear hN hS1 hg1 c0 c3 CN
 go_wp2_with fail
 refine CF.out.mono ?_
 rintro r w2 ⟨rfl, hR2, hC2⟩
 have HR2 := Qf hR2
 have HC2 := Qf (HC1.out.trans hC2)
 clear hR2 hC2 CF
 go_wp2_with fail
 go_ret
 exact ⟨sym, err, taken, rfl, HN.out, ht, HR2.out, HC2.out⟩
theorem plant_err (R P : Nat) (s : ByteArray) (p z most e : Nat) (he : e ≠ 0) (v : Value) (w : World) (hR : RdAt w R P s p z most e) :
 Calls Try.prog 88 #[.pointer (some ⟨R, 0, none⟩), v] w fun r w' => r = .returned (.pointer none) /\ RdAt w' R P s p z most e /\ Rch R P w w' := by
 have c3 := hR.1.cell 3
 simp at c3
 have d0 : ((e : Int) != 0) = true := by simp; omega
 have HR := Qf hR
 clear hR
 go_enter Try.func88, Try.ntmps88
 go_wp2_with fail
 go_ret
 exact ⟨rfl, HR.out, Rch.refl _⟩
theorem rplant_ok (a : Option Addr) (n cap : Nat) (m : Nat -> Int) (hn : n <= 320) (hm : ∀ i, i < n -> 0 <= m i /\ m i <= 15) (R P : Nat) (s : ByteArray) (p z most : Nat) (w : World) (hr : IRow w a n m) (hR : RdAt w R P s p z most 0) :
 Calls Try.prog 88 #[.pointer (some ⟨R, 0, none⟩), .slice a n cap] w fun r w' => Rch R P w w' /\
  (
   (¬ Fits (parts (lens m) n) (someOf (lens m) n) /\ r = .returned (.pointer none) /\ RdAt w' R P s p z most 3) \/
   (Fits (parts (lens m) n) (someOf (lens m) n) /\ ∃ (T g N cap : Nat) (B : Nat -> Nat -> Int) (pv pn : Nat -> Nat), r = .returned (.pointer (some ⟨T, 0, none⟩)) /\ w.heap.size <= T /\ w.heap.size <= g /\ TreeAt w' T g N cap B /\
    Grown (bitsF (lens m) n) (lens m) (InAll (lens m) n) B N pv pn /\ RdAt w' R P s p z most 0)) := by
 have CP := Qf (plant_any a n cap m (by omega) w hr)
 have c3 := hR.1.cell 3
 simp at c3
 have HR := Qf hR
 have Hm := Qf hm
 clear hR hr hm
 go_enter Try.func88, Try.ntmps88
 go_wp2_with fail
 refine CP.out.mono ?_
 intro r w1 h
 obtain ⟨hb, ⟨h1, rfl⟩ | ⟨h1, ⟨i, h2, h3⟩, rfl⟩ | ⟨h1, h2, h3, rfl⟩ | ⟨h1, h2, h3, T, g, N, cp, B, pv, pn, rfl, hT, hg, hA, hN, hG⟩⟩ := h
 . omega
 . exact absurd (Hm.out i h2) h3
 . have HR1 := Qf (HR.out.keep hb)
   have HC1 : Hid (Rch R P w w1) := Rch.below hb (Qa _)
   have H3 := Qf h3
   have CF := Qf (fail_any R P s p z most 0 3 w1 HR1.out)
   clear hb h1 h2 h3 CP c3
   unfold badT
   go_wp2_with fail
   refine CF.out.mono ?_
   rintro r w2 ⟨rfl, hR2, hC2⟩
   have HR2 := Qf hR2
   have HC2 := Qf (HC1.out.trans hC2)
   clear hR2 hC2 CF
   go_wp2_with fail
   go_ret
   exact ⟨HC2.out, .inl ⟨H3.out, rfl, HR2.out⟩⟩
 . have HR1 := Qf (HR.out.keep hb)
   have HC1 : Hid (Rch R P w w1) := Rch.below hb (Qa _)
   have H3 := Qf h3
   have HA := Qf hA
   have HG := Qf hG
   clear hb h1 h2 h3 CP c3 hA hG
   go_wp2_with fail
   go_ret
   exact ⟨HC1.out, .inr ⟨H3.out, T, g, N, cp, B, pv, pn, rfl, hT, hg, HA.out, HG.out, HR1.out⟩⟩
theorem xor16_of (b : Nat) (hb : b < 65536) : 65535 ^^^ b = 65535 - b := by
 apply Nat.eq_of_testBit_eq
 intro i
 rw [Nat.testBit_xor, show (65535 : Nat) - b = 2 ^ 16 - (b + 1) by omega, Nat.testBit_two_pow_sub_succ (by omega), show (65535 : Nat) = 2 ^ 16 - 1 by decide, Nat.testBit_two_pow_sub_one]
 by_cases h : i < 16
 . simp [h]
 . have : b.testBit i = false := Nat.testBit_lt_two_pow (Qb hb (by rw [show (65536 : Nat) = 2 ^ 16 by decide]; exact Nat.pow_le_pow_right (by decide) (by omega)))
   simp [h, this]
theorem xor16 (a b : Nat) (_ha : a < 65536) (hb : b < 65536) : a ^^^ b = 65535 ↔ a + b = 65535 := by
 constructor
 . intro h
   have e : a = 65535 ^^^ b := by rw [<- h, Nat.xor_assoc, Nat.xor_self, Nat.xor_zero]
   rw [xor16_of b hb] at e
   omega
 . intro h
   have e : a = 65535 - b := by omega
   rw [e, <- xor16_of b hb, Nat.xor_assoc, Nat.xor_self, Nat.xor_zero]
theorem i64_xor16 (a b : Nat) (ha : a < 65536) (hb : b < 65536) : bits .xor .i64 (a : Int) (b : Int) = ((a ^^^ b : Nat) : Int) := by
 have h := Nat.xor_lt_two_pow (n := 16) (x := a) (y := b) (by simpa using ha) (by simpa using hb)
 have h2 : (2 : Nat) ^ 16 = 65536 := by decide
 show IntKind.i64.wrap ((BitVec.ofInt 64 (a : Int) ^^^ BitVec.ofInt 64 (b : Int)).toNat : Int) = _
 rw [BitVec.toNat_xor, ofInt_u64 a (by omega), ofInt_u64 b (by omega), IntKind.wrap_i64]
 omega
def stoF (s : ByteArray) (p : Nat) : Nat := min ((p + 7) / 8) s.size
def stoT (s : ByteArray) (p k : Nat) : Nat := min (stoF s p + k) s.size
set_option maxHeartbeats 8000000 in
theorem stored_raw (R P : Nat) (s : ByteArray) (p z most e p0 v1 e1 v2 e2 e3 : Nat) (hs : s.size <= 100000) (hp : p <= 900000) (hz : z <= 1000000) (hm : most <= 1000000)
 (hp0 : (p + 7) / 8 * 8 = p0) (hv1 : bitsAt s p0 16 = v1) (he1 : bitsE s p0 16 e = e1) (hv2 : bitsAt s (p0 + 16) 16 = v2) (he2 : bitsE s (p0 + 16) 16 e1 = e2) (he3 : (if v1 ^^^ v2 = 65535 then e2 else firstE e2 3) = e3)
 (w : World) (hR : RdAt w R P s p z most e) :
 Calls Try.prog 66 #[.pointer (some ⟨R, 0, none⟩)] w fun r w' => Rch R P w w' /\
  (
   (e3 ≠ 0 /\ r = .returned (.string ⟨#[]⟩) /\ RdAt w' R P s (p0 + 16 + 16) z most e3) \/
   (e3 = 0 /\ r = .returned (.string (s.extract (stoF s (p0 + 16 + 16)) (stoT s (p0 + 16 + 16) v1))) /\ RdAt w' R P s ((p0 + 16 + 16 + 7) / 8 * 8 + 8 * v1) (z + v1) most (growE most (z + v1) (if stoT s (p0 + 16 + 16) v1 - stoF s (p0 + 16 + 16) < v1 then 6 else 0)))) := by
 have hp0l : p0 <= 900007 := by omega
 have hv1l : v1 < 65536 := by rw [<- hv1]; exact bitsAt_lt s p0 16 (by decide)
 have hv2l : v2 < 65536 := by rw [<- hv2]; exact bitsAt_lt s (p0 + 16) 16 (by decide)
 have hx := i64_xor16 v1 v2 hv1l hv2l
 obtain ⟨x, Hx⟩ := Qi (v1 ^^^ v2)
 rw [Hx.out] at hx he3
 have c0 := hR.1.cell 0
 simp at c0
 have CE := srcEven_any P s p (by omega) w hR.2.1
 rw [hp0] at CE
 have HCE := Qf CE
 have CB1 := fun W hR => bits_any R P s p0 z most e 16 (by decide) hs (by omega) W hR
 rw [hv1, he1] at CB1
 have CB2 := fun W hR => bits_any R P s (p0 + 16) z most e1 16 (by decide) hs (by omega) W hR
 rw [hv2, he2] at CB2
 have H1 := Qf CB1
 have H2 := Qf CB2
 have HR := Qf hR
 have He3 := Qf he3
 obtain ⟨f, Hf⟩ := Qi (stoF s (p0 + 16 + 16))
 obtain ⟨t, Ht⟩ := Qi (stoT s (p0 + 16 + 16) v1)
 obtain ⟨p3, Hp3⟩ := Qi (p0 + 16 + 16)
 have hp3 : p3 <= 900039 := by have := Hp3.out; omega
 have HT : Hid (∀ W, RdAt W R P s p3 z most 0 -> Calls Try.prog 86 #[.pointer (some ⟨P, 0, none⟩), .int .i64 (v1 : Int)] W fun r w' => r = .returned (.string (s.extract f t)) /\ RdAt w' R P s ((p3 + 7) / 8 * 8 + 8 * v1) z most 0 /\ Rch R P W w') := by
  intro W hW
  have C := srcText_any P s p3 v1 (v1 : Int) (.inr (.inl ⟨rfl, by omega⟩)) (by omega) (by omega) W hW.2.1
  have ef : min ((p3 + 7) / 8) s.size = f := by rw [<- Hf.out, Hp3.out]; rfl
  have et : min (f + v1) s.size = t := by rw [<- Ht.out, Hp3.out]; unfold stoT; rw [show stoF s p3 = f by rw [<- Hf.out, Hp3.out]]
  rw [ef, et] at C
  exact C.mono fun r w' ⟨a1, a2, a3, _⟩ => ⟨a1, hW.read a2 a3, Rch.row a3⟩
 have htf : t - f <= v1 /\ (s.extract f t).size = t - f := by
  have ef : min ((p3 + 7) / 8) s.size = f := by rw [<- Hf.out, Hp3.out]; rfl
  have et : min (f + v1) s.size = t := by rw [<- Ht.out, Hp3.out]; unfold stoT; rw [show stoF s p3 = f by rw [<- Hf.out, Hp3.out]]
  rw [ByteArray.size_extract]
  omega
 obtain ⟨tx, Htx⟩ := Qi (s.extract f t)
 obtain ⟨nf, Hnf⟩ := Qi (t - f)
 rw [Htx.out] at htf HT
 rw [Hnf.out] at htf
 obtain ⟨hnf, hsz⟩ := htf
 obtain ⟨E5, HE5⟩ := Qi (growE most (z + v1) (if nf < v1 then 6 else 0))
 obtain ⟨p5, Hp5⟩ := Qi ((p3 + 7) / 8 * 8 + 8 * v1)
 rw [Hp5.out] at HT
 rw [Hf.out, Ht.out, Hp3.out, Htx.out, Hnf.out, HE5.out, Hp5.out]
 rw [Hp3.out] at H2
 clear CE CB1 CB2 hR he3 hv1 hv2 he1 he2 hp0
 go_enter Try.func66, Try.ntmps66
 go_wp2_with fail
 refine HCE.out.mono ?_
 rintro r w1 ⟨rfl, hS1, hg1, _⟩
 have HR1 := Qf (HR.out.read hS1 hg1)
 have HC1 : Hid (Rch R P w w1) := Rch.row hg1
 clear hS1 hg1 c0
 go_wp2_with fail
 refine (H1.out _ HR1.out).mono ?_
 rintro r w2 ⟨rfl, hR2, hC2⟩
 have HR2 := Qf hR2
 have HC2 := Qf (HC1.out.trans hC2)
 clear hR2 hC2 HR1 HC1
 go_wp2_with fail
 refine (H2.out _ HR2.out).mono ?_
 rintro r w3 ⟨rfl, hR3, hC3⟩
 have HR3 := Qf hR3
 have HC3 := Qf (HC2.out.trans hC3)
 clear hR3 hC3 HR2 HC2
 by_cases hX : x = 65535
 . have dx : ((x : Int) != 65535) = false := by simp; omega
   have e3e : e2 = e3 := by have := He3.out; rwa [if_pos hX] at this
   subst e3e
   have c3 := HR3.out.1.cell 3
   have c0 := HR3.out.1.cell 0
   simp at c3 c0
   by_cases h0 : e2 = 0
   . subst h0
     have dt : decide ((nf : Int) < (v1 : Int)) = decide (nf < v1) := by
      by_cases h : nf < v1
      . rw [decide_eq_true h, decide_eq_true (by omega)]
      . rw [decide_eq_false h, decide_eq_false (by omega)]
     go_wp2_with fail
     refine (HT.out _ HR3.out).mono ?_
     rintro r w4 ⟨rfl, hR4, hC4⟩
     have HR4 := Qf hR4
     have HC4 := Qf (HC3.out.trans hC4)
     clear hR4 hC4 HR3 HC3 c3 c0
     by_cases hl : nf < v1
     . have dl : decide ((nf : Int) < (v1 : Int)) = true := Qg (by omega)
       have dl2 : decide (nf < v1) = true := Qg (by omega)
       have E5e : growE most (z + v1) 6 = E5 := by have := HE5.out; rwa [if_pos hl] at this
       clear dt
       go_wp2_with fail
       refine (fail_any R P s p5 z most 0 6 w4 HR4.out).mono ?_
       rintro r w5 ⟨rfl, hR5, hC5⟩
       have HR5 : Hid (RdAt w5 R P s p5 z most 6) := hR5
       have HC5 := Qf (HC4.out.trans hC5)
       clear hR5 hC5 HR4 HC4
       go_wp2_with fail
       refine (grow_any R P s p5 z most 6 v1 (by omega) hm (by omega) w5 HR5.out).mono ?_
       rintro r w6 ⟨rfl, hR6, hC6⟩
       rw [E5e] at hR6
       have HR6 := Qf hR6
       have HC6 := Qf (HC5.out.trans hC6)
       clear hR6 hC6 HR5 HC5
       go_wp2_with fail
       go_ret
       first | exact ⟨HC6.out, .inr ⟨rfl, rfl, HR6.out⟩⟩ | exact ⟨HC6.out, rfl, HR6.out⟩
     . have dl : decide ((nf : Int) < (v1 : Int)) = false := Qh (by omega)
       have dl2 : decide (nf < v1) = false := Qh (by omega)
       have E5e : growE most (z + v1) 0 = E5 := by have := HE5.out; rwa [if_neg hl] at this
       clear dt
       go_wp2_with fail
       refine (grow_any R P s p5 z most 0 v1 (by omega) hm (by omega) w4 HR4.out).mono ?_
       rintro r w6 ⟨rfl, hR6, hC6⟩
       rw [E5e] at hR6
       have HR6 := Qf hR6
       have HC6 := Qf (HC4.out.trans hC6)
       clear hR6 hC6 HR4 HC4
       go_wp2_with fail
       go_ret
       first | exact ⟨HC6.out, .inr ⟨rfl, rfl, HR6.out⟩⟩ | exact ⟨HC6.out, rfl, HR6.out⟩
   . have d0 : ((e2 : Int) != 0) = true := by simp; omega
     go_wp2_with fail
     go_ret
     exact ⟨HC3.out, .inl ⟨h0, rfl, HR3.out⟩⟩
 . have dx : ((x : Int) != 65535) = true := by simp; omega
   have e3e : firstE e2 3 = e3 := by have := He3.out; rwa [if_neg hX] at this
   have h0 : e3 ≠ 0 := by rw [<- e3e]; unfold firstE; split <;> omega
   have d0 : ((e3 : Int) != 0) = true := by simp; omega
   go_wp2_with fail
   refine (fail_any R P s p3 z most e2 3 w3 HR3.out).mono ?_
   rintro r w4 ⟨rfl, hR4, hC4⟩
   rw [e3e] at hR4
   have c3 := hR4.1.cell 3
   simp at c3
   have HR4 := Qf hR4
   have HC4 := Qf (HC3.out.trans hC4)
   clear hR4 hC4 HR3 HC3
   go_wp2_with fail
   go_ret
   exact ⟨HC4.out, .inl ⟨h0, rfl, HR4.out⟩⟩
def sg (s : ByteArray) (p z : Nat) : Sg := ⟨num s / 2 ^ p, 8 * s.size - p, z⟩
theorem bits_sg (s : ByteArray) (p z k : Nat) (hp : p + k <= 8 * s.size) : bitsM k (sg s p z) = .ok (bitsAt s p k, sg s (p + k) z) := by
 unfold bitsM sg
 have h : ¬ 8 * s.size - p < k := by omega
 rw [if_neg h]
 unfold bitsAt
 have e1 : num s / 2 ^ p / 2 ^ k = num s / 2 ^ (p + k) := by rw [Nat.div_div_eq_div_mul, <- Nat.pow_add]
 have e2 : 8 * s.size - p - k = 8 * s.size - (p + k) := by omega
 rw [e1, e2]
theorem bits_sg_short (s : ByteArray) (p z k : Nat) (hp : p <= 8 * s.size) (hk : 8 * s.size < p + k) : bitsM k (sg s p z) = .error 6 := by
 unfold bitsM sg
 have h : 8 * s.size - p < k := by omega
 rw [if_pos h]
theorem even_sg (s : ByteArray) (p z : Nat) (hp : p <= 8 * s.size) : evenM (sg s p z) = sg s ((p + 7) / 8 * 8) z /\ (p + 7) / 8 * 8 <= 8 * s.size := by
 refine ⟨?_, by omega⟩
 unfold evenM sg
 have e0 : (8 * s.size - p) % 8 = (p + 7) / 8 * 8 - p := by omega
 have e1 : num s / 2 ^ p / 2 ^ ((p + 7) / 8 * 8 - p) = num s / 2 ^ ((p + 7) / 8 * 8) := by
  rw [Nat.div_div_eq_div_mul, <- Nat.pow_add, show p + ((p + 7) / 8 * 8 - p) = (p + 7) / 8 * 8 by omega]
 have e2 : 8 * s.size - p - ((p + 7) / 8 * 8 - p) = 8 * s.size - (p + 7) / 8 * 8 := by omega
 simp only [e0]
 rw [e1, e2]
theorem bytesX_at (s : ByteArray) (k : Nat) : ∀ q, q + k <= s.size -> bytesX (num s / 2 ^ (8 * q)) k = ((s.data.toList).drop q).take k := by
 induction k with
 | zero => intro q _; rfl
 | succ k ih =>
  intro q hq
  have hlt : q < s.size := by omega
  have h1 := num_byte s q hlt
  have e1 : num s / 2 ^ (8 * q) % 256 = (s[q]).toNat := by
   rw [Nat.pow_mul, show (2 : Nat) ^ 8 = 256 by decide]
   exact h1
  have e2 : num s / 2 ^ (8 * q) / 256 = num s / 2 ^ (8 * (q + 1)) := by
   rw [Nat.div_div_eq_div_mul, show (256 : Nat) = 2 ^ 8 by decide, <- Nat.pow_add]
   congr 2
  show UInt8.ofNat (num s / 2 ^ (8 * q) % 256) :: bytesX (num s / 2 ^ (8 * q) / 256) k = _
  have hd := List.drop_eq_getElem_cons (l := s.data.toList) (i := q) (by simpa using hlt)
  rw [e1, e2, ih (q + 1) (by omega), hd, List.take_succ_cons]
  congr 1
  simp
  rfl
theorem extract_list (s : ByteArray) (a b : Nat) : s.extract a b = ⟨(((s.data.toList).drop a).take (b - a)).toArray⟩ := by
 apply ByteArray.ext
 rw [ByteArray.data_extract]
 apply Array.ext'
 rw [Array.toList_extract, List.extract_eq_take_drop]
theorem stored_err (R P : Nat) (s : ByteArray) (p z most e : Nat) (he : e ≠ 0) (hs : s.size <= 100000) (hp : p <= 900000) (hz : z <= 1000000) (hm : most <= 1000000) (w : World) (hR : RdAt w R P s p z most e) :
 Calls Try.prog 66 #[.pointer (some ⟨R, 0, none⟩)] w fun r w' => Rch R P w w' /\ (∃ t, r = .returned (.string t)) /\ ∃ p', RdAt w' R P s p' z most e := by
 have h1 : ∀ a k, bitsE s a k e = e := fun a k => by unfold bitsE firstE; split <;> first | rfl | rw [if_neg he]
 refine (stored_raw R P s p z most e _ _ _ _ _ _ hs hp hz hm rfl rfl rfl rfl rfl rfl w hR).mono ?_
 rintro r w' ⟨hc, hh⟩
 simp only [h1] at hh
 have h2 : ∀ a : Nat, (if a = 65535 then e else firstE e 3) = e := fun a => by split <;> simp [firstE, he]
 simp only [h2] at hh
 rcases hh with ⟨_, a2, a3⟩ | ⟨a1, _⟩
 . exact ⟨hc, ⟨_, a2⟩, _, a3⟩
 . exact absurd a1 he
def RdRes (w' : World) (R P : Nat) (s : ByteArray) (most : Nat) {α : Type} (res : Rs α) (val : α -> Prop) : Prop :=
 (∃ e p z, res = .error e /\ e ≠ 0 /\ RdAt w' R P s p z most e) \/ (∃ a p z, res = .ok (a, sg s p z) /\ p <= 8 * s.size /\ z <= most /\ RdAt w' R P s p z most 0 /\ val a)
theorem stored_m (R P : Nat) (s : ByteArray) (p z most : Nat) (hs : s.size <= 100000) (hp : p <= 8 * s.size) (hz : z <= most) (hm : most <= 1000000) (w : World) (hR : RdAt w R P s p z most 0) :
 Calls Try.prog 66 #[.pointer (some ⟨R, 0, none⟩)] w fun r w' => Rch R P w w' /\ (∃ t, r = .returned (.string t)) /\ RdRes w' R P s most (storedM most (sg s p z)) (fun l => r = .returned (.string ⟨l.toArray⟩)) := by
 refine (stored_raw R P s p z most 0 _ _ _ _ _ _ hs (by omega) (by omega) hm rfl rfl rfl rfl rfl rfl w hR).mono ?_
 rintro r w' ⟨hc, hh⟩
 obtain ⟨he, hp0⟩ := even_sg s p z hp
 obtain ⟨p0, Hp0⟩ : ∃ p0, (p + 7) / 8 * 8 = p0 := ⟨_, rfl⟩
 have hp8 : p0 % 8 = 0 := by omega
 simp only [Hp0] at hh he hp0
 unfold storedM
 rw [he]
 by_cases h1 : 8 * s.size < p0 + 16
 . rw [bits_sg_short s p0 z 16 hp0 h1]
   have e1 : bitsE s p0 16 0 = 6 := by unfold bitsE; rw [if_pos h1]; rfl
   have e2 : bitsE s (p0 + 16) 16 6 = 6 := by unfold bitsE firstE; split <;> rfl
   simp only [e1, e2] at hh
   have h2 : ∀ a : Nat, (if a = 65535 then 6 else firstE 6 3) = 6 := fun a => by split <;> rfl
   simp only [h2] at hh
   rcases hh with ⟨_, a2, a3⟩ | ⟨a1, _⟩
   . exact ⟨hc, ⟨_, a2⟩, .inl ⟨6, _, _, rfl, by decide, a3⟩⟩
   . exact absurd a1 (by decide)
 . rw [bits_sg s p0 z 16 (by omega), thenR_ok]
   have e1 : bitsE s p0 16 0 = 0 := by unfold bitsE; rw [if_neg h1]
   simp only [e1] at hh
   by_cases h2 : 8 * s.size < p0 + 16 + 16
   . rw [bits_sg_short s (p0 + 16) z 16 (by omega) h2]
     have e2 : bitsE s (p0 + 16) 16 0 = 6 := by unfold bitsE; rw [if_pos h2]; rfl
     simp only [e2] at hh
     have h3 : ∀ a : Nat, (if a = 65535 then 6 else firstE 6 3) = 6 := fun a => by split <;> rfl
     simp only [h3] at hh
     rcases hh with ⟨_, a2, a3⟩ | ⟨a1, _⟩
     . exact ⟨hc, ⟨_, a2⟩, .inl ⟨6, _, _, rfl, by decide, a3⟩⟩
     . exact absurd a1 (by decide)
   . rw [bits_sg s (p0 + 16) z 16 (by omega), thenR_ok]
     have e2 : bitsE s (p0 + 16) 16 0 = 0 := by unfold bitsE; rw [if_neg h2]
     simp only [e2] at hh
     have hv1l := bitsAt_lt s p0 16 (by decide)
     have hv2l := bitsAt_lt s (p0 + 16) 16 (by decide)
     obtain ⟨v1, Hv1⟩ : ∃ v, bitsAt s p0 16 = v := ⟨_, rfl⟩
     obtain ⟨v2, Hv2⟩ : ∃ v, bitsAt s (p0 + 16) 16 = v := ⟨_, rfl⟩
     simp only [Hv1, Hv2] at hh hv1l hv2l ⊢
     have hx := xor16 v1 v2 hv1l hv2l
     by_cases h3 : v1 ^^^ v2 = 65535
     . have h3b : ¬ (v1 + v2 ≠ 65535) := fun h => h (hx.1 h3)
       rw [if_neg h3b]
       rw [if_pos h3] at hh
       rcases hh with ⟨a1, _⟩ | ⟨_, a2, a3⟩
       . exact absurd rfl a1
       . refine ⟨hc, ⟨_, a2⟩, ?_⟩
         have ep : (p0 + 16 + 16 + 7) / 8 * 8 = p0 + 16 + 16 := by omega
         obtain ⟨q, hq⟩ : ∃ q, p0 + 16 + 16 = 8 * q := ⟨(p0 + 16 + 16) / 8, by omega⟩
         have hqs : q <= s.size := by omega
         rw [hq] at a2 a3 ep h2 ⊢
         rw [ep] at a3
         have ef : stoF s (8 * q) = q := by unfold stoF; omega
         have et : stoT s (8 * q) v1 = min (q + v1) s.size := by unfold stoT; rw [ef]
         rw [ef, et] at a2 a3
         by_cases h4 : s.size < q + v1
         . have h5 : (sg s (8 * q) z).n < 8 * v1 := by show 8 * s.size - 8 * q < 8 * v1; omega
           rw [if_pos h5]
           have e3 : min (q + v1) s.size - q < v1 := by omega
           rw [if_pos e3] at a3
           have e4 : growE most (z + v1) 6 = 6 := by unfold growE firstE; split <;> rfl
           rw [e4] at a3
           exact .inl ⟨6, _, _, rfl, by decide, a3⟩
         . have h5 : ¬ (sg s (8 * q) z).n < 8 * v1 := by show ¬ 8 * s.size - 8 * q < 8 * v1; omega
           rw [if_neg h5]
           have e3 : ¬ min (q + v1) s.size - q < v1 := by omega
           rw [if_neg e3] at a3
           unfold growM
           have e5 : (sg s (8 * q) z).out = z := rfl
           simp only [e5]
           by_cases h6 : most < z + v1
           . rw [if_pos h6, thenR_err]
             have e4 : growE most (z + v1) 0 = 2 := by unfold growE; rw [if_pos h6]; rfl
             rw [e4] at a3
             exact .inl ⟨2, _, _, rfl, by decide, a3⟩
           . rw [if_neg h6, thenR_ok]
             have e4 : growE most (z + v1) 0 = 0 := by unfold growE; rw [if_neg h6]
             rw [e4] at a3
             refine .inr ⟨bytesX (sg s (8 * q) z).X v1, 8 * q + 8 * v1, z + v1, ?_, by omega, by omega, a3, ?_⟩
             . have e7 : (sg s (8 * q) z).X = num s / 2 ^ (8 * q) := rfl
               have e8 : (sg s (8 * q) z).n = 8 * s.size - 8 * q := rfl
               unfold sg
               congr 2
               . simp only [Sg.mk.injEq]
                 refine ⟨?_, by omega, trivial⟩
                 rw [Nat.div_div_eq_div_mul, <- Nat.pow_add]
             . have e7 : (sg s (8 * q) z).X = num s / 2 ^ (8 * q) := rfl
               rw [a2, extract_list, e7, bytesX_at s v1 q (by omega), show min (q + v1) s.size - q = v1 by omega]
     . have h3b : v1 + v2 ≠ 65535 := fun h => h3 (hx.2 h)
       rw [if_pos h3b]
       rw [if_neg h3] at hh
       rcases hh with ⟨_, a2, a3⟩ | ⟨a1, _⟩
       . exact ⟨hc, ⟨_, a2⟩, .inl ⟨3, _, _, rfl, by decide, a3⟩⟩
       . exact absurd a1 (by decide)
noncomputable def inflR (u : ByteArray) (most : Nat) : Rs (List Bk) := blocksM most (8 * u.size + 1) (sg u 0 0) []
theorem infl_out {u : ByteArray} {most : Nat} {bs : List Bk} {σ : Sg} (h : inflR u most = .ok (bs, σ)) : blksOK 0 bs /\ σ.out = blenS bs /\ σ.out <= most /\ (joinL [] bs).length = σ.out := by
 obtain ⟨c, h1, h2, h3, h4⟩ := blocksM_ok _ h (Nat.zero_le _)
 rw [List.nil_append] at h1
 subst h1
 have h5 : σ.out = blenS bs := by rw [h3]; exact Nat.zero_add _
 exact ⟨h2, h5, h4, by rw [joinL_len, h5]; exact Nat.zero_add _⟩
theorem blocksM_count {most : Nat} : ∀ (f : Nat) {σ σ' : Sg} {bs bs' : List Bk}, blocksM most f σ bs = .ok (bs', σ') -> bs'.length + σ'.n <= bs.length + σ.n := by
 intro f
 induction f with
 | zero => intro σ σ' bs bs' h; cases h
 | succ f ih =>
  intro σ σ' bs bs' h
  obtain ⟨r, σ1, h1, h⟩ := thenR_inv (x := blockM most σ) h
  have hl := blockM_less h1
  split at h
  . have := ih h
    rw [List.length_append] at this
    have e : [r.2].length = 1 := rfl
    omega
  . injection h with h; injection h with h2 h; subst h; subst h2
    rw [List.length_append]
    have e : [r.2].length = 1 := rfl
    omega
theorem toks_count (S : List Tok) : ∀ n, toksOK n S -> S.length <= tlenS S := by
 induction S with
 | nil => intro n _; exact Qa _
 | cons t r ih =>
  intro n h
  have h1 := ih _ h.2
  have h2 : 1 <= tlen t := by
   unfold tlen
   split
   . exact Qa _
   . rcases h.1 with h | ⟨h, _⟩
     . contradiction
     . omega
  show r.length + 1 <= tlen t + tlenS r
  omega
theorem blks_count (bs : List Bk) : ∀ n, blksOK n bs -> ∀ b ∈ bs, b.toks.length <= blenS bs := by
 induction bs with
 | nil => intro n _ b hb; cases hb
 | cons x r ih =>
  intro n h b hb
  show _ <= (x.bytes.length + tlenS x.toks) + blenS r
  rcases List.mem_cons.1 hb with rfl | hb
  . have := toks_count _ _ h.1
    omega
  . have := ih _ h.2 b hb
    omega
noncomputable def inflT (d : ByteArray) (most : Nat) : Option (ByteArray × Nat) := match inflR d most with | .error _ => none | .ok (bs, σ) => some (⟨(joinL [] bs).toArray⟩, (8 * d.size - σ.n + 7) / 8)
def locB (h : Hd) : ByteArray := ⟨(localL h).toArray⟩
noncomputable def openC (t : ByteArray) (h : Hd) : Except Nat ByteArray := if (t.size : Int) ≠ h.size then .error 3 else if crcOf 0 t.data.toList ≠ h.crc then .error 5 else .ok t
noncomputable def openD (d : ByteArray) (h : Hd) : Except Nat ByteArray := if h.method = 0 then openC d h else if h.method = 8 then (match inflT d h.size.toNat with | none => .error 3 | some (t, n) => if n = d.size then openC t h else .error 3) else .error 12
noncomputable def openS (u : ByteArray) (h : Hd) : Except Nat ByteArray := if (u.size : Int) < h.packed then .error 3 else if 65536 < h.size then .error 2 else openD (u.extract 0 h.packed.toNat) h
noncomputable def openR (r : ByteArray) (h : Hd) : Except Nat ByteArray := if r.size < (locB h).size \/ r.extract 0 (locB h).size ≠ locB h then .error 3 else openS (r.extract (locB h).size r.size) h
noncomputable def openF (s : ByteArray) (h : Hd) : Except Nat ByteArray := if h.place < 0 \/ (s.size : Int) < h.place \/ h.packed < 0 \/ h.size < 0 then .error 1 else openR (s.extract h.place.toNat s.size) h
noncomputable def readL (s : ByteArray) : List Hd -> Nat -> List Fl -> Except Nat (List Fl × Nat)
 | [], p, out => .ok (out, p)
 | h :: r, p, out => match openF s h with
  | .error e => .error e
  | .ok t => if h.place ≠ (p : Int) then .error 3 else readL s r (p + 30 + h.name.size + h.packed.toNat) (out ++ [(h.name, t)])
noncomputable def readF (s : ByteArray) : Except Nat (List Fl) :=
 match headsF s with
 | .error e => .error e
 | .ok l => match readL s l 0 [] with
  | .error e => .error e
  | .ok (out, p) => if p ≠ atN s (s.size - 22 + 16) 4 then .error 3 else .ok out
structure Part where
 h : Hd
 d : ByteArray
 x : ByteArray
def partL (p : Part) : List UInt8 := localL p.h ++ p.d.data.toList
def archL (P : List Part) : List UInt8 := P.flatMap partL
def Placed : Nat -> List Part -> Prop
 | _, [] => True
 | n, p :: r => p.h.place = (n : Int) /\ p.h.packed = (p.d.size : Int) /\ p.h.Fit /\ Placed (n + 30 + p.h.name.size + p.d.size) r
def wholeL (P : List Part) : List UInt8 := archL P ++ indexL (P.map Part.h) ((archL P).length : Int)
theorem localL_len (h : Hd) : (localL h).length = 30 + h.name.size := by
 unfold localL
 have : h.name.data.toList.length = h.name.size := by simp
 rw [List.length_append, List.length_append, factsL_len, this]; show 4 + 26 + _ = _; omega
theorem locB_size (h : Hd) : (locB h).size = 30 + h.name.size := by
 show (localL h).toArray.size = _
 rw [List.size_toArray, localL_len]
theorem partL_len (p : Part) : (partL p).length = 30 + p.h.name.size + p.d.size := by
 unfold partL
 have : p.d.data.toList.length = p.d.size := by simp
 rw [List.length_append, localL_len, this]
theorem placed_fit : ∀ (P : List Part) (n : Nat), Placed n P -> ∀ h ∈ P.map Part.h, h.Fit := by
 intro P
 induction P with
 | nil => intro n _ h hh; cases hh
 | cons p r ih =>
  rintro n ⟨_, _, h3, h4⟩ h hh
  rw [List.map_cons, List.mem_cons] at hh
  rcases hh with rfl | hh
  . exact h3
  . exact ih _ h4 h hh
theorem drop_ext (s : ByteArray) (a : Nat) : (s.extract a s.size).data.toList = s.data.toList.drop a := by
 have hl : s.data.toList.length = s.size := by simp
 rw [ext_list, List.take_of_length_le (by rw [List.length_drop]; omega)]
theorem openF_put {s : ByteArray} {p q : List UInt8} {h : Hd} {d x : ByteArray} (hs : s.data.toList = p ++ (localL h ++ d.data.toList ++ q)) (hp : h.place = (p.length : Int)) (hk : h.packed = (d.size : Int)) (hz : 0 <= h.size) (hz2 : h.size <= 65536) (hx : openD d h = .ok x) : openF s h = .ok x := by
 have hl : s.data.toList.length = s.size := by simp
 have hd : d.data.toList.length = d.size := by simp
 have hsz : s.size = p.length + (30 + h.name.size + d.size + q.length) := by rw [<- hl, hs]; simp only [List.length_append, localL_len, hd]
 unfold openF
 rw [if_neg (by omega), hp, Int.toNat_natCast]
 have hr : (s.extract p.length s.size).data.toList = localL h ++ d.data.toList ++ q := by rw [drop_ext, hs, List.drop_left]
 generalize s.extract p.length s.size = r at hr
 have hrl : r.data.toList.length = r.size := by simp
 have hrz : r.size = 30 + h.name.size + d.size + q.length := by rw [<- hrl, hr]; simp only [List.length_append, localL_len, hd]
 have hlb : (locB h).data.toList = localL h := rfl
 have he : r.extract 0 (locB h).size = locB h := by
  have := ext_mid (s := r) (i := 0) (p := []) (m := locB h) (q := d.data.toList ++ q) (by rw [hr, hlb]; simp only [List.nil_append, List.append_assoc]) rfl
  rwa [Nat.zero_add] at this
 unfold openR
 rw [if_neg (by
  rw [locB_size]; intro g; rcases g with g | g; · omega
  . rw [locB_size] at he; exact g he)]
 have hu : (r.extract (locB h).size r.size).data.toList = d.data.toList ++ q := by
  rw [drop_ext, hr, List.append_assoc, locB_size, <- localL_len, List.drop_left]
 generalize r.extract (locB h).size r.size = u at hu
 have hul : u.data.toList.length = u.size := by simp
 have huz : u.size = d.size + q.length := by rw [<- hul, hu, List.length_append, hd]
 have hue : u.extract 0 d.size = d := by
  have := ext_mid (s := u) (i := 0) (p := []) (m := d) (q := q) (by rw [hu]; simp only [List.nil_append]) rfl
  rwa [Nat.zero_add] at this
 unfold openS
 rw [if_neg (by omega), if_neg (by omega), hk, Int.toNat_natCast, hue]
 exact hx
theorem openF_ok {s : ByteArray} {h : Hd} {x : ByteArray} (ho : openF s h = .ok x) : 0 <= h.place /\ 0 <= h.packed /\ ∃ q, s.data.toList.drop h.place.toNat = localL h ++ q /\ h.packed <= (q.length : Int) /\ h.place.toNat <= s.size := by
 unfold openF at ho
 by_cases c1 : h.place < 0 \/ (s.size : Int) < h.place \/ h.packed < 0 \/ h.size < 0
 . rw [if_pos c1] at ho; cases ho
 rw [if_neg c1] at ho
 have hr := drop_ext s h.place.toNat
 generalize s.extract h.place.toNat s.size = r at hr ho
 unfold openR at ho
 by_cases c2 : r.size < (locB h).size \/ r.extract 0 (locB h).size ≠ locB h
 . rw [if_pos c2] at ho; cases ho
 rw [if_neg c2] at ho
 have c22 : r.extract 0 (locB h).size = locB h := Classical.byContradiction fun g => c2 (.inr g)
 have hu := drop_ext r (locB h).size
 have hrl : r.data.toList.length = r.size := by simp
 have e1 : r.data.toList.take (locB h).size = localL h := by
  have := congrArg (fun b : ByteArray => b.data.toList) c22
  rw [ext_list, List.drop_zero, Nat.sub_zero] at this
  exact this
 generalize r.extract (locB h).size r.size = u at hu ho
 unfold openS at ho
 by_cases c3 : (u.size : Int) < h.packed
 . rw [if_pos c3] at ho; cases ho
 have hul : u.data.toList.length = u.size := by simp
 refine ⟨by omega, by omega, u.data.toList, ?_, by omega, by omega⟩
 rw [<- hr, <- e1, hu, List.take_append_drop]
theorem readL_put (s : ByteArray) : ∀ (P : List Part) (p q : List UInt8) (out : List Fl), s.data.toList = p ++ (archL P ++ q) -> Placed p.length P -> (∀ c ∈ P, openD c.d c.h = .ok c.x /\ c.h.size <= 65536) -> readL s (P.map Part.h) p.length out = .ok (out ++ P.map (fun c => (c.h.name, c.x)), p.length + (archL P).length) := by
 intro P
 induction P with
 | nil => intro p q out _ _ _; simp [readL, archL]
 | cons c r ih =>
  intro p q out hs hpl ho
  obtain ⟨h1, h2, h3, h4⟩ := hpl
  obtain ⟨o1, o2⟩ := ho c (List.mem_cons_self ..)
  have e1 : archL (c :: r) = partL c ++ archL r := rfl
  have hop : openF s c.h = .ok c.x := openF_put (p := p) (q := archL r ++ q) (by rw [hs, e1]; unfold partL; simp only [List.append_assoc]) h1 h2 h3.2.2.2.1.1 o2 o1
  have := ih (p ++ partL c) q (out ++ [(c.h.name, c.x)]) (by rw [hs, e1]; simp only [List.append_assoc]) (by rw [List.length_append, partL_len, <- Nat.add_assoc, <- Nat.add_assoc]; exact h4) fun x hx => ho x (List.mem_cons_of_mem _ hx)
  rw [List.length_append, partL_len] at this
  rw [List.map_cons, readL, hop]
  dsimp only
  rw [if_neg (fun g => g h1), h2, Int.toNat_natCast, show p.length + 30 + c.h.name.size + c.d.size = p.length + (30 + c.h.name.size + c.d.size) by omega, this, e1, List.length_append, partL_len]
  simp [Nat.add_assoc]
theorem readF_put {s : ByteArray} {P : List Part} (hs : s.data.toList = wholeL P) (hsz : s.size <= 262144) (hP : Placed 0 P) (hn : namesL ⟨#[]⟩ (P.map Part.h) = true) (hc : P.length <= 200) (ho : ∀ c ∈ P, openD c.d c.h = .ok c.x /\ c.h.size <= 65536) :
 headsF s = .ok (P.map Part.h) /\ readF s = .ok (P.map fun c => (c.h.name, c.x)) := by
 have h1 : headsF s = .ok (P.map Part.h) := by
  rw [headsF_put hs hsz (placed_fit P 0 hP), hn, if_neg (by decide), if_neg (by rw [List.length_map]; omega)]
 refine ⟨h1, ?_⟩
 obtain ⟨_, _, _, _, p, g1, g2⟩ := headsF_ok h1
 have h2 := readL_put s P [] (indexL (P.map Part.h) ((archL P).length : Int)) [] (by rw [hs]; rfl) hP ho
 have hlen := congrArg List.length g1
 rw [hs] at hlen
 unfold wholeL at hlen
 rw [List.length_append, List.length_append, indexL_len, indexL_len] at hlen
 unfold readF
 rw [h1]
 dsimp only
 have h3 : readL s (P.map Part.h) 0 [] = .ok (P.map (fun c => (c.h.name, c.x)), (archL P).length) := by
  have := h2
  simpa using this
 rw [h3]
 dsimp only
 rw [g2, if_neg (by omega)]
def packOf (D : ByteArray -> ByteArray) (f : Fl) (n : Nat) : Part :=
 if (D f.2).size < f.2.size then ⟨⟨f.1, 8, crcOf 0 f.2.data.toList, ((D f.2).size : Int), (f.2.size : Int), (n : Int)⟩, D f.2, f.2⟩
 else ⟨⟨f.1, 0, crcOf 0 f.2.data.toList, (f.2.size : Int), (f.2.size : Int), (n : Int)⟩, f.2, f.2⟩
def packL (D : ByteArray -> ByteArray) : List Fl -> Nat -> List Part
 | [], _ => []
 | f :: r, n => packOf D f n :: packL D r (n + (partL (packOf D f n)).length)
noncomputable def writeF (D : ByteArray -> ByteArray) (L : List Fl) : Except Nat ByteArray :=
 if chkF L ≠ 0 then .error (chkF L) else if 262144 < (wholeL (packL D L 0)).length then .error 2 else .ok ⟨(wholeL (packL D L 0)).toArray⟩
theorem chkL_ok : ∀ (L : List Fl) (last : ByteArray), chkL last L = 0 -> ∀ f ∈ L, f.2.size <= 65536 /\ nmB f.1 = true := by
 intro L
 induction L with
 | nil => intro _ _ f hf; cases hf
 | cons g r ih =>
  intro last h f hf
  rw [chkL] at h
  by_cases c1 : 65536 < g.2.size
  . rw [if_pos c1] at h; cases h
  rw [if_neg c1] at h
  by_cases c2 : (!nmB g.1 || strLe g.1 last) = true
  . rw [if_pos c2] at h; cases h
  rw [if_neg c2] at h
  rw [List.mem_cons] at hf
  rcases hf with rfl | hf
  . refine ⟨by omega, ?_⟩
    cases hb : nmB f.1
    . rw [hb] at c2; simp at c2
    . rfl
  . exact ih _ h f hf
theorem chkF_ok {L : List Fl} (h : chkF L = 0) : L.length <= 200 /\ chkL ⟨#[]⟩ L = 0 := by
 unfold chkF at h
 by_cases c : 200 < L.length
 . rw [if_pos c] at h; cases h
 . rw [if_neg c] at h; exact ⟨by omega, h⟩
theorem nmB_size {s : ByteArray} (h : nmB s = true) : s.size <= 64 := by
 unfold nmB at h
 classical
 have h2 : nmOK s := by simpa using h
 exact h2.2.1
theorem packOf_name (D : ByteArray -> ByteArray) (f : Fl) (n : Nat) : (packOf D f n).h.name = f.1 /\ (packOf D f n).x = f.2 /\ (packOf D f n).h.size = (f.2.size : Int) /\ (packOf D f n).h.crc = crcOf 0 f.2.data.toList := by
 unfold packOf
 split <;> exact ⟨rfl, rfl, rfl, rfl⟩
theorem packOf_len (D : ByteArray -> ByteArray) (f : Fl) (n : Nat) : (partL (packOf D f n)).length <= 30 + f.1.size + f.2.size := by
 rw [partL_len]
 unfold packOf
 split
 . dsimp only; omega
 . exact Qa _
theorem chkL_names (D : ByteArray -> ByteArray) : ∀ (L : List Fl) (last : ByteArray) (n : Nat), chkL last L = 0 -> namesL last ((packL D L n).map Part.h) = true := by
 intro L
 induction L with
 | nil => intro _ _ _; rfl
 | cons g r ih =>
  intro last n h
  rw [chkL] at h
  by_cases c1 : 65536 < g.2.size
  . rw [if_pos c1] at h; cases h
  rw [if_neg c1] at h
  by_cases c2 : (!nmB g.1 || strLe g.1 last) = true
  . rw [if_pos c2] at h; cases h
  rw [if_neg c2] at h
  rw [packL, List.map_cons, namesL, (packOf_name D g n).1, if_neg c2]
  exact ih _ _ h
theorem packL_len (D : ByteArray -> ByteArray) : ∀ (L : List Fl) (n : Nat), (packL D L n).length = L.length := by
 intro L
 induction L with
 | nil => intro _; rfl
 | cons g r ih => intro n; rw [packL, List.length_cons, List.length_cons, ih]
theorem packL_files (D : ByteArray -> ByteArray) : ∀ (L : List Fl) (n : Nat), (packL D L n).map (fun c => (c.h.name, c.x)) = L := by
 intro L
 induction L with
 | nil => intro _; rfl
 | cons g r ih =>
  intro n
  obtain ⟨h1, h2, _⟩ := packOf_name D g n
  rw [packL, List.map_cons, ih, h1, h2]
theorem crc0_lt (l : List UInt8) : crcOf 0 l < 4294967296 := by unfold crcOf; omega
theorem packL_placed (D : ByteArray -> ByteArray) : ∀ (L : List Fl) (n : Nat), (∀ f ∈ L, f.2.size <= 65536 /\ f.1.size <= 64) -> n + 65700 * L.length < 4294967296 -> Placed n (packL D L n) := by
 intro L
 induction L with
 | nil => intro _ _ _; trivial
 | cons g r ih =>
  intro n hf hn
  obtain ⟨g1, g2⟩ := hf g (List.mem_cons_self ..)
  have hl := packOf_len D g n
  rw [List.length_cons] at hn
  have hi := ih (n + (partL (packOf D g n)).length) (fun x hx => hf x (List.mem_cons_of_mem _ hx)) (by omega)
  rw [partL_len] at hi
  rw [packL]
  refine ⟨?_, ?_, ?_, ?_⟩
  . unfold packOf; split <;> rfl
  . unfold packOf; split <;> rfl
  . have hc := crc0_lt g.2.data.toList
    unfold packOf
    split
    . exact ⟨⟨by show (0 : Int) <= 8; decide, by show (8 : Int) < _; decide⟩, hc, ⟨by dsimp only; omega, by dsimp only; omega⟩, ⟨by dsimp only; omega, by dsimp only; omega⟩, ⟨by dsimp only; omega, by dsimp only; omega⟩, by dsimp only; omega⟩
    . exact ⟨⟨by show (0 : Int) <= 0; decide, by show (0 : Int) < _; decide⟩, hc, ⟨by dsimp only; omega, by dsimp only; omega⟩, ⟨by dsimp only; omega, by dsimp only; omega⟩, ⟨by dsimp only; omega, by dsimp only; omega⟩, by dsimp only; omega⟩
  . have e : n + 30 + (packOf D g n).h.name.size + (packOf D g n).d.size = n + (30 + (packOf D g n).h.name.size + (packOf D g n).d.size) := by omega
    rw [e, partL_len]
    exact hi
theorem openC_ok {x : ByteArray} {h : Hd} (h1 : h.size = (x.size : Int)) (h2 : h.crc = crcOf 0 x.data.toList) : openC x h = .ok x := by
 unfold openC
 rw [if_neg (fun g => g h1.symm), if_neg (fun g => g h2.symm)]
theorem openD_stored {x : ByteArray} {h : Hd} (h0 : h.method = 0) (h1 : h.size = (x.size : Int)) (h2 : h.crc = crcOf 0 x.data.toList) : openD x h = .ok x := by
 unfold openD
 rw [if_pos h0, openC_ok h1 h2]
theorem openD_deflated {d x : ByteArray} {h : Hd} (h0 : h.method = 8) (h1 : h.size = (x.size : Int)) (h2 : h.crc = crcOf 0 x.data.toList) (h3 : inflT d x.size = some (x, d.size)) : openD d h = .ok x := by
 unfold openD
 rw [if_neg (by rw [h0]; decide), if_pos h0, h1, Int.toNat_natCast, h3]
 dsimp only
 rw [if_pos rfl, openC_ok h1 h2]
theorem packOf_open (D : ByteArray -> ByteArray) (f : Fl) (n : Nat) (hD : (D f.2).size < f.2.size -> inflT (D f.2) f.2.size = some (f.2, (D f.2).size)) : openD (packOf D f n).d (packOf D f n).h = .ok (packOf D f n).x := by
 unfold packOf
 split
 . next h => exact openD_deflated rfl rfl rfl (hD h)
 . exact openD_stored rfl rfl rfl
theorem packL_open (D : ByteArray -> ByteArray) : ∀ (L : List Fl) (n : Nat), (∀ f ∈ L, f.2.size <= 65536 /\ ((D f.2).size < f.2.size -> inflT (D f.2) f.2.size = some (f.2, (D f.2).size))) -> ∀ c ∈ packL D L n, openD c.d c.h = .ok c.x /\ c.h.size <= 65536 := by
 intro L
 induction L with
 | nil => intro _ _ c hc; cases hc
 | cons g r ih =>
  intro n hD c hc
  obtain ⟨h1, h2⟩ := hD g (List.mem_cons_self ..)
  rw [packL, List.mem_cons] at hc
  rcases hc with rfl | hc
  . refine ⟨packOf_open D g n h2, ?_⟩
    rw [(packOf_name D g n).2.2.1]; omega
  . exact ih _ (fun x hx => hD x (List.mem_cons_of_mem _ hx)) c hc
theorem write_read {D : ByteArray -> ByteArray} {L : List Fl} {s : ByteArray} (h : writeF D L = .ok s) (hD : ∀ f ∈ L, (D f.2).size < f.2.size -> inflT (D f.2) f.2.size = some (f.2, (D f.2).size)) :
 headsF s = .ok ((packL D L 0).map Part.h) /\ readF s = .ok L /\ s.data.toList = wholeL (packL D L 0) /\ Placed 0 (packL D L 0) /\ s.size <= 262144 := by
 unfold writeF at h
 by_cases c1 : chkF L ≠ 0
 . rw [if_pos c1] at h; cases h
 rw [if_neg c1] at h
 have c1 : chkF L = 0 := Classical.byContradiction fun g => c1 g
 by_cases c2 : 262144 < (wholeL (packL D L 0)).length
 . rw [if_pos c2] at h; cases h
 rw [if_neg c2] at h
 injection h with h
 subst h
 obtain ⟨k1, k2⟩ := chkF_ok c1
 have k3 := chkL_ok L _ k2
 have hp : Placed 0 (packL D L 0) := packL_placed D L 0 (fun f hf => ⟨(k3 f hf).1, nmB_size (k3 f hf).2⟩) (by omega)
 have hz : (⟨(wholeL (packL D L 0)).toArray⟩ : ByteArray).size <= 262144 := by show (wholeL (packL D L 0)).toArray.size <= _; rw [List.size_toArray]; omega
 obtain ⟨r1, r2⟩ := readF_put (s := ⟨(wholeL (packL D L 0)).toArray⟩) (P := packL D L 0) rfl hz hp (chkL_names D L _ 0 k2) (by rw [packL_len]; exact k1) (packL_open D L 0 fun f hf => ⟨(k3 f hf).1, hD f hf⟩)
 rw [packL_files] at r2
 exact ⟨r1, r2, rfl, hp, hz⟩
def HeadsPost (w : World) (res : Except Nat (List Hd)) (r : Ending) (w' : World) : Prop :=
 Below w.heap.size w w' /\ ((∃ e, res = .error e /\ r = .returned (.tuple #[.slice none 0 0, .int .i64 (e : Int)])) \/ (∃ l v, res = .ok l /\ r = .returned (.tuple #[v, .int .i64 0]) /\ OwnH w' w.heap.size v l))
theorem at2_lt (s : ByteArray) (i : Nat) : atN s i 2 < 65536 := by
 rw [atN_list s i 2 (by decide)]
 refine Qb (getN_lt _) (Qe (Nat.pow_le_pow_right (by decide) (?_ : _ <= 2)) (by decide))
 rw [List.length_take]; omega
theorem idxH_most (L : List Hd) (h : ∀ x ∈ L, x.name.size < 65536) : (idxH L).length <= 65600 * L.length := by
 induction L with
 | nil => exact Qa _
 | cons x r ih =>
  have e : idxH (x :: r) = idxL1 x ++ idxH r := rfl
  have h1 := h x (List.mem_cons_self ..)
  have h2 := ih fun y hy => h y (List.mem_cons_of_mem _ hy)
  rw [e, List.length_append, idxL1_len, List.length_cons]; omega
theorem OwnH.below {w w' : World} {base B : Nat} {v : Value} {L : List Hd} (h : OwnH w base v L) (hb : Below B w w') (hB : w.heap.size <= B) : OwnH w' base v L := by
 have hlt := World.ownsRow.lt h
 refine ⟨h.1, ?_⟩
 rcases h.2 with h2 | ⟨g, cap, cur, rfl, h3, h4, h5⟩
 . exact .inl h2
 . exact .inr ⟨g, cap, cur, rfl, h3, (hb.block g (Qb (hlt g rfl).2 hB)).trans h4, h5⟩
set_option maxHeartbeats 8000000 in
theorem heads_any (s : ByteArray) (hs : s.size <= 140737488351232) (w : World) :
 Calls Try.prog 11 #[.string s] w (HeadsPost w (headsF s)) := by
 have Hb0 := Qf (Below.refl w.heap.size w)
 have HF : Hid (headsF s = headsF s) := rfl
 obtain ⟨RES, HRES⟩ := Qi (headsF s)
 rw [HRES.out]
 by_cases h1 : 262144 < s.size
 . have d1 : decide ((262144 : Int) < (s.size : Int)) = true := Qg (by omega)
   have d1b : decide (262144 < s.size) = true := Qg (by omega)
   have hr : RES = .error 2 := by rw [<- HRES.out]; unfold headsF; rw [if_pos h1]
   subst hr
   clear HF HRES
   go_enter Try.func11, Try.ntmps11
   go_wp2_with fail
   go_ret2
   exact ⟨Hb0.out, .inl ⟨2, rfl, rfl⟩⟩
 . have d1 : decide ((262144 : Int) < (s.size : Int)) = false := Qh (by omega)
   have d1b : decide (262144 < s.size) = false := Qh (by omega)
   by_cases h2 : s.size < 22
   . have d2 : decide ((s.size : Int) < 22) = true := Qg (by omega)
     have d2b : decide (s.size < 22) = true := Qg (by omega)
     have hr : RES = .error 3 := by rw [<- HRES.out]; unfold headsF; rw [if_neg h1, if_pos h2]
     subst hr
     clear HF HRES
     go_enter Try.func11, Try.ntmps11
     go_wp2_with fail
     go_ret2
     exact ⟨Hb0.out, .inl ⟨3, rfl, rfl⟩⟩
   . have d2 : decide ((s.size : Int) < 22) = false := Qh (by omega)
     have d2b : decide (s.size < 22) = false := Qh (by omega)
     obtain ⟨e, he⟩ : ∃ e, s.size = e + 22 := ⟨s.size - 22, by omega⟩
     have heI : (s.size : Int) - 22 = (e : Int) := by omega
     have hes : s.size - 22 = e := by omega
     have C8 := Qf (fun W => at_any s (e + 8) 2 (by decide) (by omega) (by omega) W)
     have C16 := Qf (fun W => at_any s (e + 16) 4 (by decide) (by omega) (by omega) W)
     have hc8 : ((e + 8 : Nat) : Int) = (e : Int) + 8 := by omega
     have hc16 : ((e + 16 : Nat) : Int) = (e : Int) + 16 := by omega
     have hn2 : ((2 : Nat) : Int) = 2 := rfl
     have hn4 : ((4 : Nat) : Int) = 4 := rfl
     rw [hc8, hn2] at C8
     rw [hc16, hn4] at C16
     have HR2 : Hid (RES = headsF s) := HRES.out.symm
     obtain ⟨n, Hn⟩ := Qi (atN s (e + 8) 2)
     obtain ⟨fr, Hfr⟩ := Qi (atN s (e + 16) 4)
     have hnlt := at2_lt s (e + 8)
     have hfrlt := atN_lt s (e + 16) 4 (by decide)
     rw [Hn.out] at C8 hnlt
     rw [Hfr.out] at C16 hfrlt
     have HeI := Qf heI
     have HE := Qf he
     clear HF HRES hc8 hc16 hn2 hn4 hes
     by_cases h3 : e < fr
     . have d3 : decide ((e : Int) < (fr : Int)) = true := Qg (by omega)
       have d3b : decide (e < fr) = true := Qg (by omega)
       have hr : RES = .error 3 := by
        rw [HR2.out]; unfold headsF
        rw [if_neg h1, if_neg h2, show s.size - 22 = e by omega, Hfr.out, if_pos h3]
       subst hr
       clear HR2 he h3
       go_enter Try.func11, Try.ntmps11
       go_wp2_with fail
       refine (C8.out _).mono ?_
       rintro r w1 ⟨rfl, rfl⟩
       go_wp2_with fail
       refine (C16.out _).mono ?_
       rintro r w1 ⟨rfl, rfl⟩
       go_wp2_with fail
       go_ret2
       exact ⟨Hb0.out, .inl ⟨3, rfl, rfl⟩⟩
     . have d3 : decide ((e : Int) < (fr : Int)) = false := Qh (by omega)
       have d3b : decide (e < fr) = false := Qh (by omega)
       obtain ⟨LR, HLR⟩ := Qi (headsL s e n fr [])
       have HO0 : Hid (OwnH w w.heap.size (.slice none 0 0) []) := World.ownsRow_nil _ _ _ _
       have hfre : fr <= e := by omega
       clear he h3
       go_enter Try.func11, Try.ntmps11
       go_wp2_with fail
       refine (C8.out _).mono ?_
       rintro r w1 ⟨rfl, rfl⟩
       go_wp2_with fail
       refine (C16.out _).mono ?_
       rintro r w1 ⟨rfl, rfl⟩
       go_wp2_with fail
       go_loopw [7, 8] (fun v_ i_ wr => ∃ (i : Nat) (out : List Hd), i <= e /\ out.length <= n /\ i_ = .int .i64 (i : Int) /\ Hid (headsL s e (n - out.length) i out = LR) /\ Hid (OwnH wr w.heap.size v_ out) /\ Hid (Below w.heap.size w wr)) (fun _ i _ => e - (intOf i).toNat)
       case atStart => exact ⟨fr, [], hfre, Nat.zero_le _, rfl, HLR, HO0, Hb0⟩
       case round =>
        clear HO0 Hb0
        obtain ⟨i, out, hie, hon, rfl, HL, HO, HB⟩ := hrel
        obtain ⟨a, cap, rfl, hrow⟩ := HO.out.view
        have HRw := Qf hrow
        clear hrow
        obtain ⟨k, Hk⟩ := Qi (out.length)
        rw [Hk.out] at hon HO HL ⊢
        by_cases hgo : i < e /\ k < n
        . have d4 : decide ((i : Int) < (e : Int)) = true := Qg (by omega)
          have d4b : decide (i < e) = true := Qg (by omega)
          have d5 : decide ((k : Int) < (n : Int)) = true := Qg (by omega)
          have d5b : decide (k < n) = true := Qg (by omega)
          obtain ⟨m, hm⟩ : ∃ m, n - k = m + 1 := ⟨n - k - 1, by omega⟩
          have hm0 := Qf hm
          have hL := HL.out
          rw [hm] at hL
          have hL2 : (if e - i < 46 \/ e - (i + 46) < atN s (i + 28) 2 then none else headsL s e m (i + 46 + atN s (i + 28) 2) (out ++ [headAt s i])) = LR := by
           rw [<- hL]; show _ = (if i < e then _ else _); rw [if_pos hgo.1]
          have HL2 := Qf hL2
          clear hL hL2 HL
          by_cases h46 : e - i < 46
          . have d6 : decide ((e : Int) - (i : Int) < 46) = true := Qg (by omega)
            have hlr : LR = none := by rw [<- HL2.out, if_pos (.inl h46)]
            have hr : RES = .error 3 := by
             rw [HR2.out]; unfold headsF
             have hes : s.size - 22 = e := by have := HE.out; omega
             rw [if_neg h1, if_neg h2, hes, Hfr.out, if_neg (by omega), Hn.out, HLR.out, hlr]
            subst hr
            clear HR2 HL2 h46 hlr hgo hm
            go_wp2_with fail
            go_ret2
            exact ⟨HB.out, .inl ⟨3, rfl, rfl⟩⟩
          . have d6 : decide ((e : Int) - (i : Int) < 46) = false := Qh (by omega)
            have hsz := HE.out
            have CAt : Hid (∀ (c z : Nat), z <= 4 -> c + z <= 46 -> ∀ W, Calls Try.prog 34 #[.string s, .int .i64 ((i : Int) + (c : Int)), .int .i64 (z : Int)] W fun r w' => r = .returned (.int .i64 (atN s (i + c) z : Int)) /\ W = w') := by
             intro c z hz hcz W
             have := at_any s (i + c) z hz (by omega) (by omega) W
             rwa [show ((i + c : Nat) : Int) = (i : Int) + (c : Int) by omega] at this
            have A10 := Qf (CAt.out 10 2 (by decide) (by decide))
            have A16 := Qf (CAt.out 16 4 (by decide) (by decide))
            have A20 := Qf (CAt.out 20 4 (by decide) (by decide))
            have A24 := Qf (CAt.out 24 4 (by decide) (by decide))
            have A42 := Qf (CAt.out 42 4 (by decide) (by decide))
            have A28 := Qf (CAt.out 28 2 (by decide) (by decide))
            have l16 := atN_lt s (i + 16) 4 (by decide)
            have l28 := atN_lt s (i + 28) 2 (by decide)
            obtain ⟨x10, H10⟩ := Qi (atN s (i + 10) 2)
            obtain ⟨x16, H16⟩ := Qi (atN s (i + 16) 4)
            obtain ⟨x20, H20⟩ := Qi (atN s (i + 20) 4)
            obtain ⟨x24, H24⟩ := Qi (atN s (i + 24) 4)
            obtain ⟨x42, H42⟩ := Qi (atN s (i + 42) 4)
            obtain ⟨x28, H28⟩ := Qi (atN s (i + 28) 2)
            rw [H10.out] at A10
            rw [H16.out] at A16 l16
            rw [H20.out] at A20
            rw [H24.out] at A24
            rw [H42.out] at A42
            rw [H28.out] at A28 l28 HL2
            have hw16 : IntKind.u32.wrap (x16 : Int) = (x16 : Int) := by rw [IntKind.wrap_u32]; omega
            have hi46 : i + 46 <= e := by omega
            clear hsz CAt
            go_wp2_with fail
            refine (A10.out _).mono ?_
            rintro r w1 ⟨rfl, rfl⟩
            go_wp2_with fail
            refine (A16.out _).mono ?_
            rintro r w1 ⟨rfl, rfl⟩
            go_wp2_with fail
            refine (A20.out _).mono ?_
            rintro r w1 ⟨rfl, rfl⟩
            go_wp2_with fail
            refine (A24.out _).mono ?_
            rintro r w1 ⟨rfl, rfl⟩
            go_wp2_with fail
            refine (A42.out _).mono ?_
            rintro r w1 ⟨rfl, rfl⟩
            go_wp2_with fail
            refine (A28.out _).mono ?_
            rintro r w1 ⟨rfl, rfl⟩
            have hal := HB.out.alloc HB.out.size (.cells #[.string ⟨#[]⟩, .int .i64 (x10 : Int), .int .u32 (x16 : Int), .int .i64 (x20 : Int), .int .i64 (x24 : Int), .int .i64 (x42 : Int)] 26)
            have HBa := Qf hal
            clear hal A10 A16 A20 A24 A42 A28
            by_cases hnm : e - (i + 46) < x28
            . have d7 : decide ((e : Int) - ((i : Int) + 46) < (x28 : Int)) = true := Qg (by omega)
              have hlr : LR = none := by rw [<- HL2.out, if_pos (.inr hnm)]
              have hr : RES = .error 3 := by
               rw [HR2.out]; unfold headsF
               have hes : s.size - 22 = e := by have := HE.out; omega
               rw [if_neg h1, if_neg h2, hes, Hfr.out, if_neg (by omega), Hn.out, HLR.out, hlr]
              subst hr
              clear HR2 HL2 hlr hgo hm hnm
              go_wp2_with fail
              go_ret2
              exact ⟨HBa.out, .inl ⟨3, rfl, rfl⟩⟩
            . have HL3 : Hid (headsL s e m (i + 46 + x28) (out ++ [headAt s i]) = LR) := by
               show _ = _; rw [<- HL2.out, if_neg (by omega)]
              obtain ⟨i2, Hi2⟩ := Qi (i + 46)
              obtain ⟨i3, Hi3⟩ := Qi (i + 46 + x28)
              have hq2 := Hi2.out
              have hq3 := Hi3.out
              obtain ⟨nm, Hnm⟩ := Qi (s.extract i2 i3)
              have hhd : headAt s i = ⟨nm, (x10 : Int), x16, (x20 : Int), (x24 : Int), (x42 : Int)⟩ := by
               unfold headAt; rw [H28.out, H10.out, H16.out, H20.out, H24.out, H42.out, <- Hnm.out, Hi2.out, <- Hi3.out, Hi2.out]
              rw [hhd, Hi3.out] at HL3
              have w2 : IntKind.i64.wrap ((i : Int) + 46) = (i2 : Int) := by rw [IntKind.wrap_i64]; omega
              have w3 : IntKind.i64.wrap ((i2 : Int) + (x28 : Int)) = (i3 : Int) := by rw [IntKind.wrap_i64]; omega
              have d7 : decide ((e : Int) - (i2 : Int) < (x28 : Int)) = false := Qh (by omega)
              have l23 : i2 <= i3 := by omega
              have l3e : i3 <= e := by omega
              have l3s : i3 <= s.size := by omega
              have l23I : (i2 : Int) <= (i3 : Int) := by omega
              have l3sI : (i3 : Int) <= (s.size : Int) := by omega
              clear HL2 hnm hhd hq2 hq3 hm
              go_upto_region 20 with fail
              rw [Hnm.out]
              have hbn := Blk.new wr 26 #[.string nm, .int .i64 (x10 : Int), .int .u32 (x16 : Int), .int .i64 (x20 : Int), .int .i64 (x24 : Int), .int .i64 (x42 : Int)]
              have hal := below_al (w := w) HB.out (.cells #[.string nm, .int .i64 (x10 : Int), .int .u32 (x16 : Int), .int .i64 (x20 : Int), .int .i64 (x24 : Int), .int .i64 (x42 : Int)] 26)
              have hos := HO.out.below (below_al (Below.refl wr.heap.size wr) (.cells #[.string nm, .int .i64 (x10 : Int), .int .u32 (x16 : Int), .int .i64 (x20 : Int), .int .i64 (x24 : Int), .int .i64 (x42 : Int)] 26)) (Qa _)
              unfold OwnH at hos
              rw [Hk.out] at hos
              have HBn := Qf hbn
              obtain ⟨G, HG⟩ := Qi (wr.heap.size)
              rw [HG.out] at HBn ⊢
              clear hbn
              obtain ⟨w2, HW2⟩ := Qi (wr.alloc (.cells #[.string nm, .int .i64 (x10 : Int), .int .u32 (x16 : Int), .int .i64 (x20 : Int), .int .i64 (x24 : Int), .int .i64 (x42 : Int)] 26))
              rw [HW2.out] at HBn hal hos ⊢
              clear HW2
              have k0 : w2.cell? ⟨G, 0, none⟩ = some (.string nm) := HBn.out.cell 0
              have k1 : w2.cell? ⟨G, 1, none⟩ = some (.int .i64 (x10 : Int)) := HBn.out.cell 1
              have k2 : w2.cell? ⟨G, 2, none⟩ = some (.int .u32 (x16 : Int)) := HBn.out.cell 2
              have k3 : w2.cell? ⟨G, 3, none⟩ = some (.int .i64 (x20 : Int)) := HBn.out.cell 3
              have k4 : w2.cell? ⟨G, 4, none⟩ = some (.int .i64 (x24 : Int)) := HBn.out.cell 4
              have k5 : w2.cell? ⟨G, 5, none⟩ = some (.int .i64 (x42 : Int)) := HBn.out.cell 5
              have HBal := Qf hal
              have hbsw : w.heap.size <= w2.heap.size := hal.size
              have hone : ∀ u ∈ ([.string nm, .int .i64 (x10 : Int), .int .u32 (x16 : Int), .int .i64 (x20 : Int), .int .i64 (x24 : Int), .int .i64 (x42 : Int)] : List Value), u.oneCell' = true := hd_one ⟨nm, (x10 : Int), x16, (x20 : Int), (x24 : Int), (x42 : Int)⟩
              clear hal HBa HO HB
              go_wp2_with (first
               | (at_builtin; go_must (refine wpList_append_elem _ rfl (.tmp 91) (.tmp 93) rfl Try.underlying22 info_head rfl (by decide) w.heap.size (.slice a k cap) k (hcells out) [.string nm, .int .i64 (x10 : Int), .int .u32 (x16 : Int), .int .i64 (x20 : Int), .int .i64 (x24 : Int), .int .i64 (x42 : Int)] hos rfl hone rfl rfl rfl ?_ ?_ hbsw ?_; (unfold maxLen; omega); omega; intro v8 w8 hown8 hg8; have HO8 := Qf hown8; have HB8 := Qf (HBal.out.trans (below_grown hos hg8 hbsw)); clear hown8 hg8))
               | fail)
              go_roundw
              case rel => exact ⟨i3, out ++ [⟨nm, (x10 : Int), x16, (x20 : Int), (x24 : Int), (x42 : Int)⟩], l3e, (by rw [List.length_append, Hk.out]; show k + 1 <= n; omega), (by go_num), (by show headsL _ _ _ _ _ = _; rw [List.length_append, Hk.out]; show headsL s e (n - (k + 1)) i3 _ = LR; rw [show n - (k + 1) = m by have := hm0.out; omega]; exact HL3.out), OwnH.snoc (by rw [Hk.out]; exact HO8.out), HB8⟩
              case measure =>
               have := Hi2.out
               simp [intOf]; omega
        . -- behind the loop
          have hnot : (decide ((i : Int) < (e : Int)) = false /\ decide (i < e) = false) \/ ((decide ((i : Int) < (e : Int)) = true /\ decide (i < e) = true) /\ (decide ((k : Int) < (n : Int)) = false /\ decide (k < n) = false)) := by
           rcases Nat.lt_or_ge i e with h | h
           . exact .inr ⟨⟨Qg (by omega), Qg (by omega)⟩, ⟨Qh (by omega), Qh (by omega)⟩⟩
           . exact .inl ⟨Qh (by omega), Qh (by omega)⟩
          have hlr : LR = some out := by
           rw [<- HL.out]
           rcases Nat.lt_or_ge k n with h | h
           . obtain ⟨m, hm⟩ : ∃ m, n - k = m + 1 := ⟨n - k - 1, by omega⟩
             rw [hm]
             show (if i < e then _ else _) = _
             rw [if_neg (by omega)]
           . rw [show n - k = 0 by omega]; rfl
          have HR3 : Hid (RES = if out.length ≠ n \/ indexL out (fr : Int) ≠ (s.extract fr s.size).data.toList then .error 3 else if !namesL ⟨#[]⟩ out then .error 4 else if 200 < n then .error 2 else .ok out) := by
           show _ = _
           rw [HR2.out]; unfold headsF
           have hes : s.size - 22 = e := by have := HE.out; omega
           rw [if_neg h1, if_neg h2, hes, Hfr.out, if_neg (by omega), Hn.out, HLR.out, hlr]
          have hfit : ∀ h ∈ out, h.Fit := headsL_fit s e n fr [] out (fun _ hx => by cases hx) (by rw [HLR.out, hlr])
          have Hnsz : Hid (∀ h ∈ out, h.name.size < 65536) := fun h hh => (hfit h hh).2.2.2.2.2
          have hmost := idxH_most out fun h hh => (hfit h hh).2.2.2.2.2
          have hok := Hk.out
          have CI := Qf (fun (W : World) (hr : HRow W a out) => index_any out a cap (fr : Int) (by omega) (fun h hh => (hfit h hh).2.1) (fun h hh => Nat.le_of_lt (Nat.lt_trans (hfit h hh).2.2.2.2.2 (by decide))) (by omega) W hr)
          rw [Hk.out] at HR3 CI
          have hidx : indexL out (fr : Int) = (⟨(indexL out (fr : Int)).toArray⟩ : ByteArray).data.toList := rfl
          rw [hidx] at HR3
          obtain ⟨IX, HIX⟩ := Qi ((⟨(indexL out (fr : Int)).toArray⟩ : ByteArray))
          rw [HIX.out] at HR3 CI
          obtain ⟨EX, HEX⟩ := Qi (s.extract fr s.size)
          rw [HEX.out] at HR3
          have hkb : k <= 65536 := by omega
          clear HR2 HL HLR hlr hfit hmost hidx HIX hgo
          have l1 : (fr : Int) <= (s.size : Int) := by have := HE.out; omega
          have l1n : fr <= s.size := by have := HE.out; omega
          by_cases hkn : k = n
          . obtain ⟨y, hy⟩ : ∃ y, (IX.toList == (s.extract fr s.size).toList) = y := ⟨_, rfl⟩
            have HR4 : Hid (RES = if y = false then .error 3 else if !namesL ⟨#[]⟩ out then .error 4 else if 200 < n then .error 2 else .ok out) := by
             show _ = _
             rw [HR3.out, <- hy, HEX.out, ByteArray.toList_eq, ByteArray.toList_eq]
             by_cases hh : IX.data.toList = EX.data.toList
             . have e1 : (IX.data.toList == EX.data.toList) = true := by rw [hh]; simp
               rw [if_neg (by
                rintro (g | g); · exact g hkn
                . exact g hh), e1, if_neg (c := true = false) (by decide)]
             . have e1 : (IX.data.toList == EX.data.toList) = false := by simpa using hh
               rw [if_pos (.inr hh), e1, if_pos rfl]
            clear HR3 HEX
            subst hkn
            cases y with
            | false =>
             have hr : RES = .error 3 := HR4.out
             subst hr
             clear HR4
             rcases hnot with ⟨d4, d4b⟩ | ⟨⟨d4, d4b⟩, d5, d5b⟩
             all_goals
              go_wp2_with fail
              go_region_held3 (fun _ => True) (trivial)
               (first
                | (go_at_call 8; refine (CI.out _ (HRw.out.below (B := wr.heap.size) (by (repeat' (first | with_reducible exact Below.refl _ _ | with_reducible assumption | with_reducible apply Below.drew | with_reducible apply below_al))) (Qa _))).mono ?_; rintro r w8 ⟨rfl, hb8⟩; have HB8 : Below wr.heap.size wr w8 := bthen (by (repeat' (first | with_reducible exact Below.refl _ _ | with_reducible assumption | with_reducible apply Below.drew | with_reducible apply below_al))) hb8; clear hb8))
              all_goals
               go_wp2_with fail
               go_ret2
               exact ⟨bthen HB.out (HB8.mono (Qa _)), .inl ⟨3, rfl, rfl⟩⟩
            | true =>
             have HR5 : Hid (RES = if !namesL ⟨#[]⟩ (out.drop 0) then .error 4 else if 200 < k then .error 2 else .ok out) := HR4.out
             clear HR4
             rcases hnot with ⟨d4, d4b⟩ | ⟨⟨d4, d4b⟩, d5, d5b⟩
             all_goals
              go_wp2_with fail
              go_region_held3 (fun _ => True) (trivial)
               (first
                | (go_at_call 8; refine (CI.out _ (HRw.out.below (B := wr.heap.size) (by (repeat' (first | with_reducible exact Below.refl _ _ | with_reducible assumption | with_reducible apply Below.drew | with_reducible apply below_al))) (Qa _))).mono ?_; rintro r w8 ⟨rfl, hb8⟩; have HB8 : Below wr.heap.size wr w8 := bthen (by (repeat' (first | with_reducible exact Below.refl _ _ | with_reducible assumption | with_reducible apply Below.drew | with_reducible apply below_al))) hb8; clear hb8))
              all_goals
               go_wp2_with fail
               have HR8 := Qf (HRw.out.below (B := wr.heap.size) HB8 (Qa _))
               have HO8 := Qf (HO.out.below (B := wr.heap.size) HB8 (Qa _))
               have HBw8 := Qf (bthen HB.out HB8)
               have HZ := Qf (Below.refl w8.heap.size w8)
               clear HO HB HRw HB8
               go_loopw [11, 110] (fun l_ j_ wq => ∃ (j : Nat) (last : ByteArray), j <= k /\ j_ = .int .i64 (j : Int) /\ l_ = .string last /\ Hid (RES = if !namesL last (out.drop j) then .error 4 else if 200 < k then .error 2 else .ok out) /\ Hid (Below w8.heap.size w8 wq)) (fun _ j _ => k - (intOf j).toNat)
               case atStart => exact ⟨0, ⟨#[]⟩, Nat.zero_le _, rfl, rfl, HR5, HZ⟩
               case round =>
                clear HR5 HZ
                obtain ⟨j, last, hj, rfl, rfl, HC, HBl⟩ := hrel
                by_cases hlt : j < k
                . have dj : decide ((j : Int) < (k : Int)) = true := Qg (by omega)
                  have djb : decide (j < k) = true := Qg (by omega)
                  have hjI : (j : Int) < (k : Int) := by omega
                  have hjL : j < out.length := by rw [Hk.out]; exact hlt
                  obtain ⟨b, off, rfl, hbl, hcl⟩ := (HR8.out.below HBl.out (Qa _)) j hjL
                  have hC := HC.out
                  rw [List.drop_eq_getElem_cons hjL] at hC
                  have hsz := Hnsz.out _ (List.getElem_mem hjL)
                  obtain ⟨h, Hh⟩ := Qi (out[j])
                  rw [Hh.out] at hcl hC hsz
                  obtain ⟨nm, me, cr, pk, sz, pl⟩ := h
                  unfold Hd.cells at hcl
                  dsimp only at hcl hsz
                  have k0 := hcl 0 _ rfl
                  have k1 := hcl 1 _ rfl
                  have k2 := hcl 2 _ rfl
                  have k3 := hcl 3 _ rfl
                  have k4 := hcl 4 _ rfl
                  have k5 := hcl 5 _ rfl
                  simp only [Nat.add_zero] at k0
                  have HC2 : Hid (RES = if (!(if (!nmB nm || strLe nm last) = true then false else namesL nm (out.drop (j + 1)))) = true then .error 4 else if 200 < k then .error 2 else .ok out) := hC
                  have CN := Qf (name_any nm)
                  obtain ⟨nb, Hnb⟩ := Qi (nmB nm)
                  rw [Hnb.out] at CN HC2
                  obtain ⟨x, hx⟩ : ∃ R, Op.bytesLess nm.toList last.toList = R := ⟨_, rfl⟩
                  obtain ⟨y, hy⟩ : ∃ R, (nm.toList == last.toList) = R := ⟨_, rfl⟩
                  have hxy : strLe nm last = (x || y) := by unfold strLe; rw [hx, hy]
                  rw [hxy] at HC2
                  have hal := HBl.out.alloc HBl.out.size (.cells #[.string nm, .int .i64 me, .int .u32 (cr : Int), .int .i64 pk, .int .i64 sz, .int .i64 pl] 26)
                  have hbn := Blk.new wr 26 #[.string nm, .int .i64 me, .int .u32 (cr : Int), .int .i64 pk, .int .i64 sz, .int .i64 pl]
                  have t0 : (wr.alloc (.cells #[.string nm, .int .i64 me, .int .u32 (cr : Int), .int .i64 pk, .int .i64 sz, .int .i64 pl] 26)).cell? ⟨wr.heap.size, 0, none⟩ = some (.string nm) := hbn.cell 0
                  have HBa := Qf hal
                  have HBn := Qf hbn
                  clear hC HC hxy hal hbn hjL hbl Hh hcl hsz
                  go_wp2_with fail
                  refine (CN.out _).mono ?_
                  rintro r w3 ⟨hb3, rfl⟩
                  have HB3 := Qf (bthen HBa.out hb3)
                  have h3 := HBn.out.below hb3 HBn.out.lt
                  have u0 : w3.cell? ⟨wr.heap.size, 0, none⟩ = some (.string nm) := h3.cell 0
                  clear hb3 h3 t0 k0 k1 k2 k3 k4 k5
                  cases nb with
                  | false =>
                   have hr : RES = .error 4 := by rw [HC2.out]; rfl
                   subst hr
                   clear HC2
                   go_wp2_with fail
                   go_ret2
                   exact ⟨bthen HBw8.out HB3.out, .inl ⟨4, rfl, rfl⟩⟩
                  | true =>
                   have HC4 : Hid (RES = if (!(if (x || y) = true then false else namesL nm (out.drop (j + 1)))) = true then .error 4 else if 200 < k then .error 2 else .ok out) := HC2.out
                   clear HC2
                   by_cases hv : (x || y) = true
                   . have hr : RES = .error 4 := by rw [HC4.out, if_pos hv]; rfl
                     subst hr
                     clear HC4
                     cases x <;> cases y <;> simp at hv
                     all_goals
                      go_wp2_with fail
                      go_ret2
                      exact ⟨bthen HBw8.out HB3.out, .inl ⟨4, rfl, rfl⟩⟩
                   . have hx2 : x = false := by cases x <;> simp_all
                     have hy2 : y = false := by cases y <;> simp_all
                     have HC5 : Hid (RES = if !namesL nm (out.drop (j + 1)) then .error 4 else if 200 < k then .error 2 else .ok out) := by show _ = _; rw [HC4.out, if_neg hv]
                     subst hx2 hy2
                     clear HC4 hv
                     go_wp2_with fail
                     go_roundw
                     case rel => exact ⟨j + 1, nm, by omega, by go_num, rfl, HC5, HB3⟩
                     case measure => simp [intOf]; omega
                . obtain rfl : j = k := by omega
                  have dj : decide ((j : Int) < (j : Int)) = false := Qh (by omega)
                  have hC := HC.out
                  rw [List.drop_of_length_le (by rw [Hk.out]; exact Qa _)] at hC
                  have HC2 : Hid (RES = if 200 < j then .error 2 else .ok out) := hC
                  have HO9 := Qf (HO8.out.below HBl.out (Qa _))
                  clear hC HC
                  by_cases h200 : 200 < j
                  . have d9 : decide ((200 : Int) < (j : Int)) = true := Qg (by omega)
                    have d9b : decide (200 < j) = true := Qg (by omega)
                    have hr : RES = .error 2 := by rw [HC2.out, if_pos h200]
                    subst hr
                    clear HC2
                    go_wp2_with fail
                    go_ret2
                    exact ⟨bthen HBw8.out HBl.out, .inl ⟨2, rfl, rfl⟩⟩
                  . have d9 : decide ((200 : Int) < (j : Int)) = false := Qh (by omega)
                    have d9b : decide (200 < j) = false := Qh (by omega)
                    have hr : RES = .ok out := by rw [HC2.out, if_neg h200]
                    subst hr
                    clear HC2
                    go_wp2_with fail
                    go_ret2
                    exact ⟨bthen HBw8.out HBl.out, .inr ⟨out, _, rfl, rfl, HO9.out⟩⟩
          . have d8 : decide ((k : Int) = (n : Int)) = false := Qh (by omega)
            have d8b : ((k : Int) == (n : Int)) = false := by rw [beq_eq_false_iff_ne]; omega
            have hr : RES = .error 3 := by rw [HR3.out, if_pos (.inl hkn)]
            subst hr
            have hknI : ¬ (k : Int) = (n : Int) := by omega
            have hknb : (!((k : Int) == (n : Int))) = true := by rw [d8b]; rfl
            have hknc : (!(k == n)) = true := by rw [beq_eq_false_iff_ne.2 hkn]; rfl
            clear HR3
            rcases hnot with ⟨d4, d4b⟩ | ⟨⟨d4, d4b⟩, d5, d5b⟩
            all_goals
             go_wp2_with fail
             go_quiet (fail)
             all_goals
              go_wp2_with fail
              go_ret2
              exact ⟨below_drewN HB.out _, .inl ⟨3, rfl, rfl⟩⟩
def WritePost (w : World) (res : Except Nat ByteArray) (r : Ending) (w' : World) : Prop :=
 Below w.heap.size w w' /\ ((∃ e : Nat, res = .error e /\ e ≠ 0 /\ r = .returned (.tuple #[.string ⟨#[]⟩, .int .i64 (e : Int)])) \/ (∃ x, res = .ok x /\ r = .returned (.tuple #[.string x, .int .i64 0])))
theorem own_far {w : World} {b e s n b' e' s' n' : Nat} {v v' : Value} {x x' : List Value} (h : w.ownsRow b e s v n x) (k : w.ownsRow b' e' s' v' n' x') (hne : e ≠ e') : ∀ g, v.ownBlock = some g -> v'.ownBlock ≠ some g := by
 intro g hg hg'
 rcases h.2 with ⟨rfl, _⟩ | ⟨g1, cap, cur, rfl, _, hh, _⟩
 . cases hg
 . rcases k.2 with ⟨rfl, _⟩ | ⟨g2, cap2, cur2, rfl, _, kk, _⟩
   . cases hg'
   . simp only [Value.ownBlock, Option.some.injEq] at hg hg'
     subst hg
     subst hg'
     rw [hh] at kk
     simp only [Option.some.injEq, Obj.cells.injEq] at kk
     exact hne kk.2.1
theorem OwnH.chg {w w' : World} {base B : Nat} {vh vb : Value} {L : List Hd} {l : List UInt8} (h : OwnH w base vh L) (hb : BldAt w B vb l) (hc : Chg w w' B vb) : OwnH w' base vh L := by
 have hlt := World.ownsRow.lt h
 obtain ⟨⟨p, _, hB⟩, hO⟩ := hb
 have h1 := row_blk h hB (by decide)
 have h2 := own_far h hO (by decide)
 refine ⟨h.1, ?_⟩
 rcases h.2 with h3 | ⟨g, cap, cur, rfl, h3, h4, h5⟩
 . exact .inl h3
 . refine .inr ⟨g, cap, cur, rfl, h3, (hc.2.2 g (hlt g rfl).2 ?_ (h2 g rfl)).trans h4, h5⟩
   rcases h1 with h1 | h1
   . cases h1
   . exact fun e => h1 (by rw [e]; rfl)
theorem BldAt.grownH {w w' : World} {base B : Nat} {vh vb : Value} {L : List Hd} {l : List UInt8} (hb : BldAt w B vb l) (h : OwnH w base vh L) (hg : w.grownBy w' vh.ownBlock) : BldAt w' B vb l := by
 obtain ⟨⟨p, hp, hB⟩, hO⟩ := hb
 have h1 := row_blk h hB (by decide)
 have h2 := own_far hO h (by decide)
 refine ⟨⟨p, hp, hB.grown hg fun e => ?_⟩, World.ownsRow.kept hO hg ?_⟩
 . rcases h1 with h1 | h1
   . rw [h1] at e; cases e
   . exact h1 e.symm
 . cases hv : vb.ownBlock with
   | none => exact .inl rfl
   | some g => exact .inr fun e => h2 g hv e.symm
theorem grown_two (w : World) (K : Nat) (u v : Value) : w.grownBy ((w.setCell ⟨K, 1, none⟩ u).setCell ⟨K, 3, none⟩ v) (some K) :=
 ⟨rfl, rfl, rfl, by simp [World.setCell], fun g _ hne => by
  have : g ≠ K := fun e => hne (by rw [e])
  exact (heap_setCell_other _ _ _ _ this).trans (heap_setCell_other _ _ _ _ this)⟩
theorem BldAt.grownK {w w' : World} {B K : Nat} {vb : Value} {l : List UInt8} {cs : Array Value} (hb : BldAt w B vb l) (h : Blk w K 26 cs) (hg : w.grownBy w' (some K)) : BldAt w' B vb l := by
 obtain ⟨⟨p, hp, hB⟩, hO⟩ := hb
 have h2 := row_blk hO h (by decide)
 refine ⟨⟨p, hp, hB.grown hg fun e => ?_⟩, World.ownsRow.kept hO hg h2⟩
 simp only [Option.some.injEq] at e
 subst e
 have := blk_one hB h
 revert this
 decide
theorem OwnH.keepU {w w' : World} {base : Nat} {v : Value} {L : List Hd} (h : OwnH w base v L) (hk : KeepU w w') : OwnH w' base v L := by
 refine ⟨h.1, ?_⟩
 rcases h.2 with h2 | ⟨g, cap, cur, rfl, h3, h4, h5⟩
 . exact .inl h2
 . exact .inr ⟨g, cap, cur, rfl, h3, hk g _ cur (by decide) (by decide) h4, h5⟩
theorem bldLen_blk (B : Nat) (a : Option Addr) (n cap : Nat) (p : Value) (W : World) (h : Blk W B 64 #[p, .slice a n cap]) :
 Calls Try.prog 28 #[.pointer (some ⟨B, 0, none⟩)] W fun e W' => e = .returned (.int .i64 (n : Int)) /\ W = W' := by
 have c1 : W.cell? ⟨B, 1, none⟩ = some (.slice a n cap) := h.cell 1
 clear h
 go_enter Try.func28, Try.ntmps28
 go_wp2_with fail
 go_ret
 exact ⟨rfl, rfl⟩
theorem archL_snoc (Q : List Part) (c : Part) : archL (Q ++ [c]) = archL Q ++ partL c := by
 unfold archL; rw [List.flatMap_append]; simp
set_option maxHeartbeats 8000000 in
theorem write_any (D : ByteArray -> ByteArray) (L : List Fl) (a : Option Addr) (cap : Nat) (lv : Nat) (hlv : lv <= 9) (hL : L.length <= 100000000)
 (hD : chkF L = 0 -> ∀ f ∈ L, ∀ W, Calls Try.prog 15 #[.string f.2, .int .i64 (lv : Int)] W fun e w' => e = .returned (.tuple #[.string (D f.2), .int .i64 0]) /\ Below W.heap.size W w')
 (w : World) (hr : FRow w a L) :
 Calls Try.prog 20 #[.slice a L.length cap, .int .i64 (lv : Int)] w (WritePost w (writeF D L)) := by
 have CC := Qf (fun W h => check_any L a cap hL W h)
 have HF : Hid (writeF D L = if chkF L ≠ 0 then .error (chkF L) else if 262144 < (wholeL (packL D L 0)).length then .error 2 else .ok ⟨(wholeL (packL D L 0)).toArray⟩) := rfl
 obtain ⟨RES, HR⟩ := Qi (writeF D L)
 rw [HR.out] at HF ⊢
 have HRo := Qf hr
 have HDf := Qf hD
 have HKo : Hid (chkF L = 0 -> L.length <= 200 /\ ∀ f ∈ L, f.2.size <= 65536 /\ f.1.size <= 64) := fun h => ⟨(chkF_ok h).1, fun f hf => ⟨(chkL_ok L _ (chkF_ok h).2 f hf).1, nmB_size (chkL_ok L _ (chkF_ok h).2 f hf).2⟩⟩
 obtain ⟨c, Hc⟩ := Qi (chkF L)
 rw [Hc.out] at CC HF HDf HKo
 obtain ⟨M, HM⟩ := Qi (L.length)
 rw [HM.out] at CC HKo ⊢
 have e1 : decide ((lv : Int) < 0) = false := Qh (by omega)
 have e2 : decide ((9 : Int) < (lv : Int)) = false := Qh (by omega)
 have e2b : decide (9 < lv) = false := Qh (by omega)
 clear hr hD hL HR Hc
 by_cases hc : c = 0
 . subst hc
   obtain ⟨hM, hsz⟩ := HKo.out rfl
   have Hsz := Qf hsz
   have HD := Qf (HDf.out rfl)
   obtain ⟨P, HP⟩ := Qi (packL D L 0)
   rw [HP.out] at HF
   have HF2 : Hid (RES = if 262144 < (wholeL P).length then .error 2 else .ok ⟨(wholeL P).toArray⟩) := by show _ = _; rw [HF.out, if_neg (by decide)]
   clear HF HKo HDf hsz
   go_enter Try.func20, Try.ntmps20
   go_wp2_with fail
   refine (CC.out _ HRo.out).mono ?_
   rintro r w1 ⟨rfl, hb1⟩
   have HB1 := Qf hb1
   have HR1 := Qf (HRo.out.below hb1 (Qa _))
   have hn0 := BldAt.new w1
   have hb0 := (Below.refl w1.heap.size w1).alloc (Qa _) (.cells #[.pointer none, .slice none 0 0] 64)
   obtain ⟨B, HB⟩ := Qi (w1.heap.size)
   have HN0 : Hid (BldAt (w1.alloc (.cells #[.pointer none, .slice none 0 0] 64)) B (.slice none 0 0) (archL [])) := by rw [<- HB.out]; exact hn0
   have HB0 := Qf hb0
   have HO0 : Hid (OwnH (w1.alloc (.cells #[.pointer none, .slice none 0 0] 64)) w1.heap.size (.slice none 0 0) (([] : List Part).map Part.h)) := World.ownsRow_nil _ _ _ _
   have HP0 : Hid ([] ++ packL D (L.drop 0) (archL []).length = P) := HP.out
   clear hb1 hn0 hb0 CC HRo
   go_upto_region 9 with fail
   rw [HB.out]
   obtain ⟨w2, HW2⟩ := Qi (w1.alloc (.cells #[.pointer none, .slice none 0 0] 64))
   rw [HW2.out] at HN0 HB0 HO0 ⊢
   clear HW2
   go_loopw [8, 29] (fun h_ j_ wq => ∃ (j : Nat) (Q : List Part) (v : Value), j <= M /\ Q.length = j /\ j_ = .int .i64 (j : Int) /\ (archL Q).length <= 65700 * j /\ Hid (Q ++ packL D (L.drop j) (archL Q).length = P) /\ Hid (BldAt wq B v (archL Q)) /\ Hid (OwnH wq w1.heap.size h_ (Q.map Part.h)) /\ Hid (Below w1.heap.size w1 wq) /\ Hid (j = 0 -> v = .slice none 0 0)) (fun _ j _ => M - (intOf j).toNat)
   case atStart => exact ⟨0, [], _, Nat.zero_le _, rfl, rfl, Nat.zero_le _, HP0, HN0, HO0, HB0, fun _ => rfl⟩
   case round =>
    clear HN0 HB0 HO0 HP0
    obtain ⟨j, Q, v, hj, Hj, rfl, hq, HPq, HN, HO, HBl, Hv0⟩ := hrel
    have HJ := Qf Hj
    clear Hj
    obtain ⟨oa, ocap, rfl, hrw⟩ := HO.out.view
    have HRw := Qf hrw
    clear hrw
    rw [List.length_map, HJ.out] at HO ⊢
    by_cases hlt : j < M
    . have dj : decide ((j : Int) < (M : Int)) = true := Qg (by omega)
      have djb : decide (j < M) = true := Qg (by omega)
      have hjI : (j : Int) < (M : Int) := by omega
      have hjL : j < L.length := by rw [HM.out]; exact hlt
      obtain ⟨b, off, rfl, hbl, c0, c1⟩ := (HR1.out.below HBl.out (Qa _)) j hjL
      have hPq := HPq.out
      rw [List.drop_eq_getElem_cons hjL, packL] at hPq
      have hsz := Hsz.out _ (List.getElem_mem hjL)
      have CD := Qf (HD.out _ (List.getElem_mem hjL))
      obtain ⟨⟨nm, dt⟩, Hf⟩ : ∃ R, Hid (L[j] = R) := ⟨_, Qf (Eq.refl _)⟩
      rw [Hf.out] at c0 c1 hPq hsz CD
      dsimp only at c0 c1 hsz CD
      have CR := Qf (fun W => crc32_any dt W (by unfold maxLen; omega))
      have hcr := crc0_lt dt.data.toList
      have HPO : Hid (packOf D (nm, dt) (archL Q).length = if (D dt).size < dt.size then ⟨⟨nm, 8, crcOf 0 dt.data.toList, ((D dt).size : Int), (dt.size : Int), ((archL Q).length : Int)⟩, D dt, dt⟩ else ⟨⟨nm, 0, crcOf 0 dt.data.toList, (dt.size : Int), (dt.size : Int), ((archL Q).length : Int)⟩, dt, dt⟩) := rfl
      have hple := packOf_len D (nm, dt) (archL Q).length
      dsimp only at hple
      obtain ⟨pc, Hpc⟩ := Qi (packOf D (nm, dt) (archL Q).length)
      obtain ⟨cc, Hcc⟩ := Qi (crcOf 0 dt.data.toList)
      obtain ⟨d, Hd0⟩ := Qi (D dt)
      rw [Hpc.out] at HPO hPq hple
      rw [Hcc.out] at CR hcr HPO
      rw [Hd0.out] at CD HPO
      obtain ⟨l0, Hl0⟩ := Qi (archL Q)
      rw [Hl0.out] at HN hq hPq HPO
      have CLn := Qf (bldLen_any B v l0 (by omega))
      obtain ⟨n0, Hn0⟩ := Qi (l0.length)
      rw [Hn0.out] at hq hPq HPO CLn
      have HPq2 := Qf hPq
      have hal := HBl.out.alloc HBl.out.size (.cells #[.string nm, .string dt] 44)
      have hal0 := (Below.refl wr.heap.size wr).alloc (Qa _) (.cells #[.string nm, .string dt] 44)
      have HBn := Qf (Blk.new wr 44 #[.string nm, .string dt])
      have HNa := Qf (HN.out.below hal0)
      have HOa := Qf (HO.out.below hal0 (Qa _))
      have HBa := Qf hal
      clear hPq hal hal0 HN HO HBl HPq hjL hbl Hf
      go_upto_region 11 with fail
      obtain ⟨F, HF0⟩ := Qi (wr.heap.size)
      rw [HF0.out] at HBn ⊢
      obtain ⟨w3, HW3⟩ := Qi (wr.alloc (.cells #[.string nm, .string dt] 44))
      rw [HW3.out] at HBn HNa HOa HBa ⊢
      clear HW3 c0 c1
      go_cut [11, 29] from 29 to 78 (fun p_ j_ wx => ∃ K : Nat, p_ = .pointer (some ⟨K, 0, none⟩) /\ j_ = .int .i64 (j : Int) /\ w3.heap.size <= K /\ Hid (Blk wx K 26 #[.string nm, .int .i64 0, .int .u32 (cc : Int), .int .i64 (dt.size : Int), .int .i64 (dt.size : Int), .int .i64 (n0 : Int)]) /\ Hid (Below w3.heap.size w3 wx))
      case first =>
       have HS : Hid (∀ W, Below w3.heap.size w3 W -> W.cell? ⟨F, 0, none⟩ = some (.string nm) /\ W.cell? ⟨F, 1, none⟩ = some (.string dt)) := fun W hb => ⟨(HBn.out.below hb HBn.out.lt).cell 0, (HBn.out.below hb HBn.out.lt).cell 1⟩
       have q0 : w3.drew.cell? ⟨F, 0, none⟩ = some (.string nm) := HBn.out.cell 0
       have q1 : w3.drew.cell? ⟨F, 1, none⟩ = some (.string dt) := HBn.out.cell 1
       go_region_held3 (fun W => W.cell? ⟨F, 0, none⟩ = some (.string nm) /\ W.cell? ⟨F, 1, none⟩ = some (.string dt))
        (first | (refine HS.out _ ?_; (repeat' (first | with_reducible exact Below.refl _ _ | with_reducible assumption | with_reducible apply Below.drew | with_reducible apply below_al | with_reducible apply Below.setCell | exact Qa _))))
        (first
         | (go_at_call 28; refine (CLn.out _ (HNa.out.below (by (repeat' (first | with_reducible exact Below.refl _ _ | with_reducible assumption | with_reducible apply Below.drew | with_reducible apply below_al))))).mono ?_; rintro e w7 ⟨rfl, rfl⟩)
         | (go_at_call 22; refine (CR.out _).mono ?_; rintro e w8 ⟨rfl, hb8⟩; have HB8 : Below w3.heap.size w3 w8 := bthen (by (repeat' (first | with_reducible exact Below.refl _ _ | with_reducible assumption | with_reducible apply Below.drew | with_reducible apply below_al))) hb8; (try (have hN8 : Blk w8 w3.heap.size 26 #[.string ⟨#[]⟩, .int .i64 0, .int .u32 0, .int .i64 0, .int .i64 0, .int .i64 0] := (by first | exact Blk.below (Blk.new _ _ _) hb8 (Blk.lt (Blk.new _ _ _)) | exact Blk.below (Blk.drew (Blk.new _ _ _)) hb8 (Blk.lt (Blk.drew (Blk.new _ _ _)))); have m0 : w8.cell? ⟨w3.heap.size, 0, none⟩ = some (.string ⟨#[]⟩) := hN8.cell 0; have f0 := hN8.frozen 0; have m1 : w8.cell? ⟨w3.heap.size, 1, none⟩ = some (.int .i64 0) := hN8.cell 1; have f1 := hN8.frozen 1; have m2 : w8.cell? ⟨w3.heap.size, 2, none⟩ = some (.int .u32 0) := hN8.cell 2; have f2 := hN8.frozen 2; have m3 : w8.cell? ⟨w3.heap.size, 3, none⟩ = some (.int .i64 0) := hN8.cell 3; have f3 := hN8.frozen 3; have m4 : w8.cell? ⟨w3.heap.size, 4, none⟩ = some (.int .i64 0) := hN8.cell 4; have f4 := hN8.frozen 4; have m5 : w8.cell? ⟨w3.heap.size, 5, none⟩ = some (.int .i64 0) := hN8.cell 5; have f5 := hN8.frozen 5; have HN8 := Qf hN8; clear hN8)); have hz8 := HB8.size; clear hb8))
       all_goals
        go_wp2_with fail
        go_meet
        first
         | exact ⟨_, rfl, rfl, hz8, Qf (Blk.new _ _ _), Qf (by (repeat' (first | with_reducible exact Below.refl _ _ | with_reducible assumption | with_reducible apply Below.drew | with_reducible apply below_al | with_reducible apply Below.setCell | exact Qa _)))⟩
         | exact ⟨_, rfl, rfl, Qa _, Qf (by
          have := (((((HN8.out.set_ 0 (.string nm)).set_ 1 (.int .i64 0)).set_ 2 (.int .u32 (cc : Int))).set_ 3 (.int .i64 (dt.size : Int))).set_ 4 (.int .i64 (dt.size : Int))).set_ 5 (.int .i64 (n0 : Int))
          simpa using this), Qf (by (repeat' (first | with_reducible exact Below.refl _ _ | with_reducible assumption | with_reducible apply Below.drew | with_reducible apply below_al | with_reducible apply Below.setCell | exact Qa _)))⟩
      case rest =>
       obtain ⟨K, rfl, rfl, hK3, HKb, HBc⟩ := hcut
       have hKne : (Value.slice oa j ocap).ownBlock ≠ some K := fun e => by have := (World.ownsRow.lt HOa.out K e).2; omega
       have HKne := Qf hKne
       have hK1 : w1.heap.size <= K := Qe HBa.out.size hK3
       have HK1 := Qf hK1
       have HX4 := Qf (HBn.out.below HBc.out HBn.out.lt)
       have HN4 := Qf (HNa.out.below HBc.out)
       have HO4 := Qf (HOa.out.below HBc.out (Qa _))
       have HB4 := Qf (bthen HBa.out HBc.out)
       have u0 : wc.cell? ⟨F, 0, none⟩ = some (.string nm) := HX4.out.cell 0
       have u1 : wc.cell? ⟨F, 1, none⟩ = some (.string dt) := HX4.out.cell 1
       clear HNa HOa HBa HBn HBc hKne hK3 hK1 CR CLn
       go_wp2_with fail
       refine (CD.out _).mono ?_
       rintro e w5 ⟨rfl, hb5⟩
       have HN5 := Qf (HN4.out.below hb5)
       have HO5 := Qf (HO4.out.below hb5 (Qa _))
       have HB5 := Qf (bthen HB4.out hb5)
       have HK5 := Qf (HKb.out.below hb5 HKb.out.lt)
       clear HN4 HO4 HB4 HKb HX4 u0 u1 hb5 CD
       by_cases hsm : d.size < dt.size
       . have dd : decide ((d.size : Int) < (dt.size : Int)) = true := Qg (by omega)
         have ddb : decide (d.size < dt.size) = true := Qg (by omega)
         have HPc : Hid (pc = ⟨⟨nm, 8, cc, (d.size : Int), (dt.size : Int), (n0 : Int)⟩, d, dt⟩) := by show _ = _; rw [HPO.out, if_pos hsm]
         have hdz : d.size <= 65536 := by omega
         have v1 : w5.cell? ⟨K, 1, none⟩ = some (.int .i64 0) := HK5.out.cell 1
         have v3 : w5.cell? ⟨K, 3, none⟩ = some (.int .i64 (dt.size : Int)) := HK5.out.cell 3
         have f1 := HK5.out.frozen 1
         have f3 := HK5.out.frozen 3
         clear HPO
         go_upto_region 16 with fail
         have hx6 := grown_two w5 K (.int .i64 8) (.int .i64 (d.size : Int))
         have HK6 : Hid (Blk ((w5.setCell ⟨K, 1, none⟩ (.int .i64 8)).setCell ⟨K, 3, none⟩ (.int .i64 (d.size : Int))) K 26 #[.string nm, .int .i64 8, .int .u32 (cc : Int), .int .i64 (d.size : Int), .int .i64 (dt.size : Int), .int .i64 (n0 : Int)]) := by
          have := (HK5.out.set_ 1 (.int .i64 8)).set_ 3 (.int .i64 (d.size : Int))
          show Blk _ _ _ _
          simpa using this
         have HN6 := Qf (HN5.out.grownK HK5.out hx6)
         have HO6 : Hid (OwnH ((w5.setCell ⟨K, 1, none⟩ (.int .i64 8)).setCell ⟨K, 3, none⟩ (.int .i64 (d.size : Int))) w1.heap.size (.slice oa j ocap) (Q.map Part.h)) := World.ownsRow.kept HO5.out hx6 (.inr HKne.out)
         have HB6 := Qf (HB5.out.grown hx6 HB5.out.size (fun k e => by simp only [Option.some.injEq] at e; subst e; exact HK1.out))
         obtain ⟨w6, HW6⟩ := Qi (((w5.setCell ⟨K, 1, none⟩ (.int .i64 8)).setCell ⟨K, 3, none⟩ (.int .i64 (d.size : Int))))
         rw [HW6.out] at HK6 HN6 HO6 HB6 ⊢
         clear hx6 HW6 v1 v3 f1 f3 HN5 HO5 HB5 HK5
         have CL := Qf (fun W => local_any ⟨nm, 8, cc, (d.size : Int), (dt.size : Int), (n0 : Int)⟩ hcr (by show nm.size <= _; omega) W)
         have hlz : (⟨(localL ⟨nm, 8, cc, (d.size : Int), (dt.size : Int), (n0 : Int)⟩).toArray⟩ : ByteArray).size = 30 + nm.size := locB_size ⟨nm, 8, cc, (d.size : Int), (dt.size : Int), (n0 : Int)⟩
         have hpl : Hid (partL pc = ((⟨(localL ⟨nm, 8, cc, (d.size : Int), (dt.size : Int), (n0 : Int)⟩).toArray⟩ : ByteArray) ++ d).data.toList) := by show _ = _; rw [HPc.out]; unfold partL; simp only [ByteArray.data_append, Array.toList_append]
         unfold Hd.val Hd.cells at CL
         dsimp only at CL
         obtain ⟨lo, Hlo⟩ := Qi ((⟨(localL ⟨nm, 8, cc, (d.size : Int), (dt.size : Int), (n0 : Int)⟩).toArray⟩ : ByteArray))
         rw [Hlo.out] at CL hlz hpl
         have CW := Qf (fun (W : World) (hh : BldAt W B v l0) => bldWrite_any B v l0 (lo ++ d) (by rw [ByteArray.size_append, Hn0.out]; omega) W hh)
         have hov1 : ¬ 9223372036854775807 < lo.size + d.size := by omega
         have hov2 : ¬ 9223372036854775807 < 30 + nm.size + d.size := by omega
         have HLz := Qf hlz
         have k0 : w6.cell? ⟨K, 0, none⟩ = some (.string nm) := HK6.out.cell 0
         have k1 : w6.cell? ⟨K, 1, none⟩ = some (.int .i64 8) := HK6.out.cell 1
         have k2 : w6.cell? ⟨K, 2, none⟩ = some (.int .u32 (cc : Int)) := HK6.out.cell 2
         have k3 : w6.cell? ⟨K, 3, none⟩ = some (.int .i64 (d.size : Int)) := HK6.out.cell 3
         have k4 : w6.cell? ⟨K, 4, none⟩ = some (.int .i64 (dt.size : Int)) := HK6.out.cell 4
         have k5 : w6.cell? ⟨K, 5, none⟩ = some (.int .i64 (n0 : Int)) := HK6.out.cell 5
         have hos : w6.ownsRow w1.heap.size 26 6 (.slice oa j ocap) j (hcells (Q.map Part.h)) := by
          have := HO6.out
          unfold OwnH at this
          rwa [List.length_map, HJ.out] at this
         have hbsw : w1.heap.size <= w6.heap.size := HB6.out.size
         have hone : ∀ u ∈ ([.string nm, .int .i64 8, .int .u32 (cc : Int), .int .i64 (d.size : Int), .int .i64 (dt.size : Int), .int .i64 (n0 : Int)] : List Value), u.oneCell' = true := hd_one ⟨nm, 8, cc, (d.size : Int), (dt.size : Int), (n0 : Int)⟩
         go_wp2_with (first
          | (at_builtin; go_must (refine wpList_append_elem _ rfl (.tmp 69) (.tmp 71) rfl Try.underlying22 info_head rfl (by decide) w1.heap.size (.slice oa j ocap) j (hcells (Q.map Part.h)) [.string nm, .int .i64 8, .int .u32 (cc : Int), .int .i64 (d.size : Int), .int .i64 (dt.size : Int), .int .i64 (n0 : Int)] hos rfl hone rfl rfl rfl ?_ ?_ hbsw ?_; (unfold maxLen; omega); omega; intro v8 w8 hown8 hg8; have HO8 : Hid (OwnH w8 w1.heap.size v8 ((Q ++ [pc]).map Part.h)) := (by show OwnH _ _ _ _; rw [List.map_append, HPc.out]; exact OwnH.snoc (by rw [List.length_map, HJ.out]; exact hown8)); have HN8 := Qf (HN6.out.grownH HO6.out hg8); have HB8 := Qf (HB6.out.trans (below_grown hos hg8 hbsw)); have hK8 := HK6.out.grown hg8 (fun e => HKne.out e.symm); have r0 : w8.cell? ⟨K, 0, none⟩ = some (.string nm) := hK8.cell 0; have r1 : w8.cell? ⟨K, 1, none⟩ = some (.int .i64 8) := hK8.cell 1; have r2 : w8.cell? ⟨K, 2, none⟩ = some (.int .u32 (cc : Int)) := hK8.cell 2; have r3 : w8.cell? ⟨K, 3, none⟩ = some (.int .i64 (d.size : Int)) := hK8.cell 3; have r4 : w8.cell? ⟨K, 4, none⟩ = some (.int .i64 (dt.size : Int)) := hK8.cell 4; have r5 : w8.cell? ⟨K, 5, none⟩ = some (.int .i64 (n0 : Int)) := hK8.cell 5; clear hown8 hg8 hK8 k0 k1 k2 k3 k4 k5))
          | fail)
         refine (CL.out _).mono ?_
         rintro e w9 ⟨rfl, hb9⟩
         have HN9 := Qf (HN8.out.below hb9)
         have HO9 := Qf (HO8.out.below hb9 (Qa _))
         have HB9 := Qf (bthen HB8.out hb9)
         clear hb9 HN8 HO8 HB8 CL r0 r1 r2 r3 r4 r5
         go_wp2_with fail
         refine (CW.out _ HN9.out).mono ?_
         rintro e w10 ⟨rfl, v10, hn10, hc10, hf10⟩
         have HN10 : Hid (BldAt w10 B v10 (archL (Q ++ [pc]))) := by show BldAt _ _ _ _; rw [archL_snoc, Hl0.out, hpl.out]; exact hn10
         have HO10 := Qf (HO9.out.chg HN9.out hc10)
         have HB10 := Qf (hc10.below HB9.out (by rw [HB.out]; exact Qa _) (fun g e => by have := (World.ownsRow.lt HN9.out.2 g e).1; have := HB.out; omega))
         clear hn10 hc10 hf10 HN9 HO9 HB9 CW
         go_wp2_with fail
         go_roundw
         case rel =>
          have ez : (archL (Q ++ [pc])).length = n0 + (partL pc).length := by rw [archL_snoc, List.length_append, Hl0.out, Hn0.out]
          exact ⟨j + 1, Q ++ [pc], v10, by omega, by rw [List.length_append, HJ.out]; rfl, by go_num, by rw [ez]; omega, (by show _ = _; rw [ez, List.append_assoc]; exact HPq2.out), HN10, HO10, HB10, fun h => by omega⟩
         case measure => simp [intOf]; omega
       . have dd : decide ((d.size : Int) < (dt.size : Int)) = false := Qh (by omega)
         have ddb : decide (d.size < dt.size) = false := Qh (by omega)
         have HPc : Hid (pc = ⟨⟨nm, 0, cc, (dt.size : Int), (dt.size : Int), (n0 : Int)⟩, dt, dt⟩) := by show _ = _; rw [HPO.out, if_neg hsm]
         clear HPO hsm
         go_upto_region 16 with fail
         have HK6 := HK5
         have HN6 := HN5
         have HO6 := HO5
         have HB6 := HB5
         clear HN5 HO5 HB5 HK5
         have CL := Qf (fun W => local_any ⟨nm, 0, cc, (dt.size : Int), (dt.size : Int), (n0 : Int)⟩ hcr (by show nm.size <= _; omega) W)
         have hlz : (⟨(localL ⟨nm, 0, cc, (dt.size : Int), (dt.size : Int), (n0 : Int)⟩).toArray⟩ : ByteArray).size = 30 + nm.size := locB_size ⟨nm, 0, cc, (dt.size : Int), (dt.size : Int), (n0 : Int)⟩
         have hpl : Hid (partL pc = ((⟨(localL ⟨nm, 0, cc, (dt.size : Int), (dt.size : Int), (n0 : Int)⟩).toArray⟩ : ByteArray) ++ dt).data.toList) := by show _ = _; rw [HPc.out]; unfold partL; simp only [ByteArray.data_append, Array.toList_append]
         unfold Hd.val Hd.cells at CL
         dsimp only at CL
         obtain ⟨lo, Hlo⟩ := Qi ((⟨(localL ⟨nm, 0, cc, (dt.size : Int), (dt.size : Int), (n0 : Int)⟩).toArray⟩ : ByteArray))
         rw [Hlo.out] at CL hlz hpl
         have CW := Qf (fun (W : World) (hh : BldAt W B v l0) => bldWrite_any B v l0 (lo ++ dt) (by rw [ByteArray.size_append, Hn0.out]; omega) W hh)
         have hov1 : ¬ 9223372036854775807 < lo.size + dt.size := by omega
         have hov2 : ¬ 9223372036854775807 < 30 + nm.size + dt.size := by omega
         have HLz := Qf hlz
         have k0 : w5.cell? ⟨K, 0, none⟩ = some (.string nm) := HK6.out.cell 0
         have k1 : w5.cell? ⟨K, 1, none⟩ = some (.int .i64 0) := HK6.out.cell 1
         have k2 : w5.cell? ⟨K, 2, none⟩ = some (.int .u32 (cc : Int)) := HK6.out.cell 2
         have k3 : w5.cell? ⟨K, 3, none⟩ = some (.int .i64 (dt.size : Int)) := HK6.out.cell 3
         have k4 : w5.cell? ⟨K, 4, none⟩ = some (.int .i64 (dt.size : Int)) := HK6.out.cell 4
         have k5 : w5.cell? ⟨K, 5, none⟩ = some (.int .i64 (n0 : Int)) := HK6.out.cell 5
         have hos : w5.ownsRow w1.heap.size 26 6 (.slice oa j ocap) j (hcells (Q.map Part.h)) := by
          have := HO6.out
          unfold OwnH at this
          rwa [List.length_map, HJ.out] at this
         have hbsw : w1.heap.size <= w5.heap.size := HB6.out.size
         have hone : ∀ u ∈ ([.string nm, .int .i64 0, .int .u32 (cc : Int), .int .i64 (dt.size : Int), .int .i64 (dt.size : Int), .int .i64 (n0 : Int)] : List Value), u.oneCell' = true := hd_one ⟨nm, 0, cc, (dt.size : Int), (dt.size : Int), (n0 : Int)⟩
         go_wp2_with (first
          | (at_builtin; go_must (refine wpList_append_elem _ rfl (.tmp 69) (.tmp 71) rfl Try.underlying22 info_head rfl (by decide) w1.heap.size (.slice oa j ocap) j (hcells (Q.map Part.h)) [.string nm, .int .i64 0, .int .u32 (cc : Int), .int .i64 (dt.size : Int), .int .i64 (dt.size : Int), .int .i64 (n0 : Int)] hos rfl hone rfl rfl rfl ?_ ?_ hbsw ?_; (unfold maxLen; omega); omega; intro v8 w8 hown8 hg8; have HO8 : Hid (OwnH w8 w1.heap.size v8 ((Q ++ [pc]).map Part.h)) := (by show OwnH _ _ _ _; rw [List.map_append, HPc.out]; exact OwnH.snoc (by rw [List.length_map, HJ.out]; exact hown8)); have HN8 := Qf (HN6.out.grownH HO6.out hg8); have HB8 := Qf (HB6.out.trans (below_grown hos hg8 hbsw)); have hK8 := HK6.out.grown hg8 (fun e => HKne.out e.symm); have r0 : w8.cell? ⟨K, 0, none⟩ = some (.string nm) := hK8.cell 0; have r1 : w8.cell? ⟨K, 1, none⟩ = some (.int .i64 0) := hK8.cell 1; have r2 : w8.cell? ⟨K, 2, none⟩ = some (.int .u32 (cc : Int)) := hK8.cell 2; have r3 : w8.cell? ⟨K, 3, none⟩ = some (.int .i64 (dt.size : Int)) := hK8.cell 3; have r4 : w8.cell? ⟨K, 4, none⟩ = some (.int .i64 (dt.size : Int)) := hK8.cell 4; have r5 : w8.cell? ⟨K, 5, none⟩ = some (.int .i64 (n0 : Int)) := hK8.cell 5; clear hown8 hg8 hK8 k0 k1 k2 k3 k4 k5))
          | fail)
         refine (CL.out _).mono ?_
         rintro e w9 ⟨rfl, hb9⟩
         have HN9 := Qf (HN8.out.below hb9)
         have HO9 := Qf (HO8.out.below hb9 (Qa _))
         have HB9 := Qf (bthen HB8.out hb9)
         clear hb9 HN8 HO8 HB8 CL r0 r1 r2 r3 r4 r5
         go_wp2_with fail
         refine (CW.out _ HN9.out).mono ?_
         rintro e w10 ⟨rfl, v10, hn10, hc10, hf10⟩
         have HN10 : Hid (BldAt w10 B v10 (archL (Q ++ [pc]))) := by show BldAt _ _ _ _; rw [archL_snoc, Hl0.out, hpl.out]; exact hn10
         have HO10 := Qf (HO9.out.chg HN9.out hc10)
         have HB10 := Qf (hc10.below HB9.out (by rw [HB.out]; exact Qa _) (fun g e => by have := (World.ownsRow.lt HN9.out.2 g e).1; have := HB.out; omega))
         clear hn10 hc10 hf10 HN9 HO9 HB9 CW
         go_wp2_with fail
         go_roundw
         case rel =>
          have ez : (archL (Q ++ [pc])).length = n0 + (partL pc).length := by rw [archL_snoc, List.length_append, Hl0.out, Hn0.out]
          exact ⟨j + 1, Q ++ [pc], v10, by omega, by rw [List.length_append, HJ.out]; rfl, by go_num, by rw [ez]; omega, (by show _ = _; rw [ez, List.append_assoc]; exact HPq2.out), HN10, HO10, HB10, fun h => by omega⟩
         case measure => simp [intOf]; omega
    . obtain rfl : j = M := by omega
      have dj : decide ((j : Int) < (j : Int)) = false := Qh (by omega)
      have hQ : Q = P := by
       have := HPq.out
       rwa [List.drop_of_length_le (by rw [HM.out]; exact Qa _), packL, List.append_nil] at this
      have hfit : ∀ h ∈ P.map Part.h, h.Fit := placed_fit P 0 (by rw [<- HP.out]; exact packL_placed D L 0 Hsz.out (by rw [HM.out]; omega))
      have hpl2 : (P.map Part.h).length = j := by rw [List.length_map, <- hQ, HJ.out]
      have hmost := idxH_most (P.map Part.h) fun h hh => (hfit h hh).2.2.2.2.2
      have hnil : archL Q ≠ [] \/ v = .slice none 0 0 := by
       by_cases h0 : j = 0
       . exact .inr (Hv0.out h0)
       . left
         intro e
         cases hq2 : Q with
         | nil => have := HJ.out; rw [hq2] at this; exact h0 this.symm
         | cons q r =>
          rw [hq2] at e
          have := congrArg List.length e
          rw [show archL (q :: r) = partL q ++ archL r from rfl, List.length_append, partL_len, List.length_nil] at this
          omega
      have CS := Qf (bldString_any w1 B v (archL Q) (by omega) wr HN.out HBl.out (by rw [HB.out]; exact Qa _) hnil)
      obtain ⟨va, vcap, rfl⟩ := OwnB.slice HN.out.2
      have hwl : Hid ((⟨(archL Q).toArray⟩ : ByteArray) ++ ⟨(indexL (P.map Part.h) ((archL Q).length : Int)).toArray⟩ = ⟨(wholeL P).toArray⟩) := by
       show _ = _
       unfold wholeL
       rw [hQ]
       apply ByteArray.ext
       apply Array.ext'
       simp only [ByteArray.data_append, Array.toList_append]
      have HRg := Qf (HO.out)
      rw [hQ] at HRg
      have CI := Qf (fun (W : World) (hr : HRow W oa (P.map Part.h)) => index_any (P.map Part.h) oa ocap ((archL Q).length : Int) (by omega) (fun h hh => (hfit h hh).2.1) (fun h hh => Nat.le_of_lt (Nat.lt_trans (hfit h hh).2.2.2.2.2 (by decide))) (by omega) W hr)
      rw [hpl2] at CI
      have hzA : (⟨(archL Q).toArray⟩ : ByteArray).size = (archL Q).length := by show (archL Q).toArray.size = _; rw [List.size_toArray]
      have hzI : (⟨(indexL (P.map Part.h) ((archL Q).length : Int)).toArray⟩ : ByteArray).size = (idxH (P.map Part.h)).length + 22 := by show (indexL (P.map Part.h) ((archL Q).length : Int)).toArray.size = _; rw [List.size_toArray, indexL_len]
      have hzW : (wholeL P).length = (archL Q).length + ((idxH (P.map Part.h)).length + 22) := by unfold wholeL; rw [List.length_append, indexL_len, hQ]
      obtain ⟨n0, Hn0⟩ := Qi ((archL Q).length)
      obtain ⟨A, HA⟩ := Qi ((⟨(archL Q).toArray⟩ : ByteArray))
      rw [Hn0.out] at CI hzA hzI hzW hwl hq
      obtain ⟨I, HI⟩ := Qi ((⟨(indexL (P.map Part.h) (n0 : Int)).toArray⟩ : ByteArray))
      rw [HA.out] at CS hzA hwl
      rw [HI.out] at CI hzI hwl
      have HF3 : Hid (RES = if 262144 < A.size + I.size then .error 2 else .ok (A ++ I)) := by show _ = _; rw [HF2.out, hwl.out, hzW, hzA, hzI]
      have hAb : A.size <= 20000000 := by omega
      have hIb : I.size <= 20000000 := by omega
      have hov : ¬ 9223372036854775807 < A.size + I.size := by omega
      obtain ⟨oa2, ocap2, he2, hrw2⟩ := HRg.out.view
      have HAl : Hid (n0 = A.size) := hzA.symm
      clear hQ hfit hmost hnil HPq HF2 hwl hzA hzI hzW hpl2 HI HA he2 hrw2
      go_wp2_with fail
      refine CS.out.mono ?_
      rintro e w3 ⟨rfl, hb3, hk3, hs3, p3, hB3⟩
      have HB3 := Qf hb3
      have HO3 := HRg.out.keepU hk3
      have hrow3 : HRow w3 oa (P.map Part.h) := by
       obtain ⟨oa3, ocap3, he3, hr3⟩ := HO3.view
       injection he3 with e1 _ _
       rw [e1]; exact hr3
      have HR3 := Qf hrow3
      have CLn := Qf (bldLen_blk B va (archL Q).length vcap p3 w3 hB3)
      rw [Hn0.out] at CLn
      clear hb3 hk3 hs3 hB3 HO3 hrow3 CS
      go_wp2_with fail
      refine CLn.out.mono ?_
      rintro e w4 ⟨rfl, rfl⟩
      go_wp2_with fail
      refine (CI.out _ HR3.out).mono ?_
      rintro e w5 ⟨rfl, hb5⟩
      have HB5 := Qf (bthen HB3.out hb5)
      clear hb5
      by_cases hbig : 262144 < A.size + I.size
      . have hr : RES = .error 2 := by rw [HF3.out, if_pos hbig]
        subst hr
        have t1 : decide ((262144 : Int) < (A.size : Int) + (I.size : Int)) = true := Qg (by omega)
        have t2 : decide (262144 < A.size + I.size) = true := Qg (by omega)
        clear HF3
        go_wp2_with fail
        go_ret2
        exact ⟨bthen HB1.out HB5.out, .inl ⟨2, rfl, by decide, rfl⟩⟩
      . have hr : RES = .ok (A ++ I) := by rw [HF3.out, if_neg hbig]
        subst hr
        have t1 : decide ((262144 : Int) < (A.size : Int) + (I.size : Int)) = false := Qh (by omega)
        have t2 : decide (262144 < A.size + I.size) = false := Qh (by omega)
        clear HF3
        go_wp2_with fail
        go_ret2
        exact ⟨bthen HB1.out HB5.out, .inr ⟨_, rfl, rfl⟩⟩
 . have hr : RES = .error c := by rw [HF.out, if_pos hc]
   subst hr
   have hcI : ¬ (c : Int) = 0 := by omega
   clear HF HDf HKo
   go_enter Try.func20, Try.ntmps20
   go_wp2_with fail
   refine (CC.out _ HRo.out).mono ?_
   rintro r w1 ⟨rfl, hb1⟩
   have HB1 := Qf hb1
   clear hb1
   go_wp2_with fail
   go_ret2
   exact ⟨HB1.out, .inl ⟨c, rfl, hc, rfl⟩⟩
def OwnHr (w : World) (base : Nat) (v : Value) (L : List Hd) : Prop := w.ownsRow base 27 6 v L.length (hcells L)
theorem info_rhead : (Try.prog.info? 27).map (fun i => (i.zero, i.size, i.bytes)) = some (some (.agg #[.string ⟨#[]⟩, .int .i64 0, .int .u32 0, .int .i64 0, .int .i64 0, .int .i64 0]), 6, 56) := by kernel_rfl
theorem OwnHr.empty (w : World) (base : Nat) (hb : base <= w.heap.size) : OwnHr (w.alloc (.cells #[] 27)) base (.slice (some ⟨w.heap.size, 0, none⟩) 0 0) [] :=
 ⟨rfl, .inr ⟨w.heap.size, 0, #[], rfl, hb, Blk.new w _ _, Qa _, Nat.zero_le _, rfl, rfl⟩⟩
theorem OwnHr.snoc {w : World} {base : Nat} {v : Value} {L : List Hd} {h : Hd} (ho : w.ownsRow base 27 6 v (L.length + 1) (hcells L ++ h.cells.toList)) : OwnHr w base v (L ++ [h]) := by
 unfold OwnHr
 rw [List.length_append, hcells_append]
 have e : hcells [h] = h.cells.toList := by simp [hcells]
 rw [e]
 exact ho
theorem OwnHr.view {w : World} {base : Nat} {v : Value} {L : List Hd} (h : OwnHr w base v L) : ∃ a cap, v = .slice a L.length cap /\ HRow w a L := by
 have hlt := World.ownsRow.lt h
 have hc := fun g hg => World.ownsRow.cells h (g := g) hg
 rcases h.2 with ⟨rfl, h0⟩ | ⟨G, cap, cur, rfl, _⟩
 . exact ⟨none, 0, by rw [h0], fun k hk => by omega⟩
 . refine ⟨_, _, rfl, fun k hk => ⟨G, 0, rfl, (hlt G rfl).2, fun i u hu => ?_⟩⟩
   have e0 : ∀ j, (⟨G, 0, none⟩ : Addr).add j = ⟨G, j, none⟩ := fun j => by unfold Addr.add; split <;> simp_all
   have := hc G rfl (k * 6 + i) u (hcells_at L k i u hk hu)
   rw [e0] at this
   rwa [Nat.zero_add]
theorem OwnHr.below {w w' : World} {base B : Nat} {v : Value} {L : List Hd} (h : OwnHr w base v L) (hb : Below B w w') (hB : w.heap.size <= B) : OwnHr w' base v L := by
 have hlt := World.ownsRow.lt h
 refine ⟨h.1, ?_⟩
 rcases h.2 with h2 | ⟨g, cap, cur, rfl, h3, h4, h5⟩
 . exact .inl h2
 . exact .inr ⟨g, cap, cur, rfl, h3, (hb.block g (Qb (hlt g rfl).2 hB)).trans h4, h5⟩
noncomputable def rlistF (s : ByteArray) : Option (List Hd) :=
 if s.size < rplace s then none else if indexL (rlistL s (s.size + 1) (rplace s) []) (rplace s : Int) ≠ (s.extract (rplace s) s.size).data.toList then none else some (rlistL s (s.size + 1) (rplace s) [])
def ListPost (s : ByteArray) (w : World) (r : Ending) (w' : World) : Prop :=
 Below w.heap.size w w' /\ ((rlistF s = none /\ r = .returned (.tuple #[.slice none 0 0, .int .i64 (-1)])) \/ (∃ l v, rlistF s = some l /\ r = .returned (.tuple #[v, .int .i64 (rplace s : Int)]) /\ OwnHr w' w.heap.size v l))
theorem rplace_any (s : ByteArray) (hs : s.size <= 1000000) (w : World) : Calls Try.prog 55 #[.string s, .int .i64 ((s.size : Int) - 6), .int .i64 4] w fun e w' => e = .returned (.int .i64 (rplace s : Int)) /\ w = w' := by
 by_cases h : s.size < 6
 . have e : rplace s = 0 := by unfold rplace; rw [if_pos h]
   rw [e]
   exact rget_neg s _ 4 (by omega) w
 . have e : rplace s = rget s (s.size - 6) 4 := by unfold rplace rget; rw [if_neg h, if_neg (by omega)]
   rw [e, show (s.size : Int) - 6 = ((s.size - 6 : Nat) : Int) by omega]
   exact rget_any s (s.size - 6) 4 (by decide) (by omega) (by omega) w
theorem at_w (a b c : Nat) (h : a + b = c) (ha : a <= 1000000) (hb : b <= 70000) : IntKind.i64.wrap ((a : Int) + (b : Int)) = (c : Int) := by rw [IntKind.wrap_i64]; omega
theorem le46 {i i46 e s c z p k : Nat} (h1 : i + 46 = i46) (h2 : i46 + k = e) (h3 : e <= s) (hp : i + c = p) (hc : c + z <= 46) : p + z <= s := by omega
set_option maxHeartbeats 8000000 in
theorem list_any (s : ByteArray) (hs : s.size <= 1000000) (w : World) : Calls Try.prog 36 #[.string s] w (ListPost s w) := by
 have CP := Qf (fun W => rplace_any s hs W)
 have HF : Hid (rlistF s = if s.size < rplace s then none else if indexL (rlistL s (s.size + 1) (rplace s) []) (rplace s : Int) ≠ (s.extract (rplace s) s.size).data.toList then none else some (rlistL s (s.size + 1) (rplace s) [])) := rfl
 have HB0 := Qf (Below.refl w.heap.size w)
 unfold ListPost
 obtain ⟨RES, HR⟩ := Qi (rlistF s)
 rw [HR.out] at HF ⊢
 obtain ⟨a, Ha⟩ := Qi (rplace s)
 rw [Ha.out] at CP HF ⊢
 clear HR Ha
 by_cases h1 : s.size < a
 . have d1 : decide ((s.size : Int) < (a : Int)) = true := Qg (by omega)
   have d1b : decide (s.size < a) = true := Qg (by omega)
   have hr : RES = none := by rw [HF.out, if_pos h1]
   subst hr
   clear HF h1
   go_enter Try.func36, Try.ntmps36
   go_wp2_with fail
   refine (CP.out _).mono ?_
   rintro e w1 ⟨rfl, rfl⟩
   go_wp2_with fail
   go_ret2
   exact ⟨HB0.out, .inl (by first | exact ⟨rfl, rfl⟩ | exact ⟨trivial, rfl⟩ | exact rfl)⟩
 . have d1 : decide ((s.size : Int) < (a : Int)) = false := Qh (by omega)
   have d1b : decide (s.size < a) = false := Qh (by omega)
   obtain ⟨LR, HLR⟩ := Qi (rlistL s (s.size + 1) a [])
   have HF2 : Hid (RES = if indexL LR (a : Int) ≠ (s.extract a s.size).data.toList then none else some LR) := by show _ = _; rw [HF.out, if_neg h1, HLR.out]
   have HO0 : Hid (OwnHr (w.alloc (.cells #[] 27)) w.heap.size (.slice (some ⟨w.heap.size, 0, none⟩) 0 0) []) := OwnHr.empty w _ (Qa _)
   have HBa := Qf ((Below.refl w.heap.size w).alloc (Qa _) (.cells #[] 27))
   obtain ⟨w1, HW1⟩ := Qi (w.alloc (.cells #[] 27))
   rw [HW1.out] at HO0 HBa
   have has : a <= s.size := by omega
   have CG0 := Qf (fun (p z : Nat) (hz : z <= 4) (hp : p <= 9000000000) (W : World) => rget_any s p z hz (by omega) hp W)
   clear HF h1
   go_enter Try.func36, Try.ntmps36
   go_wp2_with fail
   refine (CP.out _).mono ?_
   rintro e w2 ⟨rfl, rfl⟩
   go_wp2_with fail
   rw [HW1.out]
   clear HW1 CP
   go_loopw [5, 6, 7] (fun v_ n_ i_ wq => ∃ (i f : Nat) (out : List Hd), i <= s.size /\ s.size < f + i /\ 46 * out.length <= i /\ n_ = .int .i64 (out.length : Int) /\ i_ = .int .i64 (i : Int) /\ Hid (rlistL s f i out = LR) /\ Hid (∀ h ∈ out, h.Fit) /\ Hid (OwnHr wq w.heap.size v_ out) /\ Hid (Below w.heap.size w wq)) (fun _ _ i _ => s.size - (intOf i).toNat)
   case atStart => exact ⟨a, s.size + 1, [], has, by omega, Nat.zero_le _, rfl, rfl, HLR, (fun _ h => by cases h), HO0, HBa⟩
   case round =>
    clear HO0 HBa HLR
    obtain ⟨i, f, out, his, hfi, hoi, rfl, rfl, HL, HFt, HO, HB⟩ := hrel
    obtain ⟨oa, ocap, rfl, hrow⟩ := HO.out.view
    have HRw := Qf hrow
    obtain ⟨k0, Hk0⟩ := Qi (out.length)
    rw [Hk0.out] at hoi HO ⊢
    clear hrow
    obtain ⟨f, rfl⟩ : ∃ g, f = g + 1 := ⟨f - 1, by omega⟩
    have hL : (if i + 4 <= s.size /\ s.extract i (i + 4) = ⟨#[80, 75, 1, 2]⟩ /\ i + 46 + rget s (i + 28) 2 <= s.size then rlistL s f (i + 46 + rget s (i + 28) 2) (out ++ [headAt s i]) else out) = LR := HL.out
    obtain ⟨i4, Hi4⟩ := Qi (i + 4)
    obtain ⟨i28, Hi28⟩ := Qi (i + 28)
    obtain ⟨i46, Hi46⟩ := Qi (i + 46)
    have hi1 : i <= 1000000 := Qe his hs
    have v4 : IntKind.i64.wrap ((i : Int) + 4) = (i4 : Int) := at_w i 4 i4 Hi4.out hi1 (by decide)
    have v28 : IntKind.i64.wrap ((i : Int) + 28) = (i28 : Int) := at_w i 28 i28 Hi28.out hi1 (by decide)
    have v46 : IntKind.i64.wrap ((i : Int) + 46) = (i46 : Int) := at_w i 46 i46 Hi46.out hi1 (by decide)
    have CK := Qf (CG0.out i28 2 (by decide) (by have := Hi28.out; omega))
    have hklt : rget s i28 2 < 65536 := by
     unfold rget
     split
     . decide
     . exact at2_lt s i28
    rw [Hi4.out, Hi28.out, Hi46.out] at hL
    obtain ⟨k, Hk⟩ := Qi (rget s i28 2)
    rw [Hk.out] at CK hklt hL
    obtain ⟨e, He⟩ := Qi (i46 + k)
    have ve : IntKind.i64.wrap ((i46 : Int) + (k : Int)) = (e : Int) := by
     have q46 := Hi46.out
     have qe := He.out
     rw [IntKind.wrap_i64]; omega
    rw [He.out] at hL
    obtain ⟨y, hy⟩ : ∃ y, ((s.extract i i4).toList == (⟨#[80, 75, 1, 2]⟩ : ByteArray).toList) = y := ⟨_, rfl⟩
    have hyi : y = true ↔ s.extract i i4 = ⟨#[80, 75, 1, 2]⟩ := by rw [<- hy]; exact bytes_eq
    have HL2 := Qf hL
    have hn2 : ((2 : Nat) : Int) = 2 := rfl
    have hi4I : (i : Int) <= (i4 : Int) := by have := Hi4.out; omega
    rw [hn2] at CK
    clear hL HL
    have hyl : ((s.extract i i4).toList == [80, 75, 1, 2]) = y := by rw [<- hy, ByteArray.toList_eq ⟨#[80, 75, 1, 2]⟩]
    by_cases hgo : i4 <= s.size /\ y = true /\ e <= s.size
    . obtain ⟨c1, c2, c3⟩ := hgo
      have HL3 : Hid (rlistL s f e (out ++ [headAt s i]) = LR) := by show _ = _; rw [<- HL2.out, if_pos ⟨c1, hyi.1 c2, c3⟩]
      have e1 : decide ((i4 : Int) <= (s.size : Int)) = true := Qg (by omega)
      have e1b : decide (i4 <= s.size) = true := Qg (by omega)
      have c1I : (i4 : Int) <= (s.size : Int) := by omega
      have e3 : decide ((e : Int) <= (s.size : Int)) = true := Qg (by omega)
      have e3b : decide (e <= s.size) = true := Qg (by omega)
      subst c2
      have CG : Hid (∀ (p z : Nat), z <= 4 -> p <= 9000000000 -> ∀ W, Calls Try.prog 55 #[.string s, .int .i64 (p : Int), .int .i64 (z : Int)] W fun e w' => e = .returned (.int .i64 (rget s p z : Int)) /\ W = w') := CG0.out
      obtain ⟨i10, Hi10⟩ := Qi (i + 10)
      obtain ⟨i16, Hi16⟩ := Qi (i + 16)
      obtain ⟨i20, Hi20⟩ := Qi (i + 20)
      obtain ⟨i24, Hi24⟩ := Qi (i + 24)
      obtain ⟨i42, Hi42⟩ := Qi (i + 42)
      have v10 : IntKind.i64.wrap ((i : Int) + 10) = (i10 : Int) := at_w i 10 i10 Hi10.out hi1 (by decide)
      have v16 : IntKind.i64.wrap ((i : Int) + 16) = (i16 : Int) := at_w i 16 i16 Hi16.out hi1 (by decide)
      have v20 : IntKind.i64.wrap ((i : Int) + 20) = (i20 : Int) := at_w i 20 i20 Hi20.out hi1 (by decide)
      have v24 : IntKind.i64.wrap ((i : Int) + 24) = (i24 : Int) := at_w i 24 i24 Hi24.out hi1 (by decide)
      have v42 : IntKind.i64.wrap ((i : Int) + 42) = (i42 : Int) := at_w i 42 i42 Hi42.out hi1 (by decide)
      have hg : ∀ p z, p + z <= s.size -> rget s p z = atN s p z := fun p z h => by unfold rget; rw [if_neg (by omega)]
      have hhd : headAt s i = ⟨s.extract i46 e, (rget s i10 2 : Int), rget s i16 4, (rget s i20 4 : Int), (rget s i24 4 : Int), (rget s i42 4 : Int)⟩ := by
       unfold headAt
       rw [hg i10 2 (le46 Hi46.out He.out c3 Hi10.out (by decide)), hg i16 4 (le46 Hi46.out He.out c3 Hi16.out (by decide)), hg i20 4 (le46 Hi46.out He.out c3 Hi20.out (by decide)), hg i24 4 (le46 Hi46.out He.out c3 Hi24.out (by decide)), hg i42 4 (le46 Hi46.out He.out c3 Hi42.out (by decide)), Hi28.out, <- hg i28 2 (le46 Hi46.out He.out c3 Hi28.out (by decide)), Hk.out, Hi46.out, He.out, Hi10.out, Hi16.out, Hi20.out, Hi24.out, Hi42.out]
      have hft := headAt_fit s i
      have C10 := Qf (CG.out i10 2 (by decide) (Qe (Qe (Nat.le_add_right _ 2) (le46 Hi46.out He.out c3 Hi10.out (by decide))) (Qe hs (by decide))))
      have C16 := Qf (CG.out i16 4 (by decide) (Qe (Qe (Nat.le_add_right _ 4) (le46 Hi46.out He.out c3 Hi16.out (by decide))) (Qe hs (by decide))))
      have C20 := Qf (CG.out i20 4 (by decide) (Qe (Qe (Nat.le_add_right _ 4) (le46 Hi46.out He.out c3 Hi20.out (by decide))) (Qe hs (by decide))))
      have C24 := Qf (CG.out i24 4 (by decide) (Qe (Qe (Nat.le_add_right _ 4) (le46 Hi46.out He.out c3 Hi24.out (by decide))) (Qe hs (by decide))))
      have C42 := Qf (CG.out i42 4 (by decide) (Qe (Qe (Nat.le_add_right _ 4) (le46 Hi46.out He.out c3 Hi42.out (by decide))) (Qe hs (by decide))))
      have hn4 : ((4 : Nat) : Int) = 4 := rfl
      rw [hn2] at C10
      rw [hn4] at C16 C20 C24 C42
      rw [hhd] at hft HL3
      have hx16 : IntKind.u32.wrap (rget s i16 4 : Int) = (rget s i16 4 : Int) := by
       have := hft.2.1
       dsimp only at this
       rw [IntKind.wrap_u32]; omega
      obtain ⟨x10, H10⟩ := Qi (rget s i10 2)
      obtain ⟨x16, H16⟩ := Qi (rget s i16 4)
      obtain ⟨x20, H20⟩ := Qi (rget s i20 4)
      obtain ⟨x24, H24⟩ := Qi (rget s i24 4)
      obtain ⟨x42, H42⟩ := Qi (rget s i42 4)
      rw [H10.out, H16.out, H20.out, H24.out, H42.out] at HL3 hft
      rw [H10.out] at C10
      rw [H16.out] at C16 hx16
      rw [H20.out] at C20
      rw [H24.out] at C24
      rw [H42.out] at C42
      obtain ⟨nm, Hnm⟩ := Qi (s.extract i46 e)
      rw [Hnm.out] at HL3 hft
      have HFit := Qf hft
      have hie : (i46 : Int) <= (e : Int) := Int.ofNat_le.2 (by rw [<- He.out]; exact Nat.le_add_right _ _)
      have hes : (e : Int) <= (s.size : Int) := Int.ofNat_le.2 c3
      have hos : wr.drew.ownsRow w.heap.size 27 6 (.slice oa k0 ocap) k0 (hcells out) := by
       have := HO.out
       unfold OwnHr at this
       rw [Hk0.out] at this
       exact this.drew
      have hbsw : w.heap.size <= wr.drew.heap.size := HB.out.size
      have hone : ∀ u ∈ ([.string nm, .int .i64 (x10 : Int), .int .u32 (x16 : Int), .int .i64 (x20 : Int), .int .i64 (x24 : Int), .int .i64 (x42 : Int)] : List Value), u.oneCell' = true := hd_one ⟨nm, (x10 : Int), x16, (x20 : Int), (x24 : Int), (x42 : Int)⟩
      have HBd := Qf HB.out.drew
      obtain ⟨k46, Hk46⟩ := Qi (46 + k)
      have ve2 : IntKind.i64.wrap (46 + (k : Int)) = (k46 : Int) := at_w 46 k k46 Hk46.out (by decide) (Qe (Nat.le_of_lt hklt) (by decide))
      have ve3 : IntKind.i64.wrap ((i : Int) + (k46 : Int)) = (e : Int) := at_w i k46 e (by rw [<- Hk46.out, <- Nat.add_assoc, Hi46.out, He.out]) hi1 (by rw [<- Hk46.out]; exact Qe (Nat.add_le_add_left (Nat.le_of_lt hklt) 46) (by decide))
      have he46 : e < 2000000 := Nat.lt_of_le_of_lt (Qe c3 hs) (by decide)
      have Hie : Hid (i < e /\ i46 <= e /\ i + 46 <= e) := by
       have q46 := Hi46.out
       have qe := He.out
       exact ⟨by omega, by omega, by omega⟩
      clear HL2 hg hhd hft hyi CG Hi4 Hi28 Hi46 He Hi10 Hi16 Hi20 Hi24 Hi42 H10 H16 H20 H24 H42 HO HB hn2 hn4 Hk Hk46
      go_wp2_with fail
      refine (CK.out _).mono ?_
      rintro r w2 ⟨rfl, rfl⟩
      go_wp2_with fail
      refine (CK.out _).mono ?_
      rintro r w2 ⟨rfl, rfl⟩
      go_upto_region 9 with fail
      clear CK
      go_region_held3 (fun _ => True) (trivial)
       (first
        | (go_at_call 55; (with_reducible first | refine (C10.out _).mono ?_ | refine (C16.out _).mono ?_ | refine (C20.out _).mono ?_ | refine (C24.out _).mono ?_ | refine (C42.out _).mono ?_); rintro r w7 ⟨rfl, rfl⟩)
        | (refine step_append_lit wr.drew rfl (.tmp 49) (.tmp 80) rfl Try.underlying23 info_rhead rfl (by decide) w.heap.size (.slice oa k0 ocap) k0 (hcells out) [.string (s.extract i46 e), .int .i64 (x10 : Int), .int .u32 (x16 : Int), .int .i64 (x20 : Int), .int .i64 (x24 : Int), .int .i64 (x42 : Int)] 1 hos rfl (by rw [Hnm.out]; exact hone) rfl (sz := wr.drew.heap.size) rfl rfl ?_ ?_ hbsw rfl ?_; (unfold maxLen; omega); omega; intro v8 w8 hown8 hg8; rw [Hnm.out] at hown8; have HO8 := Qf hown8; have HB8 := Qf (HBd.out.trans (below_grown hos hg8 hbsw)); clear hown8 hg8))
      all_goals
       go_wp2_with fail
       go_roundw
       case rel => exact ⟨e, f, out ++ [⟨nm, (x10 : Int), x16, (x20 : Int), (x24 : Int), (x42 : Int)⟩], c3, by have := Hie.out; omega, by rw [List.length_append, Hk0.out]; show 46 * (k0 + 1) <= e; have := Hie.out; omega, (by rw [List.length_append, Hk0.out]; rfl), rfl, HL3, (fun h hh => by
        rw [List.mem_append, List.mem_singleton] at hh
        rcases hh with hh | rfl
        . exact HFt.out h hh
        . exact HFit.out), OwnHr.snoc (by rw [Hk0.out]; exact HO8.out), HB8⟩
       case measure =>
        have := Hie.out
        simp [intOf]; omega
    . have hnot : (decide ((i4 : Int) <= (s.size : Int)) = false /\ decide (i4 <= s.size) = false) \/ ((decide ((i4 : Int) <= (s.size : Int)) = true /\ decide (i4 <= s.size) = true /\ (i4 : Int) <= (s.size : Int)) /\ (y = false \/ (y = true /\ decide ((e : Int) <= (s.size : Int)) = false /\ decide (e <= s.size) = false))) := by
       by_cases c1 : i4 <= s.size
       . refine .inr ⟨⟨by rw [decide_eq_true_eq]; exact Int.ofNat_le.2 c1, decide_eq_true c1, Int.ofNat_le.2 c1⟩, ?_⟩
         cases y with
         | false => exact .inl rfl
         | true =>
          have c3 : ¬ e <= s.size := fun c3 => hgo ⟨c1, rfl, c3⟩
          exact .inr ⟨rfl, by rw [decide_eq_false_iff_not]; exact fun h => c3 (Int.ofNat_le.1 h), decide_eq_false c3⟩
       . exact .inl ⟨by rw [decide_eq_false_iff_not]; exact fun h => c1 (Int.ofNat_le.1 h), decide_eq_false c1⟩
      have hlr : LR = out := by
       rw [<- HL2.out, if_neg]
       rintro ⟨c1, c2, c3⟩
       exact hgo ⟨c1, hyi.2 c2, c3⟩
      have hmost := idxH_most out fun h hh => (HFt.out h hh).2.2.2.2.2
      have hft := HFt.out
      have hk0 := Hk0.out
      have CI := Qf (fun (W : World) (hr : HRow W oa out) => rindex_any out oa ocap (a : Int) (by omega) (fun h hh => (hft h hh).2.1) (fun h hh => Nat.le_of_lt (Nat.lt_trans (hft h hh).2.2.2.2.2 (by decide))) (by omega) W hr)
      rw [Hk0.out] at CI
      have HF3 : Hid (RES = if indexL out (a : Int) ≠ (s.extract a s.size).data.toList then none else some out) := by show _ = _; rw [HF2.out, hlr]
      have hidx : indexL out (a : Int) = (⟨(indexL out (a : Int)).toArray⟩ : ByteArray).data.toList := rfl
      rw [hidx] at HF3
      obtain ⟨IX, HIX⟩ := Qi ((⟨(indexL out (a : Int)).toArray⟩ : ByteArray))
      rw [HIX.out] at HF3 CI
      obtain ⟨z, hz⟩ : ∃ y, (IX.toList == (s.extract a s.size).toList) = y := ⟨_, rfl⟩
      have HR4 : Hid (RES = if z = false then none else some out) := by
       show _ = _
       rw [HF3.out, <- hz, ByteArray.toList_eq, ByteArray.toList_eq]
       by_cases hh : IX.data.toList = (s.extract a s.size).data.toList
       . have e1 : (IX.data.toList == (s.extract a s.size).data.toList) = true := by rw [hh]; simp
         rw [if_neg (fun g => g hh), e1, if_neg (c := true = false) (by decide)]
       . have e1 : (IX.data.toList == (s.extract a s.size).data.toList) = false := by simpa using hh
         rw [if_pos hh, e1, if_pos rfl]
      have hasI : (a : Int) <= (s.size : Int) := Int.ofNat_le.2 has
      clear hgo hlr hmost hft hk0 HF2 HF3 hidx HIX HL2 hyi Hi4 Hi28 Hi46 He Hk HFt
      cases z with
      | false =>
       have hr : RES = none := HR4.out
       subst hr
       clear HR4
       rcases hnot with ⟨d4, d4b⟩ | ⟨⟨d4, d4b, d4I⟩, rfl | ⟨rfl, d5, d5b⟩⟩
       all_goals
        first
         | (
          go_upto_region 12 with fail
          go_region_held3 (fun _ => True) (trivial)
           (first
            | (go_at_call 10; refine (CI.out _ (HRw.out.below (B := wr.heap.size) (by (repeat' (first | with_reducible exact Below.refl _ _ | with_reducible assumption | with_reducible apply Below.drew | with_reducible apply below_al))) (Qa _))).mono ?_; rintro r w8 ⟨rfl, hb8⟩; have HB8 : Below wr.heap.size wr w8 := bthen (by (repeat' (first | with_reducible exact Below.refl _ _ | with_reducible assumption | with_reducible apply Below.drew | with_reducible apply below_al))) hb8; clear hb8)))
         | (
          go_wp2_with fail
          refine (CK.out _).mono ?_
          rintro r w2 ⟨rfl, rfl⟩
          go_upto_region 12 with fail
          go_region_held3 (fun _ => True) (trivial)
           (first
            | (go_at_call 10; refine (CI.out _ (HRw.out.below (B := wr.heap.size) (by (repeat' (first | with_reducible exact Below.refl _ _ | with_reducible assumption | with_reducible apply Below.drew | with_reducible apply below_al))) (Qa _))).mono ?_; rintro r w8 ⟨rfl, hb8⟩; have HB8 : Below wr.heap.size wr w8 := bthen (by (repeat' (first | with_reducible exact Below.refl _ _ | with_reducible assumption | with_reducible apply Below.drew | with_reducible apply below_al))) hb8; clear hb8)))
        all_goals
         go_wp2_with fail
         go_ret2
         first | exact ⟨bthen HB.out HB8, rfl⟩ | exact ⟨bthen HB.out HB8, .inl ⟨rfl, rfl⟩⟩ | exact ⟨bthen HB.out HB8, .inl rfl⟩
      | true =>
       have hr : RES = some out := HR4.out
       subst hr
       clear HR4
       rcases hnot with ⟨d4, d4b⟩ | ⟨⟨d4, d4b, d4I⟩, rfl | ⟨rfl, d5, d5b⟩⟩
       all_goals
        first
         | (
          go_upto_region 12 with fail
          go_region_held3 (fun _ => True) (trivial)
           (first
            | (go_at_call 10; refine (CI.out _ (HRw.out.below (B := wr.heap.size) (by (repeat' (first | with_reducible exact Below.refl _ _ | with_reducible assumption | with_reducible apply Below.drew | with_reducible apply below_al))) (Qa _))).mono ?_; rintro r w8 ⟨rfl, hb8⟩; have HB8 : Below wr.heap.size wr w8 := bthen (by (repeat' (first | with_reducible exact Below.refl _ _ | with_reducible assumption | with_reducible apply Below.drew | with_reducible apply below_al))) hb8; clear hb8)))
         | (
          go_wp2_with fail
          refine (CK.out _).mono ?_
          rintro r w2 ⟨rfl, rfl⟩
          go_upto_region 12 with fail
          go_region_held3 (fun _ => True) (trivial)
           (first
            | (go_at_call 10; refine (CI.out _ (HRw.out.below (B := wr.heap.size) (by (repeat' (first | with_reducible exact Below.refl _ _ | with_reducible assumption | with_reducible apply Below.drew | with_reducible apply below_al))) (Qa _))).mono ?_; rintro r w8 ⟨rfl, hb8⟩; have HB8 : Below wr.heap.size wr w8 := bthen (by (repeat' (first | with_reducible exact Below.refl _ _ | with_reducible assumption | with_reducible apply Below.drew | with_reducible apply below_al))) hb8; clear hb8)))
        all_goals
         go_wp2_with fail
         go_ret2
         first | exact ⟨bthen HB.out HB8, .inr ⟨out, _, rfl, rfl, HO.out.below HB8 (Qa _)⟩⟩ | exact ⟨bthen HB.out HB8, out, _, rfl, rfl, HO.out.below HB8 (Qa _)⟩
def RHeadsPost (w : World) (res : Except Nat (List Hd)) (r : Ending) (w' : World) : Prop :=
 Below w.heap.size w w' /\ ((∃ e : Nat, res = .error e /\ r = .returned (.tuple #[.slice none 0 0, .int .i64 (e : Int)])) \/ (∃ l v, res = .ok l /\ r = .returned (.tuple #[v, .int .i64 0]) /\ OwnHr w' w.heap.size v l))
theorem rheadsF_list (s : ByteArray) : headsF s = if 262144 < s.size then .error 2 else match rlistF s with | none => .error 3 | some l => if !namesL ⟨#[]⟩ l then .error 4 else if 200 < l.length then .error 2 else .ok l := by
 rw [<- rheadsF_eq]
 unfold rheadsF rlistF
 by_cases h1 : 262144 < s.size
 . rw [if_pos h1, if_pos h1]
 rw [if_neg h1, if_neg h1]
 by_cases h2 : s.size < rplace s
 . rw [if_pos h2, if_pos h2]
 rw [if_neg h2, if_neg h2]
 by_cases h3 : indexL (rlistL s (s.size + 1) (rplace s) []) (rplace s : Int) ≠ (s.extract (rplace s) s.size).data.toList
 . rw [if_pos h3, if_pos h3]
 rw [if_neg h3, if_neg h3]
theorem less_nil (l : List UInt8) : Op.bytesLess l [] = false := by cases l <;> rfl
theorem first_le {nm : ByteArray} (h : nmB nm = true) : strLe nm ⟨#[]⟩ = false := by
 classical
 have hk : nmOK nm := by
  by_cases hk : nmOK nm
  . exact hk
  . have : nmB nm = false := by unfold nmB; exact decide_eq_false hk
    rw [this] at h; cases h
 unfold strLe
 have e : (⟨#[]⟩ : ByteArray).toList = [] := by rw [ByteArray.toList_eq]
 rw [e, less_nil, Bool.false_or, ByteArray.toList_eq]
 cases hh : nm.data.toList with
 | nil =>
  have : nm.data.toList.length = nm.size := by simp
  rw [hh] at this
  exact absurd this.symm hk.1
 | cons _ _ => rfl
set_option maxHeartbeats 8000000 in
theorem rheads_any (s : ByteArray) (hs : s.size <= maxLen) (w : World) : Calls Try.prog 12 #[.string s] w (RHeadsPost w (headsF s)) := by
 unfold maxLen at hs
 have HF := Qf (rheadsF_list s)
 have HB0 := Qf (Below.refl w.heap.size w)
 unfold RHeadsPost
 obtain ⟨RES, HR⟩ := Qi (headsF s)
 rw [HR.out] at HF ⊢
 clear HR
 by_cases h1 : 262144 < s.size
 . have d1 : decide ((262144 : Int) < (s.size : Int)) = true := Qg (by omega)
   have d1b : decide (262144 < s.size) = true := Qg (by omega)
   have hr : RES = .error 2 := by rw [HF.out, if_pos h1]
   subst hr
   clear HF
   go_enter Try.func12, Try.ntmps12
   go_wp2_with fail
   go_ret2
   exact ⟨HB0.out, .inl ⟨2, rfl, rfl⟩⟩
 . have d1 : decide ((262144 : Int) < (s.size : Int)) = false := Qh (by omega)
   have d1b : decide (262144 < s.size) = false := Qh (by omega)
   have CL := Qf (fun W => list_any s (by omega) W)
   have HFit : Hid (∀ l, rlistF s = some l -> ∀ h ∈ l, h.Fit) := fun l h => by
    unfold rlistF at h
    split at h
    . cases h
    . split at h
      . cases h
      . injection h with h
        subst h
        exact rlistL_fit s _ _ [] (fun _ hx => by cases hx)
   have HLen : Hid (∀ l, rlistF s = some l -> l.length <= 100000) := fun l h => by
    unfold rlistF at h
    split at h
    . cases h
    . split at h
      . cases h
      . next h3 =>
        injection h with h
        have e : indexL (rlistL s (s.size + 1) (rplace s) []) (rplace s : Int) = (s.extract (rplace s) s.size).data.toList := Classical.byContradiction fun g => h3 g
        have e2 := congrArg List.length e
        rw [indexL_len, ext_list, List.length_take, List.length_drop] at e2
        have hl : s.data.toList.length = s.size := by simp
        have := idxH_ge (rlistL s (s.size + 1) (rplace s) [])
        rw [<- h]
        omega
   have HF2 : Hid (RES = match rlistF s with | none => .error 3 | some l => if !namesL ⟨#[]⟩ l then .error 4 else if 200 < l.length then .error 2 else .ok l) := by show _ = _; rw [HF.out, if_neg h1]
   unfold ListPost at CL
   obtain ⟨RL, HRL⟩ := Qi (rlistF s)
   rw [HRL.out] at CL HFit HLen HF2
   obtain ⟨a, Ha⟩ := Qi (rplace s)
   rw [Ha.out] at CL
   clear HF HRL Ha
   go_enter Try.func12, Try.ntmps12
   go_wp2_with fail
   refine (CL.out _).mono ?_
   rintro e w1 ⟨hb1, ⟨rfl, rfl⟩ | ⟨l, v, rfl, rfl, hv⟩⟩
   . have hr : RES = .error 3 := HF2.out
     subst hr
     have HB1 := Qf hb1
     clear HF2 hb1
     go_wp2_with fail
     go_ret2
     exact ⟨HB1.out, .inl ⟨3, rfl, rfl⟩⟩
   . have hft := HFit.out l rfl
     have hlen := HLen.out l rfl
     have HF3 : Hid (RES = if !namesL ⟨#[]⟩ l then .error 4 else if 200 < l.length then .error 2 else .ok l) := HF2.out
     have Hft := Qf hft
     obtain ⟨oa, ocap, rfl, hrow⟩ := hv.view
     have HRw := Qf hrow
     have HO1 := Qf hv
     have HB1 := Qf hb1
     have HZ := Qf (Below.refl w1.heap.size w1)
     obtain ⟨k, Hk⟩ := Qi (l.length)
     rw [Hk.out] at HF3 hlen HO1 ⊢
     have HR5 : Hid (RES = if !namesL ⟨#[]⟩ (l.drop 0) then .error 4 else if 200 < k then .error 2 else .ok l) := HF3.out
     have da : decide ((a : Int) < 0) = false := Qh (by omega)
     clear HF2 HF3 HFit HLen hft hrow hv hb1
     go_wp2_with fail
     clear da
     go_loopw [20] (fun j_ wq => ∃ (j : Nat) (last : ByteArray), j <= k /\ j_ = .int .i64 (j : Int) /\ Hid (j = 0 -> last = ⟨#[]⟩) /\ Hid (∀ i, j = i + 1 -> ∃ h, l[i]? = some h /\ h.name = last) /\ Hid (RES = if !namesL last (l.drop j) then .error 4 else if 200 < k then .error 2 else .ok l) /\ Hid (Below w1.heap.size w1 wq)) (fun j _ => k - (intOf j).toNat)
     case atStart => exact ⟨0, ⟨#[]⟩, Nat.zero_le _, rfl, (fun _ => rfl), (fun i h => by cases h), HR5, HZ⟩
     case round =>
      clear HR5 HZ
      obtain ⟨j, last, hj, rfl, HL0, HL1, HC, HBl⟩ := hrel
      by_cases hlt : j < k
      . have dj : decide ((j : Int) < (k : Int)) = true := Qg (by omega)
        have djb : decide (j < k) = true := Qg (by omega)
        have hjI : (j : Int) < (k : Int) := by omega
        have hjL : j < l.length := by rw [Hk.out]; exact hlt
        obtain ⟨b, off, rfl, hbl, hcl⟩ := HRw.out j hjL
        have hC := HC.out
        rw [List.drop_eq_getElem_cons hjL] at hC
        have hsz := (Hft.out _ (List.getElem_mem hjL)).2.2.2.2.2
        have HNx : Hid (∃ h, l[j]? = some h /\ h = l[j]) := ⟨l[j], List.getElem?_eq_getElem hjL, rfl⟩
        obtain ⟨h, Hh⟩ := Qi (l[j])
        rw [Hh.out] at hcl hC hsz HNx
        obtain ⟨nm, me, cr, pk, sz, pl⟩ := h
        unfold Hd.cells at hcl
        dsimp only at hcl hsz
        have kc : ∀ i v, (#[.string nm, .int .i64 me, .int .u32 (cr : Int), .int .i64 pk, .int .i64 sz, .int .i64 pl] : Array Value)[i]? = some v -> wr.cell? ⟨b, off + j * 6 + i, none⟩ = some v := fun i v hv => (HBl.out.cell (p := ⟨b, off + j * 6 + i, none⟩) hbl).trans (hcl i v hv)
        have k0 := kc 0 _ rfl
        have k1 := kc 1 _ rfl
        have k2 := kc 2 _ rfl
        have k3 := kc 3 _ rfl
        have k4 := kc 4 _ rfl
        have k5 := kc 5 _ rfl
        simp only [Nat.add_zero] at k0
        have HC2 : Hid (RES = if (!(if (!nmB nm || strLe nm last) = true then false else namesL nm (l.drop (j + 1)))) = true then .error 4 else if 200 < k then .error 2 else .ok l) := hC
        have CN := Qf (fun W => rname_any nm (by unfold maxLen; omega) W)
        have HFl : Hid (nmB nm = true -> strLe nm ⟨#[]⟩ = false) := fun h => first_le h
        obtain ⟨nb, Hnb⟩ := Qi (nmB nm)
        rw [Hnb.out] at CN HC2 HFl
        obtain ⟨x, hx⟩ : ∃ R, Op.bytesLess nm.toList last.toList = R := ⟨_, rfl⟩
        obtain ⟨y, hy⟩ : ∃ R, (nm.toList == last.toList) = R := ⟨_, rfl⟩
        have hxy : strLe nm last = (x || y) := by unfold strLe; rw [hx, hy]
        have HBn := Qf (Blk.new wr 27 #[.string nm, .int .i64 me, .int .u32 (cr : Int), .int .i64 pk, .int .i64 sz, .int .i64 pl])
        have HBa := Qf (HBl.out.alloc HBl.out.size (.cells #[.string nm, .int .i64 me, .int .u32 (cr : Int), .int .i64 pk, .int .i64 sz, .int .i64 pl] 27))
        have hb0 := (Below.refl wr.heap.size wr).alloc (Qa _) (.cells #[.string nm, .int .i64 me, .int .u32 (cr : Int), .int .i64 pk, .int .i64 sz, .int .i64 pl] 27)
        have hprev : ∀ i, j = i + 1 -> wr.cell? ⟨b, off + i * 6, none⟩ = some (.string last) := fun i hi => by
         obtain ⟨hp, e1, e2⟩ := HL1.out i hi
         have hi2 : i < l.length := by omega
         obtain ⟨b', off', ea, hbl', hcl'⟩ := HRw.out i hi2
         simp only [Option.some.injEq, Addr.mk.injEq] at ea
         obtain ⟨rfl, rfl, _⟩ := ea
         rw [List.getElem?_eq_getElem hi2] at e1
         simp only [Option.some.injEq] at e1
         have := (HBl.out.cell (p := ⟨b, off + i * 6, none⟩) hbl').trans (hcl' 0 _ rfl)
         rw [this, e1, <- e2]; rfl
        have hblr : b < wr.heap.size := Qb hbl HBl.out.size
        have hprev2 : ∀ i, j = i + 1 -> (wr.alloc (.cells #[.string nm, .int .i64 me, .int .u32 (cr : Int), .int .i64 pk, .int .i64 sz, .int .i64 pl] 27)).cell? ⟨b, off + i * 6, none⟩ = some (.string last) := fun i hi => (hb0.cell (p := ⟨b, off + i * 6, none⟩) hblr).trans (hprev i hi)
        have HPv := Qf hprev2
        clear hC HC hjL hbl Hh hcl hsz kc hprev hprev2 hblr hb0
        go_upto_region 9 with fail
        obtain ⟨G, HG⟩ := Qi (wr.heap.size)
        rw [HG.out] at HBn ⊢
        obtain ⟨w2, HW2⟩ := Qi (wr.alloc (.cells #[.string nm, .int .i64 me, .int .u32 (cr : Int), .int .i64 pk, .int .i64 sz, .int .i64 pl] 27))
        rw [HW2.out] at HBn HBa HPv ⊢
        clear HW2 k0 k1 k2 k3 k4 k5
        have k0 : w2.cell? ⟨G, 0, none⟩ = some (.string nm) := HBn.out.cell 0
        cases nb with
        | false =>
         have hr : RES = .error 4 := by rw [HC2.out]; rfl
         subst hr
         clear HC2 HFl HPv HL0 HL1 HNx hxy
         go_quiet ((go_at_call 37; exact Calls.quiet_of_same ((CN.out _).mono fun _ _ ⟨h1, h2⟩ => ⟨h1, h2.symm⟩)))
         all_goals
          go_wp2_with fail
          go_ret2
          exact ⟨bthen HB1.out (below_drewN HBa.out _), .inl ⟨4, rfl, rfl⟩⟩
        | true =>
         by_cases hj0 : j = 0
         . have hl0 := HL0.out hj0
           have hsf : strLe nm last = false := by rw [hl0]; exact HFl.out rfl
           have HC5 : Hid (RES = if !namesL nm (l.drop (j + 1)) then .error 4 else if 200 < k then .error 2 else .ok l) := by show _ = _; rw [HC2.out, hsf]; rfl
           have e0 : decide ((0 : Int) < (j : Int)) = false := Qh (by omega)
           have e0b : decide (0 < j) = false := Qh (by omega)
           clear HC2 HFl HPv HL0 HL1 hxy hx hy hl0 hsf hj0
           go_quiet ((go_at_call 37; exact Calls.quiet_of_same ((CN.out _).mono fun _ _ ⟨h1, h2⟩ => ⟨h1, h2.symm⟩)))
           all_goals
            go_wp2_with fail
            go_roundw
            case rel => exact ⟨j + 1, nm, by omega, by go_num, (fun h => by omega), (fun i h => by
             obtain ⟨hh, e1, e2⟩ := HNx.out
             have : i = j := by omega
             subst this
             exact ⟨hh, e1, by rw [e2]⟩), HC5, Qf (below_drewN HBa.out _)⟩
            case measure => simp [intOf]; omega
         . obtain ⟨i1, hi1⟩ : ∃ i1, j = i1 + 1 := ⟨j - 1, by omega⟩
           have c1 := HPv.out i1 hi1
           have e0 : decide ((0 : Int) < (j : Int)) = true := Qg (by omega)
           have e0b : decide (0 < j) = true := Qg (by omega)
           have ew : IntKind.i64.wrap ((j : Int) - 1) = (i1 : Int) := by rw [IntKind.wrap_i64]; omega
           have ei : (i1 : Int) < (k : Int) := by omega
           have Hi1 := Qf hi1
           rw [hxy] at HC2
           clear hi1 HPv HL0 HL1 HFl hj0 hxy
           by_cases hv : (x || y) = true
           . have hr : RES = .error 4 := by rw [HC2.out, hv]; rfl
             subst hr
             clear HC2
             cases x <;> cases y <;> simp at hv
             all_goals
              go_quiet ((go_at_call 37; exact Calls.quiet_of_same ((CN.out _).mono fun _ _ ⟨h1, h2⟩ => ⟨h1, h2.symm⟩)))
              all_goals
               go_wp2_with fail
               go_ret2
               exact ⟨bthen HB1.out (below_drewN HBa.out _), .inl ⟨4, rfl, rfl⟩⟩
           . have hx2 : x = false := by cases x <;> simp_all
             have hy2 : y = false := by cases y <;> simp_all
             subst hx2 hy2
             have HC5 : Hid (RES = if !namesL nm (l.drop (j + 1)) then .error 4 else if 200 < k then .error 2 else .ok l) := HC2.out
             clear HC2 hv
             go_quiet ((go_at_call 37; exact Calls.quiet_of_same ((CN.out _).mono fun _ _ ⟨h1, h2⟩ => ⟨h1, h2.symm⟩)))
             all_goals
              go_wp2_with fail
              go_roundw
              case rel => exact ⟨j + 1, nm, by omega, by go_num, (fun h => by omega), (fun i h => by
               obtain ⟨hh, e1, e2⟩ := HNx.out
               have : i = j := by omega
               subst this
               exact ⟨hh, e1, by rw [e2]⟩), HC5, Qf (below_drewN HBa.out _)⟩
              case measure => simp [intOf]; omega
      . obtain rfl : j = k := by omega
        have dj : decide ((j : Int) < (j : Int)) = false := Qh (by omega)
        have hC := HC.out
        rw [List.drop_of_length_le (by rw [Hk.out]; exact Qa _)] at hC
        have HC2 : Hid (RES = if 200 < j then .error 2 else .ok l) := hC
        have HO9 := Qf (HO1.out.below HBl.out (Qa _))
        clear hC HC HL0 HL1
        by_cases h200 : 200 < j
        . have d9 : decide ((200 : Int) < (j : Int)) = true := Qg (by omega)
          have d9b : decide (200 < j) = true := Qg (by omega)
          have hr : RES = .error 2 := by rw [HC2.out, if_pos h200]
          subst hr
          clear HC2
          go_wp2_with fail
          go_ret2
          exact ⟨bthen HB1.out HBl.out, .inl ⟨2, rfl, rfl⟩⟩
        . have d9 : decide ((200 : Int) < (j : Int)) = false := Qh (by omega)
          have d9b : decide (200 < j) = false := Qh (by omega)
          have hr : RES = .ok l := by rw [HC2.out, if_neg h200]
          subst hr
          clear HC2
          go_wp2_with fail
          go_ret2
          exact ⟨bthen HB1.out HBl.out, .inr ⟨l, _, rfl, rfl, HO9.out⟩⟩
theorem bits_m (R P : Nat) (s : ByteArray) (p z most k : Nat) (hk : k <= 16) (hs : s.size <= 100000) (hp : p <= 8 * s.size) (w : World) (hR : RdAt w R P s p z most 0) :
 Calls Try.prog 65 #[.pointer (some ⟨R, 0, none⟩), .int .i64 (k : Int)] w fun r w' => ∃ v : Nat, v < 2 ^ k /\ v < 65536 /\ r = .returned (.int .i64 (v : Int)) /\ Rch R P w w' /\
  ((bitsM k (sg s p z) = .error 6 /\ RdAt w' R P s (p + k) z most 6 /\ (8 * s.size - p = 0 -> v = 0) /\ v < 2 ^ (8 * s.size - p)) \/ (bitsM k (sg s p z) = .ok (v, sg s (p + k) z) /\ p + k <= 8 * s.size /\ RdAt w' R P s (p + k) z most 0)) := by
 refine (bits_any R P s p z most 0 k hk hs (by omega) w hR).mono ?_
 rintro r w' ⟨rfl, hR', hC⟩
 refine ⟨bitsAt s p k, Nat.mod_lt _ (Nat.two_pow_pos k), bitsAt_lt s p k hk, rfl, hC, ?_⟩
 unfold bitsE at hR'
 by_cases h : 8 * s.size < p + k
 . rw [if_pos h] at hR'
   have hlt : bitsAt s p k < 2 ^ (8 * s.size - p) := by
    unfold bitsAt
    have h1 : num s / 2 ^ p < 2 ^ (8 * s.size - p) := by
     have h2 : num s < 2 ^ (8 * s.size) := by
      have := leN_lt s.data.toList
      rw [Nat.pow_mul]
      unfold num
      simpa using this
     rw [Nat.div_lt_iff_lt_mul (Nat.two_pow_pos p), <- Nat.pow_add, show 8 * s.size - p + p = 8 * s.size by omega]
     exact h2
    exact Nat.lt_of_le_of_lt (Nat.mod_le _ _) h1
   refine .inl ⟨bits_sg_short s p z k hp h, hR', fun h0 => ?_, hlt⟩
   rw [h0] at hlt
   have : (2 : Nat) ^ 0 = 1 := rfl
   omega
 . rw [if_neg h] at hR'
   exact .inr ⟨bits_sg s p z k (by omega), by omega, hR'⟩
theorem symbol_m (L : Nat -> Nat) (n : Nat) (hL : ∀ i, i < n -> L i <= 15) (hn : n <= 400) (T g N cap : Nat) (B : Nat -> Nat -> Int) (pv pn : Nat -> Nat) (hG : Grown (bitsF L n) L (InAll L n) B N pv pn)
 (R P : Nat) (s : ByteArray) (p z most : Nat) (hs : s.size <= 100000) (hp : p <= 8 * s.size) (hTP : T ≠ P) (hgP : g ≠ P) (w : World) (hA : TreeAt w T g N cap B) (hR : RdAt w R P s p z most 0) :
 Calls Try.prog 89 #[.pointer (some ⟨R, 0, none⟩), .pointer (some ⟨T, 0, none⟩)] w fun r w' => ∃ (v p' : Nat), r = .returned (.int .i64 (v : Int)) /\ Rch R P w w' /\ p < p' /\ p' <= p + 16 /\
  ((∃ e, e ≠ 0 /\ symM L n (sg s p z) = .error e /\ RdAt w' R P s p' z most e /\ v = 0) \/ (symM L n (sg s p z) = .ok (v, sg s p' z) /\ p' <= 8 * s.size /\ v < n /\ RdAt w' R P s p' z most 0)) := by
 refine (symbol_ok L n (fun i h => hL i h.1) hn T g N cap B pv pn hG R P s p z most hs (by omega) hTP hgP w hA hR).mono ?_
 rintro r w' ⟨sym, err, taken, rfl, hN, ht, hR', hC⟩
 have h1 := hN.1
 have hN2 := hN.rest hp
 have hnr := nextR_of L n hL hN2
 have hsy : symM L n (sg s p z) = if err = 0 then .ok (sym, sg s (p + taken) z) else .error err := by
  unfold symM
  have e1 : (sg s p z).X = num s / 2 ^ p := rfl
  have e2 : (sg s p z).n = 8 * s.size - p := rfl
  rw [e1, e2, hnr]
  by_cases h0 : err = 0
  . rw [if_pos h0, if_pos h0]
    unfold sg
    have e3 : num s / 2 ^ p / 2 ^ taken = num s / 2 ^ (p + taken) := by rw [Nat.div_div_eq_div_mul, <- Nat.pow_add]
    have e4 : 8 * s.size - p - taken = 8 * s.size - (p + taken) := by omega
    simp only [e3, e4]
  . rw [if_neg h0, if_neg h0]
 refine ⟨sym, p + taken, rfl, hC, by omega, by omega, ?_⟩
 by_cases h0 : err = 0
 . subst h0
   rw [if_pos rfl] at hsy
   rcases hN.2.2 with ⟨_, h, _⟩ | ⟨_, _, h, _⟩ | ⟨h2, h3, _⟩
   . cases h
   . cases h
   . exact .inr ⟨hsy, h2, h3.1, hR'⟩
 . rw [if_neg h0] at hsy
   refine .inl ⟨err, h0, hsy, hR', ?_⟩
   rcases hN.2.2 with ⟨_, _, h⟩ | ⟨_, _, _, h⟩ | ⟨_, _, _, _, h⟩
   . exact h
   . exact h
   . exact absurd h h0
section
variable {R P : Nat} {w w' : World}
theorem Rch.then_below {w0 : World} {B : Nat} (h : Rch R P w0 w) (hb : Below B w w') (hB : w0.heap.size <= B) : Rch R P w0 w' :=
 ⟨hb.os.trans h.1, hb.tape.trans h.2.1, hb.output.trans h.2.2.1, Qe h.2.2.2.1 hb.size, fun g hg h1 h2 => (hb.block g (by omega)).trans (h.2.2.2.2 g hg h1 h2)⟩
theorem Rch.cell (h : Rch R P w w') {b off : Nat} (hb : b < w.heap.size) (h1 : b ≠ R) (h2 : b ≠ P) : w'.cell? ⟨b, off, none⟩ = w.cell? ⟨b, off, none⟩ := by
 unfold World.cell?
 rw [h.2.2.2.2 b hb h1 h2]
theorem TreeAt.rch {T g N cap : Nat} {B : Nat -> Nat -> Int} (h : TreeAt w T g N cap B) (hc : Rch R P w w') (h1 : T ≠ R) (h2 : T ≠ P) (h3 : g ≠ R) (h4 : g ≠ P) : TreeAt w' T g N cap B :=
 ⟨hc.blk h.1 h1 h2, Qb h.2.1 hc.2.2.2.1, fun a b ha hb => (hc.cell h.2.1 h3 h4).trans (h.2.2 a b ha hb)⟩
theorem ownsRow_rch {base e size n : Nat} {v : Value} {xs : List Value} (h : w.ownsRow base e size v n xs) (hc : Rch R P w w') (h1 : R < base) (h2 : P < base) : w'.ownsRow base e size v n xs := by
 refine ⟨h.1, ?_⟩
 rcases h.2 with h | ⟨g, cap, cur, a1, a2, a3, a4⟩
 . exact .inl h
 . refine .inr ⟨g, cap, cur, a1, a2, ?_, a4⟩
   have hlt : g < w.heap.size := by
    rcases Nat.lt_or_ge g w.heap.size with h | h
    . exact h
    . rw [Array.getElem?_eq_none h] at a3; cases a3
   exact (hc.2.2.2.2 g hlt (by omega) (by omega)).trans a3
theorem OwnK.rch {base e : Nat} {v : Value} {S : List Tok} (h : OwnK e w base v S) (hc : Rch R P w w') (h1 : R < base) (h2 : P < base) : OwnK e w' base v S := ownsRow_rch h hc h1 h2
theorem IRow.rch {a : Option Addr} {n : Nat} {m : Nat -> Int} (h : IRow w a n m) (hc : Rch R P w w') (h1 : ∀ b off sp, a = some ⟨b, off, sp⟩ -> b ≠ R /\ b ≠ P) : IRow w' a n m := by
 rcases h with h | ⟨b, off, e, hb, hcell⟩
 . exact .inl h
 . obtain ⟨h2, h3⟩ := h1 b off none e
   exact .inr ⟨b, off, e, Qb hb hc.2.2.2.1, fun i hi => (hc.cell hb h2 h3).trans (hcell i hi)⟩
end
theorem size_near_b : ∀ i : Nat, i <= 28 -> 3 <= (sizeS false (i : Int)).1 /\ (sizeS false (i : Int)).1 <= 258 /\ (sizeS false (i : Int)).2 <= 5 := by decide
theorem size_far_b : ∀ i : Nat, i <= 29 -> 1 <= (sizeS true (i : Int)).1 /\ (sizeS true (i : Int)).1 <= 24577 /\ (sizeS true (i : Int)).2 <= 13 := by decide
theorem size_near_0 (i : Int) (h : 28 < i) : sizeS false i = (0, 0) := by unfold sizeS; rw [if_neg (by decide), if_pos (.inr h)]
theorem size_far_0 (i : Int) (h : 29 < i) : sizeS true i = (0, 0) := by unfold sizeS; rw [if_pos rfl, if_pos (.inr h)]
theorem fix15 : ∀ i, i < 288 -> lens fixL i <= 15 := lens_15 _ _ fixL_15
theorem five15 : ∀ i, i < 32 -> lens (fun _ => 5) i <= 15 := lens_15 _ _ fun _ => by decide
def encV : List (Nat × Nat) -> Nat
 | [] => 0
 | x :: r => x.1 % 2 ^ x.2 + 2 ^ x.2 * encV r
def encN : List (Nat × Nat) -> Nat
 | [] => 0
 | x :: r => x.2 + encN r
theorem encN_app (a b : List (Nat × Nat)) : encN (a ++ b) = encN a + encN b := by
 induction a with
 | nil => simp [encN]
 | cons x r ih => simp only [List.cons_append, encN, ih]; omega
theorem encV_app (a b : List (Nat × Nat)) : encV (a ++ b) = encV a + 2 ^ encN a * encV b := by
 induction a with
 | nil => simp [encV, encN]
 | cons x r ih => simp only [List.cons_append, encV, encN, ih, Nat.mul_add, Nat.pow_add, Nat.mul_assoc, Nat.add_assoc]
theorem encV_snoc (a : List (Nat × Nat)) (x k : Nat) : encV (a ++ [(x, k)]) = encV a + x % 2 ^ k * 2 ^ encN a := by
 rw [encV_app]
 simp only [encV, Nat.mul_zero, Nat.add_zero]
 rw [Nat.mul_comm]
theorem encN_snoc (a : List (Nat × Nat)) (x k : Nat) : encN (a ++ [(x, k)]) = encN a + k := by
 rw [encN_app]; rfl
def symE (L : Nat -> Nat) (c s : Nat) : Nat × Nat := (rev (bitsF L c s) (L s), L s)
theorem bitsF_lt (L : Nat -> Nat) (c s : Nat) (hs : s < c) (h15 : ∀ i, i < c -> L i <= 15) (hp : parts L c <= 32768) : bitsF L c s < 2 ^ L s := by
 unfold bitsF
 by_cases h : 0 < L s
 . rw [if_pos h]; exact code_fits L c s hs h (h15 s hs) hp
 . rw [if_neg h]; exact pow_pos2 _
def symF (far : Bool) (n : Nat) : Nat -> Nat
 | 0 => 0
 | k + 1 => if 0 < (sizeS far (k : Int)).1 /\ (sizeS far (k : Int)).1 <= n then k else symF far n k
theorem size_len (k : Nat) (h : k <= 27) : sizeS false (k : Int) = ((stepS 4 3 k).1, moreS 4 3 k) := by
 unfold sizeS
 rw [if_neg (by decide), if_neg (by omega), if_neg (by omega)]
 rfl
theorem size_dist (k : Nat) (h : k <= 29) : sizeS true (k : Int) = ((stepS 2 1 k).1, moreS 2 1 k) := by
 unfold sizeS
 rw [if_pos rfl, if_neg (by omega)]
 rfl
theorem symF_spec (far : Bool) (n : Nat) (h0 : 0 < (sizeS far 0).1 /\ (sizeS far 0).1 <= n) : ∀ k, symF far n (k + 1) <= k /\ (0 < (sizeS far (symF far n (k + 1) : Nat)).1 /\ (sizeS far (symF far n (k + 1) : Nat)).1 <= n) /\ ∀ j : Nat, symF far n (k + 1) < j -> j <= k -> ¬ (0 < (sizeS far (j : Int)).1 /\ (sizeS far (j : Int)).1 <= n) := by
 intro k
 induction k with
 | zero =>
  have e : symF far n 1 = 0 := by
   show (if _ then _ else _) = _
   split <;> rfl
  rw [e]
  exact ⟨Qa _, h0, fun j h1 h2 => by omega⟩
 | succ k ih =>
  by_cases hk : 0 < (sizeS far ((k + 1 : Nat) : Int)).1 /\ (sizeS far ((k + 1 : Nat) : Int)).1 <= n
  . have e : symF far n (k + 1 + 1) = k + 1 := if_pos hk
    rw [e]
    exact ⟨Qa _, hk, fun j h1 h2 => by omega⟩
  . have e : symF far n (k + 1 + 1) = symF far n (k + 1) := if_neg hk
    rw [e]
    refine ⟨by omega, ih.2.1, fun j h1 h2 => ?_⟩
    by_cases ej : j = k + 1
    . rw [ej]; exact hk
    . exact ih.2.2 j h1 (by omega)
theorem step_pos : ∀ k, k <= 29 -> 0 < (stepS 4 3 k).1 /\ 0 < (stepS 2 1 k).1 := by decide
theorem len_size (n : Nat) (h3 : 3 <= n) (h258 : n <= 258) : symF false n 29 <= 28 /\ (sizeS false (symF false n 29 : Nat)).1 <= n /\ n - (sizeS false (symF false n 29 : Nat)).1 < 2 ^ (sizeS false (symF false n 29 : Nat)).2 := by
 obtain ⟨h1, ⟨_, h2⟩, h4⟩ := symF_spec false n ⟨by decide, by show 3 <= n; exact h3⟩ 28
 obtain ⟨i, hi⟩ : ∃ i, symF false n 29 = i := ⟨_, rfl⟩
 rw [show 28 + 1 = 29 from rfl, hi] at h1 h2 h4
 rw [hi]
 refine ⟨h1, h2, ?_⟩
 by_cases e28 : i = 28
 . subst e28
   have e1 : (sizeS false ((28 : Nat) : Int)) = (258, 0) := by decide
   rw [e1] at h2 ⊢
   show n - 258 < 2 ^ 0
   omega
 . rw [size_len i (by omega)] at h2 ⊢
   by_cases e27 : i = 27
   . subst e27
     have e1 : (stepS 4 3 27).1 = 227 := by decide
     have e2 : moreS 4 3 27 = 5 := by decide
     have := h4 28 (by omega) (by omega)
     have e3 : (sizeS false ((28 : Nat) : Int)) = (258, 0) := by decide
     rw [e3] at this
     show n - (stepS 4 3 27).1 < 2 ^ moreS 4 3 27
     rw [e1, e2]
     have : ¬ (258 <= n) := fun h => this ⟨by decide, h⟩
     omega
   . have := h4 (i + 1) (by omega) (by omega)
     rw [size_len (i + 1) (by omega), stepS_succ] at this
     have hp := (step_pos i (by omega)).1
     have : ¬ ((stepS 4 3 i).1 + 2 ^ moreS 4 3 i <= n) := fun h => this ⟨by have := pow_pos2 (moreS 4 3 i); show 0 < (stepS 4 3 i).1 + 2 ^ moreS 4 3 i; omega, h⟩
     show n - (stepS 4 3 i).1 < 2 ^ moreS 4 3 i
     have : (stepS 4 3 i).1 <= n := h2
     omega
theorem dist_size (n : Nat) (h1n : 1 <= n) (hn : n <= 32768) : symF true n 30 <= 29 /\ (sizeS true (symF true n 30 : Nat)).1 <= n /\ n - (sizeS true (symF true n 30 : Nat)).1 < 2 ^ (sizeS true (symF true n 30 : Nat)).2 := by
 obtain ⟨h1, ⟨_, h2⟩, h4⟩ := symF_spec true n ⟨by decide, by show 1 <= n; exact h1n⟩ 29
 obtain ⟨i, hi⟩ : ∃ i, symF true n 30 = i := ⟨_, rfl⟩
 rw [show 29 + 1 = 30 from rfl, hi] at h1 h2 h4
 rw [hi]
 refine ⟨h1, h2, ?_⟩
 rw [size_dist i (by omega)] at h2 ⊢
 by_cases e29 : i = 29
 . subst e29
   have e1 : (stepS 2 1 29).1 = 24577 := by decide
   have e2 : moreS 2 1 29 = 13 := by decide
   show n - (stepS 2 1 29).1 < 2 ^ moreS 2 1 29
   rw [e1, e2]
   omega
 . have := h4 (i + 1) (by omega) (by omega)
   rw [size_dist (i + 1) (by omega), stepS_succ] at this
   have : ¬ ((stepS 2 1 i).1 + 2 ^ moreS 2 1 i <= n) := fun h => this ⟨by have := pow_pos2 (moreS 2 1 i); show 0 < (stepS 2 1 i).1 + 2 ^ moreS 2 1 i; omega, h⟩
   show n - (stepS 2 1 i).1 < 2 ^ moreS 2 1 i
   have : (stepS 2 1 i).1 <= n := h2
   omega
def lsym (t : Tok) : Nat := symF false t.l.toNat 29
def dsym (t : Tok) : Nat := symF true t.d.toNat 30
def tokE (L : Nat -> Nat) (c : Nat) (D : Nat -> Nat) (d : Nat) (t : Tok) : List (Nat × Nat) :=
 if t.l = 0 then [symE L c t.b.toNat]
 else [symE L c (257 + lsym t), (t.l.toNat - (sizeS false (lsym t : Nat)).1, (sizeS false (lsym t : Nat)).2), symE D d (dsym t), (t.d.toNat - (sizeS true (dsym t : Nat)).1, (sizeS true (dsym t : Nat)).2)]
structure CodesOK (L : Nat -> Nat) (c : Nat) (D : Nat -> Nat) (d : Nat) : Prop where
 l15 : ∀ i, i < c -> L i <= 15
 d15 : ∀ i, i < d -> D i <= 15
 lp : parts L c <= 32768
 dp : parts D d <= 32768
 c257 : 257 <= c
theorem terr_zero {most : Int} {n : Nat} {t : Tok} (h : terr most n t = 0) : (t.l = 0 /\ t.d = 0 /\ (n : Int) < most) \/ (t.l ≠ 0 /\ t.b = 0 /\ 3 <= t.l /\ t.l <= 258 /\ 1 <= t.d /\ t.d <= 32768 /\ t.d <= (n : Int) /\ (n : Int) + t.l <= most) := by
 unfold terr at h
 by_cases h0 : t.l = 0
 . rw [if_pos h0] at h
   by_cases h1 : t.d = 0
   . rw [if_neg (by simpa using h1)] at h
     by_cases h2 : most <= (n : Int)
     . rw [if_pos h2] at h; omega
     . exact .inl ⟨h0, h1, by omega⟩
   . rw [if_pos h1] at h; omega
 . rw [if_neg h0] at h
   by_cases h1 : t.b ≠ 0 \/ t.l < 3 \/ 258 < t.l \/ t.d < 1 \/ 32768 < t.d \/ (n : Int) < t.d
   . rw [if_pos h1] at h; omega
   . rw [if_neg h1] at h
     have hb : t.b = 0 := by
      by_cases e : t.b = 0
      . exact e
      . exact absurd (.inl e) h1
     have h1' := fun x => h1 (.inr x)
     by_cases h2 : most < (n : Int) + t.l
     . rw [if_pos h2] at h; omega
     . exact .inr ⟨h0, hb, by omega, by omega, by omega, by omega, by omega, by omega⟩
def toksE (L : Nat -> Nat) (c : Nat) (D : Nat -> Nat) (d : Nat) (S : List Tok) : List (Nat × Nat) := S.flatMap (tokE L c D d)
theorem toksE_cons (L : Nat -> Nat) (c : Nat) (D : Nat -> Nat) (d : Nat) (t : Tok) (S : List Tok) : toksE L c D d (t :: S) = tokE L c D d t ++ toksE L c D d S := rfl
theorem toksE_app (L : Nat -> Nat) (c : Nat) (D : Nat -> Nat) (d : Nat) (S T : List Tok) : toksE L c D d (S ++ T) = toksE L c D d S ++ toksE L c D d T := List.flatMap_append
theorem texp_cons {most : Int} {o : List UInt8} {t : Tok} {r : List Tok} {T : List UInt8} (h : texp most o (t :: r) = (T, 0)) : terr most o.length t = 0 /\ texp most (tout o t) r = (T, 0) := by
 by_cases h0 : terr most o.length t = 0
 . exact ⟨h0, (texp_step h0).symm.trans h⟩
 . rw [texp_stop rfl h0] at h
   injection h with _ h
   exact absurd h h0
theorem texp_toks (most : Int) : ∀ (S : List Tok) (o T : List UInt8), texp most o S = (T, 0) -> ∀ t ∈ S, (t.l = 0 /\ t.d = 0) \/ (t.l ≠ 0 /\ t.b = 0 /\ 3 <= t.l /\ t.l <= 258 /\ 1 <= t.d /\ t.d <= 32768) := by
 intro S
 induction S with
 | nil => intro o T _ t ht; cases ht
 | cons x S ih =>
  intro o T h t ht
  obtain ⟨h1, h2⟩ := texp_cons h
  rcases List.mem_cons.1 ht with rfl | ht
  . rcases terr_zero h1 with ⟨a, b, _⟩ | ⟨a, b, c, d, e, f, _⟩
    . exact .inl ⟨a, b⟩
    . exact .inr ⟨a, b, c, d, e, f⟩
  . exact ih _ _ h2 t ht
theorem tok_syms (t : Tok) (h : 3 <= t.l /\ t.l <= 258 /\ 1 <= t.d /\ t.d <= 32768) : lsym t <= 28 /\ dsym t <= 29 :=
 ⟨(len_size t.l.toNat (by omega) (by omega)).1, (dist_size t.d.toNat (by omega) (by omega)).1⟩
theorem codes_fix : CodesOK (lens fixL) 288 (lens fun _ => 5) 32 where
 l15 := fix15
 d15 := five15
 lp := by decide +kernel
 dp := by decide +kernel
 c257 := by decide
def fixE (S : List Tok) : List (Nat × Nat) := (1, 1) :: (1, 2) :: (toksE (lens fixL) 288 (lens fun _ => 5) 32 S ++ [symE (lens fixL) 288 256])
def encB (l : List (Nat × Nat)) : ByteArray := ⟨(bytesN (encV l) ((encN l + 7) / 8)).toArray⟩
theorem encB_size (l : List (Nat × Nat)) : (encB l).size = (encN l + 7) / 8 := by
 show (bytesN _ _).toArray.size = _
 rw [List.size_toArray, bytesN_length]
end Go.Proofs.Ythehocmfpoglgaa
