/- The document's layer 9: Product, Rest, Divides. Conditions: numbers of 64 bits, rows of at most a hundred thousand. -/
import Derived.Test.YtgjofpefglbjjaaRef9
namespace Go.Proofs.Ytgjofpefglbjjaa
open Go.RowKit
set_option maxRecDepth 100000

theorem mod_bit (A k : Nat) : A % 2 ^ (k + 1) = (A % 2 ^ k) ^^^ (if A.testBit k then 2 ^ k else 0) := by
  apply Nat.eq_of_testBit_eq
  intro i
  rw [Nat.testBit_xor, Nat.testBit_mod_two_pow, Nat.testBit_mod_two_pow]
  by_cases e : k = i
  · subst e
    cases h : A.testBit k <;> simp [Nat.testBit_two_pow_self]
  · have h1 : (if A.testBit k then 2 ^ k else 0).testBit i = false := by
      split
      · exact Nat.testBit_two_pow_of_ne e
      · simp
    rw [h1, Bool.xor_false]
    by_cases hi : i < k
    · simp [hi, show i < k + 1 by omega]
    · simp [hi, show ¬ i < k + 1 by omega]
theorem acc_step (A B k : Nat) : Gf.cl B (A % 2 ^ (k + 1)) = Gf.cl B (A % 2 ^ k) ^^^ (if A.testBit k then B * 2 ^ k else 0) := by
  rw [mod_bit, Gf.cl_xor_right]
  congr 1
  split
  · rw [Gf.cl_pow]
  · rw [Gf.cl_zero]
theorem mul_pow_bit (B k j : Nat) : (B % 2 ^ (j + 1)) * 2 ^ k = (B % 2 ^ j) * 2 ^ k ^^^ (if B.testBit j then 2 ^ (k + j) else 0) := by
  rw [← Gf.cl_pow, ← Gf.cl_pow, mod_bit, Gf.cl_xor_left]
  congr 1
  split
  · rw [Gf.cl_pow, ← Nat.pow_add, Nat.add_comm]
  · rw [Gf.zero_cl]

theorem fcells_flip (n V k : Nat) : (fcells n (bval V)).setIfInBounds k (.bool (!V.testBit k)) = fcells n (bval (V ^^^ 2 ^ k)) := by
  rw [fcells_set]
  refine fcells_congr _ _ _ fun i _ => ?_
  unfold bval
  rw [Nat.testBit_xor]
  by_cases e : i = k
  · subst e
    rw [if_pos rfl, Nat.testBit_two_pow_self]
    simp
  · rw [if_neg e, Nat.testBit_two_pow_of_ne (fun h => e h.symm), Bool.xor_false]
theorem made_bools (n : Nat) (hn : n ≤ 1000000) (I : Int) (hI : I = (n : Int)) (w : World) :
    (Instr.makeSlice 34 (.int .i64 I) (.int .i64 I)).run Try.prog w = .ok (.slice (some ⟨w.heap.size, 0, none⟩) n n) (w.alloc (.cells (fcells n (bval 0)) 4)) := by
  rw [run_make_f (t := 34) (e := 4) Try.underlying34 info_bool rfl n I hI (by omega) (by omega) w]
  congr 2
  refine congrArg (fun z => Obj.cells z _ _) ?_
  refine fcells_congr _ _ _ fun i _ => ?_
  unfold bval
  simp

/-- A row that Product hands back. -/
def ProdPost (w : World) (n V : Nat) (e : Ending) (w' : World) : Prop := ∃ g, e = .returned (.slice (some ⟨g, 0, none⟩) n n) ∧ BRow w' (some ⟨g, 0, none⟩) n V ∧ Below w.heap.size w w'
theorem brow_blk {w : World} {g n V : Nat} (h : Blk w g 4 (fcells n (bval V))) : BRow w (some ⟨g, 0, none⟩) n V :=
  .inr ⟨g, 0, rfl, h.lt, fun i hi => by rw [Nat.zero_add, h.cell, fcells_at _ _ _ hi]⟩

set_option maxHeartbeats 1000000 in
theorem product_any (a b : Option Addr) (la ca lb cb A B : Nat) (hla : la ≤ 10000) (hlb : lb ≤ 10000) (hA : A < 2 ^ la) (hB : B < 2 ^ lb) (w : World) (ha : BRow w a la A) (hb : BRow w b lb B) :
    Calls Try.prog 24 #[.slice a la ca, .slice b lb cb] w (ProdPost w (la + lb) (Gf.cl B A)) := by
  obtain ⟨N, hN⟩ : ∃ N, la + lb = N := ⟨_, rfl⟩
  have hNi : (la : Int) + (lb : Int) = (N : Int) := by omega
  have hmk := fun W => made_bools N (by omega) (N : Int) rfl W
  have Ha := Lib.hid ha
  have Hb := Lib.hid hb
  have HA := Lib.hid hA
  have HB := Lib.hid hB
  rw [hN]
  have HN := Lib.hid hN
  clear ha hb hA hB hN
  go_enter Try.func24, Try.ntmps24
  go_wp2_with fail
  have hB0 := Blk.new w 4 (fcells N (bval 0))
  have hb0 := (Below.refl w.heap.size w).alloc (Nat.le_refl _) (.cells (fcells N (bval 0)) 4)
  obtain ⟨g, Hg⟩ : ∃ g, Hid (w.heap.size = g) := ⟨w.heap.size, Lib.hid (Eq.refl _)⟩
  rw [Hg.out] at hB0 hb0 ⊢
  clear hmk
  go_loopw [16] (fun i wr => ∃ k : Nat, k ≤ la ∧ i = .int .i64 (k : Int) ∧ Blk wr g 4 (fcells N (bval (Gf.cl B (A % 2 ^ k)))) ∧ Below g w wr)
    (fun i _ => la - (intOf i).toNat)
  case atStart => exact ⟨0, by omega, rfl, by rw [Nat.pow_zero, Nat.mod_one, Gf.cl_zero]; exact hB0, hb0⟩
  case round =>
    clear hB0 hb0
    obtain ⟨k, hk, rfl, hBk, hbw⟩ := hrel
    by_cases hkl : k < la
    · have HBk := Lib.hid hBk
      have Hbw := Lib.hid hbw
      clear hBk hbw
      go_wp2_with fail
      go_loopw [21] (fun i wr => ∃ j : Nat, j ≤ lb ∧ i = .int .i64 (j : Int) ∧ Blk wr g 4 (fcells N (bval (Gf.cl B (A % 2 ^ k) ^^^ (if A.testBit k then (B % 2 ^ j) * 2 ^ k else 0)))) ∧ Below g w wr)
        (fun i _ => lb - (intOf i).toNat)
      case atStart => exact ⟨0, by omega, rfl, by rw [Nat.pow_zero, Nat.mod_one, Nat.zero_mul]; simpa using HBk.out, Hbw.out⟩
      case round =>
        clear HBk Hbw
        obtain ⟨j, hj, rfl, hBk, hbw⟩ := hrel
        by_cases hjl : j < lb
        · obtain ⟨ba, oa, rfl, hba, hca⟩ := Ha.out.get k hkl
          have hca2 := (hbw.cell (p := ⟨ba, oa + k, none⟩) (by rw [← Hg.out]; exact hba)).trans hca
          cases hAk : A.testBit k
          · rw [hAk] at hca2 hBk
            have HAk := Lib.hid hAk
            clear hAk hca
            go_wp2_with fail
            go_roundw
            case rel => exact ⟨j + 1, by omega, by go_num, hBk, hbw⟩
            case measure => simp [intOf]; omega
          · rw [hAk] at hca2 hBk
            rw [if_pos rfl] at hBk
            have HAk := Lib.hid hAk
            clear hAk hca
            obtain ⟨bb, ob, rfl, hbb, hcb⟩ := Hb.out.get j hjl
            have hcb2 := (hbw.cell (p := ⟨bb, ob + j, none⟩) (by rw [← Hg.out]; exact hbb)).trans hcb
            have hst := mul_pow_bit B k j
            cases hBj : B.testBit j
            · rw [hBj] at hcb2 hst
              have Hst := Lib.hid hst
              clear hBj hcb hst
              go_wp2_with fail
              go_roundw
              case rel =>
                refine ⟨j + 1, by omega, by go_num, ?_, hbw⟩
                try rw [if_pos rfl]
                rw [Hst.out]
                simpa using hBk
              case measure => simp [intOf]; omega
            · rw [hBj] at hcb2 hst
              rw [if_pos rfl] at hst
              have Hst := Lib.hid hst
              clear hBj hcb hst
              obtain ⟨s, hs, hsN⟩ : ∃ s : Nat, k + j = s ∧ s < N := ⟨_, rfl, by have := HN.out; omega⟩
              have hsi : (k : Int) + (j : Int) = (s : Int) := by omega
              rw [hs] at Hst
              obtain ⟨X, HX⟩ : ∃ X, Hid (Gf.cl B (A % 2 ^ k) ^^^ B % 2 ^ j * 2 ^ k = X) := ⟨_, Lib.hid (Eq.refl _)⟩
              rw [HX.out] at hBk
              have hc := hBk.cell s
              rw [fcells_at _ _ _ hsN] at hc
              unfold bval at hc
              have hf := hBk.frozen s
              have Hfl := Lib.hid (fcells_flip N X s)
              clear hs
              obtain ⟨bx, hbx⟩ : ∃ b, X.testBit s = b := ⟨_, rfl⟩
              rw [hbx] at hc Hfl
              clear hbx
              go_wp2_with fail
              go_roundw
              case rel =>
                refine ⟨j + 1, by omega, by go_num, ?_, hbw.setCell (p := ⟨g, s, none⟩) (Nat.le_refl _) _⟩
                have h := hBk.set_ s (.bool (!bx))
                rw [Hfl.out] at h
                try rw [if_pos rfl]
                rw [Hst.out, ← Nat.xor_assoc, HX.out]
                exact h
              case measure => simp [intOf]; omega
        · obtain rfl : j = lb := by omega
          have Hacc := Lib.hid (acc_step A B k)
          go_wp2_with fail
          go_roundw
          case rel => exact ⟨k + 1, by omega, by go_num, by rw [Hacc.out]; rw [Nat.mod_eq_of_lt HB.out] at hBk; exact hBk, hbw⟩
          case measure => simp [intOf]; omega
    · obtain rfl : k = la := by omega
      go_wp2_with fail
      go_ret
      refine ⟨g, rfl, ?_, by rw [Hg.out]; exact hbw⟩
      rw [Nat.mod_eq_of_lt HA.out] at hBk
      exact brow_blk hBk

theorem own_fresh {w : World} {base n V : Nat} {v v' : Value} {m0 : Nat} (hn : m0 = 0) {V0 : Nat} (h : w.ownsRow base 4 1 v' (m0 + n) (bvals m0 V0 ++ bvals n V)) (hv : v = .slice none 0 0 ∨ v' ≠ .slice none 0 0) (hv0 : v ≠ .slice none 0 0) : OwnV w base n V v' := by
  subst hn
  have h' : w.ownsRow base 4 1 v' n (bvals n V) := by simpa [bvals] using h
  rcases h'.2 with ⟨e, _⟩ | ⟨g, cap, cur, e, r⟩
  · rcases hv with hv | hv
    · exact absurd hv hv0
    · exact absurd e hv
  · subst e
    exact ⟨g, cap, rfl, h'⟩
theorem own_flip {w : World} {base g n cap V k : Nat} (h : w.ownsRow base 4 1 (.slice (some ⟨g, 0, none⟩) n cap) n (bvals n V)) (hk : k < n) :
    (w.setCell ⟨g, k, none⟩ (.bool (!V.testBit k))).ownsRow base 4 1 (.slice (some ⟨g, 0, none⟩) n cap) n (bvals n (V ^^^ 2 ^ k)) := by
  have h2 := (World.ownsRow.stored h k (.bool (!V.testBit k))).1
  rw [bvals_flip n V k hk] at h2
  exact h2
theorem own_cell_at {w : World} {base g n cap V k : Nat} (h : w.ownsRow base 4 1 (.slice (some ⟨g, 0, none⟩) n cap) n (bvals n V)) (hk : k < n) : w.cell? ⟨g, k, none⟩ = some (.bool (V.testBit k)) := by
  rw [World.ownsRow.cellAt h k (by omega), bvals_at n V k hk]; rfl
theorem own_frozen {w : World} {base g n cap V k : Nat} (h : w.ownsRow base 4 1 (.slice (some ⟨g, 0, none⟩) n cap) n (bvals n V)) : w.frozen? ⟨g, k, none⟩ = false := World.ownsRow.frozenAt h k

theorem own_keep {w w' : World} {base g n cap V B : Nat} (h : w.ownsRow base 4 1 (.slice (some ⟨g, 0, none⟩) n cap) n (bvals n V)) (hb : Below B w w') (hg : g < B) : w'.ownsRow base 4 1 (.slice (some ⟨g, 0, none⟩) n cap) n (bvals n V) := by
  refine ⟨h.1, ?_⟩
  rcases h.2 with hn | ⟨g', cap', cur, e, hbb, hh, r⟩
  · exact .inl hn
  · simp only [Value.slice.injEq, Option.some.injEq, Addr.mk.injEq] at e
    obtain ⟨⟨rfl, _, _⟩, _, rfl⟩ := e
    exact .inr ⟨g, cap, cur, rfl, hbb, (hb.block g hg).trans hh, r⟩
theorem own_cap {w : World} {base g n cap V : Nat} (h : w.ownsRow base 4 1 (.slice (some ⟨g, 0, none⟩) n cap) n (bvals n V)) : n ≤ cap := by
  rcases h.2 with ⟨e, _⟩ | ⟨g', cap', cur, e, _, _, r, _⟩
  · cases e
  · simp only [Value.slice.injEq] at e
    obtain ⟨_, _, rfl⟩ := e
    exact r
/-- What Rest's outer loop holds of V: t places are left. -/
def RestRel (A m n t V : Nat) : Prop := Gf.Eqm m V A ∧ V < 2 ^ n ∧ V < 2 ^ (max t (Gf.len m - 1))
theorem rest_skip {A m n t V : Nat} (h : RestRel A m n (t + 1) V) (hb : V.testBit t = false) : RestRel A m n t V := by
  refine ⟨h.1, h.2.1, ?_⟩
  rcases Nat.lt_or_ge t (Gf.len m - 1) with h1 | h1
  · have h2 := h.2.2
    rw [Nat.max_eq_right (by omega)] at h2 ⊢
    exact h2
  · have h2 := h.2.2
    rw [Nat.max_eq_left (by omega)] at h2
    rw [Nat.max_eq_left h1]
    apply Nat.lt_pow_two_of_testBit
    intro i hi
    by_cases e : i = t
    · subst e; exact hb
    · exact Nat.testBit_lt_two_pow (Nat.lt_of_lt_of_le h2 (Nat.pow_le_pow_right (by decide) (by omega)))
theorem rest_take {A m n t V s : Nat} (h : RestRel A m n (t + 1) V) (hm : m ≠ 0) (hs : s + Gf.len m = t + 1) (hb : V.testBit t = true) : RestRel A m n t (V ^^^ m * 2 ^ s) := by
  have hl := Gf.len_pos hm
  have h2 := h.2.2
  rw [Nat.max_eq_left (by omega)] at h2
  have hV0 : V ≠ 0 := fun e => by rw [e] at hb; simp at hb
  have hVl : Gf.len V = t + 1 := by
    refine Gf.len_is ?_ h2
    rcases Nat.lt_or_ge V (2 ^ t) with h3 | h3
    · rw [Nat.testBit_lt_two_pow h3] at hb; cases hb
    · exact h3
  have hms : Gf.len (m * 2 ^ s) = t + 1 := by rw [Gf.len_shift hm]; omega
  have hx := Gf.len_xor_lt hV0 (hVl.trans hms.symm)
  have hnl := Gf.len_le h.2.1
  refine ⟨?_, ?_, ?_⟩
  · refine Gf.Eqm.trans ⟨2 ^ s, ?_⟩ h.1
    rw [Gf.cl_comm, Gf.cl_pow, Nat.xor_comm V, Gf.xor_cancel]
  · exact Gf.lt_of_len (by omega)
  · exact Gf.lt_of_len (by have := Nat.le_max_left t (Gf.len m - 1); omega)
theorem rest_end {A m n t V : Nat} (h : RestRel A m n t V) (hm : m ≠ 0) (ht : t < Gf.len m) : Gf.md A m = V := by
  have h2 := h.2.2
  rw [Nat.max_eq_right (by omega)] at h2
  have h3 := Gf.len_le h2
  have hl := Gf.len_pos hm
  exact Gf.md_is h.1 (by omega)

set_option maxHeartbeats 2000000 in
theorem rest_any (a : Option Addr) (n cap A m : Nat) (hn : n ≤ 100000) (hA : A < 2 ^ n) (hm : m < 18446744073709551616) (hm0 : m ≠ 0) (w : World) (hr : BRow w a n A) (hnil : a = none → n = 0 ∧ cap = 0) :
    Calls Try.prog 22 #[.slice a n cap, .int .u64 (m : Int)] w fun e w' => e = .returned (.int .u64 (Gf.md A m : Int)) ∧ Below w.heap.size w w' := by
  have Hr := Lib.hid hr
  have HA := Lib.hid hA
  have Hm0 := Lib.hid hm0
  clear hr hA hm0
  go_enter Try.func22, Try.ntmps22
  have hb0 := (Below.refl w.heap.size w).alloc (Nat.le_refl _) (.cells #[] 4)
  have ho0 := World.ownsRow_made (base := w.heap.size) (e := 4) (size := 1) w #[] 0 (Nat.le_refl _) (Nat.zero_le _) rfl
  have hr2 := Hr.out.below hb0 (Nat.le_refl _)
  have hbs := hb0.size
  go_wp2_with (first
    | (at_builtin; go_must (refine wpList_append_brow rfl _ _ rfl w.heap.size _ 0 0 ho0 rfl a n cap A rfl hr2 hnil ?_ hbs ?_; omega; intro v' w1 hown1 hg1 hne))
    | fail)
  have hO1 := own_fresh rfl hown1 hne (by simp)
  have hB1 := hb0.trans (below_grown ho0 hg1 hbs)
  obtain ⟨g, capl, rfl, hO1⟩ := hO1
  have hgl := (World.ownsRow.lt hO1 g (by simp [Value.ownBlock]))
  clear hne hown1 hg1 ho0 hr2 hbs hb0 hnil
  have hLl := len_le64 hm
  have hL0 := Gf.len_pos Hm0.out
  refine (list_any m hm _).mono ?_
  rintro e w2 ⟨v, rfl, ⟨gd, capd, rfl, hownd⟩, hb2⟩
  have hdr := OwnV.row hownd
  have hdl := (World.ownsRow.lt hownd gd (by simp [Value.ownBlock])).1
  have hO2 := own_keep hO1 hb2 hgl.2
  have hB2 := hB1.trans (hb2.mono hB1.size)
  have hgg : g ≠ gd := by have := hgl.2; omega
  have hgb : w.heap.size ≤ g := hgl.1
  have hst : RestRel A m n n A := ⟨Gf.Eqm.refl _ _, HA.out, Nat.lt_of_lt_of_le HA.out (Nat.pow_le_pow_right (by decide) (Nat.le_max_left _ _))⟩
  have Hst := Lib.hid hst
  have Hdr := Lib.hid hdr
  have HO2 := Lib.hid hO2
  have HB2 := Lib.hid hB2
  obtain ⟨L, HL, hL1⟩ : ∃ L, Hid (Gf.len m = L) ∧ 1 ≤ L ∧ L ≤ 64 := ⟨Gf.len m, Lib.hid (Eq.refl _), by omega, hLl⟩
  rw [HL.out] at Hdr ⊢
  obtain ⟨hL1, hL2⟩ := hL1
  clear hO1 hB1 hownd hb2 hdr hdl hO2 hB2 hst hLl hL0 hgl HA Hr
  go_wp2_with fail
  go_loopw [7, 31] (fun i _ wr => ∃ (t : Nat) (ii : Int) (V : Nat), t ≤ n ∧ Hid (ii = (t : Int) - 1) ∧ i = .int .i64 ii ∧ Hid (RestRel A m n t V) ∧ wr.ownsRow w.heap.size 4 1 (.slice (some ⟨g, 0, none⟩) n capl) n (bvals n V) ∧ BRow wr (some ⟨gd, 0, none⟩) L m ∧ Below w.heap.size w wr)
    (fun i _ _ => (intOf i + 1).toNat)
  case atStart => exact ⟨n, (n : Int) - 1, A, Nat.le_refl _, rfl, rfl, Hst, HO2.out, Hdr.out, HB2.out⟩
  case round =>
    clear Hst HO2 HB2 Hdr
    obtain ⟨t, ii, V, ht, Hii, rfl, HR, hO, hdr, hbw⟩ := hrel
    have hi1 : -1 ≤ ii := by have := Hii.out; omega
    have hi2 : ii < n := by have := Hii.out; omega
    by_cases hlt : (L : Int) - 1 ≤ ii
    · obtain ⟨t', rfl⟩ : ∃ k, t = k + 1 := ⟨t - 1, by have := Hii.out; omega⟩
      obtain rfl : ii = (t' : Int) := by have := Hii.out; omega
      have hc := own_cell_at hO (k := t') (by omega)
      have htn : t' < n := by omega
      cases hb : V.testBit t'
      · rw [hb] at hc
        have HR2 := Lib.hid (rest_skip HR.out hb)
        clear hb ht
        go_wp2_with fail
        go_roundw
        case rel => exact ⟨t', (t' : Int) - 1, V, by omega, rfl, rfl, HR2, hO, hdr, hbw⟩
        case measure => (simp [intOf] <;> omega)
      · rw [hb] at hc
        obtain ⟨s, hs⟩ : ∃ s : Nat, s + L = t' + 1 := ⟨t' + 1 - L, by omega⟩
        have HR2 := Lib.hid (rest_take HR.out Hm0.out (s := s) (by rw [HL.out]; exact hs) hb)
        obtain ⟨x, Hx, hx0, hx1⟩ : ∃ x : Int, Hid (x = (t' : Int) - (L : Int)) ∧ -1 ≤ x ∧ x ≤ 100000 := ⟨_, Lib.hid (Eq.refl _), by omega, by omega⟩
        have q1 : (t' : Int) - (L : Int) = x := Hx.out.symm
        have q2 : x + 1 = (s : Int) := by have := Hx.out; omega
        have Hs := Lib.hid hs
        have hsl : s ≤ 100000 := by omega
        have HO := Lib.hid hO
        have Hdr := Lib.hid hdr
        have Hbw := Lib.hid hbw
        have Hq := Lib.hid (show _ ∧ _ from ⟨q1, q2⟩)
        clear hb ht hs hO hdr hbw HR q1 q2
        go_wp2_with fail
        go_loopw [31] (fun j wr => ∃ k : Nat, k ≤ L ∧ j = .int .i64 (k : Int) ∧ wr.ownsRow w.heap.size 4 1 (.slice (some ⟨g, 0, none⟩) n capl) n (bvals n (V ^^^ (m % 2 ^ k) * 2 ^ s)) ∧ BRow wr (some ⟨gd, 0, none⟩) L m ∧ Below w.heap.size w wr)
          (fun j _ => L - (intOf j).toNat)
        case atStart => exact ⟨0, by omega, rfl, by rw [Nat.pow_zero, Nat.mod_one, Nat.zero_mul, Nat.xor_zero]; exact HO.out, Hdr.out, Hbw.out⟩
        case round =>
          clear HO Hdr Hbw
          obtain ⟨k, hk, rfl, hO, hdr, hbw⟩ := hrel
          by_cases hkl : k < L
          · obtain ⟨b', o', he, hbl, hcd⟩ := hdr.get k hkl
            injection he with he
            injection he with e1 e2
            subst e1 e2
            rw [Nat.zero_add] at hcd
            have hst := mul_pow_bit m s k
            cases hmk : m.testBit k
            · rw [hmk] at hcd hst
              have Hst := Lib.hid hst
              clear hmk hst
              go_wp2_with fail
              go_roundw
              case rel => exact ⟨k + 1, by omega, by go_num, by rw [Hst.out]; simpa using hO, hdr, hbw⟩
              case measure => simp [intOf]; omega
            · rw [hmk] at hcd hst
              rw [if_pos rfl] at hst
              have Hst := Lib.hid hst
              obtain ⟨q1, q2⟩ := Hq.out
              obtain ⟨p, hp, hpn⟩ : ∃ p : Nat, s + k = p ∧ p < n := ⟨_, rfl, by have := Hs.out; omega⟩
              have q3 : (s : Int) + (k : Int) = (p : Int) := by omega
              rw [hp] at Hst
              clear hmk hst hp
              obtain ⟨X, HX⟩ : ∃ X, Hid (V ^^^ m % 2 ^ k * 2 ^ s = X) := ⟨_, Lib.hid (Eq.refl _)⟩
              rw [HX.out] at hO
              have hc2 := own_cell_at hO hpn
              have hf2 := own_frozen hO (k := p)
              have Hfl := Lib.hid (own_flip hO hpn)
              obtain ⟨bx, hbx⟩ : ∃ b, X.testBit p = b := ⟨_, rfl⟩
              rw [hbx] at hc2 Hfl
              clear hbx
              go_wp2_with fail
              go_roundw
              case rel =>
                refine ⟨k + 1, by omega, by go_num, ?_, ?_, hbw.setCell (p := ⟨g, p, none⟩) hgb _⟩
                · rw [Hst.out, ← Nat.xor_assoc, HX.out]
                  exact Hfl.out
                · refine .inr ⟨gd, 0, rfl, by simpa using hbl, fun i hi => ?_⟩
                  obtain ⟨b2, o2, he2, _, hcc⟩ := hdr.get i hi
                  injection he2 with he2
                  injection he2 with e1 e2
                  subst e1 e2
                  rw [World.cell?_setCell_other _ _ _ _ (by intro h; injection h with h; exact hgg h)]
                  exact hcc
              case measure => simp [intOf]; omega
          · obtain rfl : k = L := by omega
            have hml : m % 2 ^ k = m := Nat.mod_eq_of_lt (by rw [← HL.out]; exact Gf.len_lt m)
            rw [hml] at hO
            clear hml
            go_wp2_with fail
            go_roundw
            case rel => exact ⟨t', (t' : Int) - 1, _, by omega, rfl, rfl, HR2, hO, hdr, hbw⟩
            case measure => (simp [intOf] <;> omega)
    · have Hend := Lib.hid (rest_end HR.out Hm0.out (by rw [HL.out]; have := Hii.out; omega))
      have Hv := Lib.hid HR.out
      have hrow := OwnV.row hO
      by_cases hnL : L < n
      · have hcap := own_cap hO
        have hrow2 := hrow.take L (by omega)
        have Hm : Hid (V % 2 ^ L = V) := Nat.mod_eq_of_lt (by rw [← Hend.out, ← HL.out]; exact Gf.lt_of_len (Nat.le_of_lt (Gf.md_spec A Hm0.out).2))
        go_wp2_with (refine (number_any _ L _ V hL2 _ hrow2).mono ?_; rw [Hm.out]; rintro e w' ⟨rfl, rfl⟩)
        go_ret
        exact ⟨by rw [Hend.out]; rfl, hbw⟩
      · have Hm : Hid (V % 2 ^ n = V) := Nat.mod_eq_of_lt Hv.out.2.1
        go_wp2_with (refine (number_any _ n _ V (by omega) _ hrow).mono ?_; rw [Hm.out]; rintro e w' ⟨rfl, rfl⟩)
        go_ret
        exact ⟨by rw [Hend.out]; rfl, hbw⟩

/-- A slice that is told by a word of its own. -/
theorem divides_any (d p : Nat) (hd : d < 18446744073709551616) (hp : p < 18446744073709551616) (hd0 : d ≠ 0) (w : World) :
    Calls Try.prog 28 #[.int .u64 (d : Int), .int .u64 (p : Int)] w fun e w' => e = .returned (.bool (Gf.md p d == 0)) ∧ Below w.heap.size w w' := by
  have hl := len_le64 hp
  have Hd0 := Lib.hid hd0
  have Hl := Lib.hid (Gf.len_lt p)
  obtain ⟨b, hbb⟩ : ∃ b, (Gf.md p d == 0) = b := ⟨_, rfl⟩
  have hbi : (((Gf.md p d : Nat) : Int) == 0) = b := by rw [← hbb, Bool.eq_iff_iff]; simp
  have Hbb := Lib.hid hbb
  clear hd0 hbb
  go_enter Try.func28, Try.ntmps28
  go_wp2_with fail
  refine (list_any p hp _).mono ?_
  rintro e w1 ⟨v, rfl, ⟨g, cap, rfl, hown⟩, hb1⟩
  go_wp2_with fail
  refine (rest_any _ _ _ p d (by omega) Hl.out hd Hd0.out _ (OwnV.row hown) (fun h => by cases h)).mono ?_
  rintro e w2 ⟨rfl, hb2⟩
  go_wp2_with fail
  go_ret
  exact ⟨by rw [Hbb.out]; rfl, bthen hb1 hb2⟩
end Go.Proofs.Ytgjofpefglbjjaa
