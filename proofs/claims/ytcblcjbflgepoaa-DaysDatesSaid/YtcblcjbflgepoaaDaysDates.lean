/- DaysDates of layer 20, walked. Conditions: ints. -/
import Derived.Test.YtcblcjbflgepoaaLaw20
namespace Go.Proofs.Ytcblcjbflgepoaa
open Go.RowKit
set_option maxRecDepth 100000

/-- What is read of the three numbers up to byte i. -/
def rd0 (Y i : Nat) : Nat := Y / 10 ^ (4 - i)
def rd1 (M i : Nat) : Nat := M / 10 ^ (min 2 (7 - i))
def rd2 (E i : Nat) : Nat := E / 10 ^ (min 2 (10 - i))
def rdk (i : Nat) : Nat := if i ≤ 4 then 0 else if i ≤ 7 then 1 else 2
def rdc (Y M E i : Nat) : Array Value := #[.int .i64 (rd0 Y i : Int), .int .i64 (rd1 M i : Int), .int .i64 (rd2 E i : Int)]

theorem step_A (Y M E j : Nat) (h : j < 4) (hj : j < 10) : ∃ b : Nat, ((dtext Y M E)[j]'hj).toNat = b ∧ 48 ≤ b ∧ b ≤ 57 ∧ rd0 Y (j + 1) + 48 = 10 * rd0 Y j + b ∧ rd1 M (j + 1) = rd1 M j ∧ rd2 E (j + 1) = rd2 E j ∧ rdk (j + 1) = rdk j ∧ rdk j = 0 := by
  rcases show j = 0 ∨ j = 1 ∨ j = 2 ∨ j = 3 by omega with rfl | rfl | rfl | rfl
  · refine ⟨_, dg_nat Y 3, ?_⟩; unfold rd0 rd1 rd2 rdk; simp; omega
  · refine ⟨_, dg_nat Y 2, ?_⟩; unfold rd0 rd1 rd2 rdk; simp; omega
  · refine ⟨_, dg_nat Y 1, ?_⟩; unfold rd0 rd1 rd2 rdk; simp; omega
  · refine ⟨_, dg_nat Y 0, ?_⟩; unfold rd0 rd1 rd2 rdk; simp; omega
theorem step_B (Y M E j : Nat) (h : j = 5 ∨ j = 6) (hM : M < 100) (hj : j < 10) : ∃ b : Nat, ((dtext Y M E)[j]'hj).toNat = b ∧ 48 ≤ b ∧ b ≤ 57 ∧ rd1 M (j + 1) + 48 = 10 * rd1 M j + b ∧ rd0 Y (j + 1) = rd0 Y j ∧ rd2 E (j + 1) = rd2 E j ∧ rdk (j + 1) = rdk j ∧ rdk j = 1 := by
  rcases h with rfl | rfl
  · refine ⟨_, dg_nat M 1, ?_⟩; unfold rd0 rd1 rd2 rdk; simp; omega
  · refine ⟨_, dg_nat M 0, ?_⟩; unfold rd0 rd1 rd2 rdk; simp; omega
theorem step_C (Y M E j : Nat) (h : j = 8 ∨ j = 9) (hE : E < 100) (hj : j < 10) : ∃ b : Nat, ((dtext Y M E)[j]'hj).toNat = b ∧ 48 ≤ b ∧ b ≤ 57 ∧ rd2 E (j + 1) + 48 = 10 * rd2 E j + b ∧ rd0 Y (j + 1) = rd0 Y j ∧ rd1 M (j + 1) = rd1 M j ∧ rdk (j + 1) = rdk j ∧ rdk j = 2 := by
  rcases h with rfl | rfl
  · refine ⟨_, dg_nat E 1, ?_⟩; unfold rd0 rd1 rd2 rdk; simp; omega
  · refine ⟨_, dg_nat E 0, ?_⟩; unfold rd0 rd1 rd2 rdk; simp; omega
theorem rd_le (Y M E j : Nat) : rd0 Y j ≤ Y ∧ rd1 M j ≤ M ∧ rd2 E j ≤ E := ⟨Nat.div_le_self _ _, Nat.div_le_self _ _, Nat.div_le_self _ _⟩

theorem sm0_below {w W W' : World} {g : Nat} {a b c : Value} (h : W.cell? ⟨g, 0, none⟩ = some a ∧ W.cell? ⟨g, 1, none⟩ = some b ∧ W.cell? ⟨g, 2, none⟩ = some c ∧ g < W.heap.size ∧ Below w.heap.size w W) (hb : Below W.heap.size W W') :
    W'.cell? ⟨g, 0, none⟩ = some a ∧ W'.cell? ⟨g, 1, none⟩ = some b ∧ W'.cell? ⟨g, 2, none⟩ = some c ∧ g < W'.heap.size ∧ Below w.heap.size w W' :=
  ⟨(hb.cell (p := ⟨g, 0, none⟩) h.2.2.2.1).trans h.1, (hb.cell (p := ⟨g, 1, none⟩) h.2.2.2.1).trans h.2.1, (hb.cell (p := ⟨g, 2, none⟩) h.2.2.2.1).trans h.2.2.1, Nat.lt_of_lt_of_le h.2.2.2.1 hb.size, bthen h.2.2.2.2 hb⟩
theorem index_text (W : World) (Y M E i : Nat) (hi : i < 10) : (Instr.index 9 (.string ⟨(dtext Y M E).toArray⟩) (.int .i64 (i : Int))).run Try.prog W = .ok (.int .u8 (((dtext Y M E)[i]'hi).toNat : Int)) W := by
  rw [run_index_string _ _ _ _ _ Try.underlying9, dif_pos ⟨by omega, by show (i : Int) < ((dtext Y M E).length : Int); simp only [dtext]; simp; omega⟩]
  rfl

theorem made3 (W : World) : (Instr.makeSlice 33 (.int .i64 3) (.int .i64 3)).run Try.prog W = .ok (.slice (some ⟨W.heap.size, 0, none⟩) 3 3) (W.alloc (.cells #[.int .i64 0, .int .i64 0, .int .i64 0] 3)) := by
  have h := run_make_f (t := 33) (e := 3) Try.underlying33 (show (Try.prog.info? 3).map (fun i => (i.zero, i.size, i.bytes)) = some (some (.int .i64 0), 1, 8) by kernel_rfl) rfl 3 3 rfl (by decide) (by decide) W
  rw [h]
  rfl

theorem daysDates_no (t : Int) (h : t < 0 ∨ 253402300799 < t) (w : World) :
    Calls Try.prog 5 #[.int .i64 t] w fun e w' => e = .returned (.bool true) ∧ Below w.heap.size w w' := by
  have H := Lib.hid h
  clear h
  go_enter Try.func5, Try.ntmps5
  go_wp2_with (first
    | (go_at_call 11; refine (date_no t H.out _).mono ?_; rintro e w' ⟨rfl, rfl⟩)
    | (go_at_call 13; refine (awake20_any _).mono ?_; rintro e w1 ⟨rfl, hb⟩))
  go_ret
  exact ⟨rfl, hb⟩

set_option maxHeartbeats 4000000 in
theorem daysDates_yes (t : Int) (h0 : 0 ≤ t) (h1 : t ≤ 253402300799) (w : World) :
    Calls Try.prog 5 #[.int .i64 t] w fun e w' => e = .returned (.bool true) ∧ Below w.heap.size w w' := by
  obtain ⟨D, hD⟩ : ∃ D : Nat, (D : Int) = t / 86400 := ⟨(t / 86400).toNat, by omega⟩
  have hDl : D ≤ 2932896 := by omega
  have hY := y_lt hDl
  have hE := dom_31 D
  have hM : mon D % 12 < 12 := by omega
  have ct := fun W => date_yes t h0 h1 D hD W
  have cm := fun W => month_yes t h0 h1 D hD W
  have hlist : ∀ D, dateL D = dtext (1970 + mon D / 12) (mon D % 12 + 1) (dom D + 1) := fun _ => rfl
  rw [hlist] at ct
  obtain ⟨Y, HY⟩ : ∃ x, Hid (1970 + mon D / 12 = x) := ⟨_, rfl⟩
  obtain ⟨M, HM⟩ : ∃ x, Hid (mon D % 12 + 1 = x) := ⟨_, rfl⟩
  obtain ⟨E, HE⟩ : ∃ x, Hid (dom D + 1 = x) := ⟨_, rfl⟩
  rw [HY.out, HM.out, HE.out] at ct
  have hY1 : 1970 ≤ Y ∧ Y < 10000 := by have := HY.out; omega
  have hM1 : 1 ≤ M ∧ M ≤ 12 := by have := HM.out; omega
  have hE1 : 1 ≤ E ∧ E ≤ 31 := by have := HE.out; omega
  have hmon : (mon D : Int) = 12 * ((Y : Int) - 1970) + (M : Int) - 1 := by have := HY.out; have := HM.out; omega
  rw [hmon] at cm
  obtain ⟨sa, Hsa⟩ : ∃ sa : ByteArray, Hid ((⟨(dtext Y M E).toArray⟩ : ByteArray) = sa) := ⟨_, rfl⟩
  have hix := fun W i hi => index_text W Y M E i hi
  simp only [Hsa.out] at hix ct
  have hsa : sa.size = 10 := by rw [← Hsa.out]; rfl
  have Hix := Lib.hid hix
  have Ct := Lib.hid ct
  have Cm := Lib.hid cm
  have hmk := made3
  clear hix ct cm hmon hD hDl hY hE hM hlist Hsa HY HM HE
  have i4 : ∀ W, (Instr.index 9 (.string sa) (.int .i64 4)).run Try.prog W = .ok (.int .u8 45) W := fun W => Hix.out W 4 (by decide)
  have i7 : ∀ W, (Instr.index 9 (.string sa) (.int .i64 7)).run Try.prog W = .ok (.int .u8 45) W := fun W => Hix.out W 7 (by decide)
  go_enter Try.func5, Try.ntmps5
  go_wp2_with (go_at_call 11; refine (Ct.out _).mono ?_; rintro e w1 ⟨rfl, hb1⟩)
  have hB := Blk.new w1 3 #[.int .i64 0, .int .i64 0, .int .i64 0]
  have hb := hb1.alloc hb1.size (.cells #[.int .i64 0, .int .i64 0, .int .i64 0] 3)
  obtain ⟨g, Hg⟩ : ∃ g, Hid (w1.heap.size = g) := ⟨_, rfl⟩
  have hgw : w.heap.size ≤ g := by rw [← Hg.out]; exact hb1.size
  rw [Hg.out] at hB ⊢
  have HB := Lib.hid hB
  have Hb := Lib.hid hb
  clear hB hb hmk i4 i7
  go_loopw [6, 7] (fun k i wr => ∃ j : Nat, j ≤ 10 ∧ i = .int .i64 (j : Int) ∧ k = .int .i64 (rdk j : Int) ∧ Blk wr g 3 (rdc Y M E j) ∧ Below w.heap.size w wr)
    (fun _ i _ => 10 - (intOf i).toNat)
  case atStart =>
    refine ⟨0, by omega, rfl, rfl, ?_, Hb.out⟩
    have e0 : rd0 Y 0 = 0 := by unfold rd0; simp; omega
    have e1 : rd1 M 0 = 0 := by unfold rd1; simp; omega
    have e2 : rd2 E 0 = 0 := by unfold rd2; simp; omega
    unfold rdc
    rw [e0, e1, e2]
    exact HB.out
  case round =>
    obtain ⟨j, hj, rfl, rfl, hB, hb⟩ := hrel
    rcases show j = 10 ∨ j < 4 ∨ (j = 5 ∨ j = 6) ∨ (j = 8 ∨ j = 9) ∨ (j = 4 ∨ j = 7) by omega with rfl | hj4 | hj5 | hj8 | hj47
    · have hr : rdc Y M E 10 = #[.int .i64 (Y : Int), .int .i64 (M : Int), .int .i64 (E : Int)] := by unfold rdc rd0 rd1 rd2; simp
      rw [hr] at hB
      have c0 := hB.cell 0
      have c1 := hB.cell 1
      have c2 := hB.cell 2
      simp at c0 c1 c2
      have hgl := hB.lt
      obtain ⟨y, Hy, hy⟩ : ∃ y : Int, Hid ((Y : Int) = y) ∧ 1970 ≤ y ∧ y < 10000 := ⟨_, rfl, by omega⟩
      obtain ⟨m, Hm, hm⟩ : ∃ y : Int, Hid ((M : Int) = y) ∧ 1 ≤ y ∧ y ≤ 12 := ⟨_, rfl, by omega⟩
      obtain ⟨e, He, he⟩ : ∃ y : Int, Hid ((E : Int) = y) ∧ 1 ≤ y ∧ y ≤ 31 := ⟨_, rfl, by omega⟩
      obtain ⟨mu, Hmu⟩ : ∃ y : Int, Hid (12 * ((Y : Int) - 1970) + (M : Int) - 1 = y) := ⟨_, rfl⟩
      rw [Hy.out] at c0
      rw [Hm.out] at c1
      rw [He.out] at c2
      have cm := Cm.out
      rw [Hmu.out] at cm
      have Cm2 := Lib.hid cm
      obtain ⟨p1, Hp1, hp1⟩ : ∃ p : Int, Hid (y - 1970 = p) ∧ 0 ≤ p ∧ p ≤ 10000 := ⟨_, rfl, by omega⟩
      obtain ⟨p2, Hp2, hp2⟩ : ∃ p : Int, Hid (12 * p1 = p) ∧ 0 ≤ p ∧ p ≤ 120000 := ⟨_, rfl, by omega⟩
      obtain ⟨p3, Hp3, hp3⟩ : ∃ p : Int, Hid (p2 + m = p) ∧ 0 ≤ p ∧ p ≤ 130000 := ⟨_, rfl, by omega⟩
      have q1 : IntKind.i64.wrap (y - 1970) = p1 := by rw [Hp1.out]; exact IntWalk.i64_in _ (by omega)
      have q2 : IntKind.i64.wrap (12 * p1) = p2 := by rw [Hp2.out]; exact IntWalk.i64_in _ (by omega)
      have q3 : IntKind.i64.wrap (p2 + m) = p3 := by rw [Hp3.out]; exact IntWalk.i64_in _ (by omega)
      have q4 : IntKind.i64.wrap (p3 - 1) = mu := by
        have h1 := Hmu.out; have h2 := Hy.out; have h3 := Hm.out; have h4 := Hp1.out; have h5 := Hp2.out; have h6 := Hp3.out
        rw [show mu = p3 - 1 by omega]; exact IntWalk.i64_in _ (by omega)
      have d1 : decide (1 ≤ m) = true := by simp; omega
      have d2 : decide (m ≤ 12) = true := by simp; omega
      have d3 : decide (1 ≤ e) = true := by simp; omega
      have d4 : decide (e ≤ 31) = true := by simp; omega
      have hbd := hb.drew
      clear Hy Hm He Hmu hy hm he hp1 hp2 hp3 Hp1 Hp2 Hp3 cm hr hY1 hM1 hE1 Cm Hix hB h1 h0 HB Hb Ct
      go_wp2_with fail
      go_region_held3 (fun W => W.cell? ⟨g, 0, none⟩ = some (.int .i64 y) ∧ W.cell? ⟨g, 1, none⟩ = some (.int .i64 m) ∧ W.cell? ⟨g, 2, none⟩ = some (.int .i64 e) ∧ g < W.heap.size ∧ Below w.heap.size w W)
        (first | go_keep | exact sm0_below (by assumption) (by assumption))
        (first
          | (go_at_call 13; refine (awake20_any _).mono ?_; rintro e w' ⟨rfl, hbt⟩)
          | (go_at_call 16; refine (Cm2.out _).mono ?_; rintro e w' ⟨rfl, rfl⟩))
      all_goals
        rename_i hh
        have hbe := hh.2.2.2.2
        clear hh
        go_wp2_with fail
        go_ret
        exact ⟨rfl, hbe⟩
    · obtain ⟨b, Hbj, hb1', hb2', hst, hs1, hs2, hs3, hk0⟩ := step_A Y M E j hj4 (by omega)
      have hjx : ∀ W, (Instr.index 9 (.string sa) (.int .i64 (j : Int))).run Try.prog W = .ok (.int .u8 (b : Int)) W := fun W => by rw [Hix.out W j (by omega), Hbj]
      have k4 : ((j : Int) == 4) = false := by simp; omega
      have k7 : ((j : Int) == 7) = false := by simp; omega
      have Hst := Lib.hid hst
      have Hs := Lib.hid (show _ ∧ _ ∧ _ from ⟨hs1, hs2, hs3⟩)
      have hkk : ((rdk j : Nat) : Int) = 0 := by rw [hk0]; rfl
      rw [hkk]
      have Hkk := Lib.hid hkk
      clear hst hs1 hs2 hs3 hk0 hkk Hbj
      obtain ⟨x, Hx, hx⟩ : ∃ x : Nat, Hid (rd0 Y j = x) ∧ x ≤ 10000 := ⟨_, rfl, by have := rd_le Y M E j; omega⟩
      have hcell := hB.cell 0
      have hfz := hB.frozen 0
      unfold rdc at hcell
      simp at hcell
      rw [Hx.out] at hcell
      obtain ⟨c, Hc, hc0⟩ : ∃ c : Int, Hid (c = (b : Int) - 48) ∧ 0 ≤ c ∧ c ≤ 9 := ⟨_, rfl, by omega, by omega⟩
      obtain ⟨p, Hp, hp0⟩ : ∃ c : Int, Hid (c = 10 * (x : Int)) ∧ 0 ≤ c ∧ c ≤ 100000 := ⟨_, rfl, by omega, by omega⟩
      obtain ⟨z, Hz, hz0⟩ : ∃ z : Int, Hid (z = p + c) ∧ 0 ≤ z ∧ z ≤ 200000 := ⟨_, rfl, by omega, by omega⟩
      have q1 : IntKind.i64.wrap (10 * (x : Int)) = p := by rw [Hp.out]; exact IntWalk.i64_in _ (by omega)
      have q2 : IntKind.u8.wrap ((b : Int) - 48) = c := by rw [Hc.out, IntKind.wrap_u8]; omega
      have q3 : IntKind.i64.wrap c = c := IntWalk.i64_in _ (by omega)
      have q4 : IntKind.i64.wrap (p + c) = z := by rw [Hz.out]; exact IntWalk.i64_in _ (by omega)
      go_wp2_with fail
      go_region
      all_goals
        go_wp2_with fail
        go_roundw
        case rel =>
          refine ⟨j + 1, by omega, by go_num, by rw [Hs.out.2.2, Hkk.out], ?_, ((hb.drew).setCell (p := ⟨g, 0, none⟩) hgw _)⟩
          have hB2 := hB.drew.set_ 0 (.int .i64 z)
          unfold rdc at hB2 ⊢
          rw [Hs.out.1, Hs.out.2.1]
          have e : ((rd0 Y (j + 1) : Nat) : Int) = z := by have h1 := Hst.out; have h2 := Hx.out; have h3 := Hz.out; have h4 := Hp.out; have h5 := Hc.out; omega
          rw [e]
          exact hB2
        case measure => simp [intOf]; omega
    · obtain ⟨b, Hbj, hb1', hb2', hst, hs1, hs2, hs3, hk0⟩ := step_B Y M E j hj5 (by omega) (by omega)
      have hjx : ∀ W, (Instr.index 9 (.string sa) (.int .i64 (j : Int))).run Try.prog W = .ok (.int .u8 (b : Int)) W := fun W => by rw [Hix.out W j (by omega), Hbj]
      have k4 : ((j : Int) == 4) = false := by simp; omega
      have k7 : ((j : Int) == 7) = false := by simp; omega
      have Hst := Lib.hid hst
      have Hs := Lib.hid (show _ ∧ _ ∧ _ from ⟨hs1, hs2, hs3⟩)
      have hkk : ((rdk j : Nat) : Int) = 1 := by rw [hk0]; rfl
      rw [hkk]
      have Hkk := Lib.hid hkk
      clear hst hs1 hs2 hs3 hk0 hkk Hbj
      obtain ⟨x, Hx, hx⟩ : ∃ x : Nat, Hid (rd1 M j = x) ∧ x ≤ 10000 := ⟨_, rfl, by have := rd_le Y M E j; omega⟩
      have hcell := hB.cell 1
      have hfz := hB.frozen 1
      unfold rdc at hcell
      simp at hcell
      rw [Hx.out] at hcell
      obtain ⟨c, Hc, hc0⟩ : ∃ c : Int, Hid (c = (b : Int) - 48) ∧ 0 ≤ c ∧ c ≤ 9 := ⟨_, rfl, by omega, by omega⟩
      obtain ⟨p, Hp, hp0⟩ : ∃ c : Int, Hid (c = 10 * (x : Int)) ∧ 0 ≤ c ∧ c ≤ 100000 := ⟨_, rfl, by omega, by omega⟩
      obtain ⟨z, Hz, hz0⟩ : ∃ z : Int, Hid (z = p + c) ∧ 0 ≤ z ∧ z ≤ 200000 := ⟨_, rfl, by omega, by omega⟩
      have q1 : IntKind.i64.wrap (10 * (x : Int)) = p := by rw [Hp.out]; exact IntWalk.i64_in _ (by omega)
      have q2 : IntKind.u8.wrap ((b : Int) - 48) = c := by rw [Hc.out, IntKind.wrap_u8]; omega
      have q3 : IntKind.i64.wrap c = c := IntWalk.i64_in _ (by omega)
      have q4 : IntKind.i64.wrap (p + c) = z := by rw [Hz.out]; exact IntWalk.i64_in _ (by omega)
      go_wp2_with fail
      go_region
      all_goals
        go_wp2_with fail
        go_roundw
        case rel =>
          refine ⟨j + 1, by omega, by go_num, by rw [Hs.out.2.2, Hkk.out], ?_, ((hb.drew).setCell (p := ⟨g, 1, none⟩) hgw _)⟩
          have hB2 := hB.drew.set_ 1 (.int .i64 z)
          unfold rdc at hB2 ⊢
          rw [Hs.out.1, Hs.out.2.1]
          have e : ((rd1 M (j + 1) : Nat) : Int) = z := by have h1 := Hst.out; have h2 := Hx.out; have h3 := Hz.out; have h4 := Hp.out; have h5 := Hc.out; omega
          rw [e]
          exact hB2
        case measure => simp [intOf]; omega
    · obtain ⟨b, Hbj, hb1', hb2', hst, hs1, hs2, hs3, hk0⟩ := step_C Y M E j hj8 (by omega) (by omega)
      have hjx : ∀ W, (Instr.index 9 (.string sa) (.int .i64 (j : Int))).run Try.prog W = .ok (.int .u8 (b : Int)) W := fun W => by rw [Hix.out W j (by omega), Hbj]
      have k4 : ((j : Int) == 4) = false := by simp; omega
      have k7 : ((j : Int) == 7) = false := by simp; omega
      have Hst := Lib.hid hst
      have Hs := Lib.hid (show _ ∧ _ ∧ _ from ⟨hs1, hs2, hs3⟩)
      have hkk : ((rdk j : Nat) : Int) = 2 := by rw [hk0]; rfl
      rw [hkk]
      have Hkk := Lib.hid hkk
      clear hst hs1 hs2 hs3 hk0 hkk Hbj
      obtain ⟨x, Hx, hx⟩ : ∃ x : Nat, Hid (rd2 E j = x) ∧ x ≤ 10000 := ⟨_, rfl, by have := rd_le Y M E j; omega⟩
      have hcell := hB.cell 2
      have hfz := hB.frozen 2
      unfold rdc at hcell
      simp at hcell
      rw [Hx.out] at hcell
      obtain ⟨c, Hc, hc0⟩ : ∃ c : Int, Hid (c = (b : Int) - 48) ∧ 0 ≤ c ∧ c ≤ 9 := ⟨_, rfl, by omega, by omega⟩
      obtain ⟨p, Hp, hp0⟩ : ∃ c : Int, Hid (c = 10 * (x : Int)) ∧ 0 ≤ c ∧ c ≤ 100000 := ⟨_, rfl, by omega, by omega⟩
      obtain ⟨z, Hz, hz0⟩ : ∃ z : Int, Hid (z = p + c) ∧ 0 ≤ z ∧ z ≤ 200000 := ⟨_, rfl, by omega, by omega⟩
      have q1 : IntKind.i64.wrap (10 * (x : Int)) = p := by rw [Hp.out]; exact IntWalk.i64_in _ (by omega)
      have q2 : IntKind.u8.wrap ((b : Int) - 48) = c := by rw [Hc.out, IntKind.wrap_u8]; omega
      have q3 : IntKind.i64.wrap c = c := IntWalk.i64_in _ (by omega)
      have q4 : IntKind.i64.wrap (p + c) = z := by rw [Hz.out]; exact IntWalk.i64_in _ (by omega)
      go_wp2_with fail
      go_region
      all_goals
        go_wp2_with fail
        go_roundw
        case rel =>
          refine ⟨j + 1, by omega, by go_num, by rw [Hs.out.2.2, Hkk.out], ?_, ((hb.drew).setCell (p := ⟨g, 2, none⟩) hgw _)⟩
          have hB2 := hB.drew.set_ 2 (.int .i64 z)
          unfold rdc at hB2 ⊢
          rw [Hs.out.1, Hs.out.2.1]
          have e : ((rd2 E (j + 1) : Nat) : Int) = z := by have h1 := Hst.out; have h2 := Hx.out; have h3 := Hz.out; have h4 := Hp.out; have h5 := Hc.out; omega
          rw [e]
          exact hB2
        case measure => simp [intOf]; omega
    · rcases hj47 with rfl | rfl
      · rw [show ((rdk 4 : Nat) : Int) = 0 from rfl]
        go_wp2_with fail
        go_roundw
        case rel => exact ⟨5, by omega, rfl, rfl, hB, hb⟩
        case measure => simp [intOf]
      · rw [show ((rdk 7 : Nat) : Int) = 1 from rfl]
        go_wp2_with fail
        go_roundw
        case rel => exact ⟨8, by omega, rfl, rfl, hB, hb⟩
        case measure => simp [intOf]

theorem daysDates_any (t : Int) (w : World) :
    Calls Try.prog 5 #[.int .i64 t] w fun e w' => e = .returned (.bool true) ∧ Below w.heap.size w w' := by
  by_cases h : t < 0 ∨ 253402300799 < t
  · exact daysDates_no t h w
  · exact daysDates_yes t (by omega) (by omega) w
end Go.Proofs.Ytcblcjbflgepoaa
