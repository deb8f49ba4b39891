/- The document's Two and Date, and awake of layer 20. Conditions: seconds up to the year 9999. -/
import Derived.Test.YtcblcjbflgepoaaOf
import Derived.Deep.RegionHeld3
import Derived.IntWalk
namespace Go.Proofs.Ytcblcjbflgepoaa
open Go.RowKit
set_option maxRecDepth 100000

theorem run_string_two (W : World) (u v : Int) : (convert 54 9 (.slice (some ⟨W.heap.size, 0, none⟩) 2 2)).run Try.prog (W.alloc (.cells #[.int .u8 u, .int .u8 v] 5)) = .ok (.string ⟨#[UInt8.ofNat u.toNat, UInt8.ofNat v.toNat]⟩) (W.alloc (.cells #[.int .u8 u, .int .u8 v] 5)) := by
  rw [run_convert_bytes_string _ 54 9 5 _ 2 2 Try.underlying54 Try.underlying5 Try.underlying9]
  have hl := run_loadCells_list (P := Try.prog) (W.alloc (.cells #[.int .u8 u, .int .u8 v] 5)) ⟨W.heap.size, 0, none⟩ [.int .u8 u, .int .u8 v] (fun j x hj => by
    have e1 : (⟨W.heap.size, 0, none⟩ : Addr).add j = ⟨W.heap.size, j, none⟩ := by unfold Addr.add; split <;> simp_all
    rw [e1, cell_of_row _ W.heap.size j #[.int .u8 u, .int .u8 v] 5 (0, 0) (heap_alloc_new W _)]
    simpa using hj)
  exact run_bytesToString _ ⟨W.heap.size, 0, none⟩ 2 2 [u, v] hl

theorem two_any (x : Int) (h0 : 0 ≤ x) (h1 : x < 100) (w : World) :
    Calls Try.prog 30 #[.int .i64 x] w fun e w' => e = .returned (.string ⟨#[dg x.toNat 1, dg x.toNat 0]⟩) ∧ Below w.heap.size w w' := by
  obtain ⟨n, rfl⟩ := Int.eq_ofNat_of_zero_le h0
  have hs := run_string_two w (48 + (n : Int) / 10 % 10) (48 + (n : Int) % 10)
  have hr : Hid ((⟨#[UInt8.ofNat (48 + (n : Int) / 10 % 10).toNat, UInt8.ofNat (48 + (n : Int) % 10).toNat]⟩ : ByteArray) = ⟨#[dg (n : Int).toNat 1, dg (n : Int).toNat 0]⟩) := by
    show _ = _
    unfold dg
    rw [Int.toNat_natCast, show (48 + (n : Int) / 10 % 10).toNat = 48 + n / 10 ^ 1 % 10 by simp; omega, show (48 + (n : Int) % 10).toNat = 48 + n / 10 ^ 0 % 10 by simp; omega]
  go_enter Try.func30, Try.ntmps30
  go_wp2_with fail
  go_ret
  exact ⟨by rw [← hr.out]; rfl, (Below.refl _ _).alloc (Nat.le_refl _) _⟩

theorem date_cat (Y M1 E : Nat) : ((⟨#[dg ((Y : Int) / 100).toNat 1, dg ((Y : Int) / 100).toNat 0]⟩ ++ ⟨#[dg ((Y : Int) % 100).toNat 1, dg ((Y : Int) % 100).toNat 0]⟩ ++ ⟨#[45]⟩ ++ ⟨#[dg M1 1, dg M1 0]⟩ ++ ⟨#[45]⟩ ++ ⟨#[dg (E + 1) 1, dg (E + 1) 0]⟩ : ByteArray)) = ⟨(dtext Y M1 (E + 1)).toArray⟩ := by
  have e1 : ((Y : Int) / 100).toNat = Y / 100 := by omega
  have e2 : ((Y : Int) % 100).toNat = Y % 100 := by omega
  have d3 : dg (Y / 100) 1 = dg Y 3 := by unfold dg; congr 2; omega
  have d2 : dg (Y / 100) 0 = dg Y 2 := by unfold dg; congr 2; omega
  have d1 : dg (Y % 100) 1 = dg Y 1 := by unfold dg; congr 2; omega
  have d0 : dg (Y % 100) 0 = dg Y 0 := by unfold dg; congr 2; omega
  rw [e1, e2, d3, d2, d1, d0]
  apply ByteArray.ext
  simp [dtext]
theorem sm_below {w W W' : World} {g : Nat} {a b c : Value} (h : W.cell? ⟨g, 1, none⟩ = some a ∧ W.cell? ⟨g, 2, none⟩ = some b ∧ W.cell? ⟨g, 3, none⟩ = some c ∧ g < W.heap.size ∧ Below w.heap.size w W) (hb : Below W.heap.size W W') :
    W'.cell? ⟨g, 1, none⟩ = some a ∧ W'.cell? ⟨g, 2, none⟩ = some b ∧ W'.cell? ⟨g, 3, none⟩ = some c ∧ g < W'.heap.size ∧ Below w.heap.size w W' :=
  ⟨(hb.cell (p := ⟨g, 1, none⟩) h.2.2.2.1).trans h.1, (hb.cell (p := ⟨g, 2, none⟩) h.2.2.2.1).trans h.2.1, (hb.cell (p := ⟨g, 3, none⟩) h.2.2.2.1).trans h.2.2.1, Nat.lt_of_lt_of_le h.2.2.2.1 hb.size, bthen h.2.2.2.2 hb⟩
theorem refDate_any (t : Int) (h0 : 0 ≤ t) (h1 : t ≤ 253402300799) (D : Nat) (hD : (D : Int) = t / 86400) (w : World) :
    Calls Try.prog 17 #[.int .i64 t] w fun e w' => e = .returned (.string ⟨(dateL D).toArray⟩) ∧ Below w.heap.size w w' := by
  have hDl : D ≤ 2932896 := by omega
  have hY := y_lt hDl
  have hE := dom_31 D
  have hM : mon D % 12 < 12 := by omega
  have hof := fun W => of_any D hDl W
  have hday := fun W => refDay_any t h0 h1 D hD W
  have hsp := mon_spec D
  have hm0 := mo_mono (Nat.zero_le (mon D))
  rw [mo_zero] at hm0
  have hb : Hid (mo (mon D) - 719528 + dom D = D) := by show _ = _; unfold dom; omega
  have hlist : Hid (dateL D = dtext (1970 + mon D / 12) (mon D % 12 + 1) (dom D + 1)) := rfl
  rw [hlist.out]
  unfold monthV at hof
  clear hlist hsp hm0 hD
  generalize mo (mon D) - 719528 = b at *
  generalize lenM (1970 + mon D / 12) (mon D % 12) = L at *
  generalize 1970 + mon D / 12 = Y at *
  obtain ⟨M1, HM1, hM1⟩ : ∃ M1, Hid (mon D % 12 + 1 = M1) ∧ M1 ≤ 12 := ⟨_, rfl, by omega⟩
  rw [HM1.out]
  simp only [HM1.out] at hof
  clear hM HM1
  generalize dom D = E at *
  generalize mon D = N at *
  have Hof := Lib.hid hof
  have Hday := Lib.hid hday
  clear hof hday
  have hbD : b ≤ D := by have := hb.out; omega
  have hbE : (D : Int) - (b : Int) = (E : Int) := by have := hb.out; omega
  go_enter Try.func17, Try.ntmps17
  go_wp2_with (first | (go_at_call 18; refine (Hday.out _).mono ?_; rintro e w' ⟨rfl, rfl⟩) | (go_at_call 20; refine (Hof.out _).mono ?_; rintro e w1 ⟨rfl, hb1⟩))
  have HC := Lib.hid (date_cat Y M1 E)
  have hg := hb1.size
  obtain ⟨g, Hg⟩ : ∃ g, Hid (w1.heap.size = g) := ⟨_, rfl⟩
  have hB := Blk.new w1 30 #[.int .i64 (N : Int), .int .i64 (Y : Int), .int .i64 (M1 : Int), .int .i64 (b : Int), .int .i64 (L : Int)]
  have hbw := hb1.alloc hg (.cells #[.int .i64 (N : Int), .int .i64 (Y : Int), .int .i64 (M1 : Int), .int .i64 (b : Int), .int .i64 (L : Int)] 30)
  refine gen_code (fun W => Blk W g 30 #[.int .i64 (N : Int), .int .i64 (Y : Int), .int .i64 (M1 : Int), .int .i64 (b : Int), .int .i64 (L : Int)] ∧ Below w.heap.size w W) ⟨by rw [← Hg.out]; exact hB, hbw⟩ ?_
  rw [Hg.out]
  clear hB hbw hb1 hg
  rintro W ⟨hB, hbw⟩
  have hbd := hbw.drew
  have hc1 := hB.cell 1
  have hc2 := hB.cell 2
  have hc3 := hB.cell 3
  simp at hc1 hc2 hc3
  have hgl := hB.lt
  have q1 : (Y : Int).tdiv 100 = (Y : Int) / 100 := Int.tdiv_eq_ediv_of_nonneg (by omega)
  have q2 : (Y : Int).tmod 100 = (Y : Int) % 100 := Int.tmod_eq_emod_of_nonneg (by omega)
  have q3 : IntKind.i64.wrap ((Y : Int) / 100) = (Y : Int) / 100 := IntWalk.i64_in _ (by omega)
  have q4 : IntKind.i64.wrap ((D : Int) - (b : Int)) = (E : Int) := by rw [hbE]; exact IntWalk.i64_in _ (by omega)
  have q6 : IntKind.i64.wrap (E : Int) = (E : Int) := IntWalk.i64_in _ (by omega)
  have q5 : IntKind.i64.wrap ((E : Int) + 1) = (E : Int) + 1 := IntWalk.i64_in _ (by omega)
  go_region_held3 (fun W => W.cell? ⟨g, 1, none⟩ = some (.int .i64 (Y : Int)) ∧ W.cell? ⟨g, 2, none⟩ = some (.int .i64 (M1 : Int)) ∧ W.cell? ⟨g, 3, none⟩ = some (.int .i64 (b : Int)) ∧ g < W.heap.size ∧ Below w.heap.size w W)
    (first | go_keep | exact sm_below (by assumption) (by assumption))
    (first | (go_at_call 30; refine (two_any _ ?_ ?_ _).mono ?_; omega; omega; rintro e w' ⟨rfl, hbt⟩) | (go_at_call 18; refine (Hday.out _).mono ?_; rintro e w' ⟨rfl, rfl⟩))
  rename_i hh
  have hbe := hh.2.2.2.2
  clear hh
  go_wp2_with fail
  go_ret
  exact ⟨by rw [← HC.out]; rfl, hbe⟩

theorem day13150 : mon 13150 = 432 ∧ dom 13150 = 1 := dom_is (m := 432) (d := 1) (by decide) (by decide)
theorem awake20_any (w : World) : Calls Try.prog 13 #[] w fun e w' => e = .returned (.bool true) ∧ Below w.heap.size w w' := by
  have hd := day13150
  have hl : dateL 13150 = [50, 48, 48, 54, 45, 48, 49, 45, 48, 50] := by unfold dateL; rw [hd.1, hd.2]; decide
  have h1 := fun W => date_yes 1136214245 (by decide) (by decide) 13150 (by decide) W
  have h2 := fun W => month_yes 1136214245 (by decide) (by decide) 13150 (by decide) W
  rw [hl] at h1
  rw [hd.1] at h2
  have H1 := Lib.hid h1
  have H2 := Lib.hid h2
  clear h1 h2 hd hl
  go_enter Try.func13, Try.ntmps13
  go_wp2_with (first
    | (go_at_call 11; refine (H1.out _).mono ?_; rintro e w' ⟨rfl, hb⟩)
    | (go_at_call 14; refine (day_yes 1136214245 (by decide) (by decide) 13150 (by decide) _).mono ?_; rintro e w' ⟨rfl, rfl⟩)
    | (go_at_call 15; refine (week_yes 1136214245 (by decide) (by decide) 13150 (by decide) _).mono ?_; rintro e w' ⟨rfl, rfl⟩)
    | (go_at_call 16; refine (H2.out _).mono ?_; rintro e w' ⟨rfl, rfl⟩))
  go_ret
  exact ⟨rfl, hb⟩
end Go.Proofs.Ytcblcjbflgepoaa
