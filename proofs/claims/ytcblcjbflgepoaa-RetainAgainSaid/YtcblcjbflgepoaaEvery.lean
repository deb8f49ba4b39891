/- retain.every. Conditions: at most a million snapshots, in their order. -/
import Derived.Test.YtcblcjbflgepoaaRCheck
namespace Go.Proofs.Ytcblcjbflgepoaa
open Go.RowKit
set_option maxRecDepth 100000

theorem only_set {a w : World} {g : Nat} (h : a.grownBy w (some g)) (i : Nat) (u : Value) : a.grownBy (w.setCell ⟨g, i, none⟩ u) (some g) :=
  ⟨h.os, h.tape, h.output, by simpa [World.setCell] using h.size, fun k hk hne => (Below.heap_setCell w ⟨g, i, none⟩ u k (fun e => hne (by rw [e]))).trans (h.block k hk hne)⟩
theorem only_refl (w : World) (row : Option Nat) : w.grownBy w row := ⟨rfl, rfl, rfl, Nat.le_refl _, fun _ _ _ => rfl⟩

/-- The marks of a row of snapshots. -/
def kcell (V : Nat → Bool) (i : Nat) : Value := .bool (V i)
theorem SnRow.grown {w w' : World} {a : Option Addr} {S : List Snp} {g : Nat} (h : SnRow w a S) (hg : w.grownBy w' (some g)) (hne : 0 < S.length → ∀ b off sp, a = some ⟨b, off, sp⟩ → b ≠ g) : SnRow w' a S := by
  by_cases h0 : S.length = 0
  · exact .inl h0
  rcases h with h | ⟨b, off, h1, h2, h3⟩
  · exact .inl h
  · refine .inr ⟨b, off, h1, Nat.lt_of_lt_of_le h2 hg.size, fun i hi => ?_⟩
    obtain ⟨c0, c1, c2⟩ := h3 i hi
    have hb := hg.block b h2 (fun e => hne (by omega) b off none h1 (by injection e))
    have e : ∀ o, w'.cell? ⟨b, o, none⟩ = w.cell? ⟨b, o, none⟩ := fun o => by unfold World.cell?; simp only [hb]
    exact ⟨(e _).trans c0, (e _).trans c1, (e _).trans c2⟩

/-- What every leaves: V and the last of each span. -/
def evV (sp : Int → Int) (c : Int) (S : List Snp) (V : Nat → Bool) (j i : Nat) : Bool := V i || (decide (j ≤ i) && mkS sp c (S.drop i))
theorem ev_done (sp : Int → Int) (c : Int) (S : List Snp) (V : Nat → Bool) (j : Nat) (hc : c ≤ (DI (spans sp (S.drop j)) : Int)) (i : Nat) : evV sp c S V j i = evV sp c S V 0 i := by
  unfold evV
  by_cases h : j ≤ i
  · simp [h]
  · have : mkS sp c (S.drop i) = false := by
      by_cases hi : i < S.length
      · rw [drop_sn hi]
        unfold mkS mk1
        have h1 : DI (spans sp (S.drop j)) ≤ DI (spans sp (S.drop (i + 1))) := by
          obtain ⟨d, rfl⟩ : ∃ d, j = i + 1 + d := ⟨j - (i + 1), by omega⟩
          clear h hc
          induction d with
          | zero => exact Nat.le_refl _
          | succ d ih =>
            refine Nat.le_trans ?_ ih
            by_cases hl : i + 1 + d < S.length
            · rw [drop_sn hl]
              show _ ≤ DI (spans sp (S.drop (i + 1 + d + 1))) + _
              exact Nat.le_add_right _ _
            · rw [List.drop_of_length_le (by omega), List.drop_of_length_le (by omega)]
              exact Nat.le_refl _
        simp
        intro _
        omega
      · rw [List.drop_of_length_le (by omega)]; rfl
    rw [this]; simp

set_option maxHeartbeats 4000000 in
theorem every_any (F : Nat) (hF : ∀ args W, Sem.run Try.prog (callFunc F args) W = .ok (.enter F args) W) (sp : Int → Int) (hsp : Span sp) (hf : ∀ t W, 0 ≤ t → t ≤ 253402300799 → Calls Try.prog F #[.int .i64 t] W fun e w' => e = .returned (.int .i64 (sp t)) ∧ W = w')
    (S : List Snp) (hS : S.length ≤ 1000000) (ho : OkS S) (a : Option Addr) (cap : Nat) (c : Int) (hc0 : 0 ≤ c) (hc1 : c ≤ 9223372036854775807) (g cap2 : Nat) (V : Nat → Bool) (w : World)
    (hr : SnRow w a S) (hne : 0 < S.length → ∀ b off sp, a = some ⟨b, off, sp⟩ → b ≠ g) (hB : Blk w g 4 (fcells S.length (kcell V))) :
    Calls Try.prog 33 #[.slice a S.length cap, .slice (some ⟨g, 0, none⟩) S.length cap2, .int .i64 c, .func (.func F) #[] #[]] w fun e w' => e = .returned (.tuple #[]) ∧
      Blk w' g 4 (fcells S.length (kcell (evV sp c S V 0))) ∧ w.grownBy w' (some g) := by
  have Hr := Lib.hid hr
  have Ho := Lib.hid ho
  have HB0 : Hid (Blk w g 4 (fcells S.length (kcell (evV sp c S V S.length)))) := by
    show Blk _ _ _ _
    rw [fcells_congr S.length (kcell (evV sp c S V S.length)) (kcell V) (fun i hi => by unfold kcell evV; simp; omega)]
    exact hB
  obtain ⟨N, HN⟩ : ∃ N, Hid (S.length = N) := ⟨_, Lib.hid (Eq.refl _)⟩
  rw [HN.out] at HB0
  rw [HN.out] at hS ⊢
  have Hf := Lib.hid hf
  have Hsp := Lib.hid hsp
  have Hne := Lib.hid hne
  have HG0 := Lib.hid (only_refl w (some g))
  clear hr ho hB hf hsp hne
  go_enter Try.func33, Try.ntmps33
  go_wp2_with fail
  go_loopw [2, 8, 9] (fun cnt last i wr => ∃ (j D : Nat) (la : Int), j ≤ N ∧ i = .int .i64 ((j : Int) - 1) ∧ cnt = .int .i64 (c - (D : Int)) ∧ (D : Int) ≤ c ∧ D ≤ 1000000 ∧ last = .int .i64 la ∧
      Hid (DI (spans sp (S.drop j)) = D) ∧ Hid (0 < j → newI (sp (sn S (j - 1)).time) (spans sp (S.drop j)) = (sp (sn S (j - 1)).time != la)) ∧
      Hid (Blk wr g 4 (fcells N (kcell (evV sp c S V j)))) ∧ Hid (w.grownBy wr (some g)))
    (fun _ _ i _ => (intOf i + 1).toNat)
  case atStart =>
    refine ⟨N, 0, -1, by omega, by simp, by simp, by omega, by omega, rfl, ?_, ?_, HB0, HG0⟩
    · show _ = _
      rw [List.drop_of_length_le (by rw [HN.out]; exact Nat.le_refl _)]; rfl
    · intro h
      have h1 := Hsp.out.2 (sn S (N - 1)).time (Ho.out _ (by rw [HN.out]; omega)).1 (Ho.out _ (by rw [HN.out]; omega)).2.1
      rw [List.drop_of_length_le (by rw [HN.out]; exact Nat.le_refl _)]
      have : (sp (sn S (N - 1)).time != -1) = true := by simp; omega
      rw [this]; rfl
  case round =>
    clear HB0 HG0
    obtain ⟨j, D, la, hj, rfl, rfl, hD, hDl, rfl, HD, HL, HB, HG⟩ := hrel
    rcases j with _ | j
    · have HB2 := HB.out
      go_wp2_with fail
      (try simp only [Exit.inBlock, Exit.then]); refine bodyPost_end (results_none rfl _ _ _) rfl ?_
      exact ⟨rfl, HB2, HG.out⟩
    · have hjl : j < S.length := by rw [HN.out]; omega
      have Hdr : Hid (S.drop j = sn S j :: S.drop (j + 1)) := drop_sn hjl
      by_cases hcD : (D : Int) < c
      · obtain ⟨b, off, rfl, _, _, c1, _⟩ := (Hr.out.grown HG.out Hne.out).get j hjl
        obtain ⟨T, HT⟩ : ∃ T, Hid ((sn S j).time = T) := ⟨_, Lib.hid (Eq.refl _)⟩
        have htr : 0 ≤ T ∧ T ≤ 253402300799 := by have := Ho.out j hjl; rw [HT.out] at this; exact ⟨this.1, this.2.1⟩
        obtain ⟨X, HX⟩ : ∃ X, Hid (sp T = X) := ⟨_, Lib.hid (Eq.refl _)⟩
        have CF := fun W => Hf.out T W htr.1 htr.2
        have hxl := Hsp.out.2 T htr.1 htr.2
        rw [HX.out] at CF hxl
        rw [HT.out] at c1
        have hL := HL.out (by omega)
        rw [show j + 1 - 1 = j by omega, HT.out, HX.out] at hL
        have Hlast : Hid (0 < j → newI (sp (sn S (j - 1)).time) (spans sp (S.drop j)) = (sp (sn S (j - 1)).time != X)) := by
          intro _
          rw [Hdr.out]
          show (_ != sp (sn S j).time) = _
          rw [HT.out, HX.out]
        have Hmk : Hid (mkS sp c (S.drop j) = (X != la)) := by
          show _ = _
          rw [Hdr.out]
          show (newI (sp (sn S j).time) (spans sp (S.drop (j + 1))) && decide ((DI (spans sp (S.drop (j + 1))) : Int) < c)) = _
          rw [HT.out, HX.out, hL, HD.out]
          simp [hcD]
        have HD2 : Hid (DI (spans sp (S.drop j)) = D + (if (X != la) = true then 1 else 0)) := by
          show _ = _
          rw [Hdr.out]
          show DI (spans sp (S.drop (j + 1))) + (if newI (sp (sn S j).time) (spans sp (S.drop (j + 1))) = true then 1 else 0) = _
          rw [HT.out, HX.out, hL, HD.out]
        have hDle := DI_le (spans sp (S.drop j))
        rw [spans, List.length_map, List.length_drop, HN.out] at hDle
        have hDle2 : D + (if (X != la) = true then 1 else 0) ≤ 1000000 := by rw [← HD2.out]; simp only [spans]; omega
        have hcd : decide (0 < c - (D : Int)) = true := by rw [decide_eq_true_eq]; omega
        clear hL hDle
        by_cases hx : X = la
        · have hxa : (X != la) = false := by simpa using hx
          have HB2 : Hid (Blk wr g 4 (fcells N (kcell (evV sp c S V j)))) := by
            show Blk _ _ _ _
            rw [fcells_congr N (kcell (evV sp c S V j)) (kcell (evV sp c S V (j + 1)))]
            · exact HB.out
            · intro i hi
              unfold kcell evV
              by_cases e : i = j
              · subst e
                rw [Hmk.out, hxa]
                simp
              · by_cases e2 : j ≤ i
                · rw [decide_eq_true e2, decide_eq_true (show j + 1 ≤ i by omega)]
                · rw [decide_eq_false e2, decide_eq_false (show ¬ j + 1 ≤ i by omega)]
          rw [hxa, if_neg (by decide), Nat.add_zero] at HD2
          clear hx hDle2
          go_wp2_with fail
          refine (CF _).mono ?_
          rintro e w3 ⟨rfl, rfl⟩
          go_wp2_with fail
          go_roundw
          case rel => exact ⟨j, D, X, by omega, by go_num, rfl, hD, hDl, by rw [show la = X from (by simpa using hxa : X = la).symm], HD2, Hlast, HB2, HG⟩
          case measure => first | (simp [intOf]; done) | (simp [intOf]; omega)
        · have hxa : (X != la) = true := by simpa using hx
          have hfz := HB.out.frozen j
          have hcell := HB.out.cell j
          rw [fcells_at _ _ _ (by omega)] at hcell
          unfold kcell at hcell
          have HB2 : Hid (Blk (wr.setCell ⟨g, j, none⟩ (.bool true)) g 4 (fcells N (kcell (evV sp c S V j)))) := by
            show Blk _ _ _ _
            have h := HB.out.set_ j (.bool true)
            rw [fcells_set] at h
            rw [fcells_congr N (kcell (evV sp c S V j)) (fun i => if i = j then .bool true else kcell (evV sp c S V (j + 1)) i)]
            · exact h
            · intro i hi
              unfold kcell evV
              by_cases e : i = j
              · subst e
                rw [if_pos rfl, Hmk.out, hxa]
                simp
              · rw [if_neg e]
                by_cases e2 : j ≤ i
                · rw [decide_eq_true e2, decide_eq_true (show j + 1 ≤ i by omega)]
                · rw [decide_eq_false e2, decide_eq_false (show ¬ j + 1 ≤ i by omega)]
          have HG2 := Lib.hid (only_set HG.out j (.bool true))
          rw [hxa, if_pos rfl] at HD2
          rw [hxa, if_pos rfl] at hDle2
          clear hx
          go_wp2_with fail
          refine (CF _).mono ?_
          rintro e w3 ⟨rfl, rfl⟩
          go_wp2_with fail
          go_roundw
          case rel => exact ⟨j, D + 1, X, by omega, by go_num, by go_num, by omega, hDle2, rfl, HD2, Hlast, HB2, HG2⟩
          case measure => first | (simp [intOf]; done) | (simp [intOf]; omega)
      · have hcd : decide (0 < c - (D : Int)) = false := by rw [decide_eq_false_iff_not]; omega
        have HB2 : Hid (Blk wr g 4 (fcells N (kcell (evV sp c S V 0)))) := by
          show Blk _ _ _ _
          rw [fcells_congr N (kcell (evV sp c S V 0)) (kcell (evV sp c S V (j + 1)))]
          · exact HB.out
          · intro i hi
            unfold kcell
            rw [ev_done sp c S V (j + 1) (by rw [HD.out]; omega)]
        go_wp2_with fail
        (try simp only [Exit.inBlock, Exit.then]); refine bodyPost_end (results_none rfl _ _ _) rfl ?_
        exact ⟨rfl, HB2.out, HG.out⟩
theorem runs_day (args : Array Value) (W : World) : Sem.run Try.prog (callFunc 14 args) W = .ok (.enter 14 args) W := by kernel_rfl
theorem runs_week (args : Array Value) (W : World) : Sem.run Try.prog (callFunc 15 args) W = .ok (.enter 15 args) W := by kernel_rfl
theorem runs_month (args : Array Value) (W : World) : Sem.run Try.prog (callFunc 16 args) W = .ok (.enter 16 args) W := by kernel_rfl
end Go.Proofs.Ytcblcjbflgepoaa
