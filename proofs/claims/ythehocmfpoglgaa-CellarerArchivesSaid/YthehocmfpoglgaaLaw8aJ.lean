/- ZipfmtSpoils: an archive that is cut short or has a byte more is refused. Conditions: names that Go can hold. -/
import Derived.Test.YthehocmfpoglgaaJiciihh
namespace Go.Proofs.Ythehocmfpoglgaa
open Go.RowKit
set_option maxRecDepth 100000
theorem write_bad (a : Option Addr) (n cap : Nat) (lv : Int) (h : lv < 0 \/ 9 < lv) (w : World) :
 Calls Try.prog 20 #[.slice a n cap, .int .i64 lv] w fun e w' => e = .returned (.tuple #[.string ⟨#[]⟩, .int .i64 1]) /\ w = w' := by
 by_cases h0 : lv < 0
 . have d0 : decide (lv < 0) = true := by rw [decide_eq_true_eq]; exact h0
   clear h h0
   go_enter Try.func20, Try.ntmps20
   go_wp2_with fail
   go_ret2
   exact ⟨rfl, rfl⟩
 . have d0 : decide (lv < 0) = false := by rw [decide_eq_false_iff_not]; exact h0
   have d1 : decide (9 < lv) = true := Qg (by omega)
   clear h h0
   go_enter Try.func20, Try.ntmps20
   go_wp2_with fail
   go_ret2
   exact ⟨rfl, rfl⟩
theorem archP_le (D : ByteArray -> ByteArray) : ∀ (L : List Fl) (n : Nat), (∀ f ∈ L, f.2.size <= 400 /\ f.1.size <= 64) -> (archL (packL D L n)).length <= 494 * L.length /\ (idxH ((packL D L n).map Part.h)).length <= 110 * L.length := by
 intro L
 induction L with
 | nil => intro n _; exact ⟨Qa _, Qa _⟩
 | cons f r ih =>
  intro n hf
  obtain ⟨g1, g2⟩ := hf f (List.mem_cons_self ..)
  obtain ⟨i1, i2⟩ := ih (n + (partL (packOf D f n)).length) fun x hx => hf x (List.mem_cons_of_mem _ hx)
  have hl := packOf_len D f n
  have e1 : archL (packOf D f n :: packL D r (n + (partL (packOf D f n)).length)) = partL (packOf D f n) ++ archL (packL D r (n + (partL (packOf D f n)).length)) := rfl
  have e2 : ∀ (x : Hd) (y : List Hd), idxH (x :: y) = idxL1 x ++ idxH y := fun _ _ => rfl
  rw [packL, e1, List.map_cons, e2, List.length_append, List.length_append, idxL1_len, (packOf_name D f n).1, List.length_cons]
  omega
theorem write_size {D : ByteArray -> ByteArray} {L : List Fl} {s : ByteArray} (h : writeF D L = .ok s) (hf : ∀ f ∈ L, f.2.size <= 400) : s.size <= 22 + 604 * L.length /\ chkF L = 0 := by
 unfold writeF at h
 by_cases c1 : chkF L ≠ 0
 . rw [if_pos c1] at h; cases h
 rw [if_neg c1] at h
 have c1 : chkF L = 0 := Classical.byContradiction fun g => c1 g
 by_cases c2 : 262144 < (wholeL (packL D L 0)).length
 . rw [if_pos c2] at h; cases h
 rw [if_neg c2] at h
 injection h with h
 subst h
 refine ⟨?_, c1⟩
 have k3 := chkL_ok L _ (chkF_ok c1).2
 obtain ⟨h1, h2⟩ := archP_le D L 0 fun f hh => ⟨hf f hh, nmB_size (k3 f hh).2⟩
 show (wholeL (packL D L 0)).toArray.size <= _
 rw [List.size_toArray]
 unfold wholeL
 rw [List.length_append, indexL_len]
 omega
theorem read_err {t : ByteArray} (h : ∃ e, readF t = .error e) (ht : t.size <= 100000) (w : World) :
 Calls Try.prog 16 #[.string t] w fun r w' => Below w.heap.size w w' /\ ∃ e : Nat, e ≠ 0 /\ r = .returned (.tuple #[.slice none 0 0, .int .i64 (e : Int)]) := by
 obtain ⟨e, he⟩ := h
 refine (read_any t ht w).mono ?_
 rintro r w' ⟨hb, ⟨k, h1, h2, h3⟩ | ⟨l, v, h1, _, _⟩⟩
 . exact ⟨hb, k, h2, h3⟩
 . rw [he] at h1; cases h1
theorem alike_cut (s : ByteArray) (k : Nat) : Alike (s.extract 0 k) s := by
 intro m h1 h2
 rw [ext_list, List.drop_zero, Nat.sub_zero, List.take_take, Nat.min_eq_left]
 rw [ByteArray.size_extract] at h1; omega
theorem alike_more (s u : ByteArray) : Alike (s ++ u) s := by
 intro m h1 h2
 rw [ByteArray.data_append, Array.toList_append, List.take_append_of_le_length]
 simpa using h2
theorem write_small (L : List Fl) (a : Option Addr) (cap lv : Nat) (hlv : lv <= 9) (hL : L.length <= 100000) (hf : ∀ f ∈ L, f.2.size <= 400) (w : World) (hr : FRow w a L) :
 Calls Try.prog 20 #[.slice a L.length cap, .int .i64 (lv : Int)] w (WritePost w (writeF (fun x => dflB x lv) L)) :=
 write_any (fun x => dflB x lv) L a cap lv hlv (by omega) (fun _ f h W => deflate_small f.2 lv hlv (by have := hf f h; omega) W) w hr
set_option maxHeartbeats 4000000 in
theorem spoils_any (L : List Fl) (a : Option Addr) (cap : Nat) (cut : Int) (hn : ∀ f ∈ L, f.2.size <= maxLen) (w : World) (hr : FRow w a L) :
 Calls Try.prog 5 #[.slice a L.length cap, .int .i64 cut] w fun e w' => e = .returned (.bool true) /\ Below w.heap.size w w' := by
 have CS := Qf (short_any L a cap 10 (by decide) hn w hr)
 have hf2 : ∀ f ∈ shortL L 10, f.2.size <= 400 := fun f h => (shortL_mem h).1
 have hl2 : (shortL L 10).length <= 10 := by rw [shortL_len]; omega
 obtain ⟨S, HS⟩ := Qi (shortL L 10)
 rw [HS.out] at CS hf2 hl2
 have CW := Qf (fun a cap W h => write_small S a cap 6 (by decide) (by omega) hf2 W h)
 have HOK : Hid (∀ s, writeF (fun x => dflB x 6) S = .ok s -> s.size <= 90000 /\ (∀ k, k < s.size -> ∃ e, readF (s.extract 0 k) = .error e) /\ (∃ e, readF (s ++ ⟨#[0]⟩) = .error e) /\ (∃ e, readF ((⟨#[0]⟩ : ByteArray) ++ s) = .error e)) := fun s h => by
  obtain ⟨z1, z2⟩ := write_size h hf2
  obtain ⟨_, _, h3, h4, _⟩ := write_read h fun f hh _ => dflB_T f.2 6 (by have := hf2 f hh; omega)
  refine ⟨by omega, fun k hk => spoiled h3 h4 (alike_cut s k) (by rw [ByteArray.size_extract]; omega), spoiled h3 h4 (alike_more s _) (by rw [ByteArray.size_append]; show s.size + 1 ≠ _; omega), spoiled_front (b := 0) (q := s.data.toList) (by rw [ByteArray.data_append, Array.toList_append]; rfl) (by decide)⟩
 obtain ⟨WF, HWF⟩ := Qi (writeF (fun x => dflB x 6) S)
 rw [HWF.out] at CW HOK
 have CA := Qf awake8_any
 clear hr hn hf2 HS HWF
 go_enter Try.func5, Try.ntmps5
 go_wp2_with fail
 refine CS.out.mono ?_
 rintro e w1 ⟨hb1, v, rfl, hv⟩
 obtain ⟨sa, sc, rfl, hrow⟩ := hv.view
 have HRw := Qf hrow
 have HB1 := Qf hb1
 clear hb1 hv hrow
 go_wp2_with fail
 refine (CW.out _ _ _ HRw.out).mono ?_
 rintro e w2 ⟨hb2, ⟨er, rfl, hen, rfl⟩ | ⟨s, rfl, rfl⟩⟩
 . have HB2 := Qf (bthen HB1.out hb2)
   have heI : ¬ (er : Int) = 0 := by omega
   have heb : ((er : Int) == 0) = false := by rw [beq_eq_false_iff_ne]; omega
   clear hb2 HOK CW
   go_wp2_with fail
   refine (CA.out _).mono ?_
   rintro e w3 ⟨rfl, hb3⟩
   have HB3 := Qf (bthen HB2.out hb3)
   clear hb3
   go_wp2_with fail
   go_ret
   exact ⟨rfl, HB3.out⟩
 . obtain ⟨hs, o1, o2, o3⟩ := HOK.out s rfl
   have HB2 := Qf (bthen HB1.out hb2)
   clear hb2 HOK CW
   by_cases hc : cut < 0 \/ (s.size : Int) <= cut
   . have hc2 : (decide (cut < 0) = true) \/ (decide (cut < 0) = false /\ decide ((s.size : Int) <= cut) = true) := by
      by_cases h : cut < 0
      . exact .inl (by rw [decide_eq_true_eq]; exact h)
      . exact .inr ⟨by rw [decide_eq_false_iff_not]; exact h, Qg (by omega)⟩
     clear hc o1 o2 o3
     rcases hc2 with d0 | ⟨d0, d1⟩
     all_goals
      go_wp2_with fail
      refine (CA.out _).mono ?_
      rintro e w3 ⟨rfl, hb3⟩
      have HB3 := Qf (bthen HB2.out hb3)
      clear hb3
      go_wp2_with fail
      go_ret
      exact ⟨rfl, HB3.out⟩
   . obtain ⟨k, rfl⟩ : ∃ k : Nat, cut = (k : Int) := ⟨cut.toNat, by omega⟩
     have d0 : decide ((k : Int) < 0) = false := Qh (by omega)
     have d1 : decide ((s.size : Int) <= (k : Int)) = false := Qh (by omega)
     have d1b : decide (s.size <= k) = false := Qh (by omega)
     have hks : k <= s.size := by omega
     have hksI : (k : Int) <= (s.size : Int) := by omega
     have C1 := Qf (fun W => read_err (o1 k (by omega)) (by rw [ByteArray.size_extract]; omega) W)
     have C2 := Qf (fun W => read_err o2 (by rw [ByteArray.size_append]; show s.size + 1 <= _; omega) W)
     have C3 := Qf (fun W => read_err o3 (by rw [ByteArray.size_append]; show 1 + s.size <= _; omega) W)
     have hv1 : ¬ 9223372036854775807 < s.size + (⟨#[0]⟩ : ByteArray).size := by show ¬ _ < s.size + 1; omega
     have hv2 : ¬ 9223372036854775807 < (⟨#[0]⟩ : ByteArray).size + s.size := by show ¬ _ < 1 + s.size; omega
     have hv3 : ¬ 9223372036854775807 < s.size + 1 := by omega
     have hv4 : ¬ 9223372036854775807 < 1 + s.size := by omega
     clear hc o1 o2 o3
     go_wp2_with fail
     refine (C1.out _).mono ?_
     rintro e w3 ⟨hb3, e1, hn1, rfl⟩
     have HB3 := Qf (bthen HB2.out hb3)
     clear hb3
     go_wp2_with fail
     refine (C2.out _).mono ?_
     rintro e w4 ⟨hb4, e2, hn2, rfl⟩
     have HB4 := Qf (bthen HB3.out hb4)
     clear hb4
     go_wp2_with fail
     refine (C3.out _).mono ?_
     rintro e w5 ⟨hb5, e3, hn3, rfl⟩
     have HB5 := Qf (bthen HB4.out hb5)
     clear hb5
     have i1 : ¬ (e1 : Int) = 0 := by omega
     have i2 : ¬ (e2 : Int) = 0 := by omega
     have i3 : ¬ (e3 : Int) = 0 := by omega
     have b1 : ((e1 : Int) != 0) = true := by rw [bne_iff_ne]; exact i1
     have b2 : ((e2 : Int) != 0) = true := by rw [bne_iff_ne]; exact i2
     have b3 : ((e3 : Int) != 0) = true := by rw [bne_iff_ne]; exact i3
     go_wp2_with fail
     refine (CA.out _).mono ?_
     rintro e w6 ⟨rfl, hb6⟩
     have HB6 := Qf (bthen HB5.out hb6)
     clear hb6
     go_wp2_with fail
     go_ret
     exact ⟨rfl, HB6.out⟩
end Go.Proofs.Ythehocmfpoglgaa
