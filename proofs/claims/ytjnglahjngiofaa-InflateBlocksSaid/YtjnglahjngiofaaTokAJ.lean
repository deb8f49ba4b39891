/- awake of law05: Tokens of two bytes. Conditions: none. -/
import Derived.Test.YtjnglahjngiofaaJcmeihm
import Derived.Test.YtjnglahjngiofaaJabmhmi
import Derived.Carry
namespace Go.Proofs.Ytjnglahjngiofaa
open Go.RowKit
set_option maxRecDepth 100000

theorem only_refl (w : World) (row : Option Nat) : w.grownBy w row := ⟨rfl, rfl, rfl, Nat.le_refl _, fun _ _ _ => rfl⟩
theorem best_short (f : Nat) (s : ByteArray) (m p : Value) (far : Int) (i : Nat) (hi : s.size < i + 3) (hi2 : i ≤ 1000000) (w : World) (hB : Blk w f 93 #[.string s, m, p, .int .i64 far]) :
    Calls Try.prog 44 #[.pointer (some ⟨f, 0, none⟩), .int .i64 (i : Int)] w fun e w' => e = .returned (.tuple #[.int .i64 0, .int .i64 0]) ∧ w = w' := by
  have c0 := hB.cell 0
  simp at c0
  have d0 : decide ((s.size : Int) < (i : Int) + 3) = true := by simp; omega
  clear hB hi
  go_enter Try.func44, Try.ntmps44
  go_wp2_with fail
  go_ret2
  exact ⟨rfl, rfl⟩
theorem note_short (f : Nat) (s : ByteArray) (m p : Value) (far : Int) (i : Nat) (hi : s.size < i + 3) (hi2 : i ≤ 1000000) (w : World) (hB : Blk w f 93 #[.string s, m, p, .int .i64 far]) :
    Calls Try.prog 45 #[.pointer (some ⟨f, 0, none⟩), .int .i64 (i : Int)] w fun e w' => e = .returned (.tuple #[]) ∧ w = w' := by
  have c0 := hB.cell 0
  simp at c0
  have d0 : decide ((s.size : Int) < (i : Int) + 3) = true := by simp; omega
  clear hB hi
  go_enter Try.func45, Try.ntmps45
  go_wp2_with fail
  refine bodyPost_ret (results_none rfl _ _ _) rfl ?_
  exact ⟨rfl, rfl⟩

def abT (k : Nat) : List Tok := [(⟨97, 0, 0⟩ : Tok), ⟨98, 0, 0⟩].take k
set_option maxHeartbeats 4000000 in
theorem tokens_ab (w : World) : Calls Try.prog 24 #[.string ⟨#[97, 98]⟩, .int .i64 0] w fun e w' => ∃ v, e = .returned (.tuple #[v, .int .i64 0]) ∧ OwnK 35 w' w.heap.size v (abT 2) ∧ Below w.heap.size w w' := by
  have Hix0 := Lib.hid (show ∀ W, (Instr.index 9 (.string ⟨#[97, 98]⟩) (.int .i64 0)).run Try.prog W = .ok (.int .u8 97) W from fun W => by kernel_rfl)
  have Hix1 := Lib.hid (show ∀ W, (Instr.index 9 (.string ⟨#[97, 98]⟩) (.int .i64 1)).run Try.prog W = .ok (.int .u8 98) W from fun W => by kernel_rfl)
  obtain ⟨s, Hs⟩ : ∃ s, Hid ((⟨#[97, 98]⟩ : ByteArray) = s) := ⟨_, Lib.hid (Eq.refl _)⟩
  have hs2 : s.size = 2 := by rw [← Hs.out]; rfl
  rw [Hs.out] at Hix0 Hix1 ⊢
  go_enter Try.func24, Try.ntmps24
  have hmm := @run_makeMap Try.prog
  have hmk : ∀ W, (Instr.makeSlice 22 (.int .i64 2) (.int .i64 2)).run Try.prog W = .ok (.slice (some ⟨W.heap.size, 0, none⟩) 2 2) (W.alloc (.cells (fcells 2 (fun _ => .int .i64 0)) 3)) :=
    fun W => run_make_f (t := 22) (e := 3) Try.underlying22 info_int rfl 2 2 rfl (by omega) (by omega) W
  go_wp2_with fail
  have hb1 := (Below.refl w.heap.size w).alloc (Nat.le_refl _) (.map #[] 0)
  have hb2 := hb1.alloc hb1.size (.cells (fcells 2 (fun _ => .int .i64 0)) 3)
  have hf := Blk.new ((w.alloc (.map #[] 0)).alloc (.cells (fcells 2 (fun _ => .int .i64 0)) 3)) 93 #[.string s, .map (some w.heap.size), .slice (some ⟨w.heap.size + 1, 0, none⟩) 2 2, .int .i64 0]
  have hb3 := hb2.alloc hb2.size (.cells #[.string s, .map (some w.heap.size), .slice (some ⟨w.heap.size + 1, 0, none⟩) 2 2, .int .i64 0] 93)
  rw [show ((w.alloc (.map #[] 0)).alloc (.cells (fcells 2 (fun _ => .int .i64 0)) 3)).heap.size = w.heap.size + 1 + 1 by simp] at hf
  have HF0 := Lib.hid hf
  have HB0 := Lib.hid hb3
  generalize ((w.alloc (.map #[] 0)).alloc (.cells (fcells 2 (fun _ => .int .i64 0)) 3)).alloc (.cells #[.string s, .map (some w.heap.size), .slice (some ⟨w.heap.size + 1, 0, none⟩) 2 2, .int .i64 0] 93) = w3 at *
  obtain ⟨vm, Hvm⟩ : ∃ v : Value, Hid (.map (some w.heap.size) = v) := ⟨_, Lib.hid (Eq.refl _)⟩
  obtain ⟨vp, Hvp⟩ : ∃ v : Value, Hid (.slice (some ⟨w.heap.size + 1, 0, none⟩) 2 2 = v) := ⟨_, Lib.hid (Eq.refl _)⟩
  obtain ⟨f, Hf⟩ : ∃ f : Nat, Hid (w.heap.size + 1 + 1 = f) := ⟨_, Lib.hid (Eq.refl _)⟩
  rw [Hvm.out, Hvp.out, Hf.out] at HF0 ⊢
  have HO0 : Hid (OwnK 35 w3 w.heap.size (.slice none 0 0) (abT 0)) := World.ownsRow_nil _ _ _ _
  clear hb1 hb2 hb3 hf hmm hmk
  go_loopw [7, 8] (fun vo i wr => ∃ k : Nat, k ≤ 2 ∧ i = .int .i64 (k : Int) ∧ Hid (OwnK 35 wr w.heap.size vo (abT k)) ∧ Hid (Below w.heap.size w wr) ∧ Hid (Blk wr f 93 #[.string s, vm, vp, .int .i64 0])) (fun _ i _ => 2 - (intOf i).toNat)
  case atStart => exact ⟨0, by omega, rfl, HO0, HB0, HF0⟩
  case round =>
    clear HO0 HB0 HF0
    obtain ⟨k, hk, rfl, HO, HB, HF⟩ := hrel
    by_cases hlt : k < 2
    · have cb := best_short f s vm vp 0 k (by omega) (by omega) _ HF.out
      have cn := note_short f s vm vp 0 k (by omega) (by omega) _ HF.out
      obtain ⟨c, Hc⟩ : ∃ c : UInt8, Hid (abT (k + 1) = abT k ++ [⟨c, 0, 0⟩] ∧ ∀ W, (Instr.index 9 (.string s) (.int .i64 (k : Int))).run Try.prog W = .ok (.int .u8 (c.toNat : Int)) W) := by
        have : k = 0 ∨ k = 1 := by omega
        rcases this with rfl | rfl
        · exact ⟨97, rfl, Hix0.out⟩
        · exact ⟨98, rfl, Hix1.out⟩
      have hix := Hc.out.2
      have hlen : (abT k).length ≤ 2 := by unfold abT; rw [List.length_take]; simp; omega
      have hos := HO.out
      have hbsw : w.heap.size ≤ _ := HB.out.size
      go_wp2_with fail
      refine cb.mono ?_
      rintro e w4 ⟨rfl, rfl⟩
      go_wp2_with fail
      refine cn.mono ?_
      rintro e w4 ⟨rfl, rfl⟩
      clear cb cn
      have HFx := HF
      clear HF
      go_wp2_with (first
        | (at_builtin; go_must (refine wpList_append_elem _ rfl (.tmp 72) (.tmp 77) rfl Try.underlying32 info_tok rfl (by decide) w.heap.size u7 (abT k).length (kcells3 (abT k)) [.int .u8 (c.toNat : Int), .int .i64 0, .int .i64 0] hos rfl ?_ rfl rfl rfl ?_ ?_ hbsw ?_; (intro z hz; simp at hz; rcases hz with h | h <;> (subst h; rfl)); (unfold maxLen; omega); omega; intro v5 w5 hown5 hg5; have HO5 := Lib.hid hown5; have Hb5 := Lib.hid (HB.out.trans (below_grown hos hg5 hbsw)); have HF5 := Lib.hid (HFx.out.grown hg5 (fun e => by rcases row_blk hos HFx.out (by decide) with h | h; (rw [h] at e; cases e); exact h e.symm)); clear hown5 hg5 hos))
        | fail)
      go_roundw
      case rel =>
        refine ⟨k + 1, by omega, by go_num, ?_, Hb5, HF5⟩
        show OwnK _ _ _ _ _
        rw [Hc.out.1]
        unfold OwnK
        rw [List.length_append, kcells3_append]
        exact HO5.out
      case measure => simp [intOf]; omega
    · obtain rfl : k = 2 := by omega
      go_wp2_with fail
      go_ret2
      exact ⟨_, rfl, HO.out, HB.out⟩

theorem aw_exp : texp 4 [] [(⟨97, 0, 0⟩ : Tok), ⟨0, 3, 1⟩] = ([97, 97, 97, 97], 0) := by decide +kernel
theorem aw_tk {w : World} {g : Nat} (h : Blk w g 35 #[.int .u8 97, .int .i64 0, .int .i64 0, .int .u8 0, .int .i64 3, .int .i64 1]) : TkRow w (some ⟨g, 0, none⟩) [(⟨97, 0, 0⟩ : Tok), ⟨0, 3, 1⟩] := by
  refine .inr ⟨g, 0, rfl, h.lt, fun i hi => ?_⟩
  have : i = 0 ∨ i = 1 := by simp at hi; omega
  rcases this with rfl | rfl <;> (refine ⟨?_, ?_, ?_⟩ <;> (rw [h.cell]; rfl))
theorem awake5_any (w : World) : Calls Try.prog 22 #[] w fun e w' => e = .returned (.bool true) ∧ Below w.heap.size w w' := by
  have C := Lib.hid (fun a cap W hr => expand_any [(⟨97, 0, 0⟩ : Tok), ⟨0, 3, 1⟩] (by decide) a cap 4 (by omega) W hr)
  have hb0 := (Below.refl w.heap.size w).alloc (Nat.le_refl _) (.cells #[.int .u8 97, .int .i64 0, .int .i64 0, .int .u8 0, .int .i64 3, .int .i64 1] 35)
  have Hr := Lib.hid (aw_tk (Blk.new w 35 #[.int .u8 97, .int .i64 0, .int .i64 0, .int .u8 0, .int .i64 3, .int .i64 1]))
  have Hb := Lib.hid hb0
  have Hv : Hid (expV (texp 4 [] [(⟨97, 0, 0⟩ : Tok), ⟨0, 3, 1⟩]) = .tuple #[.string ⟨#[97, 97, 97, 97]⟩, .int .i64 0]) := by show _ = _; rw [aw_exp]; rfl
  have Hl : Hid ([(⟨97, 0, 0⟩ : Tok), ⟨0, 3, 1⟩].length = 2) := rfl
  rw [Hv.out, Hl.out] at C
  clear hb0
  go_enter Try.func22, Try.ntmps22
  go_wp2_with fail
  refine (C.out _ _ _ Hr.out).mono ?_
  rintro e w2 ⟨rfl, hb2⟩
  have HB2 := Lib.hid (bthen Hb.out hb2)
  clear hb2
  go_wp2_with fail
  refine (tokens_ab _).mono ?_
  rintro e w3 ⟨v, rfl, hO, hb3⟩
  have HB3 := Lib.hid (bthen HB2.out hb3)
  obtain ⟨av, cv, rfl, hR⟩ := hO.view
  obtain ⟨b, off, rfl, _, c0, _, _⟩ := hR.get 1 (by decide)
  have hl2 : (abT 2).length = 2 := rfl
  have ht1 : ((tk (abT 2) 1).b.toNat : Int) = 98 := rfl
  rw [ht1] at c0
  rw [hl2]
  clear hO hR hb3
  go_wp2_with fail
  go_ret
  exact ⟨rfl, HB3.out⟩
end Go.Proofs.Ytjnglahjngiofaa
