/- The document's Kept; awake. Conditions: at most a million snapshots, in their order. -/
import Derived.Test.YtcblcjbflgepoaaKept
namespace Go.Proofs.Ytcblcjbflgepoaa
open Go.RowKit
set_option maxRecDepth 100000

set_option maxHeartbeats 4000000 in
theorem kept_any (P : Pol) (ta : Option Addr) (tc : Nat) (hn : P.n ≤ 9223372036854775807) (S : List Snp) (hS : S.length ≤ 1000000) (ho : OkS S) (a : Option Addr) (cap : Nat) (hcap : S.length ≤ cap) (hcap2 : cap ≤ 9223372036854775807) (i : Nat) (hi : i < S.length) (w : World)
    (hT : SRow w ta P.n P.m) (hr : SnRow w a S) :
    Calls Try.prog 27 #[.agg (polc P ta tc), .slice a S.length cap, .int .i64 (i : Int)] w fun e w' => e = .returned (.bool (keepAt P S i)) ∧ Below w.heap.size w w' := by
  have hb0 := (Below.refl w.heap.size w).alloc (Nat.le_refl _) (.cells (polc P ta tc) 45)
  have hpb := Blk.new w 45 (polc P ta tc)
  have hlt : w.heap.size < (w.alloc (.cells (polc P ta tc) 45)).heap.size := by simp
  have CO := fun k hk c W hr => one_any k hk S hS ho a cap hcap hcap2 i hi c W hr
  have hr1 := hr.below hb0 (Nat.le_refl _)
  have hT1 := hT.below hb0
  have hsz : ((S.drop (i + 1)).length : Int) + 1 = (S.length : Int) - i := by rw [List.length_drop]; omega
  have hka : keepAt P S i = (decide ((S.length : Int) - i ≤ P.a) || ((List.range P.n).any fun j => (P.m j).toList == (sn S i).tag.toList) || mk1 (spK 1) P.b (sn S i) (S.drop (i + 1)) || mk1 (spK 2) P.c (sn S i) (S.drop (i + 1)) || mk1 (spK 3) P.d (sn S i) (S.drop (i + 1))) := by
    unfold keepAt keepX
    rw [hsz]; rfl
  obtain ⟨b, off, rfl, hbl, c0, c1, c2⟩ := hr1.get i hi
  obtain ⟨tg, Htg⟩ : ∃ T, Hid ((sn S i).tag = T) := ⟨_, Lib.hid (Eq.refl _)⟩
  rw [Htg.out] at c2 hka
  have Hka := Lib.hid hka
  obtain ⟨K, HK⟩ : ∃ K, Hid (keepAt P S i = K) := ⟨_, Lib.hid (Eq.refl _)⟩
  rw [HK.out] at Hka ⊢
  obtain ⟨x, Hx⟩ : ∃ x, Hid (sn S i = x) := ⟨_, Lib.hid (Eq.refl _)⟩
  obtain ⟨R, HR⟩ : ∃ x, Hid (S.drop (i + 1) = x) := ⟨_, Lib.hid (Eq.refl _)⟩
  rw [Hx.out, HR.out] at Hka
  rw [Hx.out, HR.out] at CO
  have Hr1 := Lib.hid hr1
  have HT1 := Lib.hid hT1
  obtain ⟨N, HN⟩ : ∃ N, Hid (S.length = N) := ⟨_, Lib.hid (Eq.refl _)⟩
  rw [HN.out] at hS hcap hi CO Hka ⊢
  have CC := Lib.hid CO
  unfold polc at hb0 hpb hlt Hr1 HT1 hbl c2 ⊢
  have Hb := Lib.hid hb0
  have HP := Lib.hid hpb
  clear hb0 hpb hr hr1 hT hT1 CO c0 c1 hka ho hsz
  obtain ⟨pa, pb, pc, pd, pn, pm⟩ := P
  simp only at Hb HP hlt Hr1 HT1 hn Hka hbl c2 ⊢
  go_enter Try.func27, Try.ntmps27
  go_wp2_with fail
  generalize w.alloc (.cells #[.int .i64 pa, .int .i64 pb, .int .i64 pc, .int .i64 pd, .slice ta pn tc] 45) = w1 at *
  obtain ⟨p, Hp⟩ : ∃ p, Hid (w.heap.size = p) := ⟨_, Lib.hid (Eq.refl _)⟩
  rw [Hp.out] at hlt HP ⊢
  go_loop [12] (fun j => ∃ m : Nat, m ≤ pn ∧ j = .int .i64 (m : Int) ∧ Hid (∀ j, j < m → ((pm j).toList == tg.toList) = false)) (fun j => pn - (intOf j).toNat)
  case atStart => exact ⟨0, by omega, rfl, fun j hj => by omega⟩
  case round =>
    obtain ⟨m, hm, rfl, HM⟩ := hrel
    by_cases hlt2 : m < pn
    · obtain ⟨b2, off2, rfl, _, hc, _⟩ := HT1.out.get m hlt2
      obtain ⟨s, Hs⟩ : ∃ s, Hid (pm m = s) := ⟨_, Lib.hid (Eq.refl _)⟩
      rw [Hs.out] at hc
      by_cases he : (s.toList == tg.toList) = true
      · have HKt : Hid (K = true) := by
          show _ = _
          rw [Hka.out]
          have h1 : ((List.range pn).any fun j => (pm j).toList == tg.toList) = true := by
            rw [List.any_eq_true]
            exact ⟨m, List.mem_range.2 hlt2, by rw [Hs.out]; exact he⟩
          rw [h1]; simp
        go_wp2_with fail
        go_ret
        exact ⟨by rw [HKt.out]; rfl, Hb.out⟩
      · have he2 : (s.toList == tg.toList) = false := by simpa using he
        have HM2 : Hid (∀ j, j < m + 1 → ((pm j).toList == tg.toList) = false) := by
          intro j hj
          by_cases e : j = m
          · subst e; rw [Hs.out]; exact he2
          · exact HM.out j (by omega)
        clear he
        go_wp2_with fail
        go_round
        case rel => exact ⟨m + 1, by omega, by go_num, HM2⟩
        case measure => simp [intOf]; omega
    · obtain rfl : m = pn := by omega
      have ht : ((List.range m).any fun j => (pm j).toList == tg.toList) = false := by
        rw [List.any_eq_false]
        intro j hj
        have := HM.out j (List.mem_range.1 hj)
        simp [this]
      have Hka2 : Hid (K = (decide ((N : Int) - (i : Int) ≤ pa) || mk1 (spK 1) pb x R || mk1 (spK 2) pc x R || mk1 (spK 3) pd x R)) := by
        show _ = _
        rw [Hka.out, ht, Bool.or_false]
      have p0 := HP.out.cell 0
      simp at p0
      clear ht Hka c2
      by_cases h0 : (N : Int) - (i : Int) ≤ pa
      · have d0 : decide ((N : Int) - (i : Int) ≤ pa) = true := by simpa using h0
        have HKt : Hid (K = true) := by show _ = _; rw [Hka2.out, d0]; simp
        go_wp2_with fail
        go_ret
        exact ⟨by rw [HKt.out]; rfl, Hb.out⟩
      have d0 : decide ((N : Int) - (i : Int) ≤ pa) = false := by simpa using h0
      have p1 := HP.out.cell 1
      simp at p1
      have C1 := CC.out 1 (by omega) pb w1 Hr1.out
      simp only [show ((1 : Nat) : Int) = 1 from rfl] at C1
      rw [d0, Bool.false_or] at Hka2
      obtain ⟨k1, Hk1⟩ : ∃ k, Hid (mk1 (spK 1) pb x R = k) := ⟨_, Lib.hid (Eq.refl _)⟩
      rw [Hk1.out] at C1 Hka2
      clear h0
      go_wp2_with fail
      refine C1.mono ?_
      rintro e w2 ⟨rfl, hb2⟩
      have HB2 := Lib.hid (bthen Hb.out hb2)
      have HP2 := Lib.hid (HP.out.below hb2 hlt)
      have Hr2 := Lib.hid (Hr1.out.below hb2 (Nat.le_refl _))
      have hlt2' : p < w2.heap.size := Nat.lt_of_lt_of_le hlt hb2.size
      clear Hb HP Hr1 hb2 C1 p0 p1 HT1 hbl
      cases k1
      · rw [Bool.false_or] at Hka2
        have p2 := HP2.out.cell 2
        simp at p2
        have C2 := CC.out 2 (by omega) pc w2 Hr2.out
        simp only [show ((2 : Nat) : Int) = 2 from rfl] at C2
        obtain ⟨k2, Hk2⟩ : ∃ k, Hid (mk1 (spK 2) pc x R = k) := ⟨_, Lib.hid (Eq.refl _)⟩
        rw [Hk2.out] at C2 Hka2
        go_wp2_with fail
        refine C2.mono ?_
        rintro e w3 ⟨rfl, hb3⟩
        have HB3 := Lib.hid (bthen HB2.out hb3)
        have HP3 := Lib.hid (HP2.out.below hb3 hlt2')
        have Hr3 := Lib.hid (Hr2.out.below hb3 (Nat.le_refl _))
        clear HB2 HP2 Hr2 hb3 C2 p2
        cases k2
        · rw [Bool.false_or] at Hka2
          have p3 := HP3.out.cell 3
          simp at p3
          have C3 := CC.out 3 (by omega) pd w3 Hr3.out
          simp only [show ((3 : Nat) : Int) = 3 from rfl] at C3
          obtain ⟨k3, Hk3⟩ : ∃ k, Hid (mk1 (spK 3) pd x R = k) := ⟨_, Lib.hid (Eq.refl _)⟩
          rw [Hk3.out] at C3 Hka2
          go_wp2_with fail
          refine C3.mono ?_
          rintro e w4 ⟨rfl, hb4⟩
          have HB4 := Lib.hid (bthen HB3.out hb4)
          clear HB3 hb4 C3 p3 HP3 Hr3
          go_wp2_with fail
          go_ret
          exact ⟨by rw [Hka2.out]; rfl, HB4.out⟩
        · have HKt : Hid (K = true) := by show _ = _; rw [Hka2.out]; rfl
          go_wp2_with fail
          go_ret
          exact ⟨by rw [HKt.out]; rfl, HB3.out⟩
      · have HKt : Hid (K = true) := by show _ = _; rw [Hka2.out]; simp
        go_wp2_with fail
        go_ret
        exact ⟨by rw [HKt.out]; rfl, HB2.out⟩

/-! ## awake -/
def awS : List Snp := [⟨⟨#[97]⟩, 0, ⟨#[]⟩⟩, ⟨⟨#[98]⟩, 100, ⟨#[]⟩⟩, ⟨⟨#[99]⟩, 86400, ⟨#[]⟩⟩, ⟨⟨#[100]⟩, 86500, ⟨#[]⟩⟩]
def awP : Pol := ⟨0, 2, 0, 0, 0, fun _ => ⟨#[]⟩⟩
theorem aw_ok : OkS awS := by
  refine okS_of ?_ ?_
  · intro x hx
    simp only [awS, List.mem_cons, List.not_mem_nil, or_false] at hx
    rcases hx with rfl | rfl | rfl | rfl <;> decide
  · unfold awS
    simp
theorem aw_chk : chk awP awS = 0 := by
  unfold chk
  rw [if_neg (by unfold polBad awP; simp), if_pos aw_ok]
theorem aw_gone : goneK awP awS 4 = [⟨#[97]⟩, ⟨#[99]⟩] := by
  have k0 : keepAt awP awS 0 = false := by decide +kernel
  have k1 : keepAt awP awS 1 = true := by decide +kernel
  have k2 : keepAt awP awS 2 = false := by decide +kernel
  have k3 : keepAt awP awS 3 = true := by decide +kernel
  simp only [goneK, k0, k1, k2, k3]
  rfl
theorem aw_row {w : World} {g : Nat} (h : Blk w g 49 #[.string ⟨#[97]⟩, .int .i64 0, .string ⟨#[]⟩, .string ⟨#[98]⟩, .int .i64 100, .string ⟨#[]⟩, .string ⟨#[99]⟩, .int .i64 86400, .string ⟨#[]⟩, .string ⟨#[100]⟩, .int .i64 86500, .string ⟨#[]⟩]) : SnRow w (some ⟨g, 0, none⟩) awS := by
  refine .inr ⟨g, 0, rfl, h.lt, fun i hi => ?_⟩
  have : i = 0 ∨ i = 1 ∨ i = 2 ∨ i = 3 := by simp [awS] at hi; omega
  rcases this with rfl | rfl | rfl | rfl <;> (refine ⟨?_, ?_, ?_⟩ <;> (rw [h.cell]; rfl))

theorem awake21_any (w : World) : Calls Try.prog 25 #[] w fun e w' => e = .returned (.bool true) ∧ Below w.heap.size w w' := by
  have C := Lib.hid (fun a cap W hr => gone_good awP none 0 (by decide) a cap awS (by decide) W (.inl rfl) hr aw_chk ⟨by decide, by decide, by decide, by decide⟩)
  have hb0 := (Below.refl w.heap.size w).alloc (Nat.le_refl _) (.cells #[.string ⟨#[97]⟩, .int .i64 0, .string ⟨#[]⟩, .string ⟨#[98]⟩, .int .i64 100, .string ⟨#[]⟩, .string ⟨#[99]⟩, .int .i64 86400, .string ⟨#[]⟩, .string ⟨#[100]⟩, .int .i64 86500, .string ⟨#[]⟩] 49)
  have Hr := Lib.hid (aw_row (Blk.new w 49 #[.string ⟨#[97]⟩, .int .i64 0, .string ⟨#[]⟩, .string ⟨#[98]⟩, .int .i64 100, .string ⟨#[]⟩, .string ⟨#[99]⟩, .int .i64 86400, .string ⟨#[]⟩, .string ⟨#[100]⟩, .int .i64 86500, .string ⟨#[]⟩]))
  have Hb := Lib.hid hb0
  have Hl : Hid (awS.length = 4) := rfl
  have Hpc : Hid (polc awP none 0 = #[.int .i64 0, .int .i64 2, .int .i64 0, .int .i64 0, .slice none 0 0]) := rfl
  have Hg := Lib.hid aw_gone
  rw [Hl.out, Hpc.out] at C
  rw [Hg.out] at C
  clear hb0
  go_enter Try.func25, Try.ntmps25
  go_wp2_with fail
  refine (C.out _ _ _ Hr.out).mono ?_
  rintro e w2 ⟨v, rfl, hO, hb2⟩
  obtain ⟨av, cv, rfl, hv⟩ := hO.view
  obtain ⟨g, rfl, e0⟩ := hv 0 (by decide)
  obtain ⟨g', e', e1⟩ := hv 1 (by decide)
  injection e' with e'
  injection e' with e'
  subst e'
  have HB := Lib.hid (bthen Hb.out hb2)
  have h2 : ([(⟨#[97]⟩ : ByteArray), ⟨#[99]⟩]).length = 2 := rfl
  rw [h2]
  simp only [List.getElem_cons_zero, List.getElem_cons_succ] at e0 e1
  clear hO hv hb2
  go_wp2_with fail
  go_ret
  exact ⟨rfl, HB.out⟩
end Go.Proofs.Ytcblcjbflgepoaa
