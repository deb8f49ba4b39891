/- MatchExpands' walk. Conditions: rows that Go can hold. -/
import Derived.Test.YtjnglahjngiofaaTokAJ
namespace Go.Proofs.Ytjnglahjngiofaa
open Go.RowKit
set_option maxRecDepth 100000

theorem rows_apart {w : World} {b1 b2 e1 e2 s1 s2 n1 n2 : Nat} {v1 v2 : Value} {x1 x2 : List Value} (h1 : w.ownsRow b1 e1 s1 v1 n1 x1) (h2 : w.ownsRow b2 e2 s2 v2 n2 x2) (hne : e1 ≠ e2) : v1.ownBlock = none ∨ v1.ownBlock ≠ v2.ownBlock := by
  rcases h1.2 with ⟨rfl, _⟩ | ⟨g, cap, cur, rfl, _, hh, _⟩
  · exact .inl rfl
  · right
    rcases h2.2 with ⟨rfl, _⟩ | ⟨g', cap', cur', rfl, _, hh', _⟩
    · simp [Value.ownBlock]
    · intro e
      simp only [Value.ownBlock, Option.some.injEq] at e
      subst e
      rw [hh] at hh'
      simp only [Option.some.injEq, Obj.cells.injEq] at hh'
      exact hne hh'.2.1
theorem OwnK.grown {e : TypeId} {w w' : World} {base : Nat} {v : Value} {S : List Tok} {row : Option Nat} (h : OwnK e w base v S) (hg : w.grownBy w' row) (hne : v.ownBlock = none ∨ v.ownBlock ≠ row) : OwnK e w' base v S := World.ownsRow.kept h hg hne
theorem OwnK.snoc {e : TypeId} {w : World} {base : Nat} {v : Value} {S : List Tok} {t : Tok} (h : w.ownsRow base e 3 v (S.length + 1) (kcells3 S ++ [.int .u8 (t.b.toNat : Int), .int .i64 t.l, .int .i64 t.d])) : OwnK e w base v (S ++ [t]) := by
  unfold OwnK
  rw [List.length_append, kcells3_append]
  exact h
theorem tok_one (t : Tok) : ∀ u ∈ ([.int .u8 (t.b.toNat : Int), .int .i64 t.l, .int .i64 t.d] : List Value), u.oneCell' = true := by
  intro u hu
  simp only [List.mem_cons, List.not_mem_nil, or_false] at hu
  rcases hu with rfl | rfl | rfl <;> rfl

set_option maxHeartbeats 8000000 in
theorem expands_any (S : List Tok) (a : Option Addr) (len cap : Nat) (hS : S.length = len) (hl : len ≤ 9223372036854775807) (most : Int) (hm : -9223372036854775808 ≤ most) (w : World) (hr : TkRow w a S) :
    Calls Try.prog 4 #[.slice a len cap, .int .i64 most] w fun e w' => e = .returned (.bool true) ∧ Below w.heap.size w w' := by
  have hb1 := (Below.refl w.heap.size w).alloc (Nat.le_refl _) (.cells #[] 35)
  have hb2 := hb1.alloc hb1.size (.cells #[] 36)
  have ho1 : OwnK 35 (w.alloc (.cells #[] 35)) w.heap.size (.slice (some ⟨w.heap.size, 0, none⟩) 0 0) (S.take 0) := World.ownsRow_made (base := w.heap.size) w #[] 0 (Nat.le_refl _) (Nat.zero_le _) rfl
  have ho1' := ho1.below ((Below.refl _ _).alloc (Nat.le_refl _) (.cells #[] 36)) (Nat.le_refl _)
  have ho2 : OwnK 36 ((w.alloc (.cells #[] 35)).alloc (.cells #[] 36)) w.heap.size (.slice (some ⟨(w.alloc (.cells #[] 35)).heap.size, 0, none⟩) 0 0) (S.take 0) :=
    World.ownsRow_made (base := w.heap.size) (w.alloc (.cells #[] 35)) #[] 0 hb1.size (Nat.zero_le _) rfl
  have HB0 := Lib.hid hb2
  have HI0 := Lib.hid ho1'
  have HJ0 := Lib.hid ho2
  have hz : (w.alloc (.cells #[] 35)).heap.size = w.heap.size + 1 := by simp
  rw [hz] at HJ0
  have Hr := Lib.hid hr
  have HN := Lib.hid hS
  clear hb1 hb2 ho1 ho1' ho2 hr hS hz
  go_enter Try.func4, Try.ntmps4
  go_wp2_with fail
  generalize (w.alloc (.cells #[] 35)).alloc (.cells #[] 36) = w1 at *
  go_loopw [5, 6, 7] (fun vi vp i wr => ∃ k : Nat, k ≤ len ∧ k ≤ 100 ∧ i = .int .i64 (k : Int) ∧ Hid (OwnK 35 wr w.heap.size vi (S.take k)) ∧ Hid (OwnK 36 wr w.heap.size vp (S.take k)) ∧ Hid (Below w.heap.size w wr)) (fun _ _ i _ => 100 - (intOf i).toNat)
  case atStart => exact ⟨0, by omega, by omega, rfl, HI0, HJ0, HB0⟩
  case round =>
    clear HI0 HJ0 HB0
    obtain ⟨k, hk, hk1, rfl, HI, HJ, HB⟩ := hrel
    by_cases hlt : k < len ∧ k < 100
    · obtain ⟨hlt1, hlt2⟩ := hlt
      have hkl : k < S.length := by rw [HN.out]; exact hlt1
      obtain ⟨b, off, rfl, hbl, c0, c1, c2⟩ := (Hr.out.below HB.out (Nat.le_refl _)).get k hkl
      obtain ⟨t, Ht⟩ : ∃ t, Hid (tk S k = t) := ⟨_, Lib.hid (Eq.refl _)⟩
      have Hs : Hid (S.take (k + 1) = S.take k ++ [t]) := by show _ = _; rw [List.take_succ_eq_append_getElem hkl, ← Ht.out, tk_get hkl]
      have hone := tok_one t
      rw [Ht.out] at c0 c1 c2
      have hsn1 : ∀ (W : World) (v : Value), W.ownsRow w.heap.size 35 3 v ((S.take k).length + 1) (kcells3 (S.take k) ++ [.int .u8 (t.b.toNat : Int), .int .i64 t.l, .int .i64 t.d]) → OwnK 35 W w.heap.size v (S.take k ++ [t]) := fun _ _ h => OwnK.snoc h
      have hsn2 : ∀ (W : World) (v : Value), W.ownsRow w.heap.size 36 3 v ((S.take k).length + 1) (kcells3 (S.take k) ++ [.int .u8 (t.b.toNat : Int), .int .i64 t.l, .int .i64 t.d]) → OwnK 36 W w.heap.size v (S.take k ++ [t]) := fun _ _ h => OwnK.snoc h
      have hcell : ∀ W, Below w.heap.size w W → W.cell? ⟨b, off + k * 3, none⟩ = some (.int .u8 (t.b.toNat : Int)) ∧ W.cell? ⟨b, off + k * 3 + 1, none⟩ = some (.int .i64 t.l) ∧ W.cell? ⟨b, off + k * 3 + 2, none⟩ = some (.int .i64 t.d) := by
        intro W hbW
        obtain ⟨b', off', e, _, h⟩ := (Hr.out.below hbW (Nat.le_refl _)).get k hkl
        injection e with e
        injection e with e1 e2
        subst e1 e2
        rw [Ht.out] at h
        exact h
      obtain ⟨tb, tl, td⟩ := t
      simp only at c0 c1 c2 hone hsn1 hsn2 hcell
      have Hcell := Lib.hid hcell
      clear hcell
      have Hsn1 := Lib.hid hsn1
      have Hsn2 := Lib.hid hsn2
      have Hone := Lib.hid hone
      have hlen : (S.take k).length ≤ 100 := by rw [List.length_take]; omega
      obtain ⟨K, HK⟩ : ∃ L, Hid (S.take k = L) := ⟨_, Lib.hid (Eq.refl _)⟩
      rw [HK.out] at HI HJ hlen Hsn1 Hsn2 Hs
      have hos1 := HI.out
      have hbsw : w.heap.size ≤ _ := HB.out.size
      clear hsn1 hsn2 hone
      go_wp2_with (first
        | (at_builtin; (refine wpList_append_elem _ rfl (.tmp 24) (.tmp 29) rfl Try.underlying32 info_tok rfl (by decide) w.heap.size u5 K.length (kcells3 K) [.int .u8 (tb.toNat : Int), .int .i64 tl, .int .i64 td] hos1 rfl Hone.out rfl rfl rfl ?_ ?_ hbsw ?_; (unfold maxLen; omega); omega; intro v5 w5 hown5 hg5; have HI5 := Lib.hid (Hsn1.out _ _ hown5); have hb5 := Lib.hid (HB.out.trans (below_grown hos1 hg5 hbsw)); have HJ5 := Lib.hid (HJ.out.grown hg5 (rows_apart HJ.out hos1 (by decide))); have hos2 := HJ5.out; have hbsw2 : w.heap.size ≤ _ := hb5.out.size; obtain ⟨c0', c1', c2'⟩ := Hcell.out _ hb5.out; clear hown5 hg5 hos1))
        | (at_builtin; go_must (refine wpList_append_elem _ rfl (.tmp 31) (.tmp 36) rfl Try.underlying33 info_rtok rfl (by decide) w.heap.size u6 K.length (kcells3 K) [.int .u8 (tb.toNat : Int), .int .i64 tl, .int .i64 td] hos2 rfl Hone.out rfl rfl rfl ?_ ?_ hbsw2 ?_; (unfold maxLen; omega); omega; intro v6 w6 hown6 hg6; have HJ6 := Lib.hid (Hsn2.out _ _ hown6); have hb6 := Lib.hid (hb5.out.trans (below_grown hos2 hg6 hbsw2)); have HI6 := Lib.hid (HI5.out.grown hg6 (rows_apart HI5.out hos2 (by decide))); clear hown6 hg6 hos2))
        | fail)
      go_roundw
      case rel => exact ⟨k + 1, by omega, by omega, by go_num, by show OwnK _ _ _ _ _; rw [Hs.out]; exact HI6.out, by show OwnK _ _ _ _ _; rw [Hs.out]; exact HJ6.out, hb6⟩
      case measure => simp [intOf]; omega
    · have hfull : Hid (k = len ∨ k = 100) := by show _ ∨ _; omega
      obtain ⟨L, HL⟩ : ∃ L, Hid (S.take k = L) := ⟨_, Lib.hid (Eq.refl _)⟩
      have hLl : L.length ≤ 100 := by rw [← HL.out, List.length_take]; omega
      rw [HL.out] at HI HJ
      obtain ⟨ai, ci, rfl, hRi⟩ := HI.out.view
      obtain ⟨ap, cp, rfl, hRj⟩ := HJ.out.view
      have HRi := Lib.hid hRi
      have HRj := Lib.hid hRj
      obtain ⟨Ms, HMs⟩ : ∃ x : Int, Hid ((if most ≤ 40000 then most else 40000) = x) := ⟨_, Lib.hid (Eq.refl _)⟩
      have hMb : -9223372036854775808 ≤ Ms ∧ Ms ≤ 1000000 := by rw [← HMs.out]; split <;> omega
      have CE := Lib.hid (fun a cap W hr => expand_any L (by omega) a cap Ms hMb W hr)
      have CR := Lib.hid (fun a cap W hr => rexpand_any L (by omega) a cap Ms hMb W hr)
      obtain ⟨R, HR⟩ : ∃ R, Hid (texp Ms [] L = R) := ⟨_, Lib.hid (Eq.refl _)⟩
      rw [HR.out] at CE CR
      obtain ⟨Q, HQ⟩ : ∃ n, Hid (L.length = n) := ⟨_, Lib.hid (Eq.refl _)⟩
      rw [HQ.out] at CE CR ⊢
      obtain ⟨rs, re⟩ := R
      unfold expV at CE CR
      simp only at CE CR
      obtain ⟨x, Hx⟩ : ∃ x : ByteArray, Hid ((⟨rs.toArray⟩ : ByteArray) = x) := ⟨_, Lib.hid (Eq.refl _)⟩
      rw [Hx.out] at CE CR
      have hxx : (x.toList == x.toList) = true := by simp
      clear hRi hRj hk1
      rcases Nat.lt_or_ge k len with h | h
      · have h100 : k = 100 := by have := hfull.out; omega
        subst h100
        by_cases hmo : most ≤ 40000
        · have hMe : Ms = most := by rw [← HMs.out, if_pos hmo]
          subst hMe
          have hmo2 : ¬ 40000 < Ms := by omega
          go_wp2_with fail
          refine (CE.out _ _ _ HRi.out).mono ?_
          rintro e w2 ⟨rfl, hb2⟩
          have HB2 := Lib.hid (bthen HB.out hb2)
          have HR2 := Lib.hid (HRj.out.below hb2 (Nat.le_refl _))
          clear HB hb2 HRi HRj
          go_wp2_with fail
          refine (CR.out _ _ _ HR2.out).mono ?_
          rintro e w3 ⟨rfl, hb3⟩
          have HB3 := Lib.hid (bthen HB2.out hb3)
          clear HB2 hb3 HR2
          go_wp2_with fail
          refine (awake5_any _).mono ?_
          rintro e w4 ⟨rfl, hb4⟩
          go_wp2_with fail
          go_ret
          exact ⟨rfl, bthen HB3.out hb4⟩
        · have hMe : Ms = 40000 := by rw [← HMs.out, if_neg hmo]
          subst hMe
          have hmo2 : 40000 < most := by omega
          go_wp2_with fail
          refine (CE.out _ _ _ HRi.out).mono ?_
          rintro e w2 ⟨rfl, hb2⟩
          have HB2 := Lib.hid (bthen HB.out hb2)
          have HR2 := Lib.hid (HRj.out.below hb2 (Nat.le_refl _))
          clear HB hb2 HRi HRj
          go_wp2_with fail
          refine (CR.out _ _ _ HR2.out).mono ?_
          rintro e w3 ⟨rfl, hb3⟩
          have HB3 := Lib.hid (bthen HB2.out hb3)
          clear HB2 hb3 HR2
          go_wp2_with fail
          refine (awake5_any _).mono ?_
          rintro e w4 ⟨rfl, hb4⟩
          go_wp2_with fail
          go_ret
          exact ⟨rfl, bthen HB3.out hb4⟩
      · obtain rfl : k = len := by omega
        by_cases hmo : most ≤ 40000
        · have hMe : Ms = most := by rw [← HMs.out, if_pos hmo]
          subst hMe
          have hmo2 : ¬ 40000 < Ms := by omega
          go_wp2_with fail
          refine (CE.out _ _ _ HRi.out).mono ?_
          rintro e w2 ⟨rfl, hb2⟩
          have HB2 := Lib.hid (bthen HB.out hb2)
          have HR2 := Lib.hid (HRj.out.below hb2 (Nat.le_refl _))
          clear HB hb2 HRi HRj
          go_wp2_with fail
          refine (CR.out _ _ _ HR2.out).mono ?_
          rintro e w3 ⟨rfl, hb3⟩
          have HB3 := Lib.hid (bthen HB2.out hb3)
          clear HB2 hb3 HR2
          go_wp2_with fail
          refine (awake5_any _).mono ?_
          rintro e w4 ⟨rfl, hb4⟩
          go_wp2_with fail
          go_ret
          exact ⟨rfl, bthen HB3.out hb4⟩
        · have hMe : Ms = 40000 := by rw [← HMs.out, if_neg hmo]
          subst hMe
          have hmo2 : 40000 < most := by omega
          go_wp2_with fail
          refine (CE.out _ _ _ HRi.out).mono ?_
          rintro e w2 ⟨rfl, hb2⟩
          have HB2 := Lib.hid (bthen HB.out hb2)
          have HR2 := Lib.hid (HRj.out.below hb2 (Nat.le_refl _))
          clear HB hb2 HRi HRj
          go_wp2_with fail
          refine (CR.out _ _ _ HR2.out).mono ?_
          rintro e w3 ⟨rfl, hb3⟩
          have HB3 := Lib.hid (bthen HB2.out hb3)
          clear HB2 hb3 HR2
          go_wp2_with fail
          refine (awake5_any _).mono ?_
          rintro e w4 ⟨rfl, hb4⟩
          go_wp2_with fail
          go_ret
          exact ⟨rfl, bthen HB3.out hb4⟩
end Go.Proofs.Ytjnglahjngiofaa
