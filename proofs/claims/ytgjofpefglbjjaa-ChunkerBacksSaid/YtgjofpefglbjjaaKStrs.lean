/- Rows of texts: put behind each other, set side by side. Conditions: none. -/
import Derived.Test.YtgjofpefglbjjaaKSplit
namespace Go.Proofs.Ytgjofpefglbjjaa
open Go.RowKit
set_option maxRecDepth 100000

theorem OwnS.one {w : World} {q base : Nat} {g : List UInt8} (h : Blk w q 9 #[.string ⟨g.toArray⟩]) (hb : base ≤ q) : OwnS w base (.slice (some ⟨q, 0, none⟩) 1 1) [g] :=
  ⟨rfl, .inr ⟨q, 1, _, rfl, hb, h, Nat.le_refl _, by decide, rfl, rfl⟩⟩
theorem OwnS.nil (w : World) (base : Nat) : OwnS w base (.slice none 0 0) [] := World.ownsRow_nil _ _ _ _
theorem OwnS.view {w : World} {base : Nat} {v : Value} {l : List (List UInt8)} (h : OwnS w base v l) : ∃ a cap, v = .slice a l.length cap ∧ ∀ j (hj : j < l.length), ∃ g, a = some ⟨g, 0, none⟩ ∧ w.cell? ⟨g, j, none⟩ = some (.string ⟨l[j].toArray⟩) := by
  have hc := fun g hg => World.ownsRow.cells h (g := g) hg
  rcases h.2 with ⟨rfl, hl⟩ | ⟨g, cap, cur, rfl, _⟩
  · have : l = [] := List.length_eq_zero_iff.1 hl
    subst this
    exact ⟨_, _, rfl, fun j hj => by cases hj⟩
  · refine ⟨_, _, rfl, fun j hj => ⟨g, rfl, ?_⟩⟩
    have := hc g rfl j (.string ⟨l[j].toArray⟩) (by simp [svals, hj])
    by_cases h0 : j = 0
    · subst h0; simpa [Addr.add] using this
    · simpa [Addr.add, h0] using this
theorem OwnS.below {w w' : World} {base B : Nat} {v : Value} {l : List (List UInt8)} (h : OwnS w base v l) (hb : Below B w w') (hB : w.heap.size ≤ B) : OwnS w' base v l := by
  have hlt := World.ownsRow.lt h
  refine ⟨h.1, ?_⟩
  rcases h.2 with h2 | ⟨g, cap, cur, rfl, h3, h4, h5⟩
  · exact .inl h2
  · exact .inr ⟨g, cap, cur, rfl, h3, (hb.block g (Nat.lt_of_lt_of_le (hlt g rfl).2 hB)).trans h4, h5⟩
theorem OwnS.low {w : World} {base b2 : Nat} {v : Value} {l : List (List UInt8)} (h : OwnS w base v l) (hb : b2 ≤ base) : OwnS w b2 v l := by
  refine ⟨h.1, ?_⟩
  rcases h.2 with h2 | ⟨g, cap, cur, rfl, h3, h4⟩
  · exact .inl h2
  · exact .inr ⟨g, cap, cur, rfl, Nat.le_trans hb h3, h4⟩
theorem OwnS.grown {w w' : World} {base : Nat} {v : Value} {l : List (List UInt8)} {row : Option Nat} (h : OwnS w base v l) (hg : w.grownBy w' row) (hne : v.ownBlock = none ∨ v.ownBlock ≠ row) : OwnS w' base v l := World.ownsRow.kept h hg hne
theorem OwnS.drewN {w : World} {base : Nat} {v : Value} {l : List (List UInt8)} (h : OwnS w base v l) (n : Nat) : OwnS (w.drewN n) base v l := h

/-- append(a, b...) of two rows. -/
theorem wpList_append_two {w : World} {ops : Array Oper} {rest : List Oper} {o : Oper} {a : Act} {Q : Exit → Act → World → Prop} (hgd : o.guard = none) (s x : Operand)
    (ho : o.op = .call { callee := .builtin .append, args := #[s, x], argTypes := #[43, 43] })
    (b1 b2 : Nat) (v1 v2 : Value) (l1 l2 : List (List UInt8)) (hs : a.eval s = v1) (h1 : OwnS w b1 v1 l1) (hx : a.eval x = v2) (h2 : OwnS w b2 v2 l2) (hlen : l1.length + l2.length ≤ 1000000) (hb : b1 ≤ w.heap.size)
    (h : ∀ v' w', OwnS w' b1 v' (l1 ++ l2) → w.grownBy w' v1.ownBlock → wpList Try.prog ops Q rest (a.put o.dst v') w') : wpList Try.prog ops Q (o :: rest) a w := by
  obtain ⟨i, hi, hi2⟩ : ∃ i, Try.prog.info? 9 = some i ∧ (i.zero, i.size, i.bytes) = (some (.string ⟨#[]⟩), 1, 16) := by
    have := info_str
    rw [Option.map_eq_some_iff] at this
    exact this
  simp only [Prod.mk.injEq] at hi2
  have hcells := fun g hg => World.ownsRow.cells h2 (g := g) hg
  rcases h2.2 with ⟨rfl, hl⟩ | ⟨g, cap, cur, rfl, hrest⟩
  · have hl0 : l2 = [] := List.length_eq_zero_iff.1 hl
    subst hl0
    refine wpList_append_own_none hgd s x 43 ho b1 9 i 1 Try.underlying43 hi v1 l1.length (svals l1) hs h1 hx ?_
    exact h v1 w (by rw [List.append_nil]; exact h1) (only_refl _ _)
  · refine wpList_append_own w hgd s x 43 ho b1 9 i (.string ⟨#[]⟩) 1 16 Try.underlying43 hi hi2.1 hi2.2.1 hi2.2.2 rfl (by decide) v1 l1.length (svals l1) hs h1
      ⟨g, 0, none⟩ l2.length cap (svals l2) hx (by rw [svals_length, Nat.mul_one]) (fun j u hj => hcells g rfl j u hj) ?_ (by unfold maxLen; omega) (by omega) hb ?_
    · intro u hu
      simp only [svals, List.mem_map] at hu
      obtain ⟨y, _, rfl⟩ := hu
      rfl
    · intro v' w' hown hg _
      refine h v' w' ?_ hg
      unfold OwnS
      rw [List.length_append]
      rw [show svals (l1 ++ l2) = svals l1 ++ svals l2 by simp [svals]]
      exact hown

set_option maxHeartbeats 1000000 in
theorem same_any (b1 b2 : Nat) (v1 v2 : Value) (l1 l2 : List (List UInt8)) (hm : l1.length ≤ 1000000) (w : World) (h1 : OwnS w b1 v1 l1) (h2 : OwnS w b2 v2 l2) :
    Calls Try.prog 39 #[v1, v2] w fun e w' => e = .returned (.int .i64 (if l1 = l2 then 0 else -1)) ∧ ∃ n, w' = w.drewN n := by
  obtain ⟨a1, cap1, rfl, hv1⟩ := h1.view
  obtain ⟨a2, cap2, rfl, hv2⟩ := h2.view
  clear h1 h2
  have Hv1 := Lib.hid hv1
  have Hv2 := Lib.hid hv2
  clear hv1 hv2
  by_cases hn : l1.length = l2.length
  · obtain ⟨n, Hn⟩ : ∃ n, Hid (l2.length = n) := ⟨_, Lib.hid (Eq.refl _)⟩
    have Hn1 : Hid (l1.length = n) := by show _ = _; rw [hn]; exact Hn.out
    obtain ⟨R, HR⟩ : ∃ R : Int, Hid ((if l1 = l2 then 0 else -1) = R) := ⟨_, Lib.hid (Eq.refl _)⟩
    rw [HR.out]
    rw [Hn.out] at hn ⊢
    rw [Hn1.out] at hm ⊢
    clear hn
    go_enter Try.func39, Try.ntmps39
    go_wp2_with fail
    go_loopw [13] (fun i wr => ∃ k nq : Nat, k ≤ n ∧ i = .int .i64 (k : Int) ∧ Hid (wr = w.drewN nq) ∧ Hid (l1.take k = l2.take k)) (fun i _ => n - (intOf i).toNat)
    case atStart => exact ⟨0, 0, by omega, rfl, rfl, rfl⟩
    case round =>
      obtain ⟨k, nq, hk, rfl, Hw, Ht⟩ := hrel
      by_cases hlt : k < n
      · have hl1 : k < l1.length := by rw [Hn1.out]; exact hlt
        have hl2 : k < l2.length := by rw [Hn.out]; exact hlt
        obtain ⟨g1, rfl, hc1⟩ := Hv1.out k hl1
        obtain ⟨g2, rfl, hc2⟩ := Hv2.out k hl2
        have hk1 : wr.cell? ⟨g1, k, none⟩ = some (.string ⟨l1[k].toArray⟩) := by rw [Hw.out]; exact hc1
        have hk2 : wr.cell? ⟨g2, k, none⟩ = some (.string ⟨l2[k].toArray⟩) := by rw [Hw.out]; exact hc2
        have Hs : Hid (l1.take (k + 1) = l1.take k ++ [l1[k]] ∧ l2.take (k + 1) = l2.take k ++ [l2[k]]) := ⟨List.take_succ_eq_append_getElem hl1, List.take_succ_eq_append_getElem hl2⟩
        clear hc1 hc2
        by_cases he : l1[k] = l2[k]
        · have He : Hid (l1[k] = l2[k]) := he
          obtain ⟨x, Hx⟩ : ∃ x : ByteArray, Hid ((⟨l1[k].toArray⟩ : ByteArray) = x) := ⟨_, Lib.hid (Eq.refl _)⟩
          obtain ⟨y, Hy⟩ : ∃ y : ByteArray, Hid ((⟨l2[k].toArray⟩ : ByteArray) = y) := ⟨_, Lib.hid (Eq.refl _)⟩
          have hxy : (!x.toList == y.toList) = false := by
            rw [← Hx.out, ← Hy.out, he]
            simp
          rw [Hx.out] at hk1
          rw [Hy.out] at hk2
          clear he
          go_wp2_with fail
          go_quiet (fail)
          all_goals
            go_wp2_with fail
            go_roundw
            case rel =>
              exact ⟨k + 1, _, by omega, by go_num, by show _ = _; rw [Hw.out, World.drewN_drewN], by
                show _ = _
                rw [Hs.out.1, Hs.out.2, Ht.out, He.out]⟩
            case measure => simp [intOf]; omega
        · have HRm : Hid (R = -1) := by
            show _ = _
            rw [← HR.out, if_neg]
            rintro rfl
            exact he rfl
          obtain ⟨x, Hx⟩ : ∃ x : ByteArray, Hid ((⟨l1[k].toArray⟩ : ByteArray) = x) := ⟨_, Lib.hid (Eq.refl _)⟩
          obtain ⟨y, Hy⟩ : ∃ y : ByteArray, Hid ((⟨l2[k].toArray⟩ : ByteArray) = y) := ⟨_, Lib.hid (Eq.refl _)⟩
          have hxy : (!x.toList == y.toList) = true := by
            rw [← Hx.out, ← Hy.out]
            have : ∀ l : List UInt8, (⟨l.toArray⟩ : ByteArray).toList = l := fun l => by rw [ByteArray.toList_eq]
            rw [this, this]
            simpa using he
          rw [Hx.out] at hk1
          rw [Hy.out] at hk2
          clear he
          go_wp2_with fail
          go_quiet (fail)
          all_goals
            go_wp2_with fail
            go_ret
            exact ⟨by rw [HRm.out]; rfl, _, by rw [Hw.out, World.drewN_drewN]⟩
      · obtain rfl : k = n := by omega
        have HR0 : Hid (R = 0) := by
          show _ = _
          rw [← HR.out, if_pos]
          have := Ht.out
          rwa [List.take_of_length_le (by rw [Hn1.out]; exact Nat.le_refl _), List.take_of_length_le (by rw [Hn.out]; exact Nat.le_refl _)] at this
        go_wp2_with fail
        go_ret
        exact ⟨by rw [HR0.out]; rfl, _, Hw.out⟩
  · have hR : Hid ((if l1 = l2 then (0 : Int) else -1) = -1) := by show _ = _; rw [if_neg (fun e => hn (by rw [e]))]
    rw [hR.out]
    have hne : ((l1.length : Int) != (l2.length : Int)) = true := by simp; omega
    clear hn Hv1 Hv2
    generalize l1.length = n1 at *
    generalize l2.length = n2 at *
    go_enter Try.func39, Try.ntmps39
    go_wp2_with fail
    go_ret
    exact ⟨rfl, 0, rfl⟩
end Go.Proofs.Ytgjofpefglbjjaa
