/- retain.Gone. Conditions: at most a million snapshots. -/
import Derived.Test.YtcblcjbflgepoaaKeep
namespace Go.Proofs.Ytcblcjbflgepoaa
open Go.RowKit
set_option maxRecDepth 100000

theorem info_str : (Try.prog.info? 9).map (fun i => (i.zero, i.size, i.bytes)) = some (some (.string ⟨#[]⟩), 1, 16) := by kernel_rfl
/-- The slice v owns the texts l. -/
def OwnT (w : World) (base : Nat) (v : Value) (l : List ByteArray) : Prop := w.ownsRow base 9 1 v l.length (l.map Value.string)
theorem OwnT.nil (w : World) (base : Nat) : OwnT w base (.slice none 0 0) [] := World.ownsRow_nil _ _ _ _
theorem OwnT.view {w : World} {base : Nat} {v : Value} {l : List ByteArray} (h : OwnT w base v l) : ∃ a cap, v = .slice a l.length cap ∧ ∀ j (hj : j < l.length), ∃ g, a = some ⟨g, 0, none⟩ ∧ w.cell? ⟨g, j, none⟩ = some (.string l[j]) := by
  have hc := fun g hg => World.ownsRow.cells h (g := g) hg
  rcases h.2 with ⟨rfl, hl⟩ | ⟨g, cap, cur, rfl, _⟩
  · have : l = [] := List.length_eq_zero_iff.1 hl
    subst this
    exact ⟨_, _, rfl, fun j hj => by cases hj⟩
  · refine ⟨_, _, rfl, fun j hj => ⟨g, rfl, ?_⟩⟩
    have := hc g rfl j (.string l[j]) (by simp [hj])
    have e0 : (⟨g, 0, none⟩ : Addr).add j = ⟨g, j, none⟩ := by unfold Addr.add; split <;> simp_all
    rwa [e0] at this
theorem OwnT.below {w w' : World} {base B : Nat} {v : Value} {l : List ByteArray} (h : OwnT w base v l) (hb : Below B w w') (hB : w.heap.size ≤ B) : OwnT w' base v l := by
  have hlt := World.ownsRow.lt h
  refine ⟨h.1, ?_⟩
  rcases h.2 with h2 | ⟨g, cap, cur, rfl, h3, h4, h5⟩
  · exact .inl h2
  · exact .inr ⟨g, cap, cur, rfl, h3, (hb.block g (Nat.lt_of_lt_of_le (hlt g rfl).2 hB)).trans h4, h5⟩
theorem row_blk {w : World} {b e s n P t : Nat} {v : Value} {x : List Value} {cs : Array Value} (h : w.ownsRow b e s v n x) (hB : Blk w P t cs) (hne : e ≠ t) : v.ownBlock = none ∨ v.ownBlock ≠ some P := by
  rcases h.2 with ⟨rfl, _⟩ | ⟨g, cap, cur, rfl, _, hh, _⟩
  · exact .inl rfl
  · right
    intro e'
    simp only [Value.ownBlock, Option.some.injEq] at e'
    subst e'
    unfold Blk at hB
    rw [hh] at hB
    simp only [Option.some.injEq, Obj.cells.injEq] at hB
    exact hne hB.2.1

theorem gone_bad (P : Pol) (ta : Option Addr) (tc : Nat) (a : Option Addr) (cap : Nat) (S : List Snp) (hS : S.length ≤ 1000000) (w : World) (hr : SnRow w a S) (hk : chk P S ≠ 0) :
    Calls Try.prog 23 #[.agg (polc P ta tc), .slice a S.length cap] w fun e w' => e = .returned (.tuple #[.slice none 0 0, .int .i64 (chk P S : Int)]) ∧ Below w.heap.size w w' := by
  have hb0 := (Below.refl w.heap.size w).alloc (Nat.le_refl _) (.cells (polc P ta tc) 36)
  have C := fun W hr => keep_bad P ta tc a cap S hS W hr hk
  have Hr := Lib.hid (hr.below hb0 (Nat.le_refl _))
  obtain ⟨e, he⟩ : ∃ e, chk P S = e := ⟨_, rfl⟩
  rw [he] at hk C ⊢
  have hne : ((e : Int) != 0) = true := by simp; omega
  unfold polc at hb0 C Hr ⊢
  have Hb := Lib.hid hb0
  have CC := Lib.hid C
  obtain ⟨N, HN⟩ : ∃ N, Hid (S.length = N) := ⟨_, Lib.hid (Eq.refl _)⟩
  rw [HN.out] at CC ⊢
  clear hb0 he hk hr C
  obtain ⟨pa, pb, pc, pd, pn, pm⟩ := P
  simp only at Hb Hr CC ⊢
  go_enter Try.func23, Try.ntmps23
  go_wp2_with fail
  refine (CC.out _ Hr.out).mono ?_
  rintro e w2 ⟨rfl, hb2⟩
  have HB2 := Lib.hid (bthen Hb.out hb2)
  clear Hb Hr hb2
  go_wp2_with fail
  go_ret2
  exact ⟨rfl, HB2.out⟩

theorem SRow.low {w w' : World} {a : Option Addr} {n : Nat} {m : Nat → ByteArray} (h : SRow w a n m) (hb : Below w.heap.size w w') : SRow w' a n m := h.below hb

set_option maxHeartbeats 4000000 in
theorem gone_good (P : Pol) (ta : Option Addr) (tc : Nat) (hn : P.n ≤ 9223372036854775807) (a : Option Addr) (cap : Nat) (S : List Snp) (hS : S.length ≤ 1000000) (w : World) (hT : SRow w ta P.n P.m) (hr : SnRow w a S) (hk : chk P S = 0)
    (hi : P.a ≤ 9223372036854775807 ∧ P.b ≤ 9223372036854775807 ∧ P.c ≤ 9223372036854775807 ∧ P.d ≤ 9223372036854775807) :
    Calls Try.prog 23 #[.agg (polc P ta tc), .slice a S.length cap] w fun e w' => ∃ v, e = .returned (.tuple #[v, .int .i64 0]) ∧ OwnT w' w.heap.size v (goneK P S S.length) ∧ Below w.heap.size w w' := by
  have hb0 := (Below.refl w.heap.size w).alloc (Nat.le_refl _) (.cells (polc P ta tc) 36)
  have C := fun W hT hr => keep_good P ta tc hn a cap S hS W hT hr hk hi
  have Hr := Lib.hid hr
  have HT := Lib.hid hT
  have hsucc : ∀ k, goneK P S (k + 1) = goneK P S k ++ (if keepAt P S k then [] else [(sn S k).id]) := fun k => rfl
  have hle := goneK_le P S
  have h0 : goneK P S 0 = [] := rfl
  obtain ⟨KV, HKV⟩ : ∃ f, Hid (keepAt P S = f) := ⟨_, Lib.hid (Eq.refl _)⟩
  obtain ⟨GK, HGK⟩ : ∃ f, Hid (goneK P S = f) := ⟨_, Lib.hid (Eq.refl _)⟩
  rw [HKV.out] at C hsucc
  rw [HGK.out] at hsucc hle h0 ⊢
  unfold polc at hb0 C ⊢
  have Hb := Lib.hid hb0
  have CC := Lib.hid C
  have Hsucc := Lib.hid hsucc
  have Hle := Lib.hid hle
  have H0 := Lib.hid h0
  obtain ⟨N, HN⟩ : ∃ N, Hid (S.length = N) := ⟨_, Lib.hid (Eq.refl _)⟩
  rw [HN.out] at CC hS ⊢
  clear hb0 hr hT C hk hi hsucc hle h0
  obtain ⟨pa, pb, pc, pd, pn, pm⟩ := P
  simp only at Hb CC HT hn ⊢
  go_enter Try.func23, Try.ntmps23
  go_wp2_with fail
  refine (CC.out _ (HT.out.below Hb.out) (Hr.out.below Hb.out (Nat.le_refl _))).mono ?_
  rintro e w2 ⟨g, rfl, hg, hK, hb2⟩
  have HB2 := Lib.hid (bthen Hb.out hb2)
  have HK := Lib.hid hK
  clear Hb hb2 hK CC hg
  go_wp2_with fail
  go_loopw [8, 22] (fun vo i wr => ∃ k : Nat, k ≤ N ∧ i = .int .i64 (k : Int) ∧ Hid (OwnT wr w.heap.size vo (GK k)) ∧ Hid (Below w.heap.size w wr) ∧ Hid (Blk wr g 4 (fcells N (kcell KV))))
    (fun _ i _ => N - (intOf i).toNat)
  case atStart => exact ⟨0, by omega, rfl, by show OwnT _ _ _ _; rw [H0.out]; exact OwnT.nil _ _, HB2, HK⟩
  case round =>
    clear HB2 HK
    obtain ⟨k, hk, rfl, HO, HB, HK⟩ := hrel
    by_cases hlt : k < N
    · have hgc := HK.out.cell k
      rw [fcells_at _ _ _ hlt] at hgc
      unfold kcell at hgc
      by_cases hkv : KV k = true
      · rw [hkv] at hgc
        have Hs : Hid (GK (k + 1) = GK k) := by show _ = _; rw [Hsucc.out, if_pos hkv, List.append_nil]
        clear hkv
        go_wp2_with fail
        go_roundw
        case rel => exact ⟨k + 1, by omega, by go_num, by show OwnT _ _ _ _; rw [Hs.out]; exact HO.out, HB, HK⟩
        case measure => simp [intOf]; omega
      · have hkf : KV k = false := by simpa using hkv
        rw [hkf] at hgc
        have Hs : Hid (GK (k + 1) = GK k ++ [(sn S k).id]) := by show _ = _; rw [Hsucc.out, if_neg hkv]
        obtain ⟨b, off, rfl, hbl, c0, _, _⟩ := (Hr.out.below HB.out (Nat.le_refl _)).get k (by rw [HN.out]; exact hlt)
        obtain ⟨sid, Hi⟩ : ∃ T, Hid ((sn S k).id = T) := ⟨_, Lib.hid (Eq.refl _)⟩
        rw [Hi.out] at c0 Hs
        have hle := Hle.out k
        have hos := HO.out
        have hbsw : w.heap.size ≤ _ := HB.out.size
        clear hkv hkf
        go_wp2_with (first
          | (at_builtin; go_must (refine wpList_append_elem _ rfl (.tmp 29) (.tmp 35) rfl Try.underlying34 info_str rfl (by decide) w.heap.size u8 (GK k).length ((GK k).map Value.string) [.string sid] hos rfl ?_ rfl rfl rfl ?_ ?_ hbsw ?_; (intro y hy; simp at hy; subst hy; rfl); (unfold maxLen; omega); omega; intro v5 w5 hown5 hg5; have HO5 := Lib.hid hown5; have Hb5 := Lib.hid (grown_below hg5 HB.out (fun g e => (World.ownsRow.lt hos g e).1)); have HK5 := Lib.hid (HK.out.grown hg5 (fun e => by rcases row_blk hos HK.out (by decide) with h | h; (rw [h] at e; cases e); exact h e.symm)); clear hown5 hg5 hos))
          | fail)
        go_roundw
        case rel =>
          refine ⟨k + 1, by omega, by go_num, ?_, Hb5, HK5⟩
          show OwnT _ _ _ _
          rw [Hs.out]
          unfold OwnT
          rw [List.length_append, List.map_append]
          exact HO5.out
        case measure => simp [intOf]; omega
    · obtain rfl : k = N := by omega
      go_wp2_with fail
      go_ret2
      exact ⟨_, rfl, HO.out, HB.out⟩
end Go.Proofs.Ytcblcjbflgepoaa
