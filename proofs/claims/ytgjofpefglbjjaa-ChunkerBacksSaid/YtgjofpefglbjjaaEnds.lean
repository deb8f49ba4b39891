/- ChunkerBacks: ends and tail. Conditions: none. -/
import Derived.Test.YtgjofpefglbjjaaLaw10c
import Derived.Test.YtgjofpefglbjjaaIRow
namespace Go.Proofs.Ytgjofpefglbjjaa
open Go.RowKit
set_option maxRecDepth 100000

/-- How far chunk i's end is from the end of a text of n bytes. -/
def endAt (L : List (List UInt8)) (n : Nat) (i : Nat) : Int := (n : Int) - ((L.take (i + 1)).flatten.length : Int)
/-- Of the first k chunks those whose end is nearer than p. -/
def tailL (L : List (List UInt8)) (x : Nat → Int) (p : Int) : Nat → List (List UInt8)
  | 0 => []
  | k + 1 => tailL L x p k ++ (if x k < p then [L.getD k []] else [])
theorem tailL_le (L : List (List UInt8)) (x : Nat → Int) (p : Int) (k : Nat) : (tailL L x p k).length ≤ k := by
  induction k with
  | zero => simp [tailL]
  | succ k ih => unfold tailL; rw [List.length_append]; split <;> simp <;> omega

theorem ends_any (B : Nat) (v : Value) (L : List (List UInt8)) (n : Nat) (hn : L.flatten.length ≤ n) (hn2 : n ≤ 100000) (hN : L.length ≤ 100000) (w : World) (h : OwnS w B v L) :
    Calls Try.prog 43 #[v, .int .i64 (n : Int)] w fun e w' => ∃ a cap, e = .returned (.slice a L.length cap) ∧ IRow w' a L.length (endAt L n) ∧ Below w.heap.size w w' := by
  have ho0 := World.ownsRow_made (base := w.heap.size) (e := 3) (size := 1) w #[] 0 (Nat.le_refl _) (Nat.zero_le _) rfl
  have hb0 := (Below.refl w.heap.size w).alloc (Nat.le_refl _) (.cells #[] 3)
  have HO0 : Hid ((w.alloc (.cells #[] 3)).ownsRow w.heap.size 3 1 (.slice (some ⟨w.heap.size, 0, none⟩) 0 0) 0 (icells 0 (endAt L n))) := ho0
  have HS0 := Lib.hid (h.below hb0 (Nat.le_refl _))
  have Hb0 := Lib.hid hb0
  obtain ⟨a, cap, rfl, _⟩ := h.view
  obtain ⟨N, HN⟩ : ∃ N, Hid (L.length = N) := ⟨_, Lib.hid (Eq.refl _)⟩
  have Hn := Lib.hid hn
  rw [HN.out] at hN HS0 ⊢
  clear ho0 hb0 h hn
  go_enter Try.func43, Try.ntmps43
  go_wp2_with fail
  generalize w.alloc (.cells #[] 3) = w1 at *
  go_loopw [1, 5, 11] (fun n_ vo i wr => ∃ k c : Nat, k ≤ N ∧ i = .int .i64 (k : Int) ∧ n_ = .int .i64 (c : Int) ∧ c ≤ n ∧ Hid (c + (L.take k).flatten.length = n) ∧
      Hid (wr.ownsRow w.heap.size 3 1 vo k (icells k (endAt L n))) ∧ Hid (Below w.heap.size w wr) ∧ Hid (OwnS wr B (.slice a N cap) L))
    (fun _ _ i _ => N - (intOf i).toNat)
  case atStart => exact ⟨0, n, by omega, rfl, rfl, by omega, by show _ = _; simp, HO0, Hb0, HS0⟩
  case round =>
    clear HO0 Hb0 HS0
    obtain ⟨k, c, hk, rfl, rfl, hcn, Hc, HO, HB, HS⟩ := hrel
    by_cases hlt : k < N
    · have hkl : k < L.length := by rw [HN.out]; exact hlt
      obtain ⟨a', cap', e, hv⟩ := HS.out.view
      injection e with e1 e3 e2
      subst e1 e2
      clear e3
      obtain ⟨g, rfl, hc⟩ := hv k hkl
      obtain ⟨x, Hx⟩ : ∃ x : ByteArray, Hid ((⟨L[k].toArray⟩ : ByteArray) = x) := ⟨_, Lib.hid (Eq.refl _)⟩
      have Hxl : Hid (x.data.toList = L[k]) := by show _ = _; rw [← Hx.out]
      have Htk : Hid ((L.take (k + 1)).flatten.length = (L.take k).flatten.length + x.size) := by
        show _ = _
        rw [take_flat k hkl, List.length_append, ← Hxl.out]; simp
      have hAl := take_flat_le L (k + 1)
      rw [Htk.out] at hAl
      have hxc : x.size ≤ c := by have := Hc.out; have := Hn.out; omega
      rw [Hx.out] at hc
      obtain ⟨d, Hd⟩ : ∃ d : Nat, Hid (c - x.size = d) := ⟨_, Lib.hid (Eq.refl _)⟩
      have hdc : (c : Int) - (x.size : Int) = (d : Int) := by have := Hd.out; omega
      have hdl : d ≤ n := by have := Hd.out; omega
      have Hd2 : Hid (d + (L.take (k + 1)).flatten.length = n) := by show _ = _; have := Hd.out; have := Hc.out; rw [Htk.out]; omega
      have Hde : Hid ((d : Int) = endAt L n k) := by show _ = _; unfold endAt; have := Hd2.out; omega
      have hos := HO.out
      have hbsw : w.heap.size ≤ _ := HB.out.size
      clear hv hAl hxc
      go_wp2_with (first
        | (at_builtin; go_must (refine wpList_append_elem _ rfl (.tmp 19) (.tmp 21) rfl Try.underlying65 info_int rfl (by decide) w.heap.size u5 k (icells k (endAt L n)) [.int .i64 (d : Int)] hos rfl ?_ rfl rfl rfl ?_ ?_ hbsw ?_; (intro y hy; simp at hy; subst hy; rfl); (unfold maxLen; omega); omega; intro v5 w5 hown5 hg5; have HO5 := Lib.hid hown5; have hb5 := grown_below hg5 HB.out (fun g e => (World.ownsRow.lt hos g e).1); have HS5 := Lib.hid (HS.out.grown hg5 (rows_apart HS.out hos (by decide))); have Hb5 := Lib.hid hb5; clear hown5 hg5 hos hb5))
        | fail)
      go_roundw
      case rel => exact ⟨k + 1, d, by omega, by go_num, rfl, hdl, Hd2, by show World.ownsRow _ _ _ _ _ _ _; rw [icells_succ, ← Hde.out]; exact HO5.out, Hb5, HS5⟩
      case measure => simp [intOf]; omega
    · obtain rfl : k = N := by omega
      go_wp2_with fail
      go_ret
      have hos := HO.out
      rcases hos.2 with ⟨h1, h2⟩ | ⟨g, cap2, cur, h1, _⟩
      · subst h1
        subst h2
        exact ⟨none, 0, rfl, IRow.nil _ _ _, HB.out⟩
      · subst h1
        exact ⟨_, _, rfl, IRow.ofOwn hos, HB.out⟩

set_option maxHeartbeats 1000000 in
theorem tail_any (B : Nat) (v : Value) (L : List (List UInt8)) (hN : L.length ≤ 100000) (ai : Option Addr) (capi : Nat) (x : Nat → Int) (p : Int) (w : World) (h : OwnS w B v L) (hr : IRow w ai L.length x) :
    Calls Try.prog 44 #[v, .slice ai L.length capi, .int .i64 p] w fun e w' => ∃ vo, e = .returned vo ∧ OwnS w' w.heap.size vo (tailL L x p L.length) ∧ Below w.heap.size w w' := by
  have ho0 := World.ownsRow_made (base := w.heap.size) (e := 9) (size := 1) w #[] 0 (Nat.le_refl _) (Nat.zero_le _) rfl
  have hb0 := (Below.refl w.heap.size w).alloc (Nat.le_refl _) (.cells #[] 9)
  have HO0 : Hid (OwnS (w.alloc (.cells #[] 9)) w.heap.size (.slice (some ⟨w.heap.size, 0, none⟩) 0 0) (tailL L x p 0)) := ho0
  have Hb0 := Lib.hid hb0
  obtain ⟨a, cap, rfl, hv⟩ := h.view
  have Hw := Lib.hid h
  have Hr := Lib.hid hr
  obtain ⟨N, HN⟩ : ∃ N, Hid (L.length = N) := ⟨_, Lib.hid (Eq.refl _)⟩
  rw [HN.out] at hN Hr Hw ⊢
  clear ho0 hb0 h hv hr
  go_enter Try.func44, Try.ntmps44
  go_wp2_with fail
  generalize w.alloc (.cells #[] 9) = w1 at *
  go_loopw [7, 13] (fun vo i wr => ∃ k : Nat, k ≤ N ∧ i = .int .i64 (k : Int) ∧ Hid (OwnS wr w.heap.size vo (tailL L x p k)) ∧ Hid (Below w.heap.size w wr))
    (fun _ i _ => N - (intOf i).toNat)
  case atStart => exact ⟨0, by omega, rfl, HO0, Hb0⟩
  case round =>
    clear HO0 Hb0
    obtain ⟨k, hk, rfl, HO, HB⟩ := hrel
    by_cases hlt : k < N
    · have hkl : k < L.length := by rw [HN.out]; exact hlt
      have hO := Hw.out.below HB.out (Nat.le_refl _)
      obtain ⟨a', cap', e, hv⟩ := hO.view
      injection e with e1 e3 e2
      subst e1 e2
      clear e3
      obtain ⟨g, rfl, hc⟩ := hv k hkl
      obtain ⟨b2, off, rfl, hb2l, hc2⟩ := (Hr.out.below HB.out).get k hlt
      obtain ⟨s, Hx⟩ : ∃ s : ByteArray, Hid ((⟨L[k].toArray⟩ : ByteArray) = s) := ⟨_, Lib.hid (Eq.refl _)⟩
      have Hg : Hid (L.getD k [] = L[k]) := by show _ = _; simp [List.getD, hkl]
      rw [Hx.out] at hc
      have hle := tailL_le L x p k
      by_cases hx : x k < p
      · have d0 : decide (x k < p) = true := by simpa using hx
        have Ht : Hid (tailL L x p (k + 1) = tailL L x p k ++ [L[k]]) := by show tailL L x p k ++ _ = _; rw [if_pos hx, Hg.out]
        have hos := HO.out
        have hbsw : w.heap.size ≤ _ := HB.out.size
        clear hv hO hx
        go_wp2_with (first
          | (at_builtin; go_must (refine wpList_append_elem _ rfl (.tmp 30) (.tmp 32) rfl Try.underlying43 info_str rfl (by decide) w.heap.size u7 (tailL L x p k).length (svals (tailL L x p k)) [.string s] hos rfl ?_ rfl rfl rfl ?_ ?_ hbsw ?_; (intro y hy; simp at hy; subst hy; rfl); (unfold maxLen; omega); omega; intro v5 w5 hown5 hg5; have HO5 := Lib.hid hown5; have Hb5 := Lib.hid (grown_below hg5 HB.out (fun g e => (World.ownsRow.lt hos g e).1)); clear hown5 hg5 hos))
          | fail)
        go_roundw
        case rel =>
          refine ⟨k + 1, by omega, by go_num, ?_, Hb5⟩
          show OwnS _ _ _ _
          rw [Ht.out]
          unfold OwnS
          rw [svals_snoc, List.length_append, Hx.out]
          exact HO5.out
        case measure => simp [intOf]; omega
      · have d0 : decide (x k < p) = false := by simpa using hx
        have Ht : Hid (tailL L x p (k + 1) = tailL L x p k) := by show tailL L x p k ++ _ = _; rw [if_neg hx, List.append_nil]
        clear hv hO hx
        go_wp2_with fail
        go_roundw
        case rel => exact ⟨k + 1, by omega, by go_num, by show OwnS _ _ _ _; rw [Ht.out]; exact HO.out, HB⟩
        case measure => simp [intOf]; omega
    · obtain rfl : k = N := by omega
      go_wp2_with fail
      go_ret
      exact ⟨_, rfl, HO.out, HB.out⟩

/-! ## plain -/
theorem last16_app (p r z : List UInt8) (hr : 16 ≤ r.length) : last16 (p ++ r ++ z) = last16 (r ++ z) := by
  unfold last16
  rw [List.append_assoc, List.length_append, show p.length + (r ++ z).length - 16 = p.length + ((r ++ z).length - 16) by simp; omega, ← List.drop_drop, List.drop_left]
theorem cend_app (mn b mx : Nat) (p r z : List UInt8) (n : Nat) (hr : 16 ≤ r.length) : cend mn b mx (p ++ r ++ z) n = cend mn b mx (r ++ z) n := by
  unfold cend fp
  rw [last16_app p r z hr]
theorem flat_lt {L : List (List UInt8)} (hne : ∀ j (hj : j < L.length), L[j] ≠ []) (i j : Nat) (hij : i < j) (hj : j ≤ L.length) : (L.take i).flatten.length < (L.take j).flatten.length := by
  induction j with
  | zero => omega
  | succ j ih =>
    rw [take_flat j (by omega), List.length_append]
    have h1 : 0 < L[j].length := List.length_pos_iff.2 (hne j (by omega))
    by_cases h : i < j
    · have := ih h (by omega); omega
    · have : i = j := by omega
      subst this; omega
theorem tailL_eq {L : List (List UInt8)} (hne : ∀ j (hj : j < L.length), L[j] ≠ []) (n i : Nat) (hi : i < L.length) (k : Nat) (hk : k ≤ L.length) : tailL L (endAt L n) (endAt L n i) k = (L.take k).drop (i + 1) := by
  induction k with
  | zero => simp [tailL]
  | succ k ih =>
    unfold tailL
    rw [ih (by omega)]
    by_cases h : i < k
    · rw [if_pos (by unfold endAt; have := flat_lt hne (i + 1) (k + 1) (by omega) (by omega); omega), List.take_succ_eq_append_getElem (by omega), List.drop_append_of_le_length (by rw [List.length_take]; omega)]
      simp [List.getD, show k < L.length by omega]
    · rw [if_neg]
      · rw [List.append_nil, List.drop_of_length_le (by rw [List.length_take]; omega), List.drop_of_length_le (by rw [List.length_take]; omega)]
      · unfold endAt
        by_cases e : k = i
        · subst e; omega
        · have := flat_lt hne (k + 1) (i + 1) (by omega) (by omega); omega

theorem backs_same {mn b mx : Nat} {L M : List (List UInt8)} {p q t : List UInt8} (k1 : CK (cend mn b mx) [] L (p ++ t)) (k2 : CK (cend mn b mx) [] M (q ++ t)) (i j : Nat) (hi : i < L.length) (hj : j < M.length)
    (_h0 : 0 ≤ endAt L (p.length + t.length) i) (he : endAt L (p.length + t.length) i = endAt M (q.length + t.length) j) (hl : endAt L (p.length + t.length) i ≤ (t.length : Int) - 16) :
    tailL L (endAt L (p.length + t.length)) (endAt L (p.length + t.length) i) L.length = tailL M (endAt M (q.length + t.length)) (endAt L (p.length + t.length) i) M.length := by
  have hn1 : ∀ j (hj : j < L.length), L[j] ≠ [] := fun j hj => by obtain ⟨u, _, h, _⟩ := k1.at j hj; exact h
  have hn2 : ∀ j (hj : j < M.length), M[j] ≠ [] := fun j hj => by obtain ⟨u, _, h, _⟩ := k2.at j hj; exact h
  rw [tailL_eq hn1 _ i hi _ (Nat.le_refl _), he, tailL_eq hn2 _ j hj _ (Nat.le_refl _), List.take_of_length_le (Nat.le_refl _), List.take_of_length_le (Nat.le_refl _)]
  obtain ⟨u1, e1, d1⟩ := k1.drop (i + 1)
  obtain ⟨u2, e2, d2⟩ := k2.drop (j + 1)
  have l1 := congrArg List.length e1
  have l2 := congrArg List.length e2
  rw [List.length_append, List.length_append] at l1 l2
  unfold endAt at he hl
  -- the parts ahead of the common place
  have hs1 : ∃ r, (L.take (i + 1)).flatten = p ++ r ∧ t = r ++ u1 := by
    have hp : p = ((L.take (i + 1)).flatten).take p.length := by
      have := congrArg (List.take p.length) e1
      rwa [List.take_left' rfl, List.take_append_of_le_length (by omega)] at this
    refine ⟨((L.take (i + 1)).flatten).drop p.length, ?_, ?_⟩
    · have := List.take_append_drop p.length ((L.take (i + 1)).flatten)
      rw [← hp] at this
      exact this.symm
    · have := congrArg (List.drop p.length) e1
      rwa [List.drop_left' rfl, List.drop_append_of_le_length (by omega)] at this
  have hs2 : ∃ r, (M.take (j + 1)).flatten = q ++ r ∧ t = r ++ u2 := by
    have hp : q = ((M.take (j + 1)).flatten).take q.length := by
      have := congrArg (List.take q.length) e2
      rwa [List.take_left' rfl, List.take_append_of_le_length (by omega)] at this
    refine ⟨((M.take (j + 1)).flatten).drop q.length, ?_, ?_⟩
    · have := List.take_append_drop q.length ((M.take (j + 1)).flatten)
      rw [← hp] at this
      exact this.symm
    · have := congrArg (List.drop q.length) e2
      rwa [List.drop_left' rfl, List.drop_append_of_le_length (by omega)] at this
  obtain ⟨r1, f1, t1⟩ := hs1
  obtain ⟨r2, f2, t2⟩ := hs2
  have hlu : u1.length = u2.length := by omega
  have hrl : r1.length = r2.length := by have h1 := congrArg List.length t1; have h2 := congrArg List.length t2; rw [List.length_append] at h1 h2; omega
  obtain ⟨hr, hu⟩ := List.append_inj (t1.symm.trans t2) hrl
  subst hr hu
  have hr16 : 16 ≤ r1.length := by have h1 := congrArg List.length t1; rw [List.length_append] at h1; omega
  rw [List.nil_append, f1] at d1
  rw [List.nil_append, f2] at d2
  exact CK.only (fun z n => by rw [cend_app _ _ _ _ _ _ _ hr16, cend_app _ _ _ _ _ _ _ hr16]) d1 d2
end Go.Proofs.Ytgjofpefglbjjaa
