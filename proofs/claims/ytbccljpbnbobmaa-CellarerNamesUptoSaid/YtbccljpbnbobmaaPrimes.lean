/- digest.primes. Conditions: none (64 primes). -/
import Derived.Test.YtbccljpbnbobmaaBase
namespace Go.Proofs.Ytbccljpbnbobmaa
open Go.RowKit
set_option maxRecDepth 100000

theorem info_u64 : (Try.prog.info? 35).map (fun i => (i.zero, i.size, i.bytes)) = some (some (.int .u64 0), 1, 8) := by kernel_rfl
def ucl (l : List Nat) : List Value := l.map fun (x : Nat) => .int .u64 (x : Int)
theorem ucl_one (l : List Nat) : ∀ y ∈ ucl l, y.oneCell' = true := by
  intro y hy
  simp only [ucl, List.mem_map] at hy
  obtain ⟨i, _, rfl⟩ := hy
  rfl
def OwnU (w : World) (base : Nat) (v : Value) (l : List Nat) : Prop := w.ownsRow base 35 1 v l.length (ucl l)
theorem OwnU.pos {w : World} {base n : Nat} {v : Value} {l : List Nat} (h : OwnU w base v l) (hn : l.length = n) (h0 : 0 < n) : ∃ g cap, v = .slice (some ⟨g, 0, none⟩) n cap ∧ base ≤ g ∧ g < w.heap.size ∧ n ≤ cap ∧ ∀ i, i < n → w.cell? ⟨g, i, none⟩ = some (.int .u64 ((l.getD i 0 : Nat) : Int)) := by
  subst hn
  have hlt := World.ownsRow.lt h
  have h' := h
  rcases h'.2 with ⟨_, h2⟩ | ⟨g, c, cur, rfl, h2, h3, h4, _⟩
  · omega
  · refine ⟨g, c, rfl, h2, (hlt g rfl).2, h4, fun i hi => ?_⟩
    obtain ⟨h5, h6, h7⟩ := (by assumption : _ ∧ _ ∧ _)
    have e1 : cur[i]? = some (.int .u64 ((l.getD i 0 : Nat) : Int)) := by
      have e2 : (cur.toList.take (l.length * 1))[i]? = some (.int .u64 ((l.getD i 0 : Nat) : Int)) := by
        rw [h7]
        simp [ucl, List.getD, hi]
      rw [List.getElem?_take, if_pos (by omega)] at e2
      simpa using e2
    exact (Blk.cell h3 i).trans e1
theorem OwnU.form {w : World} {base : Nat} {v : Value} {l : List Nat} (h : OwnU w base v l) : ∃ a cap, v = .slice a l.length cap := by
  rcases h.2 with ⟨h1, h2⟩ | ⟨g, c, cur, h1, _⟩
  · exact ⟨none, 0, by rw [h1, h2]⟩
  · exact ⟨_, c, h1⟩

def isPr (o : List Nat) (p : Nat) : Bool := o.all fun q => decide (p % q ≠ 0)
def prSt : Nat → List Nat
  | 0 => []
  | k + 1 => if isPr (prSt k) (k + 2) then prSt k ++ [k + 2] else prSt k
theorem isPr_take (o : List Nat) (p j : Nat) (hj : j < o.length) : isPr (o.take (j + 1)) p = (isPr (o.take j) p && decide (p % o.getD j 0 ≠ 0)) := by
  unfold isPr
  rw [List.take_succ_eq_append_getElem hj, List.all_append]
  simp [List.getD, hj]
theorem prSt_mem (k : Nat) : ∀ q ∈ prSt k, 2 ≤ q ∧ q ≤ k + 1 := by
  induction k with
  | zero => intro q hq; cases hq
  | succ k ih =>
    intro q hq
    unfold prSt at hq
    split at hq
    · rcases List.mem_append.1 hq with h | h
      · have := ih q h; omega
      · have := List.mem_singleton.1 h; omega
    · have := ih q hq; omega
theorem prSt_len (k : Nat) : (prSt k).length ≤ (prSt (k + 1)).length := by
  show _ ≤ (if isPr (prSt k) (k + 2) then prSt k ++ [k + 2] else prSt k).length
  split
  · simp
  · exact Nat.le_refl _
theorem prSt_mono (j : Nat) : ∀ k, k ≤ j → (prSt k).length ≤ (prSt j).length := by
  induction j with
  | zero => intro k hk; obtain rfl : k = 0 := by omega
            exact Nat.le_refl _
  | succ j ih =>
    intro k hk
    rcases Nat.lt_or_ge j k with h | h
    · obtain rfl : k = j + 1 := by omega
      exact Nat.le_refl _
    · exact Nat.le_trans (ih k h) (prSt_len j)
theorem prSt_309 : (prSt 309).length = 63 := by decide +kernel
theorem prSt_310 : (prSt 310).length = 64 := by decide +kernel

set_option maxHeartbeats 4000000 in
theorem primes_any (w : World) : Calls Try.prog 43 #[.int .i64 64] w fun e w' => ∃ v, e = .returned v ∧ OwnU w' w.heap.size v (prSt 310) ∧ Below w.heap.size w w' := by
  have HO0 : Hid (OwnU w w.heap.size (.slice none 0 0) (prSt 0)) := Lib.hid (World.ownsRow_nil _ _ _ _)
  have HB0 := Lib.hid (Below.refl w.heap.size w)
  go_enter Try.func43, Try.ntmps43
  go_wp2_with fail
  go_loopw [3, 4] (fun v_ p_ wr => ∃ k p : Nat, k ≤ 310 ∧ Hid (k + 2 = p) ∧ p_ = .int .u64 (p : Int) ∧ Hid (OwnU wr w.heap.size v_ (prSt k)) ∧ Hid (Below w.heap.size w wr)) (fun _ p _ => 400 - (intOf p).toNat)
  case atStart => exact ⟨0, 2, by omega, rfl, rfl, HO0, HB0⟩
  case round =>
    clear HO0 HB0
    obtain ⟨k, p, hk, hp, rfl, HO, HB⟩ := hrel
    obtain ⟨a, cap, rfl⟩ := HO.out.form
    have hmem := prSt_mem k
    have hp2 := hp.out
    have hl1 : k ≤ 309 → (prSt k).length ≤ 63 := fun h => by rw [← prSt_309]; exact prSt_mono 309 k h
    have hl2 : (prSt 310).length = 64 := prSt_310
    have Hst : Hid (∀ b, isPr (prSt k) (k + 2) = b → prSt (k + 1) = if b then prSt k ++ [k + 2] else prSt k) := fun b hb => by rw [← hb]; rfl
    rcases Nat.lt_or_ge k 310 with hlt | hge
    · have hll := hl1 (by omega)
      clear hl1 hl2
      obtain ⟨o, Ho⟩ : ∃ o, Hid (prSt k = o) := ⟨_, Lib.hid (Eq.refl _)⟩
      rw [Ho.out] at hmem hll Hst HO ⊢
      obtain ⟨n, Hn⟩ : ∃ n, Hid (o.length = n) := ⟨_, Lib.hid (Eq.refl _)⟩
      rw [Hn.out] at hll ⊢
      have hpb : p ≤ 311 ∧ 2 ≤ p := by omega
      have Hmem := Lib.hid hmem
      have HA0 : Hid (isPr (o.take 0) p = true) := rfl
      clear hmem hp2 hlt hk
      go_wp2_with fail
      go_loop [5, 16] (fun b_ i_ => ∃ (i : Nat) (b : Bool), i ≤ n ∧ i_ = .int .i64 (i : Int) ∧ b_ = .bool b ∧ Hid (isPr (o.take i) p = b)) (fun _ i => n - (intOf i).toNat)
      case atStart => exact ⟨0, true, by omega, rfl, rfl, HA0⟩
      case round =>
        clear HA0
        obtain ⟨i, b, hi, rfl, rfl, HA⟩ := hrel
        by_cases hin : i < n
        · obtain ⟨g, cap', e0, hg1, hg2, hg3, hcell⟩ := OwnU.pos (show OwnU wr w.heap.size (.slice a n cap) o by rw [← Hn.out]; exact HO.out) Hn.out (by omega)
          injection e0 with e1 e2 e3
          subst e1
          clear e2
          have hc := hcell i hin
          have hq : o.getD i 0 ∈ o := by
            have : i < o.length := by rw [Hn.out]; exact hin
            simp [List.getD, this]
          have hqb := Hmem.out _ hq
          have Hnx := Lib.hid (isPr_take o p i (by rw [Hn.out]; exact hin))
          have Hpp := hp
          generalize o.getD i 0 = q at *
          have hq2 : 2 ≤ q ∧ q ≤ 400 := by have := hp.out; omega
          have hm : ((p : Int) % (q : Int)) = ((p % q : Nat) : Int) := by omega
          clear hq hqb e3 hcell
          cases b with
          | false =>
            go_wp2_with fail
            go_round
            case rel => exact ⟨i + 1, false, by omega, by go_num, rfl, by show isPr _ _ = false; rw [Hnx.out, HA.out]; rfl⟩
            case measure => simp [intOf]; omega
          | true =>
            have Hd : Hid (isPr (o.take (i + 1)) p = decide (p % q ≠ 0)) := by show isPr _ _ = _; rw [Hnx.out, HA.out]; rfl
            by_cases hz : p % q = 0
            · have dz : ((p : Int) % (q : Int) != 0) = false := by rw [hm, hz]; rfl
              have Hd2 : Hid (isPr (o.take (i + 1)) p = false) := by show isPr _ _ = _; rw [Hd.out]; simp [hz]
              clear Hd Hnx hm hz
              go_wp2_with fail
              go_round
              case rel => exact ⟨i + 1, false, by omega, by go_num, rfl, Hd2⟩
              case measure => simp [intOf]; omega
            · have dz : ((p : Int) % (q : Int) != 0) = true := by rw [hm]; simp; omega
              have Hd2 : Hid (isPr (o.take (i + 1)) p = true) := by show isPr _ _ = _; rw [Hd.out]; simp [hz]
              clear Hd Hnx hm hz
              go_wp2_with fail
              go_round
              case rel => exact ⟨i + 1, true, by omega, by go_num, rfl, Hd2⟩
              case measure => simp [intOf]; omega
        · obtain rfl : i = n := by omega
          have HAo : Hid (isPr o (k + 2) = b) := by
            show isPr _ _ = _
            rw [hp.out, ← HA.out, List.take_of_length_le (by rw [Hn.out]; exact Nat.le_refl _)]
          have HS := Lib.hid (Hst.out b HAo.out)
          have hkp := hp.out
          cases b with
          | false =>
            go_wp2_with fail
            go_roundw
            case rel => exact ⟨k + 1, p + 1, by omega, by show _ = _; omega, by go_num, by show OwnU _ _ _ _; rw [HS.out, if_neg (by decide)]; have h := HO.out; rw [Hn.out] at h; exact h, HB⟩
            case measure => simp [intOf]; omega
          | true =>
            have hos : wr.ownsRow w.heap.size 35 1 (.slice a i cap) i (ucl o) := by have := HO.out; unfold OwnU at this; rw [Hn.out] at this; exact this
            have hbsw : w.heap.size ≤ wr.heap.size := HB.out.size
            go_wp2_with (first
              | (at_builtin; go_must (refine wpList_append_elem_at wr rfl (.tmp 29) (.tmp 31) rfl Try.underlying43 info_u64 rfl (by decide) w.heap.size _ i (ucl o) [.int .u64 (p : Int)] hos rfl ?_ rfl rfl rfl ?_ ?_ hbsw ?_; (intro y hy; simp at hy; subst hy; rfl); (unfold maxLen; omega); omega; intro v7 w7 hown7 hg7 hn7; have HO7 : Hid (OwnU w7 w.heap.size v7 (o ++ [p])) := (by show World.ownsRow _ _ _ _ _ _ _; rw [List.length_append, Hn.out]; show World.ownsRow _ _ _ _ _ (i + 1) _; have e : ucl (o ++ [p]) = ucl o ++ [.int .u64 (p : Int)] := (by simp [ucl]); rw [e]; exact hown7); have HB7 := Lib.hid (HB.out.trans (below_grown hos hg7 hbsw)); clear hown7 hg7 hn7))
              | fail)
            go_roundw
            case rel => exact ⟨k + 1, p + 1, by omega, by show _ = _; omega, by go_num, by show OwnU _ _ _ _; rw [HS.out, if_pos rfl, hp.out]; exact HO7, HB7⟩
            case measure => simp [intOf]; omega
    · obtain rfl : k = 310 := by omega
      rw [hl2]
      clear hl1 hmem
      have HO' := HO
      go_wp2_with fail
      go_ret
      refine ⟨_, rfl, ?_, HB.out⟩
      have := HO.out
      rw [hl2] at this
      exact this
end Go.Proofs.Ytbccljpbnbobmaa
