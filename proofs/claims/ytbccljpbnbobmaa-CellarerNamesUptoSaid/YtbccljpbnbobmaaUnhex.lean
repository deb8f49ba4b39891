/- bits.value and bits.Unhex. Conditions: Unhex: the text has at most 3000 bytes. -/
import Derived.Test.YtbccljpbnbobmaaHex
import Derived.Lib.OthersKept
namespace Go.Proofs.Ytbccljpbnbobmaa
open Go.RowKit
set_option maxRecDepth 100000

/-- A digit's number; 16: it is none. -/
def hexv (c : Nat) : Nat := if 48 ≤ c ∧ c ≤ 57 then c - 48 else if 97 ≤ c ∧ c ≤ 102 then c - 87 else 16
def digs : ByteArray := ⟨#[48, 49, 50, 51, 52, 53, 54, 55, 56, 57, 97, 98, 99, 100, 101, 102]⟩
theorem digs_size : digs.size = 16 := rfl
theorem hexv_dig : ∀ p (h : p < digs.size), hexv (digs[p]).toNat = p := by decide
theorem dig_low : ∀ p (h : p < digs.size), (digs[p]).toNat < 128 := by decide
theorem dig_num : ∀ q (hq : q < 10), (digs[q]'(by rw [digs_size]; omega)).toNat = 48 + q := by decide
theorem dig_let : ∀ q (hq : q < 6), (digs[10 + q]'(by rw [digs_size]; omega)).toNat = 97 + q := by decide
theorem hexv_none (c : Nat) (h : ∀ p (hp : p < digs.size), (digs[p]).toNat ≠ c) : hexv c = 16 := by
  unfold hexv
  by_cases h1 : 48 ≤ c ∧ c ≤ 57
  · exfalso
    have e := dig_num
    exact h (c - 48) (by rw [digs_size]; omega) (by rw [e _ (by omega)]; omega)
  · rw [if_neg h1]
    by_cases h2 : 97 ≤ c ∧ c ≤ 102
    · exfalso
      have e := dig_let
      have := e (c - 97) (by omega)
      exact h (10 + (c - 97)) (by rw [digs_size]; omega) (by rw [this]; omega)
    · rw [if_neg h2]

theorem value_any (c : Nat) (w : World) :
    Calls Try.prog 40 #[.int .i32 (c : Int)] w fun e w' => e = .returned (.int .i64 (hexv c : Int)) ∧ Below w.heap.size w w' := by
  go_enter Try.func40, Try.ntmps40
  go_wp2
  go_loopw [3, 4] (fun _ _ wr => ∃ p : Nat, p ≤ 16 ∧ wr = w.iter digs p ∧ ∀ q (hq : q < digs.size), q < p → (digs[q]).toNat ≠ c)
    (fun _ _ wr => 16 - wr.iterPos w.heap.size)
  case atStart => exact ⟨0, by omega, rfl, fun q _ h => by omega⟩
  case round =>
    obtain ⟨p, hp, rfl, hno⟩ := hrel
    have Hno := Lib.hid hno
    clear hno
    by_cases hlt : p < 16
    · have hps : p < digs.size := hlt
      have hnx : ∀ ty, (Instr.next (.pointer (some ⟨w.heap.size, 0, none⟩)) true ty).run Try.prog (w.iter digs p) = _ := fun ty => run_next_ascii w digs p ty hps (dig_low p hps)
      obtain ⟨d, hd⟩ : ∃ d, d = digs[p].toNat := ⟨_, rfl⟩
      rw [← hd] at hnx
      by_cases he : d = c
      · have heb : ((d : Int) == (c : Int)) = true := by simp; omega
        have Hv := Lib.hid (hexv_dig p hps)
        have He := Lib.hid he
        have Hd := Lib.hid hd
        clear he hd
        go_wp2
        go_ret
        exact ⟨ret_int (by rw [← He.out, Hd.out, Hv.out]), (Below.refl _ _).alloc (Nat.le_refl _) _⟩
      · have heb : ((d : Int) == (c : Int)) = false := by simp; omega
        have He := Lib.hid he
        have Hd := Lib.hid hd
        clear he hd
        go_wp2
        go_roundw
        case rel =>
          refine ⟨p + 1, by omega, rfl, fun q hq h => ?_⟩
          by_cases e : q = p
          · subst e; rw [← Hd.out]; exact He.out
          · exact Hno.out q hq (by omega)
        case measure => simp; omega
    · have hps : ¬ p < digs.size := hlt
      have hnx : ∀ ty, (Instr.next (.pointer (some ⟨w.heap.size, 0, none⟩)) true ty).run Try.prog (w.iter digs p) = _ := fun ty => run_next_end w digs p ty hps
      have Hv := Lib.hid (hexv_none c (fun q hq => Hno.out q hq (by rw [digs_size] at hq; omega)))
      clear hps
      go_wp2
      go_ret
      exact ⟨ret_int (by rw [Hv.out]; rfl), (Below.refl _ _).alloc (Nat.le_refl _) _⟩

/-- What is still read, where a first digit h waits (16: none waits). -/
def rest : Nat → List UInt8 → Option (List UInt8)
  | h, [] => if h = 16 then some [] else none
  | h, c :: r => if hexv c.toNat = 16 then none else if h = 16 then rest (hexv c.toNat) r else (rest 16 r).map (UInt8.ofNat (16 * h + hexv c.toNat) :: ·)

theorem hexv_le (c : Nat) : hexv c ≤ 16 := by
  unfold hexv
  split
  · omega
  · split <;> omega
theorem hexv_high (c : Nat) (h : 128 ≤ c) : hexv c = 16 := by
  unfold hexv
  rw [if_neg (by omega), if_neg (by omega)]
theorem or_hex : ∀ h : Nat, h < 16 → ∀ v : Nat, v < 16 → bits .or .i64 ((h : Int) * 16) (v : Int) = ((16 * h + v : Nat) : Int) := by decide +kernel

/-- What Unhex hands back. -/
def UnhexPost (l : List UInt8) (w : World) (e : Ending) (w' : World) : Prop :=
  e = (match rest 16 l with | some m => .returned (.tuple #[.string ⟨m.toArray⟩, .bool true]) | none => .returned (.tuple #[.string ⟨#[]⟩, .bool false])) ∧ Below w.heap.size w w'

theorem unhex_no {l : List UInt8} {w w' : World} (h : rest 16 l = none) (hb : Below w.heap.size w w') : UnhexPost l w (.returned (.tuple #[.string ⟨#[]⟩, .bool false])) w' := by
  unfold UnhexPost
  rw [h]
  exact ⟨rfl, hb⟩
theorem unhex_yes {l m : List UInt8} {w w' : World} (h : rest 16 l = some m) (hb : Below w.heap.size w w') : UnhexPost l w (.returned (.tuple #[.string ⟨m.toArray⟩, .bool true])) w' := by
  unfold UnhexPost
  rw [h]
  exact ⟨rfl, hb⟩
/-- Behind m, where h waits and r is to come. -/
def RestIs (l m : List UInt8) (h : Nat) (r : List UInt8) : Prop := rest 16 l = (rest h r).map (m ++ ·)
theorem RestIs.start (l : List UInt8) : RestIs l [] 16 l := by
  unfold RestIs
  cases rest 16 l <;> simp
theorem RestIs.bad {l m : List UInt8} {h : Nat} {c : UInt8} {r : List UInt8} (k : RestIs l m h (c :: r)) (hc : hexv c.toNat = 16) : rest 16 l = none := by
  unfold RestIs at k
  rw [k, rest, if_pos hc]; rfl
theorem RestIs.first {l m : List UInt8} {c : UInt8} {r : List UInt8} (k : RestIs l m 16 (c :: r)) (hc : hexv c.toNat ≠ 16) : RestIs l m (hexv c.toNat) r := by
  unfold RestIs at k ⊢
  rw [k, rest, if_neg hc, if_pos rfl]
theorem RestIs.second {l m : List UInt8} {h : Nat} {c : UInt8} {r : List UInt8} (k : RestIs l m h (c :: r)) (hh : h ≠ 16) (hc : hexv c.toNat ≠ 16) : RestIs l (m ++ [UInt8.ofNat (16 * h + hexv c.toNat)]) 16 r := by
  unfold RestIs at k ⊢
  rw [k, rest, if_neg hc, if_neg hh]
  cases rest 16 r <;> simp
theorem RestIs.odd {l m : List UInt8} {h : Nat} (k : RestIs l m h []) (hh : h ≠ 16) : rest 16 l = none := by
  unfold RestIs at k
  rw [k, rest, if_neg hh]; rfl
theorem RestIs.even {l m : List UInt8} (k : RestIs l m 16 []) : rest 16 l = some m := by
  unfold RestIs at k
  rw [k, rest, if_pos rfl]
  simp

theorem drop_at (s : ByteArray) (k : Nat) (h : k < s.size) : s.data.toList.drop k = s[k] :: s.data.toList.drop (k + 1) := by
  rw [List.drop_eq_getElem_cons (by simpa using h)]
  rfl

theorem own_below {w w' : World} {base e size n : Nat} {v : Value} {xs : List Value} (h : w.ownsRow base e size v n xs) (hb : Below w.heap.size w w') : w'.ownsRow base e size v n xs := by
  refine ⟨h.1, ?_⟩
  rcases h.2 with hn | ⟨g, cap, cur, rfl, hbb, hh, r⟩
  · exact .inl hn
  · exact .inr ⟨g, cap, cur, rfl, hbb, (hb.block g (Array.getElem?_eq_some_iff.1 hh).1).trans hh, r⟩

theorem own_iterAt {w : World} {base e size n : Nat} {v : Value} {xs : List Value} (h : w.ownsRow base e size v n xs) {k : Nat} {s : ByteArray} {pos : Nat} (hk : w.heap[k]? = some (.stringIter s pos)) (pos' : Nat) :
    (w.iterAt k s pos').ownsRow base e size v n xs := by
  refine ⟨h.1, ?_⟩
  rcases h.2 with hn | ⟨g, cap, cur, rfl, hb, hh, r⟩
  · exact .inl hn
  · refine .inr ⟨g, cap, cur, rfl, hb, ?_, r⟩
    rw [Lib.iterAt_other _ _ _ _ _ (by rintro rfl; rw [hk] at hh; cases hh)]
    exact hh

set_option maxHeartbeats 1000000 in
theorem unhex_big (s : ByteArray) (w : World) (hs : s.size ≤ 140737488351232) :
    Calls Try.prog 29 #[.string s] w (UnhexPost s.data.toList w) := by
  go_enter Try.func29, Try.ntmps29
  go_wp2
  go_loopw [4, 5, 7, 8, 24, 27] (fun v hi _ _ _ _ wr => ∃ (p h : Nat) (m : List UInt8), p ≤ s.size ∧ m.length ≤ p ∧ h ≤ 16 ∧ hi = .int .i64 (h : Int) ∧ OwnB wr (w.heap.size + 1) v m ∧ wr.heap[w.heap.size]? = some (.stringIter s p) ∧
      RestIs s.data.toList m h (s.data.toList.drop p) ∧ Below w.heap.size w wr)
    (fun _ _ _ _ _ _ wr => s.size - wr.iterPos w.heap.size)
  case atStart => exact ⟨0, 16, [], by omega, by simp, by omega, rfl, OwnB.nil _ _, World.iter_heap _ _ _, RestIs.start _, (Below.refl _ _).alloc (Nat.le_refl _) _⟩
  case round =>
    obtain ⟨p, h, m, hp, hml, hh, rfl, hown, hit, hR, hb⟩ := hrel
    have HR := Lib.hid hR
    have Hit := Lib.hid hit
    clear hR hit
    have hbs := hb.size
    by_cases hlt : p < s.size
    · have HD := Lib.hid (drop_at s p hlt)
      have HR2 : Hid (RestIs s.data.toList m h (s[p] :: s.data.toList.drop (p + 1))) := by rw [← HD.out]; exact HR.out
      have hnx : ∀ ty, (Instr.next (.pointer (some ⟨w.heap.size, 0, none⟩)) true ty).run Try.prog wr = _ := fun ty => Lib.run_next_any_at wr w.heap.size s p ty Hit.out hlt
      by_cases ha : s[p].toNat < 128
      · rw [decode_ascii s p hlt ha] at hnx
        have Hb := Lib.hid (show s[p].toNat < 128 from ha)
        have Hit2 := Lib.hid (Lib.iterAt_heap wr w.heap.size s p (p + 1) Hit.out)
        have hown2 : OwnB _ (w.heap.size + 1) u4 m := own_iterAt hown Hit.out (p + 1)
        have hb2 := Lib.below_iterAt hb (Nat.le_refl _) s (p + 1)
        have hvl := hexv_le s[p].toNat
        have hmx : m.length < 140737488355328 := by omega
        clear ha
        by_cases hv : hexv s[p].toNat = 16
        · have Hv := Lib.hid hv
          have Hbad := Lib.hid (HR2.out.bad hv)
          clear hv
          generalize s[p].toNat = rn at *
          go_wp2_with fail
          refine (value_any rn _).mono ?_
          rintro e w2 ⟨rfl, hb3⟩
          rw [Hv.out]
          go_wp2_with fail
          go_ret2
          exact unhex_no Hbad.out (bthen hb2 hb3)
        · have hvb : ((hexv s[p].toNat : Int) == 16) = false := by simp; omega
          by_cases hh16 : h = 16
          · subst hh16
            have Hnext := Lib.hid (HR2.out.first hv)
            have Hv := Lib.hid hv
            clear hv
            generalize s[p].toNat = rn at *
            go_wp2_with fail
            refine (value_any rn _).mono ?_
            rintro e w2 ⟨rfl, hb3⟩
            have hb4 := bthen hb2 hb3
            have Hit3 := Lib.hid ((hb3.block w.heap.size (by rw [Lib.iterAt_size]; exact (Array.getElem?_eq_some_iff.1 Hit.out).1)).trans Hit2.out)
            have hown3 : OwnB w2 (w.heap.size + 1) u4 m := own_below hown2 hb3
            generalize hexv rn = hv at *
            go_wp2_with fail
            go_roundw
            case rel => exact ⟨p + 1, hv, m, by omega, by omega, by omega, rfl, hown3, Hit3.out, Hnext.out, hb4⟩
            case measure =>
              have m1 := iterPos_of Hit.out
              have m2 := iterPos_of Hit3.out
              omega
          · have hhb : ((h : Int) == 16) = false := by simp; omega
            have Hnext := Lib.hid (HR2.out.second hh16 hv)
            have hor := or_hex h (by omega) (hexv s[p].toNat) (by omega)
            have Hv := Lib.hid hv
            have Hh := Lib.hid hh16
            have hh15 : h ≤ 15 := by omega
            have hv15 : hexv s[p].toNat ≤ 15 := by omega
            clear hv hh16
            generalize s[p].toNat = rn at *
            go_wp2_with fail
            refine (value_any rn _).mono ?_
            rintro e w2 ⟨rfl, hb3⟩
            have hb4 := bthen hb2 hb3
            have Hit3 := Lib.hid ((hb3.block w.heap.size (by rw [Lib.iterAt_size]; exact (Array.getElem?_eq_some_iff.1 Hit.out).1)).trans Hit2.out)
            have hown3 : OwnB w2 (w.heap.size + 1) u4 m := own_below hown2 hb3
            have hbs4 : w.heap.size + 1 ≤ w2.heap.size := (Array.getElem?_eq_some_iff.1 Hit3.out).1
            generalize hexv rn = hv at *
            go_wp2_with (at_builtin; go_must (refine wpList_append_byte _ rfl _ _ rfl (w.heap.size + 1) _ m _ hown3 rfl rfl rfl ?_ ?_ hmx hbs4 ?_; omega; omega; intro v' w3 hown4 hb5))
            have Hit4 := Lib.hid ((hb5.block w.heap.size (by omega)).trans Hit3.out)
            have m1 := iterPos_of Hit.out
            have m2 := iterPos_of Hit4.out
            have e1 : (16 * (h : Int) + (hv : Int)).toNat = 16 * h + hv := by omega
            rw [e1] at hown4
            go_roundw
            case rel => exact ⟨p + 1, 16, _, by omega, by simp; omega, by omega, rfl, hown4, Hit4.out, Hnext.out, hb4.trans (hb5.mono (by omega))⟩
            case measure => omega
      · have hhi := (decode_high s p hlt (by omega)).1
        have Hv := Lib.hid (hexv_high _ hhi)
        have Hv2 := Lib.hid (hexv_high s[p].toNat (by omega))
        generalize (Utf8.decode s p).1 = rn at *
        generalize p + (Utf8.decode s p).2 = p2 at *
        have hb2 := Lib.below_iterAt hb (Nat.le_refl _) s p2
        go_wp2_with fail
        refine (value_any rn _).mono ?_
        rintro e w2 ⟨rfl, hb3⟩
        rw [Hv.out]
        go_wp2_with fail
        go_ret2
        exact unhex_no (HR2.out.bad Hv2.out) (bthen hb2 hb3)
    · have hnx : ∀ ty, (Instr.next (.pointer (some ⟨w.heap.size, 0, none⟩)) true ty).run Try.prog wr = _ := fun ty => Lib.run_next_end_at wr w.heap.size s p ty Hit.out hlt
      have HD := Lib.hid (show s.data.toList.drop p = [] from List.drop_of_length_le (by simp; omega))
      have HR2 : Hid (RestIs s.data.toList m h []) := by rw [← HD.out]; exact HR.out
      by_cases hh16 : h = 16
      · subst hh16
        have hs1 := run_string_own wr _ _ _ hown
        go_wp2_with fail
        go_ret2
        exact unhex_yes HR2.out.even hb
      · have hhb : ((h : Int) != 16) = true := by simp; omega
        have Hh := Lib.hid hh16
        clear hh16
        go_wp2_with fail
        go_ret2
        exact unhex_no (HR2.out.odd Hh.out) hb
theorem unhex_any (s : ByteArray) (w : World) (hs : s.size ≤ 3000) :
    Calls Try.prog 29 #[.string s] w (UnhexPost s.data.toList w) := unhex_big s w (by omega)
end Go.Proofs.Ytbccljpbnbobmaa
