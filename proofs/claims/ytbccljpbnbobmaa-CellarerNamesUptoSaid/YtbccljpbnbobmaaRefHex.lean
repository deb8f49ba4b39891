/- The document's Hex, byteOf, Hexed and Unhex. Conditions: texts of at most 3000 bytes. -/
import Derived.Test.YtbccljpbnbobmaaPairs
import Derived.Test.YtbccljpbnbobmaaUnhex
import Derived.Deep.RegionWith
namespace Go.Proofs.Ytbccljpbnbobmaa
open Go.RowKit
set_option maxRecDepth 100000

theorem pairS_list (i : Nat) : (pairS i).data.toList = [dgt (i / 16), dgt (i % 16)] := rfl
theorem pairS_size (i : Nat) : (pairS i).size = 2 := rfl

theorem refHex_any (s : ByteArray) (w : World) (hs : s.size ≤ 3000) :
    Calls Try.prog 30 #[.string s] w fun e w' => (∃ T : ByteArray, e = .returned (.string T) ∧ T.data.toList = hexL s.data.toList) ∧ Below w.heap.size w w' := by
  have hmk := run_bytes_of_string (P := Try.prog) (src := 9) (dst := 31) (e := 5)
  go_enter Try.func30, Try.ntmps30
  go_wp2_with (go_at_call 41; refine (pairs_any _).mono ?_; rintro e w1 ⟨g, cap, rfl, hown, hb⟩)
  clear hmk
  have hK := (KeepB.new w1 s (grownCap w1 s.size 0 5)).drew
  have hb0 := (hb.alloc hb.size (.cells (bytesRow s (grownCap w1 s.size 0 5)) 5 ((bytesRow s (grownCap w1 s.size 0 5)).size, (bytesRow s (grownCap w1 s.size 0 5)).size + 1))).drew
  have ho0 := (World.ownsRow.alloc hown (.cells (bytesRow s (grownCap w1 s.size 0 5)) 5 ((bytesRow s (grownCap w1 s.size 0 5)).size, (bytesRow s (grownCap w1 s.size 0 5)).size + 1))).drew
  generalize w1.heap.size = q at *
  generalize (w1.alloc (.cells (bytesRow s (grownCap w1 s.size 0 5)) 5 ((bytesRow s (grownCap w1 s.size 0 5)).size, (bytesRow s (grownCap w1 s.size 0 5)).size + 1))).drew = w2 at *
  clear hown hb
  go_loop [4, 6, 11] (fun t _ i => ∃ (k : Nat) (T : ByteArray), k ≤ s.size ∧ i = .int .i64 (k : Int) ∧ t = .string T ∧ T.data.toList = hexL (s.data.toList.take k))
    (fun _ _ i => s.size - (intOf i).toNat)
  case atStart => exact ⟨0, ByteArray.mk #[], Nat.zero_le _, rfl, rfl, rfl⟩
  case round =>
    obtain ⟨k, T, hk, rfl, rfl, hT⟩ := hrel
    have HT := Lib.hid hT
    have hTs : T.size ≤ 6000 := by
      have := congrArg List.length hT
      rw [hexL_length, List.length_take] at this
      simp at this
      omega
    clear hT
    by_cases hlt : k < s.size
    · have hc := hK.cell k hlt
      have hcb := s[k].toNat_lt
      have hp := World.ownsRow.cellAt ho0 s[k].toNat (by omega)
      rw [pcells_at _ _ hcb] at hp
      have Hst := Lib.hid (hexL_snoc s.data.toList k (by simpa using hlt))
      have hps := pairS_size s[k].toNat
      have Hpl := Lib.hid (pairS_list s[k].toNat)
      generalize pairS s[k].toNat = P at *
      go_wp2_with fail
      go_round
      case rel =>
        refine ⟨k + 1, _, by omega, by go_num, rfl, ?_⟩
        rw [Hst.out, ← HT.out]
        rw [ByteArray.data_append, Array.toList_append, Hpl.out]
        rfl
      case measure => simp [intOf]; omega
    · go_wp2_with fail
      go_ret
      exact ⟨⟨T, rfl, by rw [HT.out, List.take_of_length_le (by simp; omega)]⟩, hb0⟩

/-- The byte of a pair; -1: it is none. -/
def byteV : List UInt8 → Int
  | [a, b] => if hexv a.toNat < 16 ∧ hexv b.toNat < 16 then ((16 * hexv a.toNat + hexv b.toNat : Nat) : Int) else -1
  | _ => -1
theorem dgt_hexv : ∀ n, n < 16 → hexv (dgt n).toNat = n := by decide
theorem hexv_dgt (a : UInt8) (h : hexv a.toNat < 16) : dgt (hexv a.toNat) = a := by
  have h1 : ∀ n, n < 256 → hexv n < 16 → (dgt (hexv n)).toNat = n := by decide +kernel
  exact UInt8.toNat_inj.1 (h1 a.toNat a.toNat_lt h)
theorem byteV_pair (i : Nat) (hi : i < 256) : byteV (pairS i).data.toList = i := by
  rw [pairS_list]
  show (if hexv (dgt (i / 16)).toNat < 16 ∧ hexv (dgt (i % 16)).toNat < 16 then _ else _) = _
  rw [dgt_hexv (i / 16) (by omega), dgt_hexv (i % 16) (by omega), if_pos ⟨by omega, by omega⟩]
  omega
theorem byteV_lt (l : List UInt8) : byteV l < 256 := by
  match l with
  | [] => exact (by decide : (-1 : Int) < 256)
  | [a] => exact (by decide : (-1 : Int) < 256)
  | [a, b] =>
    show (if hexv a.toNat < 16 ∧ hexv b.toNat < 16 then _ else _) < _
    split
    · omega
    · decide
  | a :: b :: c :: r => exact (by decide : (-1 : Int) < 256)
theorem byteV_none (l : List UInt8) (h : ∀ i, i < 256 → (pairS i).data.toList ≠ l) : byteV l = -1 := by
  match l with
  | [] => rfl
  | [a] => rfl
  | [a, b] =>
    show (if hexv a.toNat < 16 ∧ hexv b.toNat < 16 then _ else _) = _
    by_cases h1 : hexv a.toNat < 16 ∧ hexv b.toNat < 16
    · exfalso
      refine h (16 * hexv a.toNat + hexv b.toNat) (by omega) ?_
      rw [pairS_list]
      have e1 : (16 * hexv a.toNat + hexv b.toNat) / 16 = hexv a.toNat := by omega
      have e2 : (16 * hexv a.toNat + hexv b.toNat) % 16 = hexv b.toNat := by omega
      rw [e1, e2, hexv_dgt a h1.1, hexv_dgt b h1.2]
    · rw [if_neg h1]
  | a :: b :: c :: r => rfl

theorem byteOf_any (p : ByteArray) (w : World) :
    Calls Try.prog 42 #[.string p] w fun e w' => e = .returned (.int .i64 (byteV p.data.toList)) ∧ Below w.heap.size w w' := by
  go_enter Try.func42, Try.ntmps42
  go_wp2_with (go_at_call 41; refine (pairs_any _).mono ?_; rintro e w1 ⟨g, cap, rfl, hown, hb⟩)
  go_loop [3, 4, 7] (fun _ _ i => ∃ k : Nat, k ≤ 256 ∧ i = .int .i64 (k : Int) ∧ ∀ j, j < k → (pairS j).data.toList ≠ p.data.toList)
    (fun _ _ i => 256 - (intOf i).toNat)
  case atStart => exact ⟨0, by omega, rfl, fun j hj => by omega⟩
  case round =>
    obtain ⟨k, hk, rfl, hno⟩ := hrel
    have Hno := Lib.hid hno
    clear hno
    by_cases hlt : k < 256
    · have hp := World.ownsRow.cellAt hown k (by omega)
      rw [pcells_at _ _ hlt] at hp
      have Hv := Lib.hid (byteV_pair k hlt)
      by_cases he : (pairS k).data.toList = p.data.toList
      · have heb : ((pairS k).toList == p.toList) = true := by rw [ByteArray.toList_eq, ByteArray.toList_eq, he]; simp
        have He := Lib.hid he
        clear he
        generalize pairS k = P at *
        go_wp2_with fail
        go_ret
        exact ⟨ret_int (by rw [← He.out, Hv.out]), hb⟩
      · have heb : ((pairS k).toList == p.toList) = false := by rw [ByteArray.toList_eq, ByteArray.toList_eq]; simpa using he
        have He := Lib.hid he
        clear he
        generalize hP : pairS k = P at *
        have HP := Lib.hid hP
        clear hP
        go_wp2_with fail
        go_round
        case rel =>
          refine ⟨k + 1, by omega, by go_num, fun j hj => ?_⟩
          by_cases e : j = k
          · subst e; rw [HP.out]; exact He.out
          · exact Hno.out j (by omega)
        case measure => simp [intOf]; omega
    · have Hv := Lib.hid (byteV_none p.data.toList (fun i hi => Hno.out i (by omega)))
      go_wp2_with fail
      go_ret
      exact ⟨ret_int (by rw [Hv.out]), hb⟩

/-- A text's length. -/
def strLen : Value → Nat
  | .string s => s.size
  | _ => 0

theorem rest_two (a b : UInt8) (r : List UInt8) : rest 16 (a :: b :: r) = if 0 ≤ byteV [a, b] then (rest 16 r).map (UInt8.ofNat (byteV [a, b]).toNat :: ·) else none := by
  have ha := hexv_le a.toNat
  have hb := hexv_le b.toNat
  have hbv : byteV [a, b] = if hexv a.toNat < 16 ∧ hexv b.toNat < 16 then ((16 * hexv a.toNat + hexv b.toNat : Nat) : Int) else -1 := rfl
  by_cases h1 : hexv a.toNat = 16
  · rw [rest, if_pos h1, hbv, if_neg (by omega)]; try rfl
  · rw [rest, if_neg h1, if_pos rfl]
    by_cases h2 : hexv b.toNat = 16
    · rw [rest, if_pos h2, hbv, if_neg (by omega)]; try rfl
    · rw [rest, if_neg h2, if_neg h1, hbv, if_pos (by omega), if_pos (by omega), Int.toNat_natCast]
theorem rest_one (a : UInt8) : rest 16 [a] = none := by
  have ha := hexv_le a.toNat
  by_cases h1 : hexv a.toNat = 16
  · rw [rest, if_pos h1]
  · rw [rest, if_neg h1, if_pos rfl, rest, if_neg h1]

theorem two_front (S : ByteArray) (h : 2 ≤ S.size) : ∃ a b, S.data.toList = a :: b :: (S.extract 2 S.size).data.toList ∧ (S.extract 0 2).data.toList = [a, b] := by
  have hl : S.data.toList.length = S.size := by simp
  have e2 : (S.extract 2 S.size).data.toList = S.data.toList.drop 2 := by
    rw [ByteArray.data_extract, Array.toList_extract, List.extract_eq_take_drop, List.take_of_length_le (by simp)]
  have e1 : (S.extract 0 2).data.toList = S.data.toList.take 2 := by
    rw [ByteArray.data_extract, Array.toList_extract, List.extract_eq_take_drop]; rfl
  rw [e1, e2]
  match hS : S.data.toList with
  | [] => rw [hS] at hl; simp at hl; omega
  | [a] => rw [hS] at hl; simp at hl; omega
  | a :: b :: r => exact ⟨a, b, rfl, rfl⟩

def HexedPost (l : List UInt8) (w : World) (e : Ending) (w' : World) : Prop := e = .returned (.bool (rest 16 l).isSome) ∧ Below w.heap.size w w'

theorem hexed_any (s : ByteArray) (w : World) (hs : s.size ≤ 3000) :
    Calls Try.prog 31 #[.string s] w (HexedPost s.data.toList w) := by
  go_enter Try.func31, Try.ntmps31
  go_wp2_with fail
  go_loopw [0] (fun v wr => ∃ S : ByteArray, v = .string S ∧ S.size ≤ 3000 ∧ (rest 16 s.data.toList).isSome = (rest 16 S.data.toList).isSome ∧ Below w.heap.size w wr)
    (fun v _ => strLen v)
  case atStart => exact ⟨s, rfl, hs, rfl, Below.refl _ _⟩
  case round =>
    obtain ⟨S, rfl, hS, hr, hb⟩ := hrel
    have Hr := Lib.hid hr
    clear hr
    by_cases h2 : 2 ≤ S.size
    · have h2I : (2 : Int) ≤ (S.size : Int) := by omega
      obtain ⟨a, b, e1, e2⟩ := two_front S h2
      have E1 := Lib.hid e1
      have E2 := Lib.hid e2
      clear e1 e2
      go_wp2_with fail
      refine (byteOf_any _ _).mono ?_
      rintro e w1 ⟨rfl, hb1⟩
      rw [E2.out]
      have Ht := Lib.hid (rest_two a b (S.extract 2 S.size).data.toList)
      have hsz : (S.extract 2 S.size).size = S.size - 2 := by simp
      by_cases hv : 0 ≤ byteV [a, b]
      · rw [if_pos hv] at Ht
        generalize byteV [a, b] = v at *
        go_wp2_with fail
        go_roundw
        case rel => exact ⟨S.extract 2 S.size, rfl, by omega, by rw [Hr.out, E1.out, Ht.out]; simp, bthen hb hb1⟩
        case measure => simp only [strLen]; omega
      · rw [if_neg hv] at Ht
        generalize byteV [a, b] = v at *
        have hv2 : v < 0 := by omega
        go_wp2_with fail
        go_ret
        exact ⟨by rw [Hr.out, E1.out, Ht.out]; rfl, bthen hb hb1⟩
    · have He : Hid (S.toList.isEmpty = (rest 16 S.data.toList).isSome) := by
        show _ = _
        rw [ByteArray.toList_eq]
        have hl : S.data.toList.length = S.size := by simp
        match hS : S.data.toList with
        | [] => rfl
        | [a] => rw [rest_one]; rfl
        | a :: b :: r => rw [hS] at hl; simp at hl; omega
      go_wp2_with fail
      go_ret
      exact ⟨by rw [Hr.out, ← He.out]; rfl, hb⟩

theorem refUnhex_any (s : ByteArray) (m : List UInt8) (w : World) (hs : s.size ≤ 3000) (hm : rest 16 s.data.toList = some m) :
    Calls Try.prog 32 #[.string s] w fun e w' => (∃ T : ByteArray, e = .returned (.string T) ∧ T.data.toList = m) ∧ Below w.heap.size w w' := by
  have Hm := Lib.hid hm
  clear hm
  go_enter Try.func32, Try.ntmps32
  go_wp2_with fail
  go_loopw [0, 3] (fun v t wr => ∃ (S T : ByteArray) (r : List UInt8), v = .string S ∧ t = .string T ∧ S.size ≤ 3000 ∧ 2 * T.size + S.size ≤ 3000 ∧ rest 16 S.data.toList = some r ∧ m = T.data.toList ++ r ∧ Below w.heap.size w wr)
    (fun v _ _ => strLen v)
  case atStart => exact ⟨s, ByteArray.mk #[], m, rfl, rfl, hs, by show 0 + _ ≤ _; omega, Hm.out, rfl, Below.refl _ _⟩
  case round =>
    obtain ⟨S, T, r, rfl, rfl, hS, hTS, hr, hmr, hb⟩ := hrel
    have Hr := Lib.hid hr
    have Hmr := Lib.hid hmr
    clear hr hmr
    by_cases h2 : 2 ≤ S.size
    · have h2I : (2 : Int) ≤ (S.size : Int) := by omega
      obtain ⟨a, b, e1, e2⟩ := two_front S h2
      have E1 := Lib.hid e1
      have E2 := Lib.hid e2
      clear e1 e2
      go_wp2_with fail
      refine (byteOf_any _ _).mono ?_
      rintro e w1 ⟨rfl, hb1⟩
      rw [E2.out]
      have Ht := Lib.hid (rest_two a b (S.extract 2 S.size).data.toList)
      have hsz : (S.extract 2 S.size).size = S.size - 2 := by simp
      by_cases hv : 0 ≤ byteV [a, b]
      · rw [if_pos hv] at Ht
        have hvlt : byteV [a, b] < 256 := byteV_lt _
        obtain ⟨r2, hr2, hr3⟩ : ∃ r2, rest 16 (S.extract 2 S.size).data.toList = some r2 ∧ r = UInt8.ofNat (byteV [a, b]).toNat :: r2 := by
          have h := Hr.out
          rw [E1.out, Ht.out] at h
          cases h4 : rest 16 (S.extract 2 S.size).data.toList with
          | none => rw [h4] at h; cases h
          | some r2 =>
            rw [h4] at h
            simp only [Option.map_some, Option.some.injEq] at h
            exact ⟨r2, rfl, h.symm⟩
        have Hr2 := Lib.hid hr2
        have Hr3 := Lib.hid hr3
        clear hr2 hr3
        generalize byteV [a, b] = v at *
        have hcv := fun W => run_string_one W v
        go_wp2_with fail
        go_roundw
        case rel =>
          refine ⟨S.extract 2 S.size, _, r2, rfl, rfl, by omega, ?_, Hr2.out, ?_, ?_⟩
          · rw [ByteArray.size_append]
            show 2 * (T.size + 1) + _ ≤ _
            omega
          · rw [Hmr.out, Hr3.out, ByteArray.data_append, Array.toList_append, List.append_assoc]; rfl
          · have := bthen hb hb1
            exact this.alloc this.size _
        case measure => simp only [strLen]; omega
      · rw [if_neg hv] at Ht
        have h := Hr.out
        rw [E1.out, Ht.out] at h
        cases h
    · have He : Hid (T.data.toList = m) := by
        show _ = _
        have hl : S.data.toList.length = S.size := by simp
        have h := Hr.out
        match hS : S.data.toList with
        | [] =>
          rw [hS, rest, if_pos rfl] at h
          injection h with h
          rw [Hmr.out, ← h]; simp
        | [a] => rw [hS, rest_one] at h; cases h
        | a :: b :: r => rw [hS] at hl; simp at hl; omega
      go_wp2_with fail
      go_ret
      exact ⟨⟨T, rfl, He.out⟩, hb⟩
end Go.Proofs.Ytbccljpbnbobmaa
