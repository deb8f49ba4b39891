/- The law BitsParts of layer 1, walked. Conditions: none. -/
import Derived.Test.YtbccljpbnbobmaaLaw1b
import Derived.Deep.RegionHeld
namespace Go.Proofs.Ytbccljpbnbobmaa
open Go.RowKit
set_option maxRecDepth 100000

theorem half_high (x : Nat) (hx : x < 4294967296) : 2147483648 ≤ half x ↔ x % 2 = 1 := by
  have hp : (0xedb88320 : Nat).testBit 31 = true := by decide
  have hl : (x / 2).testBit 31 = false := Nat.testBit_lt_two_pow (by omega)
  unfold half
  split
  · rename_i h
    have hb : (x / 2 ^^^ 0xedb88320).testBit 31 = true := by rw [Nat.testBit_xor, hp, hl]; rfl
    have := Nat.ge_two_pow_of_testBit hb
    exact ⟨fun _ => h, fun _ => this⟩
  · rename_i h
    exact ⟨fun h2 => by omega, fun h2 => absurd h2 h⟩

theorem half_inj (x y : Nat) (hx : x < 4294967296) (hy : y < 4294967296) (h : half x = half y) : x = y := by
  have h1 := half_high x hx
  have h2 := half_high y hy
  rw [h] at h1
  have h3 : x % 2 = 1 ↔ y % 2 = 1 := h1.symm.trans h2
  have h4 : x / 2 = y / 2 := by
    unfold half at h
    by_cases hp : x % 2 = 1
    · rw [if_pos hp, if_pos (h3.1 hp)] at h
      have := congrArg (· ^^^ 0xedb88320) h
      simpa [Nat.xor_assoc] using this
    · rw [if_neg hp, if_neg (fun hq => hp (h3.2 hq))] at h
      exact h
  omega

theorem halves_inj (k x y : Nat) (hx : x < 4294967296) (hy : y < 4294967296) (h : halves k x = halves k y) : x = y := by
  induction k with
  | zero => exact h
  | succ k ih => exact ih (half_inj _ _ (halves_lt k x hx) (halves_lt k y hy) h)

theorem xor_byte_lt (c : Nat) (hc : c < 4294967296) (b : UInt8) : c ^^^ b.toNat < 4294967296 := Nat.xor_lt_two_pow (n := 32) hc (by have := b.toNat_lt; omega)
theorem xor_left_inj {a b c : Nat} (h : a ^^^ c = b ^^^ c) : a = b := by
  have := congrArg (· ^^^ c) h
  simpa [Nat.xor_assoc] using this
theorem crcStep_inj (c d : Nat) (b : UInt8) (hc : c < 4294967296) (hd : d < 4294967296) (h : crcStep c b = crcStep d b) : c = d := by
  rw [crcStep_eq, crcStep_eq] at h
  exact xor_left_inj (halves_inj 8 _ _ (xor_byte_lt c hc b) (xor_byte_lt d hd b) h)
theorem crcL_inj (l : List UInt8) : ∀ c d, c < 4294967296 → d < 4294967296 → crcL c l = crcL d l → c = d := by
  induction l with
  | nil => intro c d _ _ h; exact h
  | cons b r ih => intro c d hc hd h; exact crcStep_inj c d b hc hd (ih _ _ (crcStep_lt c b hc) (crcStep_lt d b hd) h)
theorem crcStep_byte (c : Nat) (a b : UInt8) (hc : c < 4294967296) (h : crcStep c a = crcStep c b) : a = b := by
  rw [crcStep_eq, crcStep_eq] at h
  have h1 := halves_inj 8 _ _ (xor_byte_lt c hc a) (xor_byte_lt c hc b) h
  rw [Nat.xor_comm c, Nat.xor_comm c] at h1
  exact UInt8.toNat_inj.1 (xor_left_inj h1)
theorem crcOf_shows (l : List UInt8) (k : Nat) (hk : k < l.length) (x : UInt8) (hx : l[k] ≠ x) : crcOf 0 (l.take k ++ [x] ++ l.drop (k + 1)) ≠ crcOf 0 l := by
  intro h
  have h1 : crcL 4294967295 (l.take k ++ [x] ++ l.drop (k + 1)) = crcL 4294967295 l := by
    unfold crcOf at h
    have a := crcL_lt (l.take k ++ [x] ++ l.drop (k + 1)) (4294967295 - 0) (by decide)
    have b := crcL_lt l (4294967295 - 0) (by decide)
    rw [Nat.sub_zero] at *
    omega
  have e : l = l.take k ++ [l[k]] ++ l.drop (k + 1) := by
    have h1 := List.take_append_drop k l
    rw [List.drop_eq_getElem_cons hk] at h1
    rw [List.append_assoc]
    exact h1.symm
  have h2 : crcL 4294967295 (l.take k ++ [x] ++ l.drop (k + 1)) = crcL 4294967295 (l.take k ++ [l[k]] ++ l.drop (k + 1)) := h1.trans (congrArg _ e)
  rw [crcL_append, crcL_append, crcL_append, crcL_append] at h2
  have hq := crcL_lt (l.take k) 4294967295 (by decide)
  have h3 := crcL_inj _ _ _ (crcStep_lt _ x hq) (crcStep_lt _ l[k] hq) h2
  exact hx (crcStep_byte _ _ _ hq h3).symm

theorem crc_three (a b c : ByteArray) : crcOf (crcOf (crcOf 0 a.data.toList) b.data.toList) c.data.toList = crcOf 0 (a ++ b ++ c).data.toList := by
  rw [crcOf_append 0 (by decide), crcOf_append 0 (by decide), append_list, append_list]

theorem put_at (s : ByteArray) (k : Nat) (x : UInt8) : (s.extract 0 k ++ ⟨#[x]⟩ ++ s.extract (k + 1) s.size).data.toList = s.data.toList.take k ++ [x] ++ s.data.toList.drop (k + 1) := by
  rw [append_list, append_list]
  congr 1
  · congr 1
    simp
  · simp only [ByteArray.data_extract, Array.toList_extract]
    rw [List.extract_eq_take_drop, List.take_of_length_le (by simp)]

set_option maxHeartbeats 4000000 in
attribute [local go_sem] run_string_one in
theorem parts_any (a b c : ByteArray) (at_ : Int) (x : Nat) (hx : x < 256) (ha : a.size ≤ maxLen) (hb : b.size ≤ maxLen) (hc : c.size ≤ maxLen) (w : World) :
    Calls Try.prog 5 #[.string a, .string b, .string c, .int .i64 at_, .int .u8 (x : Int)] w fun e w' => e = .returned (.bool true) ∧ Below w.heap.size w w' := by
  have sa := few_size a 300
  have sb := few_size b 300
  have sc := few_size c 300
  have h3 := crc_three (few a 300) (few b 300) (few c 300)
  go_enter Try.func5, Try.ntmps5
  go_wp2_with fail
  refine (few_any a 300 (by decide) ha _).mono ?_
  rintro e w1 ⟨rfl, rfl⟩
  go_wp2_with fail
  refine (few_any b 300 (by decide) hb _).mono ?_
  rintro e w1 ⟨rfl, rfl⟩
  go_wp2_with fail
  refine (few_any c 300 (by decide) hc _).mono ?_
  rintro e w1 ⟨rfl, rfl⟩
  generalize few a 300 = a at *
  generalize few b 300 = b at *
  generalize few c 300 = c at *
  have ma : a.size ≤ maxLen := by unfold maxLen; omega
  have mb : b.size ≤ maxLen := by unfold maxLen; omega
  have mc : c.size ≤ maxLen := by unfold maxLen; omega
  have hsz : (a ++ b ++ c).size ≤ 900 := by rw [ByteArray.size_append, ByteArray.size_append]; omega
  have ms : (a ++ b ++ c).size ≤ maxLen := by unfold maxLen; omega
  have hq1 := crcOf_lt 0 a.data.toList
  have hq2 := crcOf_lt (crcOf 0 a.data.toList) b.data.toList
  have hbb := Below.refl w.heap.size w
  go_wp2_with fail
  generalize a ++ b ++ c = s at *
  refine (crc32_any a _ ma).mono ?_
  rintro e w1 ⟨rfl, h⟩
  replace hbb := bthen hbb h
  clear h
  go_wp2_with fail
  refine (crc_any _ hq1 b _ mb).mono ?_
  rintro e w2 ⟨rfl, h⟩
  replace hbb := bthen hbb h
  clear h
  go_wp2_with fail
  refine (crc_any _ hq2 c _ mc).mono ?_
  rintro e w3 ⟨rfl, h⟩
  replace hbb := bthen hbb h
  clear h
  go_wp2_with fail
  refine (crc32_any _ _ ms).mono ?_
  rintro e w4 ⟨rfl, h⟩
  replace hbb := bthen hbb h
  clear h hq1 hq2
  by_cases hneg : at_ < 0
  · go_wp2_with (go_at_call 14; refine (awake_any _).mono ?_; rintro e w5 ⟨rfl, h⟩; replace hbb := bthen hbb h)
    go_ret
    exact ⟨rfl, hbb⟩
  · obtain ⟨k, rfl⟩ := Int.eq_ofNat_of_zero_le (show 0 ≤ at_ by omega)
    by_cases hk : k < s.size
    · by_cases hxk : s[k].toNat = x
      · have hxb : ((s[k].toNat : Int) == (x : Int)) = true := by simp; omega
        go_wp2_with (go_at_call 14; refine (awake_any _).mono ?_; rintro e w5 ⟨rfl, h⟩; replace hbb := bthen hbb h)
        go_ret
        exact ⟨rfl, hbb⟩
      · have hxb : ((s[k].toNat : Int) == (x : Int)) = false := by simp; omega
        have hne := crcOf_shows s.data.toList k (by simpa using hk) (UInt8.ofNat x) (fun e => hxk (by
          have h2 : s[k] = UInt8.ofNat x := e
          rw [h2]; simp; omega))
        rw [← put_at] at hne
        clear h3
        have hX : (s.extract 0 k ++ ⟨#[UInt8.ofNat x]⟩ ++ s.extract (k + 1) s.size).size ≤ maxLen := by
          simp only [ByteArray.size_append, ByteArray.size_extract]
          show _ + 1 + _ ≤ _
          unfold maxLen
          omega
        have hneb : ((crcOf 0 (s.extract 0 k ++ ⟨#[UInt8.ofNat x]⟩ ++ s.extract (k + 1) s.size).data.toList : Int) != (crcOf 0 s.data.toList : Int)) = true := by
          rw [bne_iff_ne]; omega
        clear hne
        generalize hXe : s.extract 0 k ++ ⟨#[UInt8.ofNat x]⟩ ++ s.extract (k + 1) s.size = X at *
        have hkI : (k : Int) < (s.size : Int) := by omega
        have hw : IntKind.i64.wrap ((k : Int) + 1) = (k : Int) + 1 := IntWalk.i64_in _ (by omega)
        have hn1 : ((k : Int) + 1).toNat = k + 1 := by omega
        have hp1 : 0 ≤ (k : Int) + 1 := by omega
        have hp2 : (k : Int) + 1 ≤ (s.size : Int) := by omega
        go_wp2_with fail
        go_region_held (fun _ => True) (exact True.intro)
          (first
          | (go_at_call 14; refine (awake_any _).mono ?_; rintro e w5 ⟨rfl, h⟩; replace hbb : Below w.heap.size w w5 := by (first | exact bthen hbb h | exact bthen (hbb.alloc hbb.size _) h | exact bthen hbb.drew h | exact bthen (hbb.drew.alloc hbb.size _) h))
          | (go_at_call 15; refine (crc32_any s _ ms).mono ?_; rintro e w6 ⟨rfl, h⟩; replace hbb : Below w.heap.size w w6 := by (first | exact bthen hbb h | exact bthen (hbb.alloc hbb.size _) h | exact bthen hbb.drew h | exact bthen (hbb.drew.alloc hbb.size _) h))
          | (go_at_call 15; refine (crc32_any X _ hX).mono ?_; rintro e w6 ⟨rfl, h⟩; replace hbb : Below w.heap.size w w6 := by (first | exact bthen hbb h | exact bthen (hbb.alloc hbb.size _) h | exact bthen hbb.drew h | exact bthen (hbb.drew.alloc hbb.size _) h)))
        all_goals
          go_wp2_with fail
          go_ret
          exact ⟨rfl, hbb⟩
    · go_wp2_with (go_at_call 14; refine (awake_any _).mono ?_; rintro e w5 ⟨rfl, h⟩; replace hbb := bthen hbb h)
      go_ret
      exact ⟨rfl, hbb⟩
end Go.Proofs.Ytbccljpbnbobmaa
