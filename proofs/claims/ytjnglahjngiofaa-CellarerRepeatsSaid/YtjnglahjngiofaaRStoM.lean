/- inflate's reader: stored, as the plain one says. Conditions: texts of at most a hundred thousand bytes. -/
import Derived.Test.YtjnglahjngiofaaRSto
namespace Go.Proofs.Ytjnglahjngiofaa
open Go.RowKit
set_option maxRecDepth 100000

/-- A reader's place as the plain one's. -/
def sg (s : ByteArray) (p z : Nat) : Sg := ⟨num s / 2 ^ p, 8 * s.size - p, z⟩
theorem bits_sg (s : ByteArray) (p z k : Nat) (hp : p + k ≤ 8 * s.size) : bitsM k (sg s p z) = .ok (bitsAt s p k, sg s (p + k) z) := by
  unfold bitsM sg
  have h : ¬ 8 * s.size - p < k := by omega
  rw [if_neg h]
  unfold bitsAt
  have e1 : num s / 2 ^ p / 2 ^ k = num s / 2 ^ (p + k) := by rw [Nat.div_div_eq_div_mul, ← Nat.pow_add]
  have e2 : 8 * s.size - p - k = 8 * s.size - (p + k) := by omega
  rw [e1, e2]
theorem bits_sg_short (s : ByteArray) (p z k : Nat) (hp : p ≤ 8 * s.size) (hk : 8 * s.size < p + k) : bitsM k (sg s p z) = .error 6 := by
  unfold bitsM sg
  have h : 8 * s.size - p < k := by omega
  rw [if_pos h]
theorem even_sg (s : ByteArray) (p z : Nat) (hp : p ≤ 8 * s.size) : evenM (sg s p z) = sg s ((p + 7) / 8 * 8) z ∧ (p + 7) / 8 * 8 ≤ 8 * s.size := by
  refine ⟨?_, by omega⟩
  unfold evenM sg
  have e0 : (8 * s.size - p) % 8 = (p + 7) / 8 * 8 - p := by omega
  have e1 : num s / 2 ^ p / 2 ^ ((p + 7) / 8 * 8 - p) = num s / 2 ^ ((p + 7) / 8 * 8) := by
    rw [Nat.div_div_eq_div_mul, ← Nat.pow_add, show p + ((p + 7) / 8 * 8 - p) = (p + 7) / 8 * 8 by omega]
  have e2 : 8 * s.size - p - ((p + 7) / 8 * 8 - p) = 8 * s.size - (p + 7) / 8 * 8 := by omega
  simp only [e0]
  rw [e1, e2]
theorem bytesX_at (s : ByteArray) (k : Nat) : ∀ q, q + k ≤ s.size → bytesX (num s / 2 ^ (8 * q)) k = ((s.data.toList).drop q).take k := by
  induction k with
  | zero => intro q _; rfl
  | succ k ih =>
    intro q hq
    have hlt : q < s.size := by omega
    have h1 := num_byte s q hlt
    have e1 : num s / 2 ^ (8 * q) % 256 = (s[q]).toNat := by
      rw [Nat.pow_mul, show (2 : Nat) ^ 8 = 256 by decide]
      exact h1
    have e2 : num s / 2 ^ (8 * q) / 256 = num s / 2 ^ (8 * (q + 1)) := by
      rw [Nat.div_div_eq_div_mul, show (256 : Nat) = 2 ^ 8 by decide, ← Nat.pow_add]
      congr 2
    show UInt8.ofNat (num s / 2 ^ (8 * q) % 256) :: bytesX (num s / 2 ^ (8 * q) / 256) k = _
    have hd := List.drop_eq_getElem_cons (l := s.data.toList) (i := q) (by simpa using hlt)
    rw [e1, e2, ih (q + 1) (by omega), hd, List.take_succ_cons]
    congr 1
    simp
    rfl
theorem extract_list (s : ByteArray) (a b : Nat) : s.extract a b = ⟨(((s.data.toList).drop a).take (b - a)).toArray⟩ := by
  apply ByteArray.ext
  rw [ByteArray.data_extract]
  apply Array.ext'
  rw [Array.toList_extract, List.extract_eq_take_drop]

theorem stored_err (R P : Nat) (s : ByteArray) (p z most e : Nat) (he : e ≠ 0) (hs : s.size ≤ 100000) (hp : p ≤ 900000) (hz : z ≤ 1000000) (hm : most ≤ 1000000) (w : World) (hR : RdAt w R P s p z most e) :
    Calls Try.prog 48 #[.pointer (some ⟨R, 0, none⟩)] w fun r w' => Rch R P w w' ∧ (∃ t, r = .returned (.string t)) ∧ ∃ p', RdAt w' R P s p' z most e := by
  have h1 : ∀ a k, bitsE s a k e = e := fun a k => by unfold bitsE firstE; split <;> first | rfl | rw [if_neg he]
  refine (stored_raw R P s p z most e _ _ _ _ _ _ hs hp hz hm rfl rfl rfl rfl rfl rfl w hR).mono ?_
  rintro r w' ⟨hc, hh⟩
  simp only [h1] at hh
  have h2 : ∀ a : Nat, (if a = 65535 then e else firstE e 3) = e := fun a => by split <;> simp [firstE, he]
  simp only [h2] at hh
  rcases hh with ⟨_, a2, a3⟩ | ⟨a1, _⟩
  · exact ⟨hc, ⟨_, a2⟩, _, a3⟩
  · exact absurd a1 he

/-- What a call left: an error, or what the plain one says. -/
def RdRes (w' : World) (R P : Nat) (s : ByteArray) (most : Nat) {α : Type} (res : Rs α) (val : α → Prop) : Prop :=
  (∃ e p z, res = .error e ∧ e ≠ 0 ∧ RdAt w' R P s p z most e) ∨ (∃ a p z, res = .ok (a, sg s p z) ∧ p ≤ 8 * s.size ∧ z ≤ most ∧ RdAt w' R P s p z most 0 ∧ val a)

theorem stored_m (R P : Nat) (s : ByteArray) (p z most : Nat) (hs : s.size ≤ 100000) (hp : p ≤ 8 * s.size) (hz : z ≤ most) (hm : most ≤ 1000000) (w : World) (hR : RdAt w R P s p z most 0) :
    Calls Try.prog 48 #[.pointer (some ⟨R, 0, none⟩)] w fun r w' => Rch R P w w' ∧ (∃ t, r = .returned (.string t)) ∧ RdRes w' R P s most (storedM most (sg s p z)) (fun l => r = .returned (.string ⟨l.toArray⟩)) := by
  refine (stored_raw R P s p z most 0 _ _ _ _ _ _ hs (by omega) (by omega) hm rfl rfl rfl rfl rfl rfl w hR).mono ?_
  rintro r w' ⟨hc, hh⟩
  obtain ⟨he, hp0⟩ := even_sg s p z hp
  obtain ⟨p0, Hp0⟩ : ∃ p0, (p + 7) / 8 * 8 = p0 := ⟨_, rfl⟩
  have hp8 : p0 % 8 = 0 := by omega
  simp only [Hp0] at hh he hp0
  unfold storedM
  rw [he]
  by_cases h1 : 8 * s.size < p0 + 16
  · rw [bits_sg_short s p0 z 16 hp0 h1]
    have e1 : bitsE s p0 16 0 = 6 := by unfold bitsE; rw [if_pos h1]; rfl
    have e2 : bitsE s (p0 + 16) 16 6 = 6 := by unfold bitsE firstE; split <;> rfl
    simp only [e1, e2] at hh
    have h2 : ∀ a : Nat, (if a = 65535 then 6 else firstE 6 3) = 6 := fun a => by split <;> rfl
    simp only [h2] at hh
    rcases hh with ⟨_, a2, a3⟩ | ⟨a1, _⟩
    · exact ⟨hc, ⟨_, a2⟩, .inl ⟨6, _, _, rfl, by decide, a3⟩⟩
    · exact absurd a1 (by decide)
  · rw [bits_sg s p0 z 16 (by omega), thenR_ok]
    have e1 : bitsE s p0 16 0 = 0 := by unfold bitsE; rw [if_neg h1]
    simp only [e1] at hh
    by_cases h2 : 8 * s.size < p0 + 16 + 16
    · rw [bits_sg_short s (p0 + 16) z 16 (by omega) h2]
      have e2 : bitsE s (p0 + 16) 16 0 = 6 := by unfold bitsE; rw [if_pos h2]; rfl
      simp only [e2] at hh
      have h3 : ∀ a : Nat, (if a = 65535 then 6 else firstE 6 3) = 6 := fun a => by split <;> rfl
      simp only [h3] at hh
      rcases hh with ⟨_, a2, a3⟩ | ⟨a1, _⟩
      · exact ⟨hc, ⟨_, a2⟩, .inl ⟨6, _, _, rfl, by decide, a3⟩⟩
      · exact absurd a1 (by decide)
    · rw [bits_sg s (p0 + 16) z 16 (by omega), thenR_ok]
      have e2 : bitsE s (p0 + 16) 16 0 = 0 := by unfold bitsE; rw [if_neg h2]
      simp only [e2] at hh
      have hv1l := bitsAt_lt s p0 16 (by decide)
      have hv2l := bitsAt_lt s (p0 + 16) 16 (by decide)
      obtain ⟨v1, Hv1⟩ : ∃ v, bitsAt s p0 16 = v := ⟨_, rfl⟩
      obtain ⟨v2, Hv2⟩ : ∃ v, bitsAt s (p0 + 16) 16 = v := ⟨_, rfl⟩
      simp only [Hv1, Hv2] at hh hv1l hv2l ⊢
      have hx := xor16 v1 v2 hv1l hv2l
      by_cases h3 : v1 ^^^ v2 = 65535
      · have h3b : ¬ (v1 + v2 ≠ 65535) := fun h => h (hx.1 h3)
        rw [if_neg h3b]
        rw [if_pos h3] at hh
        rcases hh with ⟨a1, _⟩ | ⟨_, a2, a3⟩
        · exact absurd rfl a1
        · refine ⟨hc, ⟨_, a2⟩, ?_⟩
          have ep : (p0 + 16 + 16 + 7) / 8 * 8 = p0 + 16 + 16 := by omega
          obtain ⟨q, hq⟩ : ∃ q, p0 + 16 + 16 = 8 * q := ⟨(p0 + 16 + 16) / 8, by omega⟩
          have hqs : q ≤ s.size := by omega
          rw [hq] at a2 a3 ep h2 ⊢
          rw [ep] at a3
          have ef : stoF s (8 * q) = q := by unfold stoF; omega
          have et : stoT s (8 * q) v1 = min (q + v1) s.size := by unfold stoT; rw [ef]
          rw [ef, et] at a2 a3
          by_cases h4 : s.size < q + v1
          · have h5 : (sg s (8 * q) z).n < 8 * v1 := by show 8 * s.size - 8 * q < 8 * v1; omega
            rw [if_pos h5]
            have e3 : min (q + v1) s.size - q < v1 := by omega
            rw [if_pos e3] at a3
            have e4 : growE most (z + v1) 6 = 6 := by unfold growE firstE; split <;> rfl
            rw [e4] at a3
            exact .inl ⟨6, _, _, rfl, by decide, a3⟩
          · have h5 : ¬ (sg s (8 * q) z).n < 8 * v1 := by show ¬ 8 * s.size - 8 * q < 8 * v1; omega
            rw [if_neg h5]
            have e3 : ¬ min (q + v1) s.size - q < v1 := by omega
            rw [if_neg e3] at a3
            unfold growM
            have e5 : (sg s (8 * q) z).out = z := rfl
            simp only [e5]
            by_cases h6 : most < z + v1
            · rw [if_pos h6, thenR_err]
              have e4 : growE most (z + v1) 0 = 2 := by unfold growE; rw [if_pos h6]; rfl
              rw [e4] at a3
              exact .inl ⟨2, _, _, rfl, by decide, a3⟩
            · rw [if_neg h6, thenR_ok]
              have e4 : growE most (z + v1) 0 = 0 := by unfold growE; rw [if_neg h6]
              rw [e4] at a3
              refine .inr ⟨bytesX (sg s (8 * q) z).X v1, 8 * q + 8 * v1, z + v1, ?_, by omega, by omega, a3, ?_⟩
              · have e7 : (sg s (8 * q) z).X = num s / 2 ^ (8 * q) := rfl
                have e8 : (sg s (8 * q) z).n = 8 * s.size - 8 * q := rfl
                unfold sg
                congr 2
                · simp only [Sg.mk.injEq]
                  refine ⟨?_, by omega, trivial⟩
                  rw [Nat.div_div_eq_div_mul, ← Nat.pow_add]
              · have e7 : (sg s (8 * q) z).X = num s / 2 ^ (8 * q) := rfl
                rw [a2, extract_list, e7, bytesX_at s v1 q (by omega), show min (q + v1) s.size - q = v1 by omega]
      · have h3b : v1 + v2 ≠ 65535 := fun h => h3 (hx.2 h)
        rw [if_pos h3b]
        rw [if_neg h3] at hh
        rcases hh with ⟨_, a2, a3⟩ | ⟨a1, _⟩
        · exact ⟨hc, ⟨_, a2⟩, .inl ⟨3, _, _, rfl, by decide, a3⟩⟩
        · exact absurd a1 (by decide)
end Go.Proofs.Ytjnglahjngiofaa
