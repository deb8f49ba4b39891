/- A stream with more behind it; a stream that is cut; a lower limit. Plain. Conditions: none. -/
import Derived.Test.YtjnglahjngiofaaInfSim
import Derived.Test.YtjnglahjngiofaaRStoM
namespace Go.Proofs.Ytjnglahjngiofaa
open Go.RowKit

theorem symM_inv {L : Nat → Nat} {c : Nat} {σ σ' : Sg} {a : Nat} (h : symM L c σ = .ok (a, σ')) : ∃ t, NextOut (bitsF L c) L (InAll L c) σ.X σ.n 0 a 0 t ∧ t ≤ σ.n ∧ σ' = ⟨σ.X / 2 ^ t, σ.n - t, σ.out⟩ := by
  classical
  unfold symM at h
  by_cases h0 : (nextR L c σ.X σ.n).2.1 = 0
  · rw [if_pos h0] at h
    by_cases hex : ∃ r : Nat × Nat × Nat, NextOut (bitsF L c) L (InAll L c) σ.X σ.n 0 r.1 r.2.1 r.2.2
    · have e : nextR L c σ.X σ.n = Classical.choose hex := by unfold nextR; rw [dif_pos hex]
      have hs := Classical.choose_spec hex
      rw [e] at h0 h
      rw [h0] at hs
      injection h with h; injection h with h4 h
      refine ⟨_, h4 ▸ hs, ?_, h.symm⟩
      obtain ⟨_, _, ⟨_, b2, _⟩ | ⟨_, _, b3, _⟩ | ⟨b0, _⟩⟩ := hs
      · cases b2
      · cases b3
      · omega
    · have e : nextR L c σ.X σ.n = (0, 3, 1) := by unfold nextR; rw [dif_neg hex]
      rw [e] at h0
      cases h0
  · rw [if_neg h0] at h
    cases h
theorem symM_ok {L : Nat → Nat} {c : Nat} (h15 : ∀ i, i < c → L i ≤ 15) {σ : Sg} {a t : Nat} (h : NextOut (bitsF L c) L (InAll L c) σ.X σ.n 0 a 0 t) : symM L c σ = .ok (a, ⟨σ.X / 2 ^ t, σ.n - t, σ.out⟩) := by
  unfold symM
  rw [nextR_of L c h15 h]
  rfl
theorem symM_error {L : Nat → Nat} {c : Nat} (h15 : ∀ i, i < c → L i ≤ 15) {σ : Sg} {a e t : Nat} (he : e ≠ 0) (h : NextOut (bitsF L c) L (InAll L c) σ.X σ.n 0 a e t) : symM L c σ = .error e := by
  unfold symM
  rw [nextR_of L c h15 h, if_neg he]
/-- A symbol depends on the bits that it has alone. -/
theorem NextOut.like {F L : Nat → Nat} {In : Nat → Prop} {X X' nb nb' s t r : Nat} (h : NextOut F L In X nb 0 s 0 t) (hr : t ≤ r) (hn : t ≤ nb') (hX : X' % 2 ^ r = X % 2 ^ r) : NextOut F L In X' nb' 0 s 0 t := by
  have hrev : ∀ m, m ≤ t → rev X' m = rev X m := fun m hm => by rw [← rev_mod X' m r (by omega), hX, rev_mod X m r (by omega)]
  obtain ⟨h1, h2, h3⟩ := h
  refine ⟨h1, fun m a b => ?_, ?_⟩
  · rw [hrev m (by omega)]
    exact ⟨by omega, (h2 m a b).2⟩
  · rcases h3 with ⟨_, b2, _⟩ | ⟨_, _, b3, _⟩ | ⟨b0, b2, b3, b4, b5⟩
    · cases b2
    · cases b3
    · exact .inr (.inr ⟨by omega, b2, b3, by rw [hrev t (Nat.le_refl _)]; exact b4, rfl⟩)
theorem NextOut.short {F L : Nat → Nat} {In : Nat → Prop} {X X' nb nb' s t : Nat} (h : NextOut F L In X nb 0 s 0 t) (hn : nb' < t) (hX : X' % 2 ^ nb' = X % 2 ^ nb') : NextOut F L In X' nb' 0 0 6 (nb' + 1) := by
  have hrev : ∀ m, m ≤ nb' → rev X' m = rev X m := fun m hm => by rw [← rev_mod X' m nb' hm, hX, rev_mod X m nb' hm]
  obtain ⟨h1, h2, h3⟩ := h
  refine ⟨by omega, fun m a b => ?_, .inl ⟨by omega, rfl, rfl⟩⟩
  rw [hrev m (by omega)]
  exact ⟨by omega, (h2 m a (by omega)).2⟩
theorem bytesX_mod (k : Nat) : ∀ X r, 8 * k ≤ r → bytesX (X % 2 ^ r) k = bytesX X k := by
  induction k with
  | zero => intro X r _; rfl
  | succ k ih =>
    intro X r hr
    obtain ⟨q, rfl⟩ : ∃ q, r = 8 + q := ⟨r - 8, by omega⟩
    have e1 : X % 2 ^ (8 + q) % 256 = X % 256 := by
      rw [Nat.pow_add]
      exact Nat.mod_mod_of_dvd _ ⟨2 ^ q, rfl⟩
    have e2 : X % 2 ^ (8 + q) / 256 = X / 256 % 2 ^ q := by
      rw [Nat.pow_add, show (2 : Nat) ^ 8 = 256 by decide, Nat.mod_mul_right_div_self]
    show UInt8.ofNat (X % 2 ^ (8 + q) % 256) :: bytesX (X % 2 ^ (8 + q) / 256) k = UInt8.ofNat (X % 256) :: bytesX (X / 256) k
    rw [e1, e2, ih _ _ (by omega)]
theorem bytesX_like {X X' k r : Nat} (hr : 8 * k ≤ r) (hX : X' % 2 ^ r = X % 2 ^ r) : bytesX X' k = bytesX X k := by rw [← bytesX_mod k X' r hr, hX, bytesX_mod k X r hr]

/-- More behind it. -/
def extS (m Y : Nat) (σ : Sg) : Sg := ⟨σ.X + 2 ^ σ.n * Y, σ.n + m, σ.out⟩
theorem ext_div (X n Y k : Nat) (h : k ≤ n) : (X + 2 ^ n * Y) / 2 ^ k = X / 2 ^ k + 2 ^ (n - k) * Y := by
  have e : 2 ^ n * Y = 2 ^ k * (2 ^ (n - k) * Y) := by rw [← Nat.mul_assoc, ← Nat.pow_add, show k + (n - k) = n by omega]
  rw [e, Nat.add_mul_div_left _ _ (Nat.two_pow_pos k)]
theorem ext_mod (X n Y k : Nat) (h : k ≤ n) : (X + 2 ^ n * Y) % 2 ^ k = X % 2 ^ k := by
  have e : 2 ^ n * Y = 2 ^ k * (2 ^ (n - k) * Y) := by rw [← Nat.mul_assoc, ← Nat.pow_add, show k + (n - k) = n by omega]
  rw [e, Nat.add_mul_mod_self_left]
theorem way_ext (j Y most : Nat) : Way (extS (8 * j) Y) (fun _ => True) 0 most most where
  mono _ _ _ _ _ := trivial
  bits k σ _ a σ1 h := by
    unfold bitsM at h
    by_cases hk : σ.n < k
    · rw [if_pos hk] at h; cases h
    · rw [if_neg hk] at h
      injection h with h; injection h with h1 h; subst h; subst h1
      refine .inl ⟨trivial, ?_⟩
      unfold bitsM extS
      rw [if_neg (by show ¬ σ.n + 8 * j < k; omega)]
      show Except.ok ((σ.X + 2 ^ σ.n * Y) % 2 ^ k, (⟨(σ.X + 2 ^ σ.n * Y) / 2 ^ k, σ.n + 8 * j - k, σ.out⟩ : Sg)) = _
      rw [ext_div _ _ _ _ (by omega), ext_mod _ _ _ _ (by omega), show σ.n + 8 * j - k = σ.n - k + 8 * j by omega]
  sym L c σ h15 _ a σ1 h := by
    obtain ⟨t, h1, h2, rfl⟩ := symM_inv h
    refine .inl ⟨trivial, ?_⟩
    rw [symM_ok h15 (σ := extS (8 * j) Y σ) (h1.like (r := σ.n) h2 (by show t ≤ σ.n + 8 * j; omega) (ext_mod _ _ _ _ (Nat.le_refl _)))]
    unfold extS
    show Except.ok (a, (⟨(σ.X + 2 ^ σ.n * Y) / 2 ^ t, σ.n + 8 * j - t, σ.out⟩ : Sg)) = _
    rw [ext_div _ _ _ _ h2, show σ.n + 8 * j - t = σ.n - t + 8 * j by omega]
  grow k σ _ a σ1 h := by
    unfold growM at h
    by_cases hk : most < σ.out + k
    · rw [if_pos hk] at h; cases h
    · rw [if_neg hk] at h
      injection h with h; injection h with h1 h; subst h; subst h1
      refine .inl ⟨trivial, ?_⟩
      unfold growM extS
      rw [if_neg hk]
  out _ := rfl
  even σ _ := by
    refine ⟨?_, trivial⟩
    unfold evenM extS
    dsimp only
    rw [show (σ.n + 8 * j) % 8 = σ.n % 8 by omega, ext_div _ _ _ _ (Nat.mod_le _ _), show σ.n - σ.n % 8 + 8 * j = σ.n + 8 * j - σ.n % 8 by omega]
  take k σ _ a σ1 h := by
    unfold takeM at h
    by_cases hk : σ.n < 8 * k
    · rw [if_pos hk] at h; cases h
    · rw [if_neg hk] at h
      injection h with h; injection h with h1 h; subst h; subst h1
      refine .inl ⟨trivial, ?_⟩
      unfold takeM extS
      rw [if_neg (by show ¬ σ.n + 8 * j < 8 * k; omega)]
      show Except.ok (bytesX (σ.X + 2 ^ σ.n * Y) k, (⟨(σ.X + 2 ^ σ.n * Y) / 2 ^ (8 * k), σ.n + 8 * j - 8 * k, σ.out⟩ : Sg)) = _
      rw [ext_div _ _ _ _ (by omega), bytesX_like (X := σ.X) (r := σ.n) (by omega) (ext_mod _ _ _ _ (Nat.le_refl _)), show σ.n + 8 * j - 8 * k = σ.n - 8 * k + 8 * j by omega]

/-- Cut. -/
def cutS (m : Nat) (σ : Sg) : Sg := ⟨σ.X % 2 ^ (σ.n - m), σ.n - m, σ.out⟩
theorem cut_div (X r k : Nat) (h : k ≤ r) : X % 2 ^ r / 2 ^ k = X / 2 ^ k % 2 ^ (r - k) := by
  obtain ⟨q, rfl⟩ : ∃ q, r = k + q := ⟨r - k, by omega⟩
  rw [Nat.pow_add, Nat.mod_mul_right_div_self, show k + q - k = q by omega]
theorem cut_mod (X r k : Nat) (h : k ≤ r) : X % 2 ^ r % 2 ^ k = X % 2 ^ k := Nat.mod_mod_of_dvd _ (Nat.pow_dvd_pow 2 h)
theorem way_cut (j most : Nat) : Way (cutS (8 * j)) (fun σ => 8 * j ≤ σ.n) 6 most most where
  mono _ _ h1 h2 _ := Nat.le_trans h1 h2
  bits k σ hg a σ1 h := by
    unfold bitsM at h
    by_cases hk : σ.n < k
    · rw [if_pos hk] at h; cases h
    · rw [if_neg hk] at h
      injection h with h; injection h with h1 h; subst h; subst h1
      by_cases hc : 8 * j ≤ σ.n - k
      · refine .inl ⟨hc, ?_⟩
        unfold bitsM cutS
        rw [if_neg (by show ¬ σ.n - 8 * j < k; omega)]
        show Except.ok (σ.X % 2 ^ (σ.n - 8 * j) % 2 ^ k, (⟨σ.X % 2 ^ (σ.n - 8 * j) / 2 ^ k, σ.n - 8 * j - k, σ.out⟩ : Sg)) = _
        rw [cut_div _ _ _ (by omega), cut_mod _ _ _ (by omega), show σ.n - 8 * j - k = σ.n - k - 8 * j by omega]
      · refine .inr ⟨hc, ?_⟩
        unfold bitsM cutS
        rw [if_pos (by show σ.n - 8 * j < k; omega)]
  sym L c σ h15 hg a σ1 h := by
    obtain ⟨t, h1, h2, rfl⟩ := symM_inv h
    by_cases hc : 8 * j ≤ σ.n - t
    · refine .inl ⟨hc, ?_⟩
      rw [symM_ok h15 (σ := cutS (8 * j) σ) (h1.like (r := σ.n - 8 * j) (by omega) (by show t ≤ σ.n - 8 * j; omega) (cut_mod _ _ _ (Nat.le_refl _)))]
      unfold cutS
      show Except.ok (a, (⟨σ.X % 2 ^ (σ.n - 8 * j) / 2 ^ t, σ.n - 8 * j - t, σ.out⟩ : Sg)) = _
      rw [cut_div _ _ _ (by omega), show σ.n - 8 * j - t = σ.n - t - 8 * j by omega]
    · refine .inr ⟨hc, ?_⟩
      exact symM_error h15 (σ := cutS (8 * j) σ) (by decide) (h1.short (nb' := σ.n - 8 * j) (by omega) (cut_mod _ _ _ (Nat.le_refl _)))
  grow k σ hg a σ1 h := by
    unfold growM at h
    by_cases hk : most < σ.out + k
    · rw [if_pos hk] at h; cases h
    · rw [if_neg hk] at h
      injection h with h; injection h with h1 h; subst h; subst h1
      refine .inl ⟨hg, ?_⟩
      unfold growM cutS
      rw [if_neg hk]
  out _ := rfl
  even σ hg := by
    unfold evenM cutS
    dsimp only
    refine ⟨?_, by omega⟩
    rw [show (σ.n - 8 * j) % 8 = σ.n % 8 by omega, cut_div _ _ _ (by omega), show σ.n - σ.n % 8 - 8 * j = σ.n - 8 * j - σ.n % 8 by omega]
  take k σ hg a σ1 h := by
    unfold takeM at h
    by_cases hk : σ.n < 8 * k
    · rw [if_pos hk] at h; cases h
    · rw [if_neg hk] at h
      injection h with h; injection h with h1 h; subst h; subst h1
      by_cases hc : 8 * j ≤ σ.n - 8 * k
      · refine .inl ⟨hc, ?_⟩
        unfold takeM cutS
        rw [if_neg (by show ¬ σ.n - 8 * j < 8 * k; omega)]
        show Except.ok (bytesX (σ.X % 2 ^ (σ.n - 8 * j)) k, (⟨σ.X % 2 ^ (σ.n - 8 * j) / 2 ^ (8 * k), σ.n - 8 * j - 8 * k, σ.out⟩ : Sg)) = _
        rw [cut_div _ _ _ (by omega), bytesX_mod _ _ _ (by omega), show σ.n - 8 * j - 8 * k = σ.n - 8 * k - 8 * j by omega]
      · refine .inr ⟨hc, ?_⟩
        unfold takeM cutS
        rw [if_pos (by show σ.n - 8 * j < 8 * k; omega)]

/-- Another limit. -/
theorem way_less (most most' : Nat) : Way id (fun σ => σ.out ≤ most') 2 most most' where
  mono _ _ h1 _ h2 := Nat.le_trans h2 h1
  bits k σ hg a σ1 h := .inl ⟨by show σ1.out ≤ most'; rw [(bitsM_out h).1]; exact hg, h⟩
  sym L c σ _ hg a σ1 h := .inl ⟨by show σ1.out ≤ most'; rw [symM_out h]; exact hg, h⟩
  grow k σ hg a σ1 h := by
    unfold growM at h
    by_cases hk : most < σ.out + k
    · rw [if_pos hk] at h; cases h
    · rw [if_neg hk] at h
      injection h with h; injection h with h1 h; subst h; subst h1
      by_cases hc : σ.out + k ≤ most'
      · refine .inl ⟨hc, ?_⟩
        unfold growM
        rw [if_neg (by show ¬ most' < σ.out + k; omega)]
        rfl
      · refine .inr ⟨hc, ?_⟩
        unfold growM
        rw [if_pos (by show most' < σ.out + k; omega)]
  out _ := rfl
  even σ hg := ⟨rfl, hg⟩
  take k σ hg a σ1 h := .inl ⟨by
    unfold takeM at h
    split at h
    · cases h
    · injection h with h; injection h with _ h; subst h; exact hg, h⟩

/-- The blocks of a text. -/
noncomputable def inflR (u : ByteArray) (most : Nat) : Rs (List Bk) := blocksM most (8 * u.size + 1) (sg u 0 0) []
theorem num_append (u v : ByteArray) : num (u ++ v) = num u + 2 ^ (8 * u.size) * num v := by
  unfold num
  have e : (u ++ v).data.toList = u.data.toList ++ v.data.toList := by simp
  rw [e, leN_append, Nat.mul_comm, ← pow256]
  simp
theorem num_cut (u : ByteArray) (k : Nat) (hk : k ≤ u.size) : num (u.extract 0 k) = num u % 2 ^ (8 * k) := by
  have e : u.data.toList = (u.data.toList).take k ++ (u.data.toList).drop k := (List.take_append_drop k _).symm
  have e2 : (u.extract 0 k).data.toList = (u.data.toList).take k := by
    rw [extract_list]
    simp
  unfold num
  rw [e2]
  have hl : ((u.data.toList).take k).length = k := by rw [List.length_take]; have : u.data.toList.length = u.size := by simp
                                                      omega
  have h3 := leN_append ((u.data.toList).take k) ((u.data.toList).drop k)
  rw [← e, hl, pow256] at h3
  have h4 := leN_lt ((u.data.toList).take k)
  rw [hl, pow256] at h4
  rw [h3, Nat.add_mul_mod_self_right, Nat.mod_eq_of_lt h4]
theorem infl_ext {u : ByteArray} {most : Nat} {bs : List Bk} {σ : Sg} (h : inflR u most = .ok (bs, σ)) (v : ByteArray) : inflR (u ++ v) most = .ok (bs, extS (8 * v.size) (num v) σ) := by
  have hs : (u ++ v).size = u.size + v.size := ByteArray.size_append
  have e : extS (8 * v.size) (num v) (sg u 0 0) = sg (u ++ v) 0 0 := by
    unfold extS sg
    rw [num_append, hs]
    simp
    omega
  have := (way_ext v.size (num v) most).blocks (8 * u.size + 1) (8 * (u ++ v).size + 1) (sg u 0 0) [] trivial (by rw [e]; exact Nat.lt_succ_self _) bs σ h
  rw [e] at this
  rcases this with ⟨_, h⟩ | ⟨h, _⟩
  · exact h
  · exact absurd trivial h
theorem infl_cut {u : ByteArray} {most : Nat} {bs : List Bk} {σ : Sg} (h : inflR u most = .ok (bs, σ)) (k : Nat) (hk : k ≤ u.size) (hn : σ.n < 8 * (u.size - k)) : inflR (u.extract 0 k) most = .error 6 := by
  have hs : (u.extract 0 k).size = k := by rw [ByteArray.size_extract]; omega
  have e : cutS (8 * (u.size - k)) (sg u 0 0) = sg (u.extract 0 k) 0 0 := by
    unfold cutS sg
    rw [num_cut u k hk, hs]
    simp
    refine ⟨?_, by omega⟩
    congr 2
    omega
  have := (way_cut (u.size - k) most).blocks (8 * u.size + 1) (8 * (u.extract 0 k).size + 1) (sg u 0 0) [] (by show 8 * (u.size - k) ≤ 8 * u.size - 0; omega) (by rw [e]; exact Nat.lt_succ_self _) bs σ h
  rw [e] at this
  rcases this with ⟨h, _⟩ | ⟨_, h⟩
  · exact absurd h (by omega)
  · exact h
theorem infl_less {u : ByteArray} {most most' : Nat} {bs : List Bk} {σ : Sg} (h : inflR u most = .ok (bs, σ)) : (σ.out ≤ most' ∧ inflR u most' = .ok (bs, σ)) ∨ (most' < σ.out ∧ inflR u most' = .error 2) := by
  have := (way_less most most').blocks (8 * u.size + 1) (8 * u.size + 1) (sg u 0 0) [] (Nat.zero_le _) (Nat.lt_succ_self _) bs σ h
  rcases this with h | ⟨h1, h2⟩
  · exact .inl h
  · exact .inr ⟨by omega, h2⟩
theorem infl_out {u : ByteArray} {most : Nat} {bs : List Bk} {σ : Sg} (h : inflR u most = .ok (bs, σ)) : blksOK 0 bs ∧ σ.out = blenS bs ∧ σ.out ≤ most ∧ (joinL [] bs).length = σ.out := by
  obtain ⟨c, h1, h2, h3, h4⟩ := blocksM_ok _ h (Nat.zero_le _)
  rw [List.nil_append] at h1
  subst h1
  have h5 : σ.out = blenS bs := by rw [h3]; exact Nat.zero_add _
  exact ⟨h2, h5, h4, by rw [joinL_len, h5]; exact Nat.zero_add _⟩
theorem blocksM_count {most : Nat} : ∀ (f : Nat) {σ σ' : Sg} {bs bs' : List Bk}, blocksM most f σ bs = .ok (bs', σ') → bs'.length + σ'.n ≤ bs.length + σ.n := by
  intro f
  induction f with
  | zero => intro σ σ' bs bs' h; cases h
  | succ f ih =>
    intro σ σ' bs bs' h
    obtain ⟨r, σ1, h1, h⟩ := thenR_inv (x := blockM most σ) h
    have hl := blockM_less h1
    split at h
    · have := ih h
      rw [List.length_append] at this
      have e : [r.2].length = 1 := rfl
      omega
    · injection h with h; injection h with h2 h; subst h; subst h2
      rw [List.length_append]
      have e : [r.2].length = 1 := rfl
      omega
theorem toks_count (S : List Tok) : ∀ n, toksOK n S → S.length ≤ tlenS S := by
  induction S with
  | nil => intro n _; exact Nat.le_refl _
  | cons t r ih =>
    intro n h
    have h1 := ih _ h.2
    have h2 : 1 ≤ tlen t := by
      unfold tlen
      split
      · exact Nat.le_refl _
      · rcases h.1 with h | ⟨h, _⟩
        · contradiction
        · omega
    show r.length + 1 ≤ tlen t + tlenS r
    omega
theorem blks_count (bs : List Bk) : ∀ n, blksOK n bs → ∀ b ∈ bs, b.toks.length ≤ blenS bs := by
  induction bs with
  | nil => intro n _ b hb; cases hb
  | cons x r ih =>
    intro n h b hb
    show _ ≤ (x.bytes.length + tlenS x.toks) + blenS r
    rcases List.mem_cons.1 hb with rfl | hb
    · have := toks_count _ _ h.1
      omega
    · have := ih _ h.2 b hb
      omega
end Go.Proofs.Ytjnglahjngiofaa
