/- A tree of codes, plain: what its branches say. Conditions: none. -/
import Derived.WalkKit
namespace Go.Proofs.Ytahgeeklenojjaa

/-- Code s, of ln s bits, begins with the n bits x. -/
def Ext (cd ln : Nat → Nat) (x n s : Nat) : Prop := n ≤ ln s ∧ cd s / 2 ^ (ln s - n) = x
/-- A branch says what the codes of In say. -/
def CellOK (cd ln : Nat → Nat) (In : Nat → Prop) (B : Nat → Nat → Int) (N : Nat) (pv pn : Nat → Nat) (a b : Nat) : Prop :=
  (B a b = 0 ∧ ∀ s, In s → ¬ Ext cd ln (2 * pv a + b) (pn a + 1) s) ∨
  (∃ j : Nat, B a b = (j : Int) ∧ 0 < j ∧ j < N ∧ pv j = 2 * pv a + b ∧ pn j = pn a + 1 ∧ ∃ s, In s ∧ Ext cd ln (2 * pv a + b) (pn a + 1) s ∧ pn a + 1 < ln s) ∨
  (∃ s : Nat, B a b = -1 - (s : Int) ∧ In s ∧ ln s = pn a + 1 ∧ cd s = 2 * pv a + b)
/-- A whole tree. -/
structure Grown (cd ln : Nat → Nat) (In : Nat → Prop) (B : Nat → Nat → Int) (N : Nat) (pv pn : Nat → Nat) : Prop where
  pos : 0 < N
  root : pv 0 = 0 ∧ pn 0 = 0
  cells : ∀ a, a < N → ∀ b, b < 2 → CellOK cd ln In B N pv pn a b
  one : ∀ a a', a < N → a' < N → pv a = pv a' → pn a = pn a' → a = a'
  used : ∀ j, 0 < j → j < N → ∃ s, In s ∧ Ext cd ln (pv j) (pn j) s ∧ pn j < ln s
/-- A tree into which code σ has been led n bits far. -/
structure Mid (cd ln : Nat → Nat) (In : Nat → Prop) (σ : Nat) (B : Nat → Nat → Int) (N : Nat) (pv pn : Nat → Nat) (n at_ : Nat) : Prop where
  pos : 0 < N
  root : pv 0 = 0 ∧ pn 0 = 0
  lt : at_ < N
  here : pv at_ = cd σ / 2 ^ (ln σ - n) ∧ pn at_ = n
  short : n < ln σ
  old : ∀ a, a < N → ∀ b, b < 2 → n ≤ pn a → Ext cd ln (2 * pv a + b) (pn a + 1) σ → CellOK cd ln In B N pv pn a b
  new : ∀ a, a < N → ∀ b, b < 2 → ¬ (n ≤ pn a ∧ Ext cd ln (2 * pv a + b) (pn a + 1) σ) → CellOK cd ln (fun s => In s ∨ s = σ) B N pv pn a b
  one : ∀ a a', a < N → a' < N → pv a = pv a' → pn a = pn a' → a = a'
  used : ∀ j, 0 < j → j < N → ∃ s, (In s ∨ s = σ ∧ pn j ≤ n) ∧ Ext cd ln (pv j) (pn j) s ∧ pn j < ln s

section
variable {cd ln : Nat → Nat} {In : Nat → Prop} {σ : Nat} {B : Nat → Nat → Int} {N : Nat} {pv pn : Nat → Nat}

theorem CellOK.more {a b : Nat} (h : CellOK cd ln In B N pv pn a b) (hn : ¬ Ext cd ln (2 * pv a + b) (pn a + 1) σ) : CellOK cd ln (fun s => In s ∨ s = σ) B N pv pn a b := by
  rcases h with ⟨h1, h2⟩ | ⟨j, h1, h2, h3, h4, h5, s, h6, h7⟩ | ⟨s, h1, h2, h3⟩
  · refine .inl ⟨h1, fun s hs => ?_⟩
    rcases hs with hs | rfl
    · exact h2 s hs
    · exact hn
  · exact .inr (.inl ⟨j, h1, h2, h3, h4, h5, s, .inl h6, h7⟩)
  · exact .inr (.inr ⟨s, h1, .inl h2, h3⟩)
/-- The next bit of a code. -/
def nb (cd ln : Nat → Nat) (σ n : Nat) : Nat := cd σ / 2 ^ (ln σ - n - 1) % 2
theorem nb_lt (cd ln : Nat → Nat) (σ n : Nat) : nb cd ln σ n < 2 := Nat.mod_lt _ (by decide)
theorem pre_next (n : Nat) (h : n < ln σ) : cd σ / 2 ^ (ln σ - (n + 1)) = 2 * (cd σ / 2 ^ (ln σ - n)) + nb cd ln σ n := by
  have e : cd σ / 2 ^ (ln σ - n) = cd σ / 2 ^ (ln σ - (n + 1)) / 2 := by
    rw [Nat.div_div_eq_div_mul, ← Nat.pow_succ]
    congr 2
    omega
  rw [e]
  unfold nb
  rw [show ln σ - n - 1 = ln σ - (n + 1) by omega]
  omega
/-- On code σ's way at depth n or more: just the branch at hand, or deeper ones. -/
theorem Mid.there {n at_ a b : Nat} (h : Mid cd ln In σ B N pv pn n at_) (ha : a < N) (hb : b < 2) (hn : pn a = n) (he : Ext cd ln (2 * pv a + b) (pn a + 1) σ) : a = at_ ∧ b = nb cd ln σ n := by
  have h1 := he.2
  rw [hn, pre_next n h.short] at h1
  have h2 := nb_lt cd ln σ n
  have h3 : pv a = pv at_ := by rw [h.here.1]; omega
  have h4 := h.one a at_ ha h.lt h3 (by rw [hn, h.here.2])
  subst h4
  exact ⟨rfl, by omega⟩
theorem Mid.ext {n at_ : Nat} (h : Mid cd ln In σ B N pv pn n at_) : Ext cd ln (2 * pv at_ + nb cd ln σ n) (pn at_ + 1) σ := by
  refine ⟨by rw [h.here.2]; exact h.short, ?_⟩
  rw [h.here.2, pre_next n h.short, h.here.1]
theorem Mid.cell {n at_ : Nat} (h : Mid cd ln In σ B N pv pn n at_) : CellOK cd ln In B N pv pn at_ (nb cd ln σ n) :=
  h.old at_ h.lt _ (nb_lt _ _ _ _) (by rw [h.here.2]; exact Nat.le_refl _) h.ext

theorem Grown.start (h : Grown cd ln In B N pv pn) (h0 : 0 < ln σ) (hc : cd σ < 2 ^ ln σ) : Mid cd ln In σ B N pv pn 0 0 := by
  refine ⟨h.pos, h.root, h.pos, ⟨?_, h.root.2⟩, h0, fun a ha b hb _ _ => h.cells a ha b hb, fun a ha b hb hn => (h.cells a ha b hb).more (fun e => hn ⟨Nat.zero_le _, e⟩), h.one, fun j h1 h2 => ?_⟩
  · rw [h.root.1, Nat.sub_zero, Nat.div_eq_of_lt hc]
  · obtain ⟨s, h3, h4⟩ := h.used j h1 h2
    exact ⟨s, .inl h3, h4⟩
theorem ext_less {x n s m : Nat} (h : Ext cd ln x n s) (hm : m ≤ n) : Ext cd ln (x / 2 ^ (n - m)) m s := by
  refine ⟨Nat.le_trans hm h.1, ?_⟩
  rw [← h.2, Nat.div_div_eq_div_mul, ← Nat.pow_add]
  congr 2
  have := h.1
  omega
/-- A branch on the way that is none says so, or leads on. -/
theorem Mid.way {n at_ : Nat} (h : Mid cd ln In σ B N pv pn n at_) (hpf : ∀ s, In s → ¬ Ext cd ln (cd s) (ln s) σ) :
    B at_ (nb cd ln σ n) = 0 ∨ ∃ j : Nat, B at_ (nb cd ln σ n) = (j : Int) ∧ 0 < j ∧ j < N ∧ pv j = cd σ / 2 ^ (ln σ - (n + 1)) ∧ pn j = n + 1 ∧ ∃ s, In s ∧ Ext cd ln (cd σ / 2 ^ (ln σ - (n + 1))) (n + 1) s ∧ n + 1 < ln s := by
  have e := pre_next (cd := cd) n h.short
  have hp := h.here
  rcases h.cell with ⟨h1, _⟩ | ⟨j, h1, h2, h3, h4, h5, s, h6, h7, h8⟩ | ⟨s, h1, h2, h3, h4⟩
  · exact .inl h1
  · rw [hp.1, hp.2, ← e] at h7
    rw [hp.2] at h8 h5
    rw [hp.1, ← e] at h4
    exact .inr ⟨j, h1, h2, h3, h4, h5, s, h6, h7, h8⟩
  · refine absurd ?_ (hpf s h2)
    have := h.ext
    rw [← h3, ← h4] at this
    exact this
/-- Leading on. -/
theorem Mid.down {n at_ j : Nat} (h : Mid cd ln In σ B N pv pn n at_) (hs : n + 1 < ln σ) (hB : B at_ (nb cd ln σ n) = (j : Int)) (h0 : 0 < j) (hj : j < N) (hpv : pv j = cd σ / 2 ^ (ln σ - (n + 1))) (hpn : pn j = n + 1) (hex : ∃ s, In s ∧ Ext cd ln (cd σ / 2 ^ (ln σ - (n + 1))) (n + 1) s ∧ n + 1 < ln s) : Mid cd ln In σ B N pv pn (n + 1) j := by
  have e := pre_next (cd := cd) n h.short
  refine ⟨h.pos, h.root, hj, ⟨hpv, hpn⟩, hs, fun a ha b hb hn he => h.old a ha b hb (by omega) he, fun a ha b hb hn => ?_, h.one, fun i h1 h2 => ?_⟩
  by_cases h1 : n ≤ pn a ∧ Ext cd ln (2 * pv a + b) (pn a + 1) σ
  · have h2 : pn a = n := by
      by_cases h3 : n + 1 ≤ pn a
      · exact absurd ⟨h3, h1.2⟩ hn
      · omega
    obtain ⟨rfl, rfl⟩ := h.there ha hb h2 h1.2
    obtain ⟨s, h4, h5, h6⟩ := hex
    refine .inr (.inl ⟨j, hB, h0, hj, ?_, by rw [h2]; exact hpn, s, .inl h4, ?_, by rw [h2]; exact h6⟩)
    · rw [hpv, e, h.here.1]
    · rw [h2, h.here.1, ← e]; exact h5
  · exact h.new a ha b hb h1
  · obtain ⟨s, h3, h4⟩ := h.used i h1 h2
    exact ⟨s, h3.imp id (fun h => ⟨h.1, by omega⟩), h4⟩
/-- A new node. -/
def setB (B : Nat → Nat → Int) (at_ k : Nat) (v : Int) (a b : Nat) : Int := if a = at_ ∧ b = k then v else B a b
def addB (B : Nat → Nat → Int) (N : Nat) (a b : Nat) : Int := if a = N then 0 else B a b
def addP (p : Nat → Nat) (N v : Nat) (a : Nat) : Nat := if a = N then v else p a
theorem CellOK.wider {In' : Nat → Prop} {B' : Nat → Nat → Int} {N' : Nat} {pv' pn' : Nat → Nat} {a b : Nat} (h : CellOK cd ln In' B N pv pn a b) (hB : B' a b = B a b) (hN : N ≤ N') (ha : pv' a = pv a ∧ pn' a = pn a) (hp : ∀ j, j < N → pv' j = pv j ∧ pn' j = pn j) : CellOK cd ln In' B' N' pv' pn' a b := by
  unfold CellOK
  rw [hB, ha.1, ha.2]
  rcases h with h | ⟨j, h1, h2, h3, h4, h5, h6⟩ | h
  · exact .inl h
  · exact .inr (.inl ⟨j, h1, h2, by omega, by rw [(hp j h3).1]; exact h4, by rw [(hp j h3).2]; exact h5, h6⟩)
  · exact .inr (.inr h)
theorem Mid.fresh {n at_ : Nat} (h : Mid cd ln In σ B N pv pn n at_) (hs : n + 1 < ln σ) (hB : B at_ (nb cd ln σ n) = 0) :
    Mid cd ln In σ (addB (setB B at_ (nb cd ln σ n) (N : Int)) N) (N + 1) (addP pv N (cd σ / 2 ^ (ln σ - (n + 1)))) (addP pn N (n + 1)) (n + 1) N := by
  have e := pre_next (cd := cd) n h.short
  have hpos := h.pos
  have pvo : ∀ j, j < N → addP pv N (cd σ / 2 ^ (ln σ - (n + 1))) j = pv j ∧ addP pn N (n + 1) j = pn j := fun j hj => by
    unfold addP; rw [if_neg (by omega), if_neg (by omega)]; exact ⟨rfl, rfl⟩
  have pvn : addP pv N (cd σ / 2 ^ (ln σ - (n + 1))) N = cd σ / 2 ^ (ln σ - (n + 1)) := by unfold addP; rw [if_pos rfl]
  have pnn : addP pn N (n + 1) N = n + 1 := by unfold addP; rw [if_pos rfl]
  have hno : ∀ s, In s → ¬ Ext cd ln (cd σ / 2 ^ (ln σ - (n + 1))) (n + 1) s := by
    rcases h.cell with ⟨_, h2⟩ | ⟨j, h1, h2, _⟩ | ⟨s, h1, _⟩
    · intro s hs2
      have := h2 s hs2
      rw [h.here.1, h.here.2, ← e] at this
      exact this
    · omega
    · omega
  have hσ : Ext cd ln (cd σ / 2 ^ (ln σ - (n + 1))) (n + 1) σ := ⟨by omega, rfl⟩
  refine ⟨by omega, ⟨by rw [(pvo 0 hpos).1]; exact h.root.1, by rw [(pvo 0 hpos).2]; exact h.root.2⟩, by omega, ⟨pvn, pnn⟩, hs, ?_, ?_, ?_, ?_⟩
  · intro a ha b hb hn he
    by_cases hN : a = N
    · subst hN
      refine .inl ⟨by unfold addB; rw [if_pos rfl], fun s hs2 he2 => hno s hs2 ?_⟩
      rw [pvn, pnn] at he2
      have := ext_less he2 (m := n + 1) (by omega)
      rw [show n + 1 + 1 - (n + 1) = 1 by omega, show (2 * (cd σ / 2 ^ (ln σ - (n + 1))) + b) / 2 ^ 1 = cd σ / 2 ^ (ln σ - (n + 1)) by omega] at this
      exact this
    · have haN : a < N := by omega
      rw [(pvo a haN).1, (pvo a haN).2] at he
      rw [(pvo a haN).2] at hn
      refine (h.old a haN b hb (by omega) he).wider ?_ (by omega) (pvo a haN) pvo
      unfold addB setB
      rw [if_neg hN, if_neg]
      rintro ⟨rfl, _⟩
      have := h.here.2
      omega
  · intro a ha b hb hn
    by_cases hN : a = N
    · subst hN
      rw [pvn, pnn] at hn
      refine .inl ⟨by unfold addB; rw [if_pos rfl], fun s hs2 he2 => ?_⟩
      rw [pvn, pnn] at he2
      rcases hs2 with hs2 | rfl
      · refine hno s hs2 ?_
        have := ext_less he2 (m := n + 1) (by omega)
        rw [show n + 1 + 1 - (n + 1) = 1 by omega, show (2 * (cd σ / 2 ^ (ln σ - (n + 1))) + b) / 2 ^ 1 = cd σ / 2 ^ (ln σ - (n + 1)) by omega] at this
        exact this
      · exact hn ⟨Nat.le_refl _, he2⟩
    · have haN : a < N := by omega
      rw [(pvo a haN).1, (pvo a haN).2] at hn
      by_cases hc : a = at_ ∧ b = nb cd ln σ n
      · obtain ⟨rfl, rfl⟩ := hc
        refine .inr (.inl ⟨N, ?_, hpos, by omega, ?_, ?_, σ, .inr rfl, ?_, ?_⟩)
        · unfold addB setB; rw [if_neg hN, if_pos ⟨rfl, rfl⟩]
        · rw [pvn, (pvo a haN).1, e, h.here.1]
        · rw [pnn, (pvo a haN).2, h.here.2]
        · rw [(pvo a haN).1, (pvo a haN).2]; exact h.ext
        · rw [(pvo a haN).2, h.here.2]; exact hs
      · refine (h.new a haN b hb ?_).wider ?_ (by omega) (pvo a haN) pvo
        · rintro ⟨h1, h2⟩
          by_cases h3 : n + 1 ≤ pn a
          · exact hn ⟨h3, h2⟩
          · exact hc (h.there haN hb (by omega) h2)
        · unfold addB setB; rw [if_neg hN, if_neg hc]
  · have key : ∀ a, a < N → ¬ (pv a = cd σ / 2 ^ (ln σ - (n + 1)) ∧ pn a = n + 1) := by
      rintro a ha ⟨h1, h2⟩
      by_cases h0 : a = 0
      · subst h0; have := h.root.2; omega
      · obtain ⟨s, h3, h4, h5⟩ := h.used a (by omega) ha
        rw [h1, h2] at h4
        rcases h3 with h3 | ⟨_, h6⟩
        · exact hno s h3 h4
        · omega
    intro a a' ha ha' h1 h2
    by_cases hN : a = N
    · by_cases hN' : a' = N
      · rw [hN, hN']
      · rw [hN, pvn, (pvo a' (by omega)).1] at h1
        rw [hN, pnn, (pvo a' (by omega)).2] at h2
        exact absurd ⟨h1.symm, h2.symm⟩ (key a' (by omega))
    · by_cases hN' : a' = N
      · rw [hN', pvn, (pvo a (by omega)).1] at h1
        rw [hN', pnn, (pvo a (by omega)).2] at h2
        exact absurd ⟨h1, h2⟩ (key a (by omega))
      · rw [(pvo a (by omega)).1, (pvo a' (by omega)).1] at h1
        rw [(pvo a (by omega)).2, (pvo a' (by omega)).2] at h2
        exact h.one a a' (by omega) (by omega) h1 h2
  · intro j h0 hj
    by_cases hN : j = N
    · subst hN
      exact ⟨σ, .inr ⟨rfl, by rw [pnn]; exact Nat.le_refl _⟩, by rw [pvn, pnn]; exact hσ, by rw [pnn]; exact hs⟩
    · obtain ⟨s, h1, h2⟩ := h.used j h0 (by omega)
      rw [(pvo j (by omega)).1, (pvo j (by omega)).2]
      exact ⟨s, h1.imp id (fun h => ⟨h.1, by omega⟩), h2⟩
/-- The leaf. -/
theorem Mid.leaf {n at_ : Nat} (h : Mid cd ln In σ B N pv pn n at_) (hs : n + 1 = ln σ) : Grown cd ln (fun s => In s ∨ s = σ) (setB B at_ (nb cd ln σ n) (-1 - (σ : Int))) N pv pn := by
  have e := pre_next (cd := cd) n h.short
  refine ⟨h.pos, h.root, fun a ha b hb => ?_, h.one, fun j h0 hj => ?_⟩
  · by_cases hc : a = at_ ∧ b = nb cd ln σ n
    · obtain ⟨rfl, rfl⟩ := hc
      refine .inr (.inr ⟨σ, by unfold setB; rw [if_pos ⟨rfl, rfl⟩], .inr rfl, by rw [h.here.2]; exact hs.symm, ?_⟩)
      rw [h.here.1, ← e, hs, Nat.sub_self, Nat.pow_zero, Nat.div_one]
    · refine (h.new a ha b hb ?_).wider (by unfold setB; rw [if_neg hc]) (Nat.le_refl _) ⟨rfl, rfl⟩ (fun _ _ => ⟨rfl, rfl⟩)
      rintro ⟨h1, h2⟩
      have := h2.1
      exact hc (h.there ha hb (by omega) h2)
  · obtain ⟨s, h1, h2⟩ := h.used j h0 hj
    exact ⟨s, h1.imp id (fun h => h.1), h2⟩
/-- The empty tree. -/
theorem Grown.none (cd ln : Nat → Nat) (In : Nat → Prop) (hIn : ∀ s, ¬ In s) : Grown cd ln In (fun _ _ => 0) 1 (fun _ => 0) (fun _ => 0) :=
  ⟨by decide, ⟨rfl, rfl⟩, fun a _ b _ => .inl ⟨rfl, fun s hs => absurd hs (hIn s)⟩, fun a a' ha ha' _ _ => by omega, fun j h0 hj => by omega⟩
theorem Grown.congr {In' : Nat → Prop} (h : Grown cd ln In B N pv pn) (hi : ∀ s, In s ↔ In' s) : Grown cd ln In' B N pv pn := by
  have e : In = In' := funext fun s => propext (hi s)
  rw [← e]; exact h
end
end Go.Proofs.Ytahgeeklenojjaa
