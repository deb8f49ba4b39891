/- HuffNexts. Conditions: none. -/
import Derived.Test.YtginjnpboggnbaaRNext4
import Derived.Test.YtginjnpboggnbaaHAgainP
import Derived.Test.YtginjnpboggnbaaRow3
import Derived.Test.YtginjnpboggnbaaLaw4a
namespace Go.Proofs.Ytginjnpboggnbaa
open Go.RowKit
set_option maxRecDepth 100000

/-- One answer. -/
theorem next_uniq {F L : Nat → Nat} {In : Nat → Prop} {X nb p a b e f s t : Nat} (hPF : ∀ s t, In s → In t → s ≠ t → ¬ Ext F L (F s) (L s) t) (h : NextOut F L In X nb p a e s) (k : NextOut F L In X nb p b f t) : a = b ∧ e = f ∧ s = t := by
  have key : ∀ {a b e f s t : Nat}, NextOut F L In X nb p a e s → NextOut F L In X nb p b f t → ¬ s < t := by
    rintro a b e f s t ⟨h1, h2, h3⟩ ⟨k1, k2, k3⟩ hlt
    obtain ⟨i1, σ, i2, i3, i4⟩ := k2 s h1 hlt
    rcases h3 with ⟨h3, _⟩ | ⟨_, h4, _⟩ | ⟨_, h4, h5, h6, _⟩
    · omega
    · exact h4 σ i2 i3
    · have hne : a ≠ σ := fun e => by subst e; omega
      refine hPF a σ h4 i2 hne ?_
      rw [h5, h6]
      exact i3
  have e1 : s = t := by
    have h1 := key h k
    have h2 := key k h
    omega
  subst e1
  obtain ⟨h1, h2, h3⟩ := h
  obtain ⟨k1, k2, k3⟩ := k
  rcases h3 with ⟨h3, h4, h5⟩ | ⟨h3, h4, h5, h6⟩ | ⟨h3, h4, h5, h6, h7⟩ <;> rcases k3 with ⟨k3, k4, k5⟩ | ⟨k3, k4, k5, k6⟩ | ⟨k3, k4, k5, k6, k7⟩
  · exact ⟨by rw [h5, k5], by rw [h4, k4], rfl⟩
  · omega
  · omega
  · omega
  · exact ⟨by rw [h6, k6], by rw [h5, k5], rfl⟩
  · exact absurd ⟨by omega, by rw [k5, Nat.sub_self, Nat.pow_zero, Nat.div_one]; exact k6⟩ (h4 b k4)
  · omega
  · exact absurd ⟨by omega, by rw [h5, Nat.sub_self, Nat.pow_zero, Nat.div_one]; exact h6⟩ (k4 a h4)
  · refine ⟨?_, by rw [h7, k7], rfl⟩
    by_cases e : a = b
    · exact e
    · refine absurd ?_ (hPF a b h4 k4 e)
      refine ⟨by omega, ?_⟩
      rw [h5, k5, Nat.sub_self, Nat.pow_zero, Nat.div_one, h6, k6]
theorem next_goes {F L : Nat → Nat} {In : Nat → Prop} {X nb p a t : Nat} (h : NextOut F L In X nb p a 0 t) : p + t ≤ nb := by
  obtain ⟨_, _, ⟨_, h, _⟩ | ⟨_, _, h, _⟩ | ⟨h, _⟩⟩ := h
  · omega
  · omega
  · exact h
theorem IRow.grown {w w' : World} {b off n Q : Nat} {m : Nat → Int} (h : IRow w (some ⟨b, off, none⟩) n m) (hg : w.grownBy w' (some Q)) (hne : b ≠ Q) : IRow w' (some ⟨b, off, none⟩) n m := by
  rcases h with h | ⟨b', off', h1, h2, h3⟩
  · exact .inl h
  · injection h1 with h1
    injection h1 with e1 e2
    subst e1 e2
    have hb := hg.block b h2 (fun e => hne (by injection e))
    have e : ∀ o, w'.cell? ⟨b, o, none⟩ = w.cell? ⟨b, o, none⟩ := fun o => by unfold World.cell?; simp only [hb]
    exact .inr ⟨b, off, rfl, Nat.lt_of_lt_of_le h2 hg.size, fun i hi => (e _).trans (h3 i hi)⟩
theorem BRow.grownQ {w w' : World} {b off n V Q : Nat} (h : BRow w (some ⟨b, off, none⟩) n V) (hg : w.grownBy w' (some Q)) (hne : b ≠ Q) : BRow w' (some ⟨b, off, none⟩) n V := by
  rcases h with h | ⟨b', off', h1, h2, h3⟩
  · exact .inl h
  · injection h1 with h1
    injection h1 with e1 e2
    subst e1 e2
    have hb := hg.block b h2 (fun e => hne (by injection e))
    have e : ∀ o, w'.cell? ⟨b, o, none⟩ = w.cell? ⟨b, o, none⟩ := fun o => by unfold World.cell?; simp only [hb]
    exact .inr ⟨b, off, rfl, Nat.lt_of_lt_of_le h2 hg.size, fun i hi => (e _).trans (h3 i hi)⟩
theorem URow.grown {w w' : World} {a : Option Addr} {n Q : Nat} {F : Nat → Nat} (h : URow w a n F) (hg : w.grownBy w' (some Q)) (hne : ∀ b off sp, a = some ⟨b, off, sp⟩ → b ≠ Q) : URow w' a n F := by
  rcases h with h | ⟨b, off, h1, h2, h3⟩
  · exact .inl h
  · have hb := hg.block b h2 (fun e => hne b off none h1 (by injection e))
    have e : ∀ o, w'.cell? ⟨b, o, none⟩ = w.cell? ⟨b, o, none⟩ := fun o => by unfold World.cell?; simp only [hb]
    exact .inr ⟨b, off, h1, Nat.lt_of_lt_of_le h2 hg.size, fun i hi => (e _).trans (h3 i hi)⟩

theorem nexts_bad (a : Option Addr) (len cap : Nat) (m : Nat → Int) (hcap : len ≤ cap) (hlen : cap ≤ 9223372036854775807) (w : World) (hr : IRow w a len m) (hnil : a = none → len = 0 ∧ cap = 0) (v2 : Value) (k : Nat) (hk : KindOf (min len 400) m k) (h0 : 0 < k) :
    Calls Try.prog 9 #[.slice a len cap, v2] w fun e w' => e = .returned (.bool true) ∧ Below w.heap.size w w' := by
  have Hk := Lib.hid hk
  have Hr := Lib.hid hr
  have CF := Lib.hid (fun W h => few4_any a len cap m hcap hlen W h hnil)
  obtain ⟨n, Hn⟩ : ∃ n, Hid (min len 400 = n) := ⟨_, Lib.hid (Eq.refl _)⟩
  have hnl : n ≤ 1000000 := by have := Hn.out; omega
  rw [Hn.out] at Hk CF
  have CA := Lib.hid awake4_any
  have dk : ((k : Int) == 0) = false := by simp; omega
  clear hr hk
  go_enter Try.func9, Try.ntmps9
  go_wp2_with fail
  refine (CF.out _ Hr.out).mono ?_
  rintro e w1 ⟨v, rfl, ho, hb1⟩
  obtain ⟨g1, cap1, rfl, hr1, _, _⟩ := ho.row
  have CFi := Lib.hid (fit_any (some ⟨g1, 0, none⟩) n cap1 m hnl k Hk.out w1 hr1)
  have HB1 := Lib.hid hb1
  clear ho hr1 hb1
  go_wp2_with fail
  refine CFi.out.mono ?_
  rintro e w6 ⟨rfl, rfl⟩
  go_wp2_with fail
  refine (CA.out _).mono ?_
  rintro e w7 ⟨rfl, hb7⟩
  have hB := bthen HB1.out hb7
  go_wp2_with fail
  go_ret
  exact ⟨rfl, hB⟩

set_option maxHeartbeats 16000000 in
theorem nexts_ok (a : Option Addr) (len cap : Nat) (m : Nat → Int) (hcap : len ≤ cap) (hlen : cap ≤ 9223372036854775807) (w : World) (hr : IRow w a len m) (hnil : a = none → len = 0 ∧ cap = 0) (s0 : ByteArray) (hs0 : s0.size ≤ maxLen) (hk : KindOf (min len 400) m 0) :
    Calls Try.prog 9 #[.slice a len cap, .string s0] w fun e w' => e = .returned (.bool true) ∧ Below w.heap.size w w' := by
  have Hk := Lib.hid hk
  have Hr := Lib.hid hr
  have CF := Lib.hid (fun W h => few4_any a len cap m hcap hlen W h hnil)
  obtain ⟨n, Hn⟩ : ∃ n, Hid (min len 400 = n) := ⟨_, Lib.hid (Eq.refl _)⟩
  have hnl : n ≤ 1000000 := by have := Hn.out; omega
  rw [Hn.out] at Hk CF
  have hn320 : n ≤ 320 := by
    rcases Hk.out with ⟨h, _⟩ | ⟨h, _⟩ | ⟨h, _⟩ | ⟨_, h, _⟩ <;> omega
  have Hrange : Hid (∀ i, i < n → 0 ≤ m i ∧ m i ≤ 15) := by
    rcases Hk.out with ⟨h, _⟩ | ⟨h, _⟩ | ⟨h, _⟩ | ⟨_, _, h, _⟩ <;> first | exact h | omega
  have CA := Lib.hid awake4_any
  have CFw := Lib.hid (fun W => few_any s0 10 (by decide) hs0 W)
  have hsz := few_size s0 10
  obtain ⟨s, Hs⟩ : ∃ s, Hid (few s0 10 = s) := ⟨_, Lib.hid (Eq.refl _)⟩
  rw [Hs.out] at CFw hsz
  clear hr hk hs0
  go_enter Try.func9, Try.ntmps9
  go_wp2_with fail
  refine (CF.out _ Hr.out).mono ?_
  rintro e w1 ⟨v, rfl, ho, hb1⟩
  obtain ⟨g1, cap1, rfl, hr1, _, _⟩ := ho.row
  have CFi := Lib.hid (fit_any (some ⟨g1, 0, none⟩) n cap1 m hnl 0 Hk.out w1 hr1)
  have CP := Lib.hid (plant_any (some ⟨g1, 0, none⟩) n cap1 m hnl w1 hr1)
  have hg1l : g1 < w1.heap.size ∨ n = 0 := by
    rcases hr1 with h | ⟨b, off, h1, h2, _⟩
    · exact .inr h
    · injection h1 with h1
      injection h1 with e1
      exact .inl (by rw [e1]; exact h2)
  have HB1 := Lib.hid hb1
  have HR1 := Lib.hid hr1
  clear ho hr1 hb1
  go_wp2_with fail
  refine CFi.out.mono ?_
  rintro e w6 ⟨rfl, rfl⟩
  clear CFi
  go_wp2_with fail
  refine (CFw.out _).mono ?_
  rintro e w0 ⟨rfl, rfl⟩
  clear CFw
  go_wp2_with fail
  refine CP.out.mono ?_
  intro e w4 h
  obtain ⟨hb4, ⟨hk4, _⟩ | ⟨_, T, g, N, capT, B, pv, pn, rfl, hT1, hg1, hTr, hN, hGr⟩⟩ := plant_k Hk.out h
  · omega
  have HB4 := Lib.hid (bthen HB1.out hb4)
  have HR4 := Lib.hid (HR1.out.below hb4)
  have hw4 : w.heap.size ≤ w4.heap.size := HB4.out.size
  have hg1l4 : g1 < w4.heap.size ∨ n = 0 := hg1l.imp (fun h => Nat.lt_of_lt_of_le h hb4.size) id
  have HTr := Lib.hid hTr
  obtain ⟨L, HL⟩ : ∃ R, Hid (lens m = R) := ⟨_, Lib.hid (Eq.refl _)⟩
  rw [HL.out] at hGr
  obtain ⟨F, HF⟩ : ∃ R, Hid (bitsF L n = R) := ⟨_, Lib.hid (Eq.refl _)⟩
  have HL15 : Hid (∀ i, i < n → L i ≤ 15) := fun i hi => by
    have := Hrange.out i hi
    rw [← HL.out]
    unfold lens
    omega
  have HPF : Hid (∀ s t, InAll L n s → InAll L n t → s ≠ t → ¬ Ext F L (F s) (L s) t) := by
    have := free_all L n HL15.out
    rw [HF.out] at this
    exact this
  rw [HF.out] at hGr
  have HGr := Lib.hid hGr
  have hTl : T < w4.heap.size := hTr.1.lt
  have hgl : g < w4.heap.size := hTr.2.1
  have CO := Lib.hid (srcOf_any s w4)
  clear CP h hb4 hTr hGr hT1 hg1 HB1 HR1 hg1l
  go_wp2_with fail
  refine CO.out.mono ?_
  rintro e w5 ⟨rfl, hS5, hb5⟩
  have HB5 := Lib.hid (bthen HB4.out hb5)
  have HR5 := Lib.hid (HR4.out.below hb5)
  have HT5 := Lib.hid (HTr.out.below hb5 hTl hgl)
  have hQl : w4.heap.size < w5.heap.size := hS5.lt
  have HS5 := Lib.hid hS5
  clear hS5 hb5 CO HB4 HR4 HTr
  go_wp2_with fail
  refine (CA.out _).mono ?_
  rintro e w7 ⟨rfl, hb7⟩
  have HB7 := Lib.hid (bthen HB5.out hb7)
  have HR7 := Lib.hid (HR5.out.below hb7)
  have HT7 := Lib.hid (HT5.out.below hb7 (by omega) (by omega))
  have HS7 := Lib.hid (HS5.out.below hb7 hQl)
  have hQl7 : w4.heap.size < w7.heap.size := Nat.lt_of_lt_of_le hQl hb7.size
  have CRo := Lib.hid (row_any s (by omega) w7)
  clear hb7 HB5 HR5 HT5 HS5 hQl CA
  go_wp2_with fail
  refine CRo.out.mono ?_
  rintro e w8 ⟨rfl, hR8, hb8⟩
  have HB8 := Lib.hid (bthen HB7.out hb8)
  have HR8 := Lib.hid (HR7.out.below hb8)
  have HT8 := Lib.hid (HT7.out.below hb8 (by omega) (by omega))
  have HS8 := Lib.hid (HS7.out.below hb8 hQl7)
  have HV8 := Lib.hid hR8
  have hQl8 : w7.heap.size ≤ w8.heap.size := hb8.size
  have CTb := Lib.hid (table_any (some ⟨g1, 0, none⟩) n cap1 m hn320 Hrange.out w8 HR8.out)
  rw [HL.out, HF.out] at CTb
  clear hR8 hb8 HB7 HR7 HT7 HS7 CRo
  go_wp2_with fail
  refine CTb.out.mono ?_
  rintro e w9 ⟨uv, rfl, hU9, hb9⟩
  obtain ⟨au, capu, rfl, hur, hul⟩ := urow_of hU9
  have HB9 := Lib.hid (bthen HB8.out hb9)
  have HR9 := Lib.hid (HR8.out.below hb9)
  have HT9 := Lib.hid (HT8.out.below hb9 (by omega) (by omega))
  have HS9 := Lib.hid (HS8.out.below hb9 (by omega))
  have HV9 := Lib.hid (HV8.out.below hb9 (Nat.le_refl _))
  have HU9 := Lib.hid hur
  have HUl := Lib.hid hul
  have h89 : w8.heap.size ≤ w9.heap.size := hb9.size
  obtain ⟨Q, HQ⟩ : ∃ R, Hid (w4.heap.size = R) := ⟨_, Lib.hid (Eq.refl _)⟩
  obtain ⟨RB, HRB⟩ : ∃ R, Hid (w7.heap.size = R) := ⟨_, Lib.hid (Eq.refl _)⟩
  have nT : Hid (T ≠ Q) := by show _ ≠ _; rw [← HQ.out]; omega
  have ng : Hid (g ≠ Q) := by show _ ≠ _; rw [← HQ.out]; omega
  have ng1 : Hid (g1 ≠ Q ∨ n = 0) := hg1l4.imp (fun h => by rw [← HQ.out]; omega) id
  have nRB : Hid (RB ≠ Q) := by show _ ≠ _; rw [← HQ.out, ← HRB.out]; omega
  have nU : Hid (∀ b off sp, au = some ⟨b, off, sp⟩ → b ≠ Q) := fun b off sp e => by
    have := (HUl.out b off sp e).1
    rw [← HQ.out]
    omega
  have hwQ : w.heap.size ≤ Q := by rw [← HQ.out]; exact hw4
  obtain ⟨nb, Hnb⟩ : ∃ R, Hid (8 * s.size = R) := ⟨_, Lib.hid (Eq.refl _)⟩
  have hnb80 : nb ≤ 80 := by have := Hnb.out; omega
  obtain ⟨V, HV⟩ : ∃ R, Hid (num s = R) := ⟨_, Lib.hid (Eq.refl _)⟩
  have HVl : Hid (V < 2 ^ nb) := by
    show _ < _
    rw [← HV.out, ← Hnb.out, ← pow256]
    have := leN_lt s.data.toList
    rw [show s.data.toList.length = s.size by simp] at this
    exact this
  rw [HQ.out] at HS9 ⊢
  rw [HRB.out] at HV9 ⊢
  rw [Hnb.out] at HV9 ⊢
  rw [HV.out] at HV9
  have Hgr0 : Hid (w9.grownBy w9 (some Q)) := ⟨rfl, rfl, rfl, Nat.le_refl _, fun _ _ _ => rfl⟩
  clear hU9 hb9 hur hul HB8 HR8 HT8 HS8 HV8 CTb h89 hQl8 hQl7 hg1l4 hw4 HUl
  go_wp2_with fail
  go_loopw [11, 12] (fun at_ i_ wr => ∃ i p : Nat, i ≤ p ∧ p ≤ nb ∧ i_ = .int .i64 (i : Int) ∧ at_ = .int .i64 (p : Int) ∧ Hid (SrcAt wr Q s p) ∧ Hid (w9.grownBy wr (some Q))) (fun _ i _ => 90 - (intOf i).toNat)
  case atStart => exact ⟨0, 0, Nat.le_refl _, by omega, rfl, rfl, HS9, Hgr0⟩
  case round =>
    clear HS9 Hgr0
    obtain ⟨i, p, hip, hpn, rfl, rfl, HS, Hgr⟩ := hrel
    have d1 : decide ((i : Int) < 90) = true := by rw [decide_eq_true_eq]; omega
    have CN0 := next_any F L (InAll L n) T g N capT B pv pn HGr.out (fun s hs => HL15.out s hs.1) (fun s hs => by have := hs.1; omega) Q s p (by omega) (by omega) nT.out ng.out wr (HT9.out.grown Hgr.out nT.out ng.out) HS.out
    rw [Hnb.out, HV.out] at CN0
    have CN := Lib.hid CN0
    clear CN0
    go_wp2_with fail
    refine CN.out.mono ?_
    rintro e w10 ⟨a', e', t', rfl, hno1, ht16, hS2, hg2, -⟩
    have Hg2 := Lib.hid (grownBy_trans Hgr.out hg2)
    have HR10 : Hid (IRow w10 (some ⟨g1, 0, none⟩) n m) := by
      rcases ng1.out with h | h
      · exact HR9.out.grown Hg2.out h
      · exact .inl h
    have CR0 := rnext_any (some ⟨g1, 0, none⟩) n cap1 m hn320 Hrange.out au capu F (some ⟨RB, 0, none⟩) nb nb V (by omega) HVl.out p (by omega) w10 HR10.out (HU9.out.grown Hg2.out nU.out) (HV9.out.grownQ Hg2.out nRB.out)
    rw [HL.out] at CR0
    have CR := Lib.hid CR0
    have Hno1 := Lib.hid hno1
    have HS2 := Lib.hid hS2
    clear CN hg2 hno1 hS2 CR0 HS
    go_wp2_with fail
    refine CR.out.mono ?_
    rintro e w11 ⟨b', f', t2, rfl, hno2, rfl⟩
    obtain ⟨rfl, rfl, rfl⟩ := next_uniq HPF.out Hno1.out hno2
    have ht1 := hno2.1
    obtain ⟨p', Hp'⟩ : ∃ R, Hid (p + t' = R) := ⟨_, Lib.hid (Eq.refl _)⟩
    have hp' : (p : Int) + (t' : Int) = (p' : Int) := by have := Hp'.out; omega
    have hp'l : p' ≤ 200 := by have := Hp'.out; omega
    rw [Hp'.out] at HS2
    have CPl := Lib.hid (srcPlace_any Q s p' w10 HS2.out)
    clear CR hno2 HR10 Hgr
    go_wp2_with fail
    refine CPl.out.mono ?_
    rintro e w12 ⟨rfl, rfl⟩
    clear CPl
    by_cases he0 : e' = 0
    · subst he0
      have hgo := next_goes Hno1.out
      rw [Hp'.out] at hgo
      go_wp2_with fail
      go_roundw
      case rel => exact ⟨i + 1, p', by have := Hp'.out; omega, hgo, by go_num, rfl, HS2, Hg2⟩
      case measure => simp [intOf]; omega
    · have d2 : ((e' : Int) == 0) = false := by simp; omega
      have hB := below_row HB9.out Hg2.out hwQ
      go_wp2_with fail
      go_ret
      exact ⟨rfl, hB⟩
theorem nexts_any (a : Option Addr) (len cap : Nat) (m : Nat → Int) (hcap : len ≤ cap) (hlen : cap ≤ 9223372036854775807) (w : World) (hr : IRow w a len m) (hnil : a = none → len = 0 ∧ cap = 0) (s0 : ByteArray) (hs0 : s0.size ≤ maxLen) :
    Calls Try.prog 9 #[.slice a len cap, .string s0] w fun e w' => e = .returned (.bool true) ∧ Below w.heap.size w w' := by
  obtain ⟨k, hk⟩ := kind_ex (min len 400) m
  by_cases h0 : 0 < k
  · exact nexts_bad a len cap m hcap hlen w hr hnil _ k hk h0
  · obtain rfl : k = 0 := by omega
    exact nexts_ok a len cap m hcap hlen w hr hnil s0 hs0 hk
end Go.Proofs.Ytginjnpboggnbaa
