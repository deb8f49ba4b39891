/- RetainAgain's walk. Conditions: rows that Go can hold. -/
import Derived.Test.YtcblcjbflgepoaaLaw21a
namespace Go.Proofs.Ytcblcjbflgepoaa
open Go.RowKit
set_option maxRecDepth 100000

/-- What stays. -/
theorem chk_sub {P : Pol} {S T : List Snp} (h : chk P S = 0) (hs : T.Sublist S) : chk P T = 0 := by
  obtain ⟨h1, h2⟩ := chk_zero h
  unfold chk
  rw [if_neg h1, if_pos (h2.sub hs)]
theorem pol_awake (P : Pol) (ta : Option Addr) (tc : Nat) (a : Option Addr) (len cap : Nat) (S : List Snp) (hS : S.length = len) (hl : len ≤ cap) (hc : cap ≤ 9223372036854775807) (hnil : a = none → len = 0 ∧ cap = 0) (more : Int) (w : World)
    (hr : SnRow w a S) (hk : chk P (S.take 25) ≠ 0) :
    Calls Try.prog 8 #[.agg (polc P ta tc), .slice a len cap, .int .i64 more] w fun e w' => e = .returned (.bool true) ∧ Below w.heap.size w w' := by
  have hb0 := (Below.refl w.heap.size w).alloc (Nat.le_refl _) (.cells (polc P ta tc) 36)
  have hpb := Blk.new w 36 (polc P ta tc)
  have hlt : w.heap.size < (w.alloc (.cells (polc P ta tc) 36)).heap.size := by simp
  have CF := Lib.hid (fun W hr => few21_any a len cap S hS hl hc hnil W hr)
  have hr1 := hr.below hb0 (Nat.le_refl _)
  obtain ⟨T, HT⟩ : ∃ T, Hid (S.take 25 = T) := ⟨_, Lib.hid (Eq.refl _)⟩
  have hTl : T.length ≤ 25 := by rw [← HT.out, List.length_take]; omega
  rw [HT.out] at hk CF
  have C1 := Lib.hid (fun a cap W hr => keep_bad P ta tc a cap T (by omega) W hr hk)
  obtain ⟨c, Hc⟩ : ∃ c, Hid (chk P T = c) := ⟨_, Lib.hid (Eq.refl _)⟩
  rw [Hc.out] at hk C1
  have hne : ((c : Int) != 0) = true := by simp; omega
  obtain ⟨N, HN⟩ : ∃ N, Hid (T.length = N) := ⟨_, Lib.hid (Eq.refl _)⟩
  rw [HN.out] at hTl C1
  have Hr := Lib.hid hr1
  unfold polc at hb0 hpb hlt C1 Hr ⊢
  have Hb := Lib.hid hb0
  have HP := Lib.hid hpb
  clear hb0 hpb hr hr1 hk
  obtain ⟨pa, pb, pc, pd, pn, pm⟩ := P
  simp only at Hb HP hlt C1 Hr ⊢
  go_enter Try.func8, Try.ntmps8
  go_wp2_with fail
  generalize w.alloc (.cells #[.int .i64 pa, .int .i64 pb, .int .i64 pc, .int .i64 pd, .slice ta pn tc] 36) = w1 at *
  obtain ⟨p, Hp⟩ : ∃ p, Hid (w.heap.size = p) := ⟨_, Lib.hid (Eq.refl _)⟩
  rw [Hp.out] at hlt HP ⊢
  refine (CF.out _ Hr.out).mono ?_
  rintro e w2 ⟨v, rfl, hO, hb2⟩
  obtain ⟨a2, cap2, rfl, hc1, hc2, hS2, _⟩ := hO.view
  have HB2 := Lib.hid (bthen Hb.out hb2)
  have HP2 := Lib.hid (HP.out.below hb2 hlt)
  have HS2 := Lib.hid hS2
  rw [HN.out] at hc1 ⊢
  clear Hb HP hlt hb2 hO hS2
  have p0 := HP2.out.cell 0
  have p1 := HP2.out.cell 1
  have p2 := HP2.out.cell 2
  have p3 := HP2.out.cell 3
  have p4 := HP2.out.cell 4
  simp at p0 p1 p2 p3 p4
  go_wp2_with fail
  refine (C1.out _ _ _ HS2.out).mono ?_
  rintro e w3 ⟨rfl, hb3⟩
  have HB3 := Lib.hid (bthen HB2.out hb3)
  clear HB2 HP2 hb3 HS2 p0 p1 p2 p3 p4
  go_wp2_with fail
  refine (awake21_any _).mono ?_
  rintro e w6 ⟨rfl, hb6⟩
  go_wp2_with fail
  go_ret
  exact ⟨rfl, bthen HB3.out hb6⟩

/-- Cells of texts. -/
def tcells (n : Nat) (m : Nat → ByteArray) : List Value := (List.range n).map fun i => .string (m i)
theorem tcells_length (n : Nat) (m : Nat → ByteArray) : (tcells n m).length = n := by simp [tcells]
theorem tcells_at (n : Nat) (m : Nat → ByteArray) (i : Nat) (h : i < n) : (tcells n m)[i]? = some (.string (m i)) := by simp [tcells, h]
theorem tcells_one (n : Nat) (m : Nat → ByteArray) : ∀ u ∈ tcells n m, u.oneCell' = true := by
  intro u hu
  simp only [tcells, List.mem_map] at hu
  obtain ⟨i, _, rfl⟩ := hu
  rfl
/-- append(own, l...) of texts that came in. -/
theorem wpList_append_srow {ops : Array Oper} {rest : List Oper} {o : Oper} {a : Act} {Q : Exit → Act → World → Prop} {w : World} (hgd : o.guard = none) (s x : Operand)
    (ho : o.op = .call { callee := .builtin .append, args := #[s, x], argTypes := #[34, 34] })
    (base : Nat) (v : Value) (hown : w.ownsRow base 9 1 v 0 []) (hs : a.eval s = v)
    (p : Option Addr) (k c : Nat) (m1 : Nat → ByteArray) (hx : a.eval x = .slice p k c) (hr : SRow w p k m1) (hnil : p = none → k = 0 ∧ c = 0)
    (h63 : k * 16 ≤ 140737488351232) (hbase : base ≤ w.heap.size)
    (h : ∀ v' w', w'.ownsRow base 9 1 v' k (tcells k m1) → w.grownBy w' v.ownBlock → wpList Try.prog ops Q rest (a.put o.dst v') w') :
    wpList Try.prog ops Q (o :: rest) a w := by
  obtain ⟨i0, hi, hz0, hz1, hz2⟩ := info_parts info_str
  have hi' : Try.prog.info? 9 = some i0 := hi
  rcases p with _ | ⟨b, off, sp⟩
  · obtain ⟨rfl, rfl⟩ := hnil rfl
    refine wpList_append_own_none hgd s x 34 ho base 9 i0 1 Try.underlying34 hi' v 0 _ hs hown hx (h v w ?_ ?_)
    · simpa [tcells] using hown
    · exact World.grownBy.refl w _
  · refine wpList_append_own w hgd s x 34 ho base 9 i0 (.string ⟨#[]⟩) 1 16 Try.underlying34 hi' hz0 hz1 hz2 rfl (by decide) v 0 _ hs hown ⟨b, off, sp⟩ k c (tcells k m1) hx (by rw [tcells_length, Nat.mul_one]) ?_ (tcells_one k m1) (by unfold maxLen; omega) (by omega) hbase ?_
    · intro j u hj
      have hjk : j < k := by
        have := (List.getElem?_eq_some_iff.1 hj).1
        rwa [tcells_length] at this
      rw [tcells_at k m1 j hjk] at hj
      obtain ⟨b', off', he, _, hc, _⟩ := hr.get j hjk
      injection he with he
      injection he with e1 e2 e3
      subst e1 e2 e3
      have e : (⟨b, off, none⟩ : Addr).add j = ⟨b, off + j, none⟩ := by unfold Addr.add; split <;> simp_all
      rw [e, hc]
      exact hj
    · intro v' w' h1 h2 _
      rw [Nat.zero_add, List.nil_append] at h1
      exact h v' w' h1 h2
theorem srow_own {w : World} {base : Nat} {v : Value} {n : Nat} {m : Nat → ByteArray} (hm : ∀ i, i < n → (m i).size ≤ maxLen) (h : w.ownsRow base 9 1 v n (tcells n m)) : ∃ a cap, v = .slice a n cap ∧ SRow w a n m := by
  have hlt := World.ownsRow.lt h
  have hc := fun g hg => World.ownsRow.cells h (g := g) hg
  rcases h.2 with ⟨rfl, rfl⟩ | ⟨g, cap, cur, rfl, _⟩
  · exact ⟨_, _, rfl, .inl rfl⟩
  · refine ⟨_, _, rfl, .inr ⟨g, 0, rfl, (hlt g rfl).2, fun i hi => ⟨?_, hm i hi⟩⟩⟩
    have := hc g rfl i _ (tcells_at n m i hi)
    have e0 : (⟨g, 0, none⟩ : Addr).add i = ⟨g, i, none⟩ := by unfold Addr.add; split <;> simp_all
    rw [e0] at this
    rw [Nat.zero_add]
    exact this

theorem own_some {w : World} {base e n : Nat} {v : Value} {xs : List Value} (h : w.ownsRow base e 1 v (n + 1) xs) : ∃ g cap, v = .slice (some ⟨g, 0, none⟩) (n + 1) cap := by
  rcases h.2 with ⟨_, h⟩ | ⟨g, cap, _, h, _⟩
  · omega
  · exact ⟨g, cap, h⟩
def mx (x y : Int) : Int := if y > x then y else x
theorem run_max4 (a b c d : Int) (w : World) : Sem.run Try.prog (Builtin.max_ #[3, 3, 3, 3] 3 #[.int .i64 a, .int .i64 b, .int .i64 c, .int .i64 d]) w = .ok (.int .i64 (mx (mx (mx a b) c) d)) w := rfl
theorem mx_le {x y c : Int} : mx x y ≤ c ↔ x ≤ c ∧ y ≤ c := by unfold mx; split <;> omega

theorem pol_set {w0 W : World} {q t j : Nat} {v : Value} {cs : Array Value} (hB : Blk W q t cs) (hb : Below w0.heap.size w0 W) (hq : w0.heap.size ≤ q) :
    Blk (W.setCell ⟨q, j, none⟩ v) q t (cs.setIfInBounds j v) ∧ Below w0.heap.size w0 (W.setCell ⟨q, j, none⟩ v) :=
  ⟨hB.set_ j v, grown_below (only_set (only_refl W (some q)) j v) hb (fun g e => by injection e with e; rw [← e]; exact hq)⟩

/-- The policy that is wider by so much. -/
def wideP (P : Pol) (mr : Nat) : Pol := ⟨P.a + mr, P.b + (mr / 2 : Nat), P.c + (mr / 3 : Nat), P.d + mr, P.n + 1, fun i => if i < P.n then P.m i else ⟨#[120]⟩⟩

set_option maxHeartbeats 20000000 in
theorem again_good (P : Pol) (hP : PolFit P) (ta : Option Addr) (tc : Nat) (hsz : P.n * 16 ≤ 140737488351232) (hta : ta = none → P.n = 0 ∧ tc = 0) (a : Option Addr) (len cap : Nat) (S : List Snp) (hS : S.length = len) (hl : len ≤ cap) (hc : cap ≤ 9223372036854775807) (hnil : a = none → len = 0 ∧ cap = 0) (more : Int) (w : World)
    (hT : SRow w ta P.n P.m) (hr : SnRow w a S) (hk : chk P (S.take 25) = 0) :
    Calls Try.prog 8 #[.agg (polc P ta tc), .slice a len cap, .int .i64 more] w fun e w' => e = .returned (.bool true) ∧ Below w.heap.size w w' := by
  have hb0 := (Below.refl w.heap.size w).alloc (Nat.le_refl _) (.cells (polc P ta tc) 36)
  have hpb := Blk.new w 36 (polc P ta tc)
  have hlt : w.heap.size < (w.alloc (.cells (polc P ta tc) 36)).heap.size := by simp
  have CF := Lib.hid (fun W hr => few21_any a len cap S hS hl hc hnil W hr)
  have hr1 := hr.below hb0 (Nat.le_refl _)
  obtain ⟨T, HT⟩ : ∃ T, Hid (S.take 25 = T) := ⟨_, Lib.hid (Eq.refl _)⟩
  have hTl : T.length ≤ 25 := by rw [← HT.out, List.length_take]; omega
  rw [HT.out] at hk CF
  obtain ⟨hpg, hok⟩ := chk_zero hk
  have HTg := Lib.hid (hT.below hb0)
  have C1 := Lib.hid (fun a cap W hT hr => keep_good P ta tc hP.1 a cap T (by omega) W hT hr hk hP.2)
  have hLn : leftK P T T.length = leftL P T := left_all P T
  have hLs : (leftL P T).Sublist T := leftL_sub P T
  have hLl : (leftL P T).length ≤ 25 := Nat.le_trans hLs.length_le hTl
  have hG : goneK P (leftL P T) (leftL P T).length = [] := goneK_nil _ (left_again P T hok)
  have hLsucc : ∀ k, leftK P T (k + 1) = leftK P T k ++ (if keepAt P T k then [sn T k] else []) := fun k => rfl
  have hLle := leftK_le P T
  have hL0 : leftK P T 0 = [] := rfl
  have C2 : Hid (∀ a cap W, SRow W ta P.n P.m → SnRow W a (leftL P T) → Calls Try.prog 23 #[.agg (polc P ta tc), .slice a (leftL P T).length cap] W fun e w' => ∃ v, e = .returned (.tuple #[v, .int .i64 0]) ∧ OwnT w' W.heap.size v [] ∧ Below W.heap.size W w') := by
    intro a cap W hT hr
    have h := gone_good P ta tc hP.1 a cap (leftL P T) (by omega) W hT hr (chk_sub hk hLs) hP.2
    rw [hG] at h
    exact h
  -- the wider policy
  have C3 : Hid (∀ mr : Nat, mr ≤ 1000 → P.a ≤ 1099511627776 → P.b ≤ 1099511627776 → P.c ≤ 1099511627776 → P.d ≤ 1099511627776 → ∀ ta' tc' a cap W, SRow W ta' (wideP P mr).n (wideP P mr).m → SnRow W a T → Calls Try.prog 22 #[.agg (polc (wideP P mr) ta' tc'), .slice a T.length cap] W fun e w' => ∃ g, e = .returned (.tuple #[.slice (some ⟨g, 0, none⟩) T.length T.length, .int .i64 0]) ∧ W.heap.size ≤ g ∧
      Blk w' g 4 (fcells T.length (kcell (keepAt (wideP P mr) T))) ∧ Below W.heap.size W w') := by
    intro mr hmr h1 h2 h3 h4 ta' tc' a cap W hT hr
    refine keep_good (wideP P mr) ta' tc' (by unfold wideP; simp only; omega) a cap T (by omega) W hT hr ?_ (by unfold wideP; simp only; omega)
    unfold chk
    rw [if_neg, if_pos hok]
    unfold polBad wideP at *
    simp only
    omega
  have hwk : ∀ mr k, keepAt P T k = true → keepAt (wideP P mr) T k = true := by
    intro mr k h
    unfold keepAt at h ⊢
    refine keepX_wide ?_ ?_ ?_ ?_ ?_ ?_ h <;> (unfold wideP; simp only)
    · omega
    · omega
    · omega
    · omega
    · omega
    · intro i hi; rw [if_pos hi]
  have hlast : 0 < T.length → 0 < P.a + P.b + P.c + P.d → keepAt P T (T.length - 1) = true := by
    intro h0 h1
    unfold keepAt
    rw [show T.length - 1 + 1 = T.length by omega, List.drop_of_length_le (Nat.le_refl _)]
    exact keepX_last h1 hpg
  obtain ⟨KV, HKV⟩ : ∃ f, Hid (keepAt P T = f) := ⟨_, Lib.hid (Eq.refl _)⟩
  obtain ⟨LK, HLK⟩ : ∃ f, Hid (leftK P T = f) := ⟨_, Lib.hid (Eq.refl _)⟩
  obtain ⟨LL, HLL⟩ : ∃ f, Hid (leftL P T = f) := ⟨_, Lib.hid (Eq.refl _)⟩
  obtain ⟨KW, HKW⟩ : ∃ f : Nat → Nat → Bool, Hid ((fun mr => keepAt (wideP P mr) T) = f) := ⟨_, Lib.hid (Eq.refl _)⟩
  have hkw : ∀ mr, keepAt (wideP P mr) T = KW mr := fun mr => by rw [← HKW.out]
  simp only [hkw] at C3 hwk
  rw [HKV.out] at C1 hLsucc hwk hlast
  rw [HLK.out] at hLn hLsucc hLle hL0
  rw [HLL.out] at hLn hLs hLl C2
  have hpos : 0 ≤ P.a ∧ 0 ≤ P.b ∧ 0 ≤ P.c ∧ 0 ≤ P.d := by unfold polBad at hpg; omega
  have hms : ∀ i, i < P.n → (P.m i).size ≤ maxLen := fun i hi => by obtain ⟨_, _, _, _, _, h⟩ := hT.get i hi; exact h
  obtain ⟨N, HN⟩ : ∃ N, Hid (T.length = N) := ⟨_, Lib.hid (Eq.refl _)⟩
  rw [HN.out] at hTl C1 C3 hLn hlast
  have Hr := Lib.hid hr1
  have HLn := Lib.hid hLn
  have HLsucc := Lib.hid hLsucc
  have HLle := Lib.hid hLle
  have HL0 := Lib.hid hL0
  have Hwk := Lib.hid hwk
  have Hlast := Lib.hid hlast
  have Hpos := Lib.hid hpos
  have Hms := Lib.hid hms
  have Hta := Lib.hid hta
  unfold polc wideP at C3
  unfold polc at hb0 hpb hlt C1 C2 Hr HTg ⊢
  have Hb := Lib.hid hb0
  have HPb := Lib.hid hpb
  clear hb0 hpb hr hr1 hT hk hLs hG hLsucc hLle hL0 hwk hlast hkw HKW hLn hpg hok hpos hms hta hP
  obtain ⟨pa, pb, pc, pd, pn, pm⟩ := P
  simp only at Hb HPb hlt C1 C2 C3 Hr HTg Hlast Hpos Hms Hta hsz ⊢
  go_enter Try.func8, Try.ntmps8
  go_wp2_with fail
  generalize w.alloc (.cells #[.int .i64 pa, .int .i64 pb, .int .i64 pc, .int .i64 pd, .slice ta pn tc] 36) = w1 at *
  obtain ⟨p, Hp⟩ : ∃ p, Hid (w.heap.size = p) := ⟨_, Lib.hid (Eq.refl _)⟩
  rw [Hp.out] at hlt HPb ⊢
  refine (CF.out _ Hr.out).mono ?_
  rintro e w2 ⟨v, rfl, hO, hb2⟩
  obtain ⟨a2, cap2, rfl, hc1, hc2, hS2, _⟩ := hO.view
  have HB2 := Lib.hid (bthen Hb.out hb2)
  have HP2 := Lib.hid (HPb.out.below hb2 hlt)
  have hlt2 : p < w2.heap.size := Nat.lt_of_lt_of_le hlt hb2.size
  have HS2 := Lib.hid hS2
  have HT2 := Lib.hid (HTg.out.below hb2)
  rw [HN.out] at hc1 ⊢
  clear Hb HPb hlt hb2 hO hS2 HTg
  have p0 := HP2.out.cell 0
  have p1 := HP2.out.cell 1
  have p2 := HP2.out.cell 2
  have p3 := HP2.out.cell 3
  have p4 := HP2.out.cell 4
  simp at p0 p1 p2 p3 p4
  go_wp2_with fail
  refine (C1.out _ _ _ HT2.out HS2.out).mono ?_
  rintro e w3 ⟨g, rfl, hg3, hK3, hb3⟩
  have HB3 := Lib.hid (bthen HB2.out hb3)
  have HP3 := Lib.hid (HP2.out.below hb3 hlt2)
  have hlt3 : p < w3.heap.size := Nat.lt_of_lt_of_le hlt2 hb3.size
  have HS3 := Lib.hid (HS2.out.below hb3 (Nat.le_refl _))
  have HT3 := Lib.hid (HT2.out.below hb3)
  have HK3 := Lib.hid hK3
  clear HB2 HP2 hlt2 hb3 HS2 HT2 p0 p1 p2 p3 p4 hK3 hg3
  have p0 := HP3.out.cell 0
  have p1 := HP3.out.cell 1
  have p2 := HP3.out.cell 2
  have p3 := HP3.out.cell 3
  have p4 := HP3.out.cell 4
  simp at p0 p1 p2 p3 p4
  by_cases h1 : more < 0
  · have d1 : decide (more < 0) = true := by simpa using h1
    go_wp2_with fail
    refine (awake21_any _).mono ?_
    rintro e w6 ⟨rfl, hb6⟩
    go_wp2_with fail
    go_ret
    exact ⟨rfl, bthen HB3.out hb6⟩
  have d1 : decide (more < 0) = false := by simpa using h1
  by_cases h2 : 1000 < more
  · have d2 : decide (1000 < more) = true := by simpa using h2
    go_wp2_with fail
    refine (awake21_any _).mono ?_
    rintro e w6 ⟨rfl, hb6⟩
    go_wp2_with fail
    go_ret
    exact ⟨rfl, bthen HB3.out hb6⟩
  have d2 : decide (1000 < more) = false := by simpa using h2
  obtain ⟨mr, rfl⟩ : ∃ m : Nat, more = (m : Int) := ⟨more.toNat, by omega⟩
  have hmax := run_max4 pa pb pc pd
  obtain ⟨MX, HMX⟩ : ∃ x, Hid (mx (mx (mx pa pb) pc) pd = x) := ⟨_, Lib.hid (Eq.refl _)⟩
  rw [HMX.out] at hmax
  have hmr : mr ≤ 1000 := by omega
  clear h1 h2
  by_cases h3 : 1099511627776 < MX
  · have d3 : decide (1099511627776 < MX) = true := by simpa using h3
    go_wp2_with fail
    refine (awake21_any _).mono ?_
    rintro e w6 ⟨rfl, hb6⟩
    go_wp2_with fail
    go_ret
    exact ⟨rfl, bthen HB3.out hb6⟩
  have d3 : decide (1099511627776 < MX) = false := by simpa using h3
  have Hall : Hid (pa ≤ 1099511627776 ∧ pb ≤ 1099511627776 ∧ pc ≤ 1099511627776 ∧ pd ≤ 1099511627776) := by
    show _ ∧ _
    have h : mx (mx (mx pa pb) pc) pd ≤ 1099511627776 := by rw [HMX.out]; omega
    rw [mx_le, mx_le, mx_le] at h
    omega
  clear h3
  have HO4 : Hid (OwnN (w3.alloc (.cells #[] 49)) w3.heap.size (.slice (some ⟨w3.heap.size, 0, none⟩) 0 0) (LK 0)) := by
    show OwnN _ _ _ _
    rw [HL0.out]
    exact World.ownsRow_made (base := w3.heap.size) (e := 49) (size := 3) w3 #[] 0 (Nat.le_refl _) (Nat.zero_le _) rfl
  have HB4 := Lib.hid ((Below.refl w3.heap.size w3).alloc (Nat.le_refl _) (.cells #[] 49))
  go_upto_region 8 with (fail)
  clear hmax d1 d2 d3 HMX p0 p1 p2 p3 p4
  generalize w3.alloc (.cells #[] 49) = w4 at *
  go_wp2_with fail
  go_loopw [10, 59] (fun vo i wr => ∃ k : Nat, k ≤ N ∧ i = .int .i64 (k : Int) ∧ Hid (OwnN wr w3.heap.size vo (LK k)) ∧ Hid (Below w3.heap.size w3 wr)) (fun _ i _ => N - (intOf i).toNat)
  case atStart => exact ⟨0, by omega, rfl, HO4, HB4⟩
  case round =>
    clear HO4 HB4
    obtain ⟨k, hk, rfl, HO, HB⟩ := hrel
    by_cases hlt : k < N
    · have hkc := (HK3.out.below HB.out HK3.out.lt).cell k
      rw [fcells_at _ _ _ hlt] at hkc
      unfold kcell at hkc
      by_cases hkv : KV k = true
      · rw [hkv] at hkc
        have Hs : Hid (LK (k + 1) = LK k ++ [sn T k]) := by show _ = _; rw [HLsucc.out, if_pos hkv]
        obtain ⟨b, off, rfl, _, c0, c1, c2⟩ := (HS3.out.below HB.out (Nat.le_refl _)).get k (by rw [HN.out]; exact hlt)
        obtain ⟨tt, Htt⟩ : ∃ z, Hid ((sn T k).time = z) := ⟨_, Lib.hid (Eq.refl _)⟩
        obtain ⟨sid, Hi⟩ : ∃ z, Hid ((sn T k).id = z) := ⟨_, Lib.hid (Eq.refl _)⟩
        obtain ⟨tg, Htg⟩ : ∃ z, Hid ((sn T k).tag = z) := ⟨_, Lib.hid (Eq.refl _)⟩
        rw [Htt.out] at c1
        rw [Hi.out] at c0
        rw [Htg.out] at c2
        have Hsn : Hid (scells [sn T k] = [.string sid, .int .i64 tt, .string tg]) := by show _ = _; rw [← Htt.out, ← Hi.out, ← Htg.out]; rfl
        have hle := HLle.out k
        have hos := HO.out
        have hbsw : w3.heap.size ≤ _ := HB.out.size
        clear hkv
        go_wp2_with (first
          | (at_builtin; go_must (refine wpList_append_elem _ rfl (.tmp 65) (.tmp 70) rfl Try.underlying37 info_snap rfl (by decide) w3.heap.size u10 (LK k).length (scells (LK k)) [.string sid, .int .i64 tt, .string tg] hos rfl ?_ rfl rfl rfl ?_ ?_ hbsw ?_; (intro y hy; simp at hy; rcases hy with h | h | h <;> (subst h; rfl)); (unfold maxLen; omega); omega; intro v5 w5 hown5 hg5; have HO5 := Lib.hid hown5; have Hb5 := Lib.hid (grown_below hg5 HB.out (fun g e => (World.ownsRow.lt hos g e).1)); clear hown5 hg5 hos))
          | fail)
        go_roundw
        case rel =>
          refine ⟨k + 1, by omega, by go_num, ?_, Hb5⟩
          show OwnN _ _ _ _
          rw [Hs.out]
          unfold OwnN
          rw [List.length_append, scells_append, Hsn.out]
          exact HO5.out
        case measure => simp [intOf]; omega
      · have hkf : KV k = false := by simpa using hkv
        rw [hkf] at hkc
        have Hs : Hid (LK (k + 1) = LK k) := by show _ = _; rw [HLsucc.out, if_neg hkv, List.append_nil]
        clear hkv hkf
        go_wp2_with fail
        go_roundw
        case rel => exact ⟨k + 1, by omega, by go_num, by show OwnN _ _ _ _; rw [Hs.out]; exact HO.out, HB⟩
        case measure => simp [intOf]; omega
    · obtain rfl : k = N := by omega
      have HOL : Hid (OwnN wr w3.heap.size u10 LL) := by show OwnN _ _ _ _; rw [← HLn.out]; exact HO.out
      obtain ⟨a5, cap5, rfl, _, _, hS5, _⟩ := HOL.out.view
      have HS5 := Lib.hid hS5
      have HP5 := Lib.hid (HP3.out.below HB.out hlt3)
      have HT5 := Lib.hid (HT3.out.below HB.out)
      obtain ⟨Q, HQ⟩ : ∃ n, Hid (LL.length = n) := ⟨_, Lib.hid (Eq.refl _)⟩
      rw [HQ.out] at C2 ⊢
      have p0 := HP5.out.cell 0
      have p1 := HP5.out.cell 1
      have p2 := HP5.out.cell 2
      have p3 := HP5.out.cell 3
      have p4 := HP5.out.cell 4
      simp at p0 p1 p2 p3 p4
      clear HO HOL hS5
      go_wp2_with fail
      refine (C2.out _ _ _ HT5.out HS5.out).mono ?_
      rintro e w6 ⟨vg, rfl, hG6, hb6⟩
      have HB6 := Lib.hid (bthen HB.out hb6)
      have HP6 := Lib.hid (HP3.out.below HB6.out hlt3)
      obtain ⟨ag, cg, rfl, _⟩ := hG6.view
      clear HB HP5 HT5 HS5 p0 p1 p2 p3 p4 hG6 hb6
      have p0 := HP6.out.cell 0
      have p1 := HP6.out.cell 1
      have p2 := HP6.out.cell 2
      have p3 := HP6.out.cell 3
      have p4 := HP6.out.cell 4
      simp at p0 p1 p2 p3 p4
      go_upto_region 16 with (fail)
      clear p0 p1 p2 p3 p4
      have HQb := Lib.hid (Blk.new w6 36 #[.int .i64 pa, .int .i64 pb, .int .i64 pc, .int .i64 pd, .slice ta pn tc])
      have HB7 := Lib.hid ((Below.refl w6.heap.size w6).alloc (Nat.le_refl _) (.cells #[.int .i64 pa, .int .i64 pb, .int .i64 pc, .int .i64 pd, .slice ta pn tc] 36))
      obtain ⟨q, Hq⟩ : ∃ g, Hid (w6.heap.size = g) := ⟨_, Lib.hid (Eq.refl _)⟩
      have hqle : w6.heap.size ≤ q := by rw [Hq.out]; exact Nat.le_refl _
      rw [Hq.out] at HQb ⊢
      generalize w6.alloc (.cells #[.int .i64 pa, .int .i64 pb, .int .i64 pc, .int .i64 pd, .slice ta pn tc] 36) = w7 at *
      obtain ⟨ha, hb, hc', hd⟩ := Hall.out
      obtain ⟨ha0, hb0', hc0, hd0⟩ := Hpos.out
      obtain ⟨m2, Hm2⟩ : ∃ m, Hid (mr / 2 = m) := ⟨_, Lib.hid (Eq.refl _)⟩
      obtain ⟨m3, Hm3⟩ : ∃ m, Hid (mr / 3 = m) := ⟨_, Lib.hid (Eq.refl _)⟩
      have hm2 : m2 ≤ 1000 := by have := Hm2.out; omega
      have hm3 : m3 ≤ 1000 := by have := Hm3.out; omega
      have e2 : (mr : Int) / 2 = (m2 : Int) := by have := Hm2.out; omega
      have e3 : (mr : Int) / 3 = (m3 : Int) := by have := Hm3.out; omega
      have t2 : (mr : Int).tdiv 2 = (m2 : Int) := by rw [Int.tdiv_eq_ediv_of_nonneg (by omega)]; exact e2
      have t3 : (mr : Int).tdiv 3 = (m3 : Int) := by rw [Int.tdiv_eq_ediv_of_nonneg (by omega)]; exact e3
      have q0 := HQb.out.cell 0
      simp at q0
      have qf := HQb.out.frozen 0
      go_upto_region 17 with (fail)
      have hps := pol_set (j := 0) (v := .int .i64 (pa + (mr : Int))) HQb.out HB7.out hqle
      have HQ8 := Lib.hid hps.1
      have HB8 := Lib.hid hps.2
      generalize w7.setCell ⟨q, 0, none⟩ (.int .i64 (pa + (mr : Int))) = w8 at *
      clear hps HQb HB7 q0 qf
      have q1 := HQ8.out.cell 1
      simp at q1
      have qf := HQ8.out.frozen 1
      go_upto_region 18 with (fail)
      have hps := pol_set (j := 1) (v := .int .i64 (pb + (m2 : Int))) HQ8.out HB8.out hqle
      have HQ9 := Lib.hid hps.1
      have HB9 := Lib.hid hps.2
      generalize w8.setCell ⟨q, 1, none⟩ (.int .i64 (pb + (m2 : Int))) = w9 at *
      clear hps HQ8 HB8 q1 qf
      have q2 := HQ9.out.cell 2
      simp at q2
      have qf := HQ9.out.frozen 2
      go_upto_region 19 with (fail)
      have hps := pol_set (j := 2) (v := .int .i64 (pc + (m3 : Int))) HQ9.out HB9.out hqle
      have HQ10 := Lib.hid hps.1
      have HB10 := Lib.hid hps.2
      generalize w9.setCell ⟨q, 2, none⟩ (.int .i64 (pc + (m3 : Int))) = w10 at *
      clear hps HQ9 HB9 q2 qf
      have q3 := HQ10.out.cell 3
      simp at q3
      have qf := HQ10.out.frozen 3
      go_upto_region 20 with (fail)
      have hps := pol_set (j := 3) (v := .int .i64 (pd + (mr : Int))) HQ10.out HB10.out hqle
      have HQ11 := Lib.hid hps.1
      have HB11 := Lib.hid hps.2
      generalize w10.setCell ⟨q, 3, none⟩ (.int .i64 (pd + (mr : Int))) = w11 at *
      clear hps HQ10 HB10 q3 qf e2 e3 t2 t3
      simp only [List.setIfInBounds_toArray, List.set_cons_zero, List.set_cons_succ] at HQ11
      have HP11 := Lib.hid (HP6.out.below HB11.out HP6.out.lt)
      have p4 := HP11.out.cell 4
      simp at p4
      have hT12 := (HT3.out.below HB6.out).below HB11.out
      have hT12' := hT12.below ((Below.refl w11.heap.size w11).alloc (Nat.le_refl _) (.cells #[] 9))
      have ho0 := World.ownsRow_made (base := w11.heap.size) (e := 9) (size := 1) w11 #[] 0 (Nat.le_refl _) (Nat.zero_le _) rfl
      have hb0 := (Below.refl w11.heap.size w11).alloc (Nat.le_refl _) (.cells #[] 9)
      have hbs : w11.heap.size ≤ (w11.alloc (.cells #[] 9)).heap.size := by simp
      have HT12 := Lib.hid hT12'
      have HO0 := Lib.hid ho0
      have Hb0 := Lib.hid hb0
      have hql : q < w11.heap.size := HQ11.out.lt
      have hpl : p < w11.heap.size := HP11.out.lt
      clear hT12 hT12' ho0 hb0
      go_upto_region 21 with (first
        | (at_builtin; (refine wpList_append_srow rfl (.tmp 102) (.tmp 104) rfl w11.heap.size _ HO0.out rfl ta pn tc pm rfl HT12.out Hta.out hsz hbs ?_; intro v12 w12 hown12 hg12; have HO12 := Lib.hid hown12; have HB12 := Lib.hid (Hb0.out.trans (below_grown HO0.out hg12 hbs)); have hbs2 : w11.heap.size ≤ w12.heap.size := HB12.out.size; clear hown12 hg12))
        | (at_builtin; go_must (refine wpList_append_elem _ rfl (.tmp 105) (.tmp 106) rfl Try.underlying34 info_str rfl (by decide) w11.heap.size v12 pn (tcells pn pm) [.string ⟨#[120]⟩] HO12.out rfl ?_ rfl rfl rfl ?_ ?_ hbs2 ?_; (intro y hy; simp at hy; subst hy; rfl); (unfold maxLen; omega); omega; intro v13 w13 hown13 hg13; obtain ⟨g13, cap13, rfl⟩ := own_some hown13; have HO13 := Lib.hid hown13; have HB13 := Lib.hid (HB12.out.trans (below_grown HO12.out hg13 hbs2)); have HQ13 := Lib.hid (HQ11.out.below HB13.out hql); have q4 := HQ13.out.cell 4; simp at q4; have qf := HQ13.out.frozen 4; clear hown13 hg13))
        | fail)
      have hps := pol_set (j := 4) (v := .slice (some ⟨g13, 0, none⟩) (pn + 1) cap13) HQ13.out (bthen HB11.out HB13.out) hqle
      have HQ14 := Lib.hid hps.1
      have HB14 := Lib.hid (bthen HB6.out hps.2)
      have hrow : (w13.setCell ⟨q, 4, none⟩ (.slice (some ⟨g13, 0, none⟩) (pn + 1) cap13)).ownsRow w11.heap.size 9 1 (.slice (some ⟨g13, 0, none⟩) (pn + 1) cap13) (pn + 1) (tcells pn pm ++ [.string ⟨#[120]⟩]) :=
        World.ownsRow.kept HO13.out (only_set (only_refl w13 (some q)) 4 _) (row_blk HO13.out HQ13.out (by decide))
      obtain ⟨pm', Hpm⟩ : ∃ f : Nat → ByteArray, Hid ((fun i => if i < pn then pm i else ⟨#[120]⟩) = f) := ⟨_, Lib.hid (Eq.refl _)⟩
      have htc : tcells pn pm ++ [.string ⟨#[120]⟩] = tcells (pn + 1) pm' := by
        rw [← Hpm.out]
        unfold tcells
        rw [List.range_succ, List.map_append]
        congr 1
        · refine List.map_congr_left fun i hi => ?_
          show Value.string (pm i) = .string (if i < pn then pm i else _)
          rw [if_pos (List.mem_range.1 hi)]
        · simp
      rw [htc] at hrow
      obtain ⟨_, _, e, hsr⟩ := srow_own (fun i hi => by
        rw [← Hpm.out]
        simp only
        split
        · exact Hms.out i (by assumption)
        · decide) hrow
      injection e with e1 e2 e3
      subst e1 e3
      generalize w13.setCell ⟨q, 4, none⟩ (.slice (some ⟨g13, 0, none⟩) (pn + 1) cap13) = w14 at *
      simp only [List.setIfInBounds_toArray, List.set_cons_zero, List.set_cons_succ] at HQ14
      have c3 := C3.out mr hmr ha hb hc' hd (some ⟨g13, 0, none⟩) cap13 a2 cap2 w14
      rw [Hpm.out, Hm2.out, Hm3.out] at c3
      have CC3 := Lib.hid (c3 hsr (HS3.out.below HB14.out (Nat.le_refl _)))
      have HP14 := Lib.hid (HP3.out.below HB14.out hlt3)
      have HK14 := Lib.hid (HK3.out.below HB14.out HK3.out.lt)
      have q0 := HQ14.out.cell 0
      have q1 := HQ14.out.cell 1
      have q2 := HQ14.out.cell 2
      have q3 := HQ14.out.cell 3
      have q5 := HQ14.out.cell 4
      simp at q0 q1 q2 q3 q5
      clear q4 qf p4 hps hrow htc e2 hsr c3 C3 HT12 HO0 Hb0 HO12 HB12 HO13 HB13 HQ13 HQ11 HB11 HP11 hql hpl hbs hbs2
      go_wp2_with fail
      refine CC3.out.mono ?_
      rintro e w15 ⟨gw, rfl, _, hW15, hb15⟩
      have HB15 := Lib.hid (bthen HB14.out hb15)
      have HP15 := Lib.hid (HP3.out.below HB15.out hlt3)
      have HK15 := Lib.hid (HK3.out.below HB15.out HK3.out.lt)
      have HW15 := Lib.hid hW15
      clear HB14 HP14 HK14 hW15 hb15 CC3 q0 q1 q2 q3 q5
      go_wp2_with fail
      go_loop [135] (fun i => ∃ j : Nat, j ≤ k ∧ i = .int .i64 (j : Int)) (fun i => k - (intOf i).toNat)
      case atStart => exact ⟨0, by omega, rfl⟩
      case round =>
        obtain ⟨j, hj, rfl⟩ := hrel
        by_cases hlt : j < k
        · have hkc := HK15.out.cell j
          rw [fcells_at _ _ _ hlt] at hkc
          unfold kcell at hkc
          have hwc := HW15.out.cell j
          rw [fcells_at _ _ _ hlt] at hwc
          unfold kcell at hwc
          by_cases hkv : KV j = true
          · rw [hkv] at hkc
            rw [Hwk.out mr j hkv] at hwc
            clear hkv
            go_wp2_with fail
            go_round
            case rel => exact ⟨j + 1, by omega, by go_num⟩
            case measure => simp [intOf]; omega
          · have hkf : KV j = false := by simpa using hkv
            rw [hkf] at hkc
            clear hkv hkf hwc
            go_wp2_with fail
            go_round
            case rel => exact ⟨j + 1, by omega, by go_num⟩
            case measure => simp [intOf]; omega
        · obtain rfl : j = k := by omega
          have p0 := HP15.out.cell 0
          have p1 := HP15.out.cell 1
          have p2 := HP15.out.cell 2
          have p3 := HP15.out.cell 3
          simp at p0 p1 p2 p3
          obtain ⟨so, Hso⟩ : ∃ b, Hid (decide (0 < pa + pb + pc + pd) = b) := ⟨_, Lib.hid (Eq.refl _)⟩
          have hso := Hso.out
          go_wp2_with fail
          refine (awake21_any _).mono ?_
          rintro e w16 ⟨rfl, hb16⟩
          have HB16 := Lib.hid (bthen HB15.out hb16)
          have HK16 := Lib.hid (HK3.out.below HB16.out HK3.out.lt)
          clear HB15 HP15 HK15 hb16 p0 p1 p2 p3
          by_cases hj0 : j = 0
          · subst hj0
            go_wp2_with fail
            go_ret
            exact ⟨rfl, bthen HB3.out HB16.out⟩
          · have hj1 : ((j : Int) == 0) = false := by simp; omega
            cases so
            · go_wp2_with fail
              go_ret
              exact ⟨rfl, bthen HB3.out HB16.out⟩
            · have hl := Hlast.out (by omega) (by simpa using Hso.out)
              obtain ⟨j', rfl⟩ : ∃ j', j = j' + 1 := ⟨j - 1, by omega⟩
              rw [show j' + 1 - 1 = j' by omega] at hl
              have hkc := HK16.out.cell j'
              rw [fcells_at _ _ _ (by omega)] at hkc
              unfold kcell at hkc
              rw [hl] at hkc
              clear hl hj0 hso
              go_wp2_with fail
              go_ret
              exact ⟨rfl, bthen HB3.out HB16.out⟩

theorem again_any (P : Pol) (hP : PolFit P) (ta : Option Addr) (tc : Nat) (hsz : P.n * 16 ≤ 140737488351232) (hta : ta = none → P.n = 0 ∧ tc = 0) (a : Option Addr) (len cap : Nat) (S : List Snp) (hS : S.length = len) (hl : len ≤ cap) (hc : cap ≤ 9223372036854775807) (hnil : a = none → len = 0 ∧ cap = 0) (more : Int) (w : World)
    (hT : SRow w ta P.n P.m) (hr : SnRow w a S) :
    Calls Try.prog 8 #[.agg (polc P ta tc), .slice a len cap, .int .i64 more] w fun e w' => e = .returned (.bool true) ∧ Below w.heap.size w w' := by
  by_cases h : chk P (S.take 25) = 0
  · exact again_good P hP ta tc hsz hta a len cap S hS hl hc hnil more w hT hr h
  · exact pol_awake P ta tc a len cap S hS hl hc hnil more w hr h
end Go.Proofs.Ytcblcjbflgepoaa
