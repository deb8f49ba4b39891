/- InflateBlocks: the program's blocks and texts are the document's. Conditions: none. -/
import Derived.Test.YtjnglahjngiofaaJphknoh
import Derived.Test.YtjnglahjngiofaaLaw6aJ
import Derived.BigQuiet
namespace Go.Proofs.Ytjnglahjngiofaa
open Go.RowKit
set_option maxRecDepth 100000

/-- A row of blocks, as the memory holds them. -/
def BV (w : World) (a : Option Addr) (bs : List Bk) : Prop := ∀ k (hk : k < bs.length), ∃ G ta tc, a = some ⟨G, 0, none⟩ ∧ G < w.heap.size ∧
    w.cell? ⟨G, k * 3, none⟩ = some (.int .i64 ((bs[k]).kind : Int)) ∧ w.cell? ⟨G, k * 3 + 1, none⟩ = some (.string ⟨(bs[k]).bytes.toArray⟩) ∧ w.cell? ⟨G, k * 3 + 2, none⟩ = some (.slice ta (bs[k]).toks.length tc) ∧ TkRow w ta (bs[k]).toks
theorem BV.below {w w' : World} {a : Option Addr} {bs : List Bk} (h : BV w a bs) (hb : Below w.heap.size w w') : BV w' a bs := fun k hk => by
  obtain ⟨G, ta, tc, rfl, hG, c0, c1, c2, ht⟩ := h k hk
  exact ⟨G, ta, tc, rfl, Nat.lt_of_lt_of_le hG hb.size, (hb.cell (p := ⟨G, k * 3, none⟩) hG).trans c0, (hb.cell (p := ⟨G, k * 3 + 1, none⟩) hG).trans c1, (hb.cell (p := ⟨G, k * 3 + 2, none⟩) hG).trans c2, ht.below hb (Nat.le_refl _)⟩
theorem BS.view {w0 w : World} {BB : Nat} {v : Value} {l : List LBk} (h : BS w0 BB v l w) : ∃ a cap, Hid (v = .slice a (l.map LBk.b).length cap) ∧ BV w a (l.map LBk.b) := by
  obtain ⟨a, cap, hv, hget⟩ := h.form
  refine ⟨a, cap, by show _ = _; rw [hv.out, List.length_map], fun k hk => ?_⟩
  rw [List.length_map] at hk
  obtain ⟨G, rfl, hG, c0, c1, c2⟩ := hget k hk
  rw [List.getElem_map]
  exact ⟨G, _, _, rfl, hG, c0, c1, c2, (h.tk _ (List.getElem_mem hk)).1⟩
theorem BSr.view {w0 w : World} {BB : Nat} {v : Value} {l : List LBk} (h : BSr w0 BB v l w) : ∃ a cap, Hid (v = .slice a (l.map LBk.b).length cap) ∧ BV w a (l.map LBk.b) := by
  obtain ⟨a, cap, hv, hget⟩ := h.form
  refine ⟨a, cap, by show _ = _; rw [hv.out, List.length_map], fun k hk => ?_⟩
  rw [List.length_map] at hk
  obtain ⟨G, rfl, hG, c0, c1, c2⟩ := hget k hk
  rw [List.getElem_map]
  exact ⟨G, _, _, rfl, hG, c0, c1, c2, (h.tk _ (List.getElem_mem hk)).1⟩

set_option maxHeartbeats 4000000 in
theorem blocks6_err (s s' : ByteArray) (q most : Int) (e : Nat) (he : e ≠ 0)
    (F1 : ∀ W, Calls Try.prog 23 #[.string s, .int .i64 300] W fun r w' => r = .returned (.string s') ∧ W = w')
    (C1 : ∀ W, Calls Try.prog 25 #[.string s', .int .i64 q, .int .i64 most] W fun r w' => r = .returned (.tuple #[.slice none 0 0, .int .i64 0, .int .i64 (e : Int)]) ∧ Below W.heap.size W w')
    (C2 : ∀ W, Calls Try.prog 26 #[.string s', .int .i64 q, .int .i64 most] W fun r w' => r = .returned (.tuple #[.slice none 0 0, .int .i64 0, .int .i64 (e : Int)]) ∧ Below W.heap.size W w')
    (C3 : ∀ W, Calls Try.prog 27 #[.string s', .int .i64 q, .int .i64 most] W fun r w' => r = .returned (.tuple #[.string ⟨#[]⟩, .int .i64 0, .int .i64 (e : Int)]) ∧ Below W.heap.size W w')
    (C4 : ∀ W, Calls Try.prog 28 #[.string s', .int .i64 q, .int .i64 most] W fun r w' => r = .returned (.tuple #[.string ⟨#[]⟩, .int .i64 0, .int .i64 (e : Int)]) ∧ Below W.heap.size W w') (w : World) :
    Calls Try.prog 8 #[.string s, .int .i64 q, .int .i64 most] w fun r w' => r = .returned (.bool true) ∧ Below w.heap.size w w' := by
  have CA := Lib.hid awake6_any
  have F1 := Lib.hid F1
  have C1 := Lib.hid C1
  have C2 := Lib.hid C2
  have C3 := Lib.hid C3
  have C4 := Lib.hid C4
  have de : ((e : Int) == 0) = false := by simp; omega
  have de2 : ((e : Int) != 0) = true := by simp; omega
  go_enter Try.func8, Try.ntmps8
  go_wp2_with fail
  refine (F1.out _).mono ?_
  rintro r w1 ⟨rfl, rfl⟩
  go_wp2_with fail
  refine (C1.out _).mono ?_
  rintro r w2 ⟨rfl, hb⟩
  have Hb1 := Lib.hid hb
  clear hb
  go_wp2_with fail
  refine (C2.out _).mono ?_
  rintro r w3 ⟨rfl, hb⟩
  have Hb2 := Lib.hid (bthen Hb1.out hb)
  clear hb
  go_wp2_with fail
  refine (C3.out _).mono ?_
  rintro r w4 ⟨rfl, hb⟩
  have Hb3 := Lib.hid (bthen Hb2.out hb)
  clear hb
  go_wp2_with fail
  refine (C4.out _).mono ?_
  rintro r w5 ⟨rfl, hb⟩
  have Hb4 := Lib.hid (bthen Hb3.out hb)
  clear hb
  go_wp2_with fail
  refine (CA.out _).mono ?_
  rintro r w6 ⟨rfl, hb⟩
  have Hb5 := Lib.hid (bthen Hb4.out hb)
  clear hb
  go_wp2_with fail
  go_loopw [91] (fun i_ wr => i_ = .int .i64 0 ∧ Hid (wr = w6)) (fun _ _ => 0)
  case atStart => exact ⟨rfl, rfl⟩
  case round =>
    obtain ⟨rfl, HW⟩ := hrel
    have hW := HW.out
    subst hW
    go_wp2_with fail
    go_ret
    exact ⟨rfl, Hb5.out⟩

theorem BS.below {w0 w w' : World} {BB : Nat} {v : Value} {l : List LBk} (h : BS w0 BB v l w) (hb : Below w.heap.size w w') : BS w0 BB v l w' :=
  ⟨ownsRow_below h.own hb (Nat.le_refl _), fun x hx => ⟨(h.tk x hx).1.below hb (Nat.le_refl _), (h.tk x hx).2⟩, h.far, bthen h.bel hb, Nat.le_trans h.sz hb.size⟩
theorem BS.draws {w0 w : World} {BB : Nat} {v : Value} {l : List LBk} (h : BS w0 BB v l w) (n : Nat) : BS w0 BB v l (w.drewN n) := ⟨h.own, h.tk, h.far, below_drewN h.bel n, h.sz⟩

set_option maxHeartbeats 16000000 in
theorem blocks6_ok (s s' : ByteArray) (q most : Int) (bs : List Bk) (n : Nat) (T : ByteArray) (hN : bs.length ≤ 1000000) (hT : ∀ b ∈ bs, b.toks.length ≤ 1000000)
    (F1 : ∀ W, Calls Try.prog 23 #[.string s, .int .i64 300] W fun r w' => r = .returned (.string s') ∧ W = w')
    (C1 : ∀ W, Calls Try.prog 25 #[.string s', .int .i64 q, .int .i64 most] W fun r w' => ∃ a cap, r = .returned (.tuple #[.slice a bs.length cap, .int .i64 (n : Int), .int .i64 0]) ∧ BV w' a bs ∧ Below W.heap.size W w' ∧
      (∀ W2, Below w'.heap.size w' W2 → Calls Try.prog 30 #[.slice a bs.length cap] W2 fun r w3 => r = .returned (.string T) ∧ Below W2.heap.size W2 w3))
    (C2 : ∀ W, Calls Try.prog 26 #[.string s', .int .i64 q, .int .i64 most] W fun r w' => ∃ a cap, r = .returned (.tuple #[.slice a bs.length cap, .int .i64 (n : Int), .int .i64 0]) ∧ BV w' a bs ∧ Below W.heap.size W w')
    (C3 : ∀ W, Calls Try.prog 27 #[.string s', .int .i64 q, .int .i64 most] W fun r w' => r = .returned (.tuple #[.string T, .int .i64 (n : Int), .int .i64 0]) ∧ Below W.heap.size W w')
    (C4 : ∀ W, Calls Try.prog 28 #[.string s', .int .i64 q, .int .i64 most] W fun r w' => r = .returned (.tuple #[.string T, .int .i64 (n : Int), .int .i64 0]) ∧ Below W.heap.size W w') (w : World) :
    Calls Try.prog 8 #[.string s, .int .i64 q, .int .i64 most] w fun r w' => r = .returned (.bool true) ∧ Below w.heap.size w w' := by
  have CA := Lib.hid awake6_any
  have F1 := Lib.hid F1
  have C1 := Lib.hid C1
  have C2 := Lib.hid C2
  have C3 := Lib.hid C3
  have C4 := Lib.hid C4
  have HT := Lib.hid hT
  obtain ⟨N, HN⟩ : ∃ R, Hid (bs.length = R) := ⟨_, Lib.hid (Eq.refl _)⟩
  rw [HN.out] at C1 C2 hN
  clear hT
  go_enter Try.func8, Try.ntmps8
  go_wp2_with fail
  refine (F1.out _).mono ?_
  rintro r w1 ⟨rfl, rfl⟩
  go_wp2_with fail
  refine (C1.out _).mono ?_
  rintro r w2 ⟨a, cap, rfl, hv, hb, hj⟩
  have Hb1 := Lib.hid hb
  have HV1 := Lib.hid hv
  have HJ1 := Lib.hid hj
  clear hb hv hj
  go_wp2_with fail
  refine (C2.out _).mono ?_
  rintro r w3 ⟨a2, cap2, rfl, hv, hb⟩
  have Hb2 := Lib.hid (bthen Hb1.out hb)
  have HV2 := Lib.hid hv
  have HB2 := Lib.hid hb
  clear hb hv
  go_wp2_with fail
  refine (C3.out _).mono ?_
  rintro r w4 ⟨rfl, hb⟩
  have Hb3 := Lib.hid (bthen Hb2.out hb)
  have HB3 := Lib.hid (bthen HB2.out hb)
  have HD3 := Lib.hid hb
  clear hb
  go_wp2_with fail
  refine (C4.out _).mono ?_
  rintro r w5 ⟨rfl, hb⟩
  have Hb4 := Lib.hid (bthen Hb3.out hb)
  have HB4 := Lib.hid (bthen HB3.out hb)
  have HD4 := Lib.hid (bthen HD3.out hb)
  clear hb
  go_wp2_with fail
  refine (CA.out _).mono ?_
  rintro r w6 ⟨rfl, hb⟩
  have Hb5 := Lib.hid (bthen Hb4.out hb)
  have HB5 := Lib.hid (bthen HB4.out hb)
  have HD5 := Lib.hid (bthen HD4.out hb)
  clear hb
  have HX1 : Hid (BV w6 a bs) := HV1.out.below HB5.out
  have HX2 : Hid (BV w6 a2 bs) := HV2.out.below HD5.out
  clear HV1 HV2 Hb1 Hb2 Hb3 Hb4 HB2 HB3 HB4 HD3 HD4 C1 C2 C3 C4 F1 CA
  go_wp2_with fail
  go_loopw [91] (fun i_ wr => ∃ i nq : Nat, i ≤ N ∧ i_ = .int .i64 (i : Int) ∧ Hid (wr = w6.drewN nq)) (fun i _ => N - (intOf i).toNat)
  case atStart => exact ⟨0, 0, by omega, rfl, rfl⟩
  case round =>
    obtain ⟨i, nq0, hi, rfl, HW⟩ := hrel
    have hW := HW.out
    have HBw : Hid (Below w.heap.size w wr) := by show Below _ _ _; rw [hW]; exact below_drewN Hb5.out nq0
    by_cases hlt : i < N
    · have d1 : decide ((i : Int) < (N : Int)) = true := by rw [decide_eq_true_eq]; omega
      have hlI : (i : Int) < (N : Int) := by omega
      have hib : i < bs.length := by rw [HN.out]; exact hlt
      obtain ⟨G, ta, tc, rfl, hG, c0, c1, c2, ht1⟩ := HX1.out i hib
      obtain ⟨G2, ta2, tc2, rfl, hG2, e0, e1, e2, ht2⟩ := HX2.out i hib
      have hTl := HT.out _ (List.getElem_mem hib)
      obtain ⟨kd, hkd⟩ : ∃ R, (bs[i]).kind = R := ⟨_, rfl⟩
      obtain ⟨bl, hbl⟩ : ∃ R, (⟨(bs[i]).bytes.toArray⟩ : ByteArray) = R := ⟨_, rfl⟩
      obtain ⟨S, hS⟩ : ∃ R, (bs[i]).toks = R := ⟨_, rfl⟩
      rw [hkd] at c0 e0
      rw [hbl] at c1 e1
      rw [hS] at c2 e2 ht1 ht2 hTl
      obtain ⟨M, HM⟩ : ∃ R, Hid (S.length = R) := ⟨_, Lib.hid (Eq.refl _)⟩
      rw [HM.out] at c2 e2 hTl
      have HT1 := Lib.hid ht1
      have HT2 := Lib.hid ht2
      have HZ1 := Lib.hid c2
      have HZ2 := Lib.hid e2
      have c0 : wr.cell? ⟨G, i * 3, none⟩ = some (.int .i64 (kd : Int)) := by rw [hW]; exact c0
      have c1 : wr.cell? ⟨G, i * 3 + 1, none⟩ = some (.string bl) := by rw [hW]; exact c1
      have c2 : wr.cell? ⟨G, i * 3 + 2, none⟩ = some (.slice ta M tc) := by rw [hW]; exact c2
      have e0 : wr.cell? ⟨G2, i * 3, none⟩ = some (.int .i64 (kd : Int)) := by rw [hW]; exact e0
      have e1 : wr.cell? ⟨G2, i * 3 + 1, none⟩ = some (.string bl) := by rw [hW]; exact e1
      have e2 : wr.cell? ⟨G2, i * 3 + 2, none⟩ = some (.slice ta2 M tc2) := by rw [hW]; exact e2
      clear ht1 ht2 hkd hbl hS hib hG hG2 hW
      go_wp2_with fail
      go_quiet (fail)
      go_wp2_with fail
      go_loopw [139] (fun j_ wx => ∃ j nq2 : Nat, j ≤ M ∧ j_ = .int .i64 (j : Int) ∧ Hid (wx = w6.drewN nq2)) (fun j _ => M - (intOf j).toNat)
      case atStart => exact ⟨0, nq0 + nq, by omega, rfl, by show _ = _; rw [HW.out, World.drewN_drewN]⟩
      case round =>
        obtain ⟨j, nq2, hj, rfl, HWx⟩ := hrel
        have hWx := HWx.out
        by_cases hlj : j < M
        · have dj : decide ((j : Int) < (M : Int)) = true := by rw [decide_eq_true_eq]; omega
          have hjI : (j : Int) < (M : Int) := by omega
          have HU1 : Hid (TkRow wr ta S) := by show TkRow _ _ _; rw [hWx]; exact HT1.out
          have HU2 : Hid (TkRow wr ta2 S) := by show TkRow _ _ _; rw [hWx]; exact HT2.out
          have g2 : wr.cell? ⟨G, i * 3 + 2, none⟩ = some (.slice ta M tc) := by rw [hWx]; exact HZ1.out
          have k2 : wr.cell? ⟨G2, i * 3 + 2, none⟩ = some (.slice ta2 M tc2) := by rw [hWx]; exact HZ2.out
          clear c0 c1 c2 e0 e1 e2 hWx
          obtain ⟨b1, o1, rfl, _, p0, p1, p2⟩ := HU1.out.get j (by rw [HM.out]; exact hlj)
          obtain ⟨b2, o2, rfl, _, r0, r1, r2⟩ := HU2.out.get j (by rw [HM.out]; exact hlj)
          obtain ⟨xb, Hxb⟩ : ∃ R, Hid (((tk S j).b.toNat : Int) = R) := ⟨_, Lib.hid (Eq.refl _)⟩
          obtain ⟨xl, Hxl⟩ : ∃ R, Hid ((tk S j).l = R) := ⟨_, Lib.hid (Eq.refl _)⟩
          obtain ⟨xd, Hxd⟩ : ∃ R, Hid ((tk S j).d = R) := ⟨_, Lib.hid (Eq.refl _)⟩
          rw [Hxb.out] at p0 r0
          rw [Hxl.out] at p1 r1
          rw [Hxd.out] at p2 r2
          go_wp2_with fail
          go_quiet (fail)
          go_wp2_with fail
          go_roundw
          case rel => exact ⟨j + 1, nq2 + nq, by omega, by go_num, by show _ = _; rw [HWx.out, World.drewN_drewN]⟩
          case measure => simp [intOf]; omega
        · obtain rfl : j = M := by omega
          have dj : decide ((j : Int) < (j : Int)) = false := by rw [decide_eq_false_iff_not]; omega
          clear c0 c1 c2 e0 e1 e2 hWx
          go_wp2_with fail
          go_roundw
          case rel => exact ⟨i + 1, nq2, by omega, by go_num, HWx⟩
          case measure => simp [intOf]; omega
    · obtain rfl : i = N := by omega
      have d1 : decide ((i : Int) < (i : Int)) = false := by rw [decide_eq_false_iff_not]; omega
      have hB := HBw.out
      have CJ := Lib.hid (HJ1.out wr (by rw [hW]; exact below_drewN HB5.out nq0))
      clear hW
      go_wp2_with fail
      refine CJ.out.mono ?_
      rintro r w7 ⟨rfl, hb7⟩
      have Hb7 := Lib.hid (bthen hB hb7)
      clear hb7
      go_wp2_with fail
      go_ret
      exact ⟨rfl, Hb7.out⟩

theorem sg_len (u : ByteArray) (p z : Nat) (hp : p ≤ 8 * u.size) : 8 * u.size - (sg u p z).n = p := by show 8 * u.size - (8 * u.size - p) = p; omega
theorem blocks6_any (s : ByteArray) (q most : Int) (hs : s.size ≤ maxLen) (w : World) :
    Calls Try.prog 8 #[.string s, .int .i64 q, .int .i64 most] w fun r w' => r = .returned (.bool true) ∧ Below w.heap.size w w' := by
  have F1 := fun W => few_any s 300 (by decide) hs W
  obtain ⟨s', Hs⟩ : ∃ x, Hid (few s 300 = x) := ⟨_, Lib.hid (Eq.refl _)⟩
  have ls : s'.size ≤ 300 := by rw [← Hs.out]; exact few_size _ _
  rw [Hs.out] at F1
  by_cases hbad : q < 0 ∨ (s'.size : Int) < q ∨ most < 0 ∨ 65536 < most
  · exact blocks6_err s s' q most 1 (by decide) F1
      (fun W => (blocks_bad s' q most hbad W).mono fun r w' ⟨h1, h2⟩ => ⟨h1, by subst h2; exact Below.refl _ _⟩)
      (fun W => (rblocks_bad s' q most hbad W).mono fun r w' ⟨h1, h2⟩ => ⟨h1, by subst h2; exact Below.refl _ _⟩)
      (fun W => (inflate_bad s' q most hbad W).mono fun r w' ⟨h1, h2⟩ => ⟨h1, by subst h2; exact Below.refl _ _⟩)
      (fun W => (bad_seen s' q most hbad W).mono fun r w' ⟨h1, h2⟩ => ⟨h1, by subst h2; exact Below.refl _ _⟩) w
  · obtain ⟨q, rfl⟩ : ∃ n : Nat, q = n := ⟨q.toNat, by omega⟩
    obtain ⟨most, rfl⟩ : ∃ n : Nat, most = n := ⟨most.toNat, by omega⟩
    have hq : q ≤ s'.size := by omega
    have hm : most ≤ 65536 := by omega
    clear hbad
    obtain ⟨u, hu⟩ : ∃ u, s'.extract q s'.size = u := ⟨_, rfl⟩
    have C1 := fun W => blocks_ok s' (by omega) q most hq hm W
    have C2 := fun W => rblocks_ok s' (by omega) q most hq hm W
    rw [hu] at C1 C2
    have C3 := fun W => inflate_any s' (by omega) q most hq hm u hu W
    have C4 := fun W => rinflate_ok s' (by omega) q most hq hm u hu W
    have hus : u.size ≤ 300 := by rw [← hu, ByteArray.size_extract]; omega
    have e0 : blocksM most (8 * u.size + 1) (sg u 0 0) [] = inflR u most := rfl
    have hcnt : ∀ bs σ, inflR u most = .ok (bs, σ) → blksOK 0 bs ∧ blenS bs ≤ 1000000 ∧ bs.length ≤ 1000000 ∧ ∀ b ∈ bs, b.toks.length ≤ 1000000 := fun bs σ h => by
      obtain ⟨k1, k2, k3, _⟩ := infl_out h
      have k4 := blocksM_count _ (show blocksM most (8 * u.size + 1) (sg u 0 0) [] = _ from h)
      have k5 := blks_count _ _ k1
      refine ⟨k1, by omega, ?_, fun b hb => Nat.le_trans (k5 b hb) (by omega)⟩
      have e1 : (sg u 0 0).n = 8 * u.size := rfl
      have e2 : ([] : List Bk).length = 0 := rfl
      omega
    rw [e0] at C1 C2
    cases hR : inflR u most with
    | error e =>
      rw [hR] at C1 C2 C3 C4
      have he : (if e = 0 then 1 else e) ≠ 0 := by split <;> omega
      exact blocks6_err s s' q most (if e = 0 then 1 else e) he F1
        (fun W => (C1 W).mono fun r w' ⟨hb, h⟩ => by
          rcases h with ⟨e', he', h2, h3⟩ | ⟨l, p, z, v, BB, h2, _⟩
          · injection h2 with h2; subst h2; rw [if_neg he']; exact ⟨h3, hb⟩
          · cases h2)
        (fun W => (C2 W).mono fun r w' ⟨hb, h⟩ => by
          rcases h with ⟨e', he', h2, h3⟩ | ⟨l, p, z, v, BB, h2, _⟩
          · injection h2 with h2; subst h2; rw [if_neg he']; exact ⟨h3, hb⟩
          · cases h2)
        (fun W => (C3 W).mono fun r w' ⟨hb, h⟩ => by
          rcases h with ⟨e', he', h2, h3⟩ | ⟨l, p, z, h2, _⟩
          · injection h2 with h2; subst h2; rw [if_neg he']; exact ⟨h3, hb⟩
          · cases h2)
        (fun W => (C4 W).mono fun r w' ⟨hb, h⟩ => by
          rcases h with ⟨e', he', h2, h3⟩ | ⟨l, p, z, h2, _⟩
          · injection h2 with h2; subst h2; rw [if_neg he']; exact ⟨h3, hb⟩
          · cases h2) w
    | ok bσ =>
      obtain ⟨bs, σ⟩ := bσ
      obtain ⟨k1, k2, k3, k4⟩ := hcnt bs σ hR
      rw [hR] at C1 C2 C3 C4
      refine blocks6_ok s s' q most bs ((8 * u.size - σ.n + 7) / 8) ⟨(joinL [] bs).toArray⟩ k3 k4 F1
        (fun W => (C1 W).mono fun r w' ⟨hb, h⟩ => by
          rcases h with ⟨e', _, h2, h3⟩ | ⟨l, p, z, v, BB, h2, hp, hz, rfl, hBB, hS⟩
          · cases h2
          · injection h2 with h2
            injection h2 with h2 h3
            subst h2 h3
            obtain ⟨a, cap, hv, hV⟩ := hS.view
            have hv := hv.out
            subst hv
            refine ⟨a, cap, by rw [sg_len u p z hp], hV, hb, fun W2 hb2 => ?_⟩
            exact join_any W BB _ l W2 (hS.below hb2) k1 k2 (by simpa using k3) (fun x hx => k4 x.b (List.mem_map_of_mem hx)))
        (fun W => (C2 W).mono fun r w' ⟨hb, h⟩ => by
          rcases h with ⟨e', _, h2, h3⟩ | ⟨l, p, z, v, BB, h2, hp, hz, rfl, hBB, hS⟩
          · cases h2
          · injection h2 with h2
            injection h2 with h2 h3
            subst h2 h3
            obtain ⟨a, cap, hv, hV⟩ := hS.view
            have hv := hv.out
            subst hv
            exact ⟨a, cap, by rw [sg_len u p z hp], hV, hb⟩)
        (fun W => (C3 W).mono fun r w' ⟨hb, h⟩ => by
          rcases h with ⟨e', _, h2, h3⟩ | ⟨l, p, z, h2, hp, rfl⟩
          · cases h2
          · injection h2 with h2
            injection h2 with h2 h3
            subst h2 h3
            exact ⟨by rw [sg_len u p z hp], hb⟩)
        (fun W => (C4 W).mono fun r w' ⟨hb, h⟩ => by
          rcases h with ⟨e', _, h2, h3⟩ | ⟨l, p, z, h2, hp, rfl⟩
          · cases h2
          · injection h2 with h2
            injection h2 with h2 h3
            subst h2 h3
            exact ⟨by rw [sg_len u p z hp], hb⟩) w
end Go.Proofs.Ytjnglahjngiofaa
