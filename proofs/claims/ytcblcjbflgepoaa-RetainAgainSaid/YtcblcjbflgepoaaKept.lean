/- The document's span, one, Kept. Conditions: at most a million snapshots, in their order. -/
import Derived.Test.YtcblcjbflgepoaaGone
namespace Go.Proofs.Ytcblcjbflgepoaa
open Go.RowKit
set_option maxRecDepth 100000

/-- The span of that kind. -/
def spK (k : Nat) : Int → Int := if k = 1 then spD else if k = 2 then spW else spM
theorem span_K (k : Nat) : Span (spK k) := by
  unfold spK
  split
  · exact span_D
  · split
    · exact span_W
    · exact span_M

theorem rspan_any (k : Nat) (hk : 1 ≤ k ∧ k ≤ 3) (t : Int) (h0 : 0 ≤ t) (h1 : t ≤ 253402300799) (w : World) :
    Calls Try.prog 38 #[.int .i64 (k : Int), .int .i64 t] w fun e w' => e = .returned (.int .i64 (spK k t)) ∧ Below w.heap.size w w' := by
  have hk2 : k = 1 ∨ k = 2 ∨ k = 3 := by omega
  obtain ⟨D, HD⟩ : ∃ D : Nat, Hid ((D : Int) = t / 86400) := ⟨(t / 86400).toNat, by show _ = _; omega⟩
  have hDl : D ≤ 2932896 := by have := HD.out; omega
  have CD := Lib.hid (fun W => refDay_any t h0 h1 D HD.out W)
  have CW := Lib.hid (fun W => refWeek_any t h0 h1 D HD.out W)
  have CO := Lib.hid (fun W => ofM_any D hDl W)
  have Hf := Lib.hid field_n
  have e1 : Hid (spK 1 t = (D : Int)) := by show spD t = _; unfold spD; exact HD.out.symm
  have e2 : Hid (spK 2 t = (((D + 3) / 7 : Nat) : Int)) := by show spW t = _; unfold spW; have := HD.out; omega
  have e3 : Hid (spK 3 t = (mon D : Int)) := by show spM t = _; unfold spM; have := HD.out; rw [← this]; rfl
  clear h0 h1
  rcases hk2 with rfl | rfl | rfl
  · rw [e1.out]
    go_enter Try.func38, Try.ntmps38
    go_wp2_with fail
    refine (CD.out _).mono ?_
    rintro e w1 ⟨rfl, rfl⟩
    go_wp2_with fail
    go_ret
    exact ⟨rfl, Below.refl _ _⟩
  · rw [e2.out]
    go_enter Try.func38, Try.ntmps38
    go_wp2_with fail
    refine (CW.out _).mono ?_
    rintro e w1 ⟨rfl, rfl⟩
    go_wp2_with fail
    go_ret
    exact ⟨rfl, Below.refl _ _⟩
  · rw [e3.out]
    obtain ⟨M, HM⟩ : ∃ M, Hid (mon D = M) := ⟨_, Lib.hid (Eq.refl _)⟩
    rw [HM.out] at CO ⊢
    go_enter Try.func38, Try.ntmps38
    go_wp2_with fail
    refine (CD.out _).mono ?_
    rintro e w1 ⟨rfl, rfl⟩
    go_wp2_with fail
    refine (CO.out _).mono ?_
    rintro e w2 ⟨xa, xb, xc, xd, rfl, hb⟩
    have hfn := fun W => Hf.out W (M : Int) xa xb xc xd
    go_wp2_with fail
    go_ret
    exact ⟨rfl, hb⟩

/-- The slice v owns the numbers l. -/
def OwnJ (w : World) (base : Nat) (v : Value) (l : List Int) : Prop := w.ownsRow base 3 1 v l.length (l.map (Value.int .i64))
theorem info_int : (Try.prog.info? 3).map (fun i => (i.zero, i.size, i.bytes)) = some (some (.int .i64 0), 1, 8) := by kernel_rfl
theorem OwnJ.view {w : World} {base : Nat} {v : Value} {l : List Int} (h : OwnJ w base v l) : ∃ a cap, v = .slice a l.length cap ∧ ∀ j (hj : j < l.length), ∃ g, a = some ⟨g, 0, none⟩ ∧ w.cell? ⟨g, j, none⟩ = some (.int .i64 l[j]) := by
  have hc := fun g hg => World.ownsRow.cells h (g := g) hg
  rcases h.2 with ⟨rfl, hl⟩ | ⟨g, cap, cur, rfl, _⟩
  · have : l = [] := List.length_eq_zero_iff.1 hl
    subst this
    exact ⟨_, _, rfl, fun j hj => by cases hj⟩
  · refine ⟨_, _, rfl, fun j hj => ⟨g, rfl, ?_⟩⟩
    have := hc g rfl j (.int .i64 l[j]) (by simp [hj])
    have e0 : (⟨g, 0, none⟩ : Addr).add j = ⟨g, j, none⟩ := by unfold Addr.add; split <;> simp_all
    rwa [e0] at this
theorem OwnJ.below {w w' : World} {base B : Nat} {v : Value} {l : List Int} (h : OwnJ w base v l) (hb : Below B w w') (hB : w.heap.size ≤ B) : OwnJ w' base v l := by
  have hlt := World.ownsRow.lt h
  refine ⟨h.1, ?_⟩
  rcases h.2 with h2 | ⟨g, cap, cur, rfl, h3, h4, h5⟩
  · exact .inl h2
  · exact .inr ⟨g, cap, cur, rfl, h3, (hb.block g (Nat.lt_of_lt_of_le (hlt g rfl).2 hB)).trans h4, h5⟩
theorem dst_le (l : List Int) : (dst l).length ≤ l.length := by
  rw [← List.reverse_reverse l]
  generalize l.reverse = m
  induction m with
  | nil => exact Nat.le_refl _
  | cons y r ih =>
    rw [List.reverse_cons, dst_snoc, List.length_append]
    split
    · omega
    · rw [List.length_append]; simp at ih ⊢; omega
theorem spans_take (sp : Int → Int) (r : List Snp) (k : Nat) (hk : k < r.length) : spans sp (r.take (k + 1)) = spans sp (r.take k) ++ [sp (sn r k).time] := by
  unfold spans
  rw [List.take_succ_eq_append_getElem hk, List.map_append, sn_get hk]; rfl
/-- No later one of its span. -/
theorem newI_iff {x : Int} {l : List Int} (hs : Srt (x :: l)) : newI x l = true ↔ ∀ y ∈ l, y ≠ x := by
  constructor
  · intro h y hy e
    subst e
    have h1 := newI_sub h hs (List.singleton_sublist.2 hy)
    simp [newI] at h1
  · intro h
    cases l with
    | nil => rfl
    | cons y r =>
      have := h y (by simp)
      simp [newI]
      exact fun e => this e.symm

set_option maxHeartbeats 4000000 in
theorem one_any (k : Nat) (hk : 1 ≤ k ∧ k ≤ 3) (S : List Snp) (hS : S.length ≤ 1000000) (ho : OkS S) (a : Option Addr) (cap : Nat) (hcap : S.length ≤ cap) (hcap2 : cap ≤ 9223372036854775807) (i : Nat) (hi : i < S.length) (c : Int) (w : World) (hr : SnRow w a S) :
    Calls Try.prog 34 #[.slice a S.length cap, .int .i64 (i : Int), .int .i64 (k : Int), .int .i64 c] w fun e w' => e = .returned (.bool (mk1 (spK k) c (sn S i) (S.drop (i + 1)))) ∧ Below w.heap.size w w' := by
  obtain ⟨b, off, rfl, hbl, c0, c1, c2⟩ := hr.get i hi
  have hsp := span_K k
  have hor := ho.drop i
  rw [drop_sn hi] at hor
  have hsr : Srt (spK k (sn S i).time :: spans (spK k) (S.drop (i + 1))) := spans_srt hsp hor
  have hrl : (S.drop (i + 1)).length = S.length - (i + 1) := List.length_drop
  have hrr : ∀ j, j < S.length - (i + 1) → w.cell? ⟨b, off + (i + 1) * 3 + j * 3, none⟩ = some (.string (sn (S.drop (i + 1)) j).id) ∧ w.cell? ⟨b, off + (i + 1) * 3 + j * 3 + 1, none⟩ = some (.int .i64 (sn (S.drop (i + 1)) j).time) ∧ w.cell? ⟨b, off + (i + 1) * 3 + j * 3 + 2, none⟩ = some (.string (sn (S.drop (i + 1)) j).tag) := by
    intro j hj
    obtain ⟨b', off', e, _, h⟩ := hr.get (i + 1 + j) (by omega)
    injection e with e
    injection e with e1 e2 e3
    subst e1 e2
    rw [sn_drop]
    rw [show off + (i + 1) * 3 + j * 3 = off + (i + 1 + j) * 3 by omega]
    exact h
  have htr : ∀ j, j < S.length - (i + 1) → 0 ≤ (sn (S.drop (i + 1)) j).time ∧ (sn (S.drop (i + 1)) j).time ≤ 253402300799 := by
    intro j hj
    rw [sn_drop]
    have := ho (i + 1 + j) (by omega)
    exact ⟨this.1, this.2.1⟩
  have hti := ho i hi
  obtain ⟨R, HRl⟩ : ∃ R, Hid (S.drop (i + 1) = R) := ⟨_, Lib.hid (Eq.refl _)⟩
  rw [HRl.out] at hsr hrl hrr htr ⊢
  obtain ⟨N, HN⟩ : ∃ N, Hid (S.length = N) := ⟨_, Lib.hid (Eq.refl _)⟩
  rw [HN.out] at hS hcap hrl hrr htr hi ⊢
  obtain ⟨M, HM⟩ : ∃ M, Hid (N - (i + 1) = M) := ⟨_, Lib.hid (Eq.refl _)⟩
  rw [HM.out] at hrl hrr htr
  have hMl : M ≤ 1000000 := by have := HM.out; omega
  have hNM : (N : Int) - ((i : Int) + 1) = (M : Int) := by have := HM.out; omega
  have hNM2 : N - (i + 1) = M := HM.out
  obtain ⟨T, HT⟩ : ∃ T, Hid ((sn S i).time = T) := ⟨_, Lib.hid (Eq.refl _)⟩
  obtain ⟨X, HX⟩ : ∃ X, Hid (spK k T = X) := ⟨_, Lib.hid (Eq.refl _)⟩
  have cs := fun t h0 h1 W => rspan_any k hk t h0 h1 W
  have ct := fun W => cs T (by rw [← HT.out]; exact hti.1) (by rw [← HT.out]; exact hti.2.1) W
  obtain ⟨sp, Hsp⟩ : ∃ sp, Hid (spK k = sp) := ⟨_, Lib.hid (Eq.refl _)⟩
  rw [HX.out] at ct
  rw [HT.out, HX.out] at hsr
  rw [HT.out] at c1
  obtain ⟨B, HBv⟩ : ∃ B, Hid (mk1 (spK k) c (sn S i) R = B) := ⟨_, Lib.hid (Eq.refl _)⟩
  have HB2 : Hid (B = (newI X (spans sp R) && decide ((DI (spans sp R) : Int) < c))) := by
    show _ = _
    rw [← HBv.out, ← Hsp.out]
    unfold mk1
    rw [HT.out, HX.out]
  rw [HBv.out]
  rw [Hsp.out] at hsr cs
  have Hsr := Lib.hid hsr
  have Hrr := Lib.hid hrr
  have Htr := Lib.hid htr
  have CS := Lib.hid cs
  have CT := Lib.hid ct
  have Hrl := Lib.hid hrl
  have ho0 := World.ownsRow_made (base := w.heap.size) (e := 3) (size := 1)
  clear hsr hrr htr cs ct hrl hr ho hsp hor hti HBv c0 c2 hk
  go_enter Try.func34, Try.ntmps34
  go_wp2_with fail
  refine (CT.out _).mono ?_
  rintro e w1 ⟨rfl, hb1⟩
  have hb1' := hb1.size
  have HO1 : Hid (OwnJ (w1.alloc (.cells #[] 3)) w.heap.size (.slice (some ⟨w1.heap.size, 0, none⟩) 0 0) (dst (spans sp (R.take 0)))) := ho0 w1 #[] 0 hb1' (Nat.zero_le _) rfl
  have HBw := Lib.hid (hb1.alloc hb1' (.cells #[] 3))
  clear ho0 c1 hb1 hb1'
  by_cases hcz : cap - (i + 1) = 0
  · have hM0 : M = 0 := by omega
    subst hM0
    have hR0 : R = [] := List.length_eq_zero_iff.1 Hrl.out
    have HB3 : Hid (B = decide ((0 : Int) < c)) := by show _ = _; rw [HB2.out, hR0]; rfl
    have Hcz := Lib.hid hcz
    clear hR0
    go_wp2_with fail
    go_loopw [10, 30] (fun vo j wr => j = .int .i64 0 ∧ Hid (OwnJ wr w.heap.size vo []) ∧ Hid (Below w.heap.size w wr)) (fun _ _ _ => 0)
    case atStart => exact ⟨rfl, HO1, HBw⟩
    case round =>
      clear HBw
      obtain ⟨rfl, HO, HBw⟩ := hrel
      obtain ⟨al, cl, rfl, _⟩ := HO.out.view
      go_wp2_with fail
      go_ret
      exact ⟨by rw [HB3.out]; rfl, HBw.out⟩
  go_wp2_with fail
  go_loopw [10, 30] (fun vo j wr => ∃ m : Nat, m ≤ M ∧ j = .int .i64 (m : Int) ∧ Hid (OwnJ wr w.heap.size vo (dst (spans sp (R.take m)))) ∧ Hid (∀ y ∈ spans sp (R.take m), y ≠ X) ∧ Hid (Below w.heap.size w wr)) (fun _ j _ => M - (intOf j).toNat)
  case atStart => exact ⟨0, by omega, rfl, HO1, fun y hy => by simp [spans] at hy, HBw⟩
  case round =>
    clear HBw HO1
    obtain ⟨m, hm, rfl, HO, HA, HBw⟩ := hrel
    obtain ⟨al, cl, rfl, hv⟩ := HO.out.view
    have hdl := dst_le (spans sp (R.take m))
    simp only [spans, List.length_map, List.length_take] at hdl
    have hdl2 : (dst (spans sp (R.take m))).length ≤ m := by simp only [spans]; omega
    clear hdl
    by_cases hlt : m < M
    · obtain ⟨r0, r1, r2⟩ := Hrr.out m hlt
      have hcell := fun o => HBw.out.cell (p := ⟨b, o, none⟩) hbl
      rw [← hcell] at r0 r1 r2
      obtain ⟨t, Ht⟩ : ∃ t, Hid ((sn R m).time = t) := ⟨_, Lib.hid (Eq.refl _)⟩
      obtain ⟨sid, Hi⟩ : ∃ T, Hid ((sn R m).id = T) := ⟨_, Lib.hid (Eq.refl _)⟩
      obtain ⟨stg, Hsg⟩ : ∃ T, Hid ((sn R m).tag = T) := ⟨_, Lib.hid (Eq.refl _)⟩
      have htb := Htr.out m hlt
      have Hst := Lib.hid (spans_take sp R m (by rw [Hrl.out]; exact hlt))
      rw [Ht.out] at htb r1 Hst
      rw [Hi.out] at r0
      rw [Hsg.out] at r2
      obtain ⟨x, Hx⟩ : ∃ x, Hid (sp t = x) := ⟨_, Lib.hid (Eq.refl _)⟩
      have cs := fun W => CS.out t htb.1 htb.2 W
      rw [Hx.out] at cs Hst
      have Hmem : Hid (x ∈ spans sp R) := by
        have h1 : x ∈ spans sp (R.take (m + 1)) := by rw [Hst.out]; simp
        unfold spans at h1 ⊢
        rw [List.map_take] at h1
        exact List.mem_of_mem_take h1
      have CS2 := Lib.hid cs
      clear cs hcell htb
      go_upto_region 6 with (fail)
      have HB3 := Lib.hid (HBw.out.alloc HBw.out.size (.cells #[.string sid, .int .i64 t, .string stg] 49))
      have HO3 := Lib.hid (HO.out.below ((Below.refl _ _).alloc (Nat.le_refl _) (.cells #[.string sid, .int .i64 t, .string stg] 49)) (Nat.le_refl _))
      have hB4 := Blk.new wr 49 #[.string sid, .int .i64 t, .string stg]
      obtain ⟨g4, Hg4⟩ : ∃ g, Hid (wr.heap.size = g) := ⟨_, Lib.hid (Eq.refl _)⟩
      rw [Hg4.out] at hB4 ⊢
      generalize wr.alloc (.cells #[.string sid, .int .i64 t, .string stg] 49) = w4 at *
      have g1 := hB4.cell 1
      simp at g1
      clear r0 r1 r2 hB4 HO HBw hv
      go_wp2_with fail
      refine (CS2.out _).mono ?_
      rintro e w5 ⟨rfl, hb5⟩
      have HB5 := Lib.hid (bthen HB3.out hb5)
      have HO5 := Lib.hid (HO3.out.below hb5 (Nat.le_refl _))
      clear HB3 HO3 hb5 g1
      obtain ⟨LT, HLT⟩ : ∃ L, Hid (dst (spans sp (R.take m)) = L) := ⟨_, Lib.hid (Eq.refl _)⟩
      rw [HLT.out] at HO5 hdl2 ⊢
      by_cases hx : x = X
      · have hxa : (x == X) = true := by simpa using hx
        have HBf : Hid (B = false) := by
          show _ = _
          rw [HB2.out]
          have h1 : ¬ newI X (spans sp R) = true := fun h => (newI_iff Hsr.out).1 h x Hmem.out hx
          simp [h1]
        clear hx
        go_wp2_with fail
        go_ret
        exact ⟨by rw [HBf.out]; rfl, HB5.out⟩
      · have hxa : (x == X) = false := by simpa using hx
        have HA2 : Hid (∀ y ∈ spans sp (R.take (m + 1)), y ≠ X) := by
          intro y hy
          rw [Hst.out, List.mem_append, List.mem_singleton] at hy
          rcases hy with h | h
          · exact HA.out y h
          · rw [h]; exact hx
        obtain ⟨al', cl', e, hv⟩ := HO5.out.view
        injection e with e1 e3 e2
        subst e1 e2
        clear e3 hx
        have Hv := Lib.hid hv
        obtain ⟨dl, Hdl⟩ : ∃ n, Hid (LT.length = n) := ⟨_, Lib.hid (Eq.refl _)⟩
        have HO6 := HO5
        rw [Hdl.out] at HO5 hdl2 ⊢
        clear hv
        go_wp2_with fail
        go_loop [14, 43] (fun se j => ∃ (q : Nat) (bs : Bool), q ≤ dl ∧ j = .int .i64 (q : Int) ∧ se = .bool bs ∧ Hid (bs = decide (x ∈ LT.take q))) (fun _ j => dl - (intOf j).toNat)
        case atStart => exact ⟨0, false, by omega, rfl, rfl, by show _ = _; simp⟩
        case round =>
          obtain ⟨q, bs, hq, rfl, rfl, Hbs⟩ := hrel
          by_cases hlt2 : q < dl
          · have hql : q < LT.length := by rw [Hdl.out]; exact hlt2
            obtain ⟨g, rfl, hc⟩ := Hv.out q hql
            obtain ⟨y, Hy⟩ : ∃ y, Hid (LT[q] = y) := ⟨_, Lib.hid (Eq.refl _)⟩
            have Hbs2 : Hid (decide (x ∈ LT.take (q + 1)) = (bs || (x == y))) := by
              show _ = _
              rw [Hbs.out, List.take_succ_eq_append_getElem hql, Hy.out]
              by_cases h1 : x ∈ LT.take q
              · simp [h1]
              · by_cases h2 : x = y
                · simp [h2]
                · simp [h1, h2]
            rw [Hy.out] at hc
            cases bs
            · by_cases hxy : x = y
              · have hxyb : (x == y) = true := by simpa using hxy
                clear hxy
                go_wp2_with fail
                go_round
                case rel => exact ⟨q + 1, true, by omega, by go_num, rfl, by show _ = _; rw [Hbs2.out, hxyb]; rfl⟩
                case measure => simp [intOf]; omega
              · have hxyb : (x == y) = false := by simpa using hxy
                clear hxy
                go_wp2_with fail
                go_round
                case rel => exact ⟨q + 1, false, by omega, by go_num, rfl, by show _ = _; rw [Hbs2.out, hxyb]; rfl⟩
                case measure => simp [intOf]; omega
            · go_wp2_with fail
              go_round
              case rel => exact ⟨q + 1, true, by omega, by go_num, rfl, by show _ = _; rw [Hbs2.out]; rfl⟩
              case measure => simp [intOf]; omega
          · obtain rfl : q = dl := by omega
            have Hin : Hid (bs = decide (x ∈ LT)) := by show _ = _; rw [Hbs.out, List.take_of_length_le (by rw [Hdl.out]; exact Nat.le_refl _)]
            cases bs
            · have Hd : Hid (dst (spans sp (R.take (m + 1))) = LT ++ [x]) := by
                show _ = _
                rw [Hst.out, dst_snoc, HLT.out, if_neg]
                intro h
                have := Hin.out
                simp [h] at this
              have hos := HO6.out
              have hbsw : w.heap.size ≤ _ := HB5.out.size
              rw [Hdl.out] at hos
              have hos2 : w5.ownsRow w.heap.size 3 1 (.slice al q cl) q (LT.map (Value.int .i64)) := by
                have := hos; unfold OwnJ at this; rw [Hdl.out] at this; exact this
              clear hos
              go_wp2_with (first
                | (at_builtin; go_must (refine wpList_append_elem _ rfl (.tmp 56) (.tmp 58) rfl Try.underlying33 info_int rfl (by decide) w.heap.size _ q (LT.map (Value.int .i64)) [.int .i64 x] hos2 rfl ?_ rfl rfl rfl ?_ ?_ hbsw ?_; (intro y hy; simp at hy; subst hy; rfl); (unfold maxLen; omega); omega; intro v7 w7 hown7 hg7; have HO7 := Lib.hid hown7; have Hb7 := Lib.hid (grown_below hg7 HB5.out (fun g e => (World.ownsRow.lt hos2 g e).1)); clear hown7 hg7 hos2))
                | fail)
              go_roundw
              case rel =>
                refine ⟨m + 1, by omega, by go_num, ?_, HA2, Hb7⟩
                show OwnJ _ _ _ _
                rw [Hd.out]
                unfold OwnJ
                rw [List.length_append, Hdl.out, List.map_append]
                exact HO7.out
              case measure => simp [intOf]; omega
            · have Hd : Hid (dst (spans sp (R.take (m + 1))) = LT) := by
                show _ = _
                rw [Hst.out, dst_snoc, HLT.out, if_pos]
                have := Hin.out
                simpa using this
              go_wp2_with fail
              go_roundw
              case rel =>
                refine ⟨m + 1, by omega, by go_num, ?_, HA2, HB5⟩
                show OwnJ _ _ _ _
                rw [Hd.out]
                exact HO5.out
              case measure => simp [intOf]; omega
    · obtain rfl : m = M := by omega
      have Htk : Hid (R.take m = R) := List.take_of_length_le (by rw [Hrl.out]; exact Nat.le_refl _)
      rw [Htk.out] at HO HA ⊢
      have hln : (dst (spans sp R)).length = DI (spans sp R) := dst_len (List.pairwise_cons.1 Hsr.out).2
      rw [hln]
      have HBe : Hid (B = decide ((DI (spans sp R) : Int) < c)) := by
        show _ = _
        rw [HB2.out, (newI_iff Hsr.out).2 HA.out]; rfl
      generalize DI (spans sp R) = D at *
      clear hln hdl2 hv
      go_wp2_with fail
      go_ret
      exact ⟨by rw [HBe.out]; rfl, HBw.out⟩
end Go.Proofs.Ytcblcjbflgepoaa
