/- HuffLengths: the document's Least: the counts above 0 are put into a falling list, then the search. Conditions: at most nine counts above 0. -/
import Derived.Test.YtahgeeklenojjaaHlL
import Derived.Test.YtahgeeklenojjaaNewW
namespace Go.Proofs.Ytahgeeklenojjaa
open Go.RowKit
set_option maxRecDepth 100000

/-- The new list when j of the old one's counts are through. -/
def insT (n : Int) (D : List Int) (j : Nat) : List Int := if ((D.take j).any fun y => decide (y < n)) = true then insD n (D.take j) else D.take j
def insB (n : Int) (D : List Int) (j : Nat) : Bool := (D.take j).any fun y => decide (y < n)
theorem insB_zero (n : Int) (D : List Int) : insB n D 0 = false := rfl
theorem insT_zero (n : Int) (D : List Int) : insT n D 0 = [] := rfl
theorem take_one (D : List Int) (j : Nat) (hj : j < D.length) : D.take (j + 1) = D.take j ++ [D.getD j 0] := by
  rw [List.take_succ_eq_append_getElem hj]
  congr 2
  rw [List.getD_eq_getElem?_getD, List.getElem?_eq_getElem hj]
  rfl
theorem insB_succ (n : Int) (D : List Int) (j : Nat) (hj : j < D.length) : insB n D (j + 1) = (insB n D j || decide (D.getD j 0 < n)) := by
  unfold insB
  rw [take_one D j hj, List.any_append]
  simp
theorem insT_on (n : Int) (D : List Int) (j : Nat) (hj : j < D.length) (h : insB n D j = true) : insT n D (j + 1) = insT n D j ++ [D.getD j 0] := by
  have h2 := insB_succ n D j hj
  rw [h, Bool.true_or] at h2
  unfold insB at h h2
  unfold insT
  rw [if_pos h, if_pos h2, take_one D j hj, insD_done n _ _ h]
theorem insT_in (n : Int) (D : List Int) (j : Nat) (hj : j < D.length) (h : insB n D j = false) (hx : D.getD j 0 < n) : insT n D (j + 1) = insT n D j ++ [n] ++ [D.getD j 0] := by
  have h2 := insB_succ n D j hj
  rw [decide_eq_true hx, Bool.or_true] at h2
  unfold insB at h h2
  unfold insT
  rw [if_pos h2, if_neg (by rw [h]; decide), take_one D j hj, insD_not n _ _ h, insD, if_pos hx, List.append_assoc]
  rfl
theorem insT_off (n : Int) (D : List Int) (j : Nat) (hj : j < D.length) (h : insB n D j = false) (hx : ¬ D.getD j 0 < n) : insT n D (j + 1) = insT n D j ++ [D.getD j 0] := by
  have h2 := insB_succ n D j hj
  rw [h, decide_eq_false hx] at h2
  unfold insB at h h2
  unfold insT
  rw [if_neg (by rw [h2]; decide), if_neg (by rw [h]; decide), take_one D j hj]
theorem insT_end1 (n : Int) (D : List Int) (h : insB n D D.length = true) : insT n D D.length = insD n D := by
  unfold insT
  unfold insB at h
  rw [if_pos h, List.take_length]
theorem insT_end2 (n : Int) (D : List Int) (h : insB n D D.length = false) : insT n D D.length ++ [n] = insD n D := by
  unfold insT
  unfold insB at h
  rw [if_neg (by rw [h]; decide)]
  rw [List.take_length] at h ⊢
  have := insD_not n [] D h
  rw [List.append_nil] at this
  rw [this]; rfl
theorem insD_len (n : Int) (l : List Int) : (insD n l).length = l.length + 1 := by
  rw [(insD_perm n l).length_eq]; rfl
theorem insT_len (n : Int) (D : List Int) (j : Nat) : (insT n D j).length ≤ D.length + 1 := by
  unfold insT
  split
  · rw [insD_len, List.length_take]; omega
  · rw [List.length_take]; omega
theorem range_getD (D : List Int) : ((List.range D.length).map fun i => D.getD i 0) = D := by
  apply List.ext_getElem
  · simp
  · intro i h1 h2
    rw [List.getElem_map, List.getElem_range, List.getD_eq_getElem?_getD, List.getElem?_eq_getElem h2]
    rfl
theorem descL_len (cnt : Nat → Int) (n : Nat) : (descL cnt n).length = (coinsB cnt n).length := by
  rw [(descL_perm cnt n).length_eq, List.length_map]
theorem coinsB_mono (cnt : Nat → Int) (i n : Nat) (h : i ≤ n) : (coinsB cnt i).length ≤ (coinsB cnt n).length := by
  induction n with
  | zero => obtain rfl : i = 0 := by omega
            exact Nat.le_refl _
  | succ n ih =>
    by_cases e : i = n + 1
    · subst e; exact Nat.le_refl _
    · refine Nat.le_trans (ih (by omega)) ?_
      show _ ≤ (coinsB cnt n ++ _).length
      rw [List.length_append]
      omega
theorem descL_bd (cnt : Nat → Int) (n : Nat) (h : ∀ i, i < n → 0 ≤ cnt i ∧ cnt i ≤ 1000000) (y : Int) (hy : y ∈ descL cnt n) : 0 ≤ y ∧ y ≤ 1000000 := by
  have h1 := (descL_perm cnt n).mem_iff.1 hy
  obtain ⟨x, hx, rfl⟩ := List.mem_map.1 h1
  obtain ⟨s, hs, _, rfl⟩ := coinsB_mem cnt n x hx
  exact h s hs

/-- A row of whole numbers that the call itself puts together. -/
def zcl (L : List Int) : List Value := L.map fun z => .int .i64 z
def OwnZ (w : World) (base : Nat) (v : Value) (L : List Int) : Prop := w.ownsRow base 3 1 v L.length (zcl L)
theorem OwnZ.empty (w : World) (base : Nat) (hb : base ≤ w.heap.size) : OwnZ (w.alloc (.cells #[] 3)) base (.slice (some ⟨w.heap.size, 0, none⟩) 0 0) [] :=
  ⟨rfl, .inr ⟨w.heap.size, 0, #[], rfl, hb, Blk.new w _ _, Nat.le_refl _, Nat.zero_le _, rfl, rfl⟩⟩
theorem OwnZ.below {w w' : World} {base B : Nat} {v : Value} {L : List Int} (h : OwnZ w base v L) (hb : Below B w w') (hB : w.heap.size ≤ B) : OwnZ w' base v L := by
  have hlt := World.ownsRow.lt h
  refine ⟨h.1, ?_⟩
  rcases h.2 with h2 | ⟨g, cap, cur, rfl, h3, h4, h5⟩
  · exact .inl h2
  · exact .inr ⟨g, cap, cur, rfl, h3, (hb.block g (Nat.lt_of_lt_of_le (hlt g rfl).2 hB)).trans h4, h5⟩
theorem OwnZ.base {w : World} {base B : Nat} {v : Value} {L : List Int} (h : OwnZ w base v L) (hB : B ≤ base) : OwnZ w B v L := by
  refine ⟨h.1, ?_⟩
  rcases h.2 with h2 | ⟨g, cap, cur, rfl, h3, h5⟩
  · exact .inl h2
  · exact .inr ⟨g, cap, cur, rfl, Nat.le_trans hB h3, h5⟩
theorem OwnZ.view {w : World} {base : Nat} {v : Value} {L : List Int} (h : OwnZ w base v L) : ∃ a cap, v = .slice a L.length cap ∧ IRow w a L.length (fun i => L.getD i 0) ∧ L.length ≤ cap ∧ cap ≤ 9223372036854775807 := by
  have hlt := World.ownsRow.lt h
  have hc := fun g hg => World.ownsRow.cells h (g := g) hg
  rcases h.2 with ⟨rfl, h0⟩ | ⟨G, cap, cur, rfl, _, _, h1, h2, _⟩
  · exact ⟨none, 0, by rw [h0], .inl h0, by omega, by omega⟩
  · unfold maxLen at h2
    refine ⟨_, _, rfl, .inr ⟨G, 0, rfl, (hlt G rfl).2, fun j hj => ?_⟩, h1, by omega⟩
    have e0 : (⟨G, 0, none⟩ : Addr).add j = ⟨G, j, none⟩ := by unfold Addr.add; split <;> simp_all
    have := hc G rfl j (.int .i64 (L.getD j 0)) (by
      unfold zcl
      rw [List.getElem?_map, List.getElem?_eq_getElem hj, List.getD_eq_getElem?_getD, List.getElem?_eq_getElem hj]
      rfl)
    rw [e0] at this
    rw [Nat.zero_add, this]
theorem wpList_append_Z {ops : Array Oper} {rest : List Oper} {o : Oper} {a : Act} {Q : Exit → Act → World → Prop} (w : World) (hgd : o.guard = none) (s x : Operand)
    (ho : o.op = .call { callee := .builtin .append, args := #[s, x], argTypes := #[22, 22] })
    (base : Nat) (v : Value) (L : List Int) (u : Int) (hown : OwnZ w base v L) (hs : a.eval s = v)
    {sz : Nat} (hx : a.eval x = .slice (some ⟨sz, 0, none⟩) 1 1) (hsize : sz = w.heap.size) (hm : L.length ≤ 1000) (hbase : base ≤ w.heap.size)
    (h : ∀ v' w', OwnZ w' base v' (L ++ [u]) → Below base w w' → wpList Try.prog ops Q rest (a.put o.dst v') w') :
    wpList Try.prog ops Q (o :: rest) a (w.alloc (.cells #[.int .i64 u] 3)) :=
  wpList_append_elem w hgd s x ho Try.underlying22 info_int rfl (by decide) base v L.length (zcl L) [.int .i64 u] hown rfl (by intro y hy; simp at hy; subst hy; rfl) hs hx hsize (by unfold maxLen; omega) (by omega) hbase
    fun v' w' h2 h3 => h v' w' (by unfold OwnZ zcl; rw [List.map_append, List.length_append]; exact h2) (below_grown hown h3 hbase)

set_option maxHeartbeats 8000000 in
theorem leastU_any (a : Option Addr) (n cap : Nat) (cnt : Nat → Int) (most : Nat) (hn : n ≤ 400) (hm15 : most ≤ 15) (hc : ∀ i, i < n → 0 ≤ cnt i ∧ cnt i ≤ 1000000) (h9 : (coinsB cnt n).length ≤ 9) (w : World) (hr : IRow w a n cnt) :
    Calls Try.prog 21 #[.slice a n cap, .int .i64 (most : Int)] w fun e w' => e = .returned (.int .i64 (optI (lsN most (descL cnt n) 1 2))) ∧ Below w.heap.size w w' := by
  have Hr := Lib.hid hr
  have Hc := Lib.hid hc
  have H9 : Hid (∀ i, i ≤ n → (descL cnt i).length ≤ 9) := fun i hi => by
    rw [descL_len]
    exact Nat.le_trans (coinsB_mono cnt i n hi) h9
  have CLE : Hid (∀ (D : List Int) (ad : Option Addr) (c : Nat) (W : World), D = descL cnt n → IRow W ad D.length (fun i => D.getD i 0) → D.length ≤ c → c ≤ 9223372036854775807 → Calls Try.prog 29 #[.slice ad D.length c, .int .i64 (most : Int), .int .i64 1, .int .i64 2] W fun e w' => e = .returned (.int .i64 (optI (lsN most D 1 2))) ∧ W = w') := fun D ad c W hD hW hc1 hc2 => by
    have h := least_any most 1 most 2 D.length c ad (fun i => D.getD i 0) W (by omega) hm15 (by omega) (by omega) (by have := H9.out n (Nat.le_refl _); rw [hD]; exact this) hc1 hc2 (fun i hi => descL_bd cnt n hc _ (by
      rw [← hD, List.getD_eq_getElem?_getD, List.getElem?_eq_getElem hi]
      exact List.getElem_mem _)) hW
    rw [range_getD] at h
    exact h
  have HB0 : Hid (Below w.heap.size w (w.alloc (.cells #[] 3))) := Lib.hid ((Below.refl w.heap.size w).alloc (Nat.le_refl _) (.cells #[] 3))
  have HO0 : Hid (OwnZ (w.alloc (.cells #[] 3)) w.heap.size (.slice (some ⟨w.heap.size, 0, none⟩) 0 0) (descL cnt 0)) := Lib.hid (OwnZ.empty w _ (Nat.le_refl _))
  clear hr hc h9
  go_enter Try.func21, Try.ntmps21
  go_wp2_with fail
  go_loopw [5, 15] (fun l_ i_ wr => ∃ i : Nat, i ≤ n ∧ i_ = .int .i64 (i : Int) ∧ Hid (OwnZ wr w.heap.size l_ (descL cnt i)) ∧ Hid (Below w.heap.size w wr)) (fun _ i _ => n - (intOf i).toNat)
  case atStart => exact ⟨0, by omega, rfl, HO0, HB0⟩
  case round =>
    clear HB0 HO0
    obtain ⟨i, hi, rfl, HO, HB⟩ := hrel
    have HRw := Lib.hid (Hr.out.below HB.out)
    by_cases hlt : i < n
    · have d1 : decide ((i : Int) < (n : Int)) = true := by rw [decide_eq_true_eq]; omega
      obtain ⟨b, off, rfl, _, c0⟩ := HRw.out.get i hlt
      obtain ⟨x, Hx⟩ : ∃ R, Hid (cnt i = R) := ⟨_, Lib.hid (Eq.refl _)⟩
      rw [Hx.out] at c0
      by_cases hx0 : 0 < x
      · have d2 : decide (0 < x) = true := by rw [decide_eq_true_eq]; exact hx0
        have hdl9 := H9.out i hi
        have hdsucc : descL cnt (i + 1) = insD x (descL cnt i) := by rw [descL, if_pos (by rw [Hx.out]; exact hx0), Hx.out]
        obtain ⟨D, HD⟩ : ∃ D, Hid (descL cnt i = D) := ⟨_, Lib.hid (Eq.refl _)⟩
        rw [HD.out] at HO hdl9 hdsucc
        have Hds := Lib.hid hdsucc
        obtain ⟨ad, c, rfl, hv1, hv2, hv3⟩ := HO.out.view
        have HV := Lib.hid hv1
        obtain ⟨dl, Hdl⟩ : ∃ k, Hid (D.length = k) := ⟨_, Lib.hid (Eq.refl _)⟩
        rw [Hdl.out] at HV hdl9 hv2 ⊢
        have HN0 : Hid (OwnZ (wr.alloc (.cells #[] 3)) wr.heap.size (.slice (some ⟨wr.heap.size, 0, none⟩) 0 0) (insT x D 0)) := Lib.hid (OwnZ.empty wr _ (Nat.le_refl _))
        have HBq0 : Hid (Below wr.heap.size wr (wr.alloc (.cells #[] 3))) := Lib.hid ((Below.refl wr.heap.size wr).alloc (Nat.le_refl _) (.cells #[] 3))
        clear hv1 hdsucc HO HRw
        go_wp2_with fail
        go_loopw [8, 9, 24] (fun n_ b_ j_ wq => ∃ j : Nat, j ≤ dl ∧ j_ = .int .i64 (j : Int) ∧ (∃ B, b_ = .bool B ∧ Hid (insB x D j = B)) ∧ Hid (OwnZ wq wr.heap.size n_ (insT x D j)) ∧ Hid (Below wr.heap.size wr wq)) (fun _ _ j_ _ => dl - (intOf j_).toNat)
        case atStart => exact ⟨0, by omega, rfl, ⟨_, rfl, insB_zero x D⟩, HN0, HBq0⟩
        case round =>
          clear HN0 HBq0
          rename World => wq
          obtain ⟨j, hj, rfl, ⟨B, rfl, HBj⟩, HN, HBq⟩ := hrel
          have HVq := Lib.hid (HV.out.below HBq.out)
          have hbs : wr.heap.size ≤ wq.heap.size := HBq.out.size
          have hln : (insT x D j).length ≤ 1000 := by have := insT_len x D j; have := Hdl.out; omega
          have hln2 : (insT x D j ++ [x]).length ≤ 1000 := by rw [List.length_append]; have := insT_len x D j; have := Hdl.out; simp only [List.length_cons, List.length_nil]; omega
          by_cases hjl : j < dl
          · have dj : decide ((j : Int) < (dl : Int)) = true := by rw [decide_eq_true_eq]; omega
            have hjD : j < D.length := by rw [Hdl.out]; exact hjl
            obtain ⟨b2, o2, rfl, _, c2⟩ := HVq.out.get j hjl
            have hsb := insB_succ x D j hjD
            have s1 := insT_on x D j hjD
            have s2 := insT_in x D j hjD
            have s3 := insT_off x D j hjD
            obtain ⟨y, Hy⟩ : ∃ R, Hid (D.getD j 0 = R) := ⟨_, Lib.hid (Eq.refl _)⟩
            rw [Hy.out] at c2 hsb s1 s2 s3
            rw [HBj.out] at hsb s1 s2 s3
            obtain ⟨TJ, HTJ⟩ : ∃ R, Hid (insT x D j = R) := ⟨_, Lib.hid (Eq.refl _)⟩
            rw [HTJ.out] at HN hln hln2 s1 s2 s3
            have Hsb := Lib.hid hsb
            have S1 := Lib.hid s1
            have S2 := Lib.hid s2
            have S3 := Lib.hid s3
            clear hsb s1 s2 s3 hjD HTJ
            cases B with
            | true =>
              go_wp2_with (first | (at_builtin; go_must (refine wpList_append_Z wq rfl (.tmp 39) (.tmp 41) rfl wr.heap.size _ TJ y HN.out rfl rfl rfl hln hbs ?_; intro v8 w8 ho8 hb8; have HO8 := Lib.hid ho8; have HB8 := Lib.hid (HBq.out.trans hb8); have hbs8 : wr.heap.size ≤ w8.heap.size := HB8.out.size; clear ho8 hb8)) | fail)
              go_roundw
              case rel => exact ⟨j + 1, by omega, by go_num, ⟨true, rfl, by show _ = _; rw [Hsb.out]; rfl⟩, by show OwnZ _ _ _ _; rw [S1.out rfl]; exact HO8.out, HB8⟩
              case measure => simp [intOf]; omega
            | false =>
              by_cases hyx : y < x
              · have dy : decide (y < x) = true := by rw [decide_eq_true_eq]; exact hyx
                go_wp2_with (first | (at_builtin; (refine wpList_append_Z wq rfl (.tmp 35) (.tmp 37) rfl wr.heap.size _ TJ x HN.out rfl rfl rfl hln hbs ?_; intro v8 w8 ho8 hb8; have HO8 := Lib.hid ho8; have HB8 := Lib.hid (HBq.out.trans hb8); have hbs8 : wr.heap.size ≤ w8.heap.size := HB8.out.size; clear ho8 hb8)) | (at_builtin; go_must (refine wpList_append_Z w8 rfl (.tmp 39) (.tmp 41) rfl wr.heap.size _ (TJ ++ [x]) y HO8.out rfl rfl rfl hln2 hbs8 ?_; intro v9 w9 ho9 hb9; have HO9 := Lib.hid ho9; have HB9 := Lib.hid (HB8.out.trans hb9); have hbs9 : wr.heap.size ≤ w9.heap.size := HB9.out.size; clear ho9 hb9)) | fail)
                go_roundw
                case rel => exact ⟨j + 1, by omega, by go_num, ⟨true, rfl, by show _ = _; rw [Hsb.out, dy]; rfl⟩, by show OwnZ _ _ _ _; rw [S2.out rfl hyx]; exact HO9.out, HB9⟩
                case measure => simp [intOf]; omega
              · have dy : decide (y < x) = false := by rw [decide_eq_false_iff_not]; exact hyx
                go_wp2_with (first | (at_builtin; go_must (refine wpList_append_Z wq rfl (.tmp 39) (.tmp 41) rfl wr.heap.size _ TJ y HN.out rfl rfl rfl hln hbs ?_; intro v8 w8 ho8 hb8; have HO8 := Lib.hid ho8; have HB8 := Lib.hid (HBq.out.trans hb8); have hbs8 : wr.heap.size ≤ w8.heap.size := HB8.out.size; clear ho8 hb8)) | fail)
                go_roundw
                case rel => exact ⟨j + 1, by omega, by go_num, ⟨false, rfl, by show _ = _; rw [Hsb.out, dy]; rfl⟩, by show OwnZ _ _ _ _; rw [S3.out rfl hyx]; exact HO8.out, HB8⟩
                case measure => simp [intOf]; omega
          · have hje : j = D.length := by rw [Hdl.out]; omega
            have dj : decide ((j : Int) < (dl : Int)) = false := by rw [decide_eq_false_iff_not]; omega
            cases B with
            | true =>
              have H2 : Hid (OwnZ wq w.heap.size u8 (descL cnt (i + 1))) := by
                have e := insT_end1 x D (by rw [← hje]; exact HBj.out)
                rw [← hje, ← Hds.out] at e
                show OwnZ _ _ _ _
                rw [← e]
                exact HN.out.base HB.out.size
              have HB2 := Lib.hid (HB.out.trans (HBq.out.mono HB.out.size))
              clear hje hln hln2
              go_wp2_with fail
              go_roundw
              case rel => exact ⟨i + 1, by omega, by go_num, H2, HB2⟩
              case measure => simp [intOf]; omega
            | false =>
              have e := insT_end2 x D (by rw [← hje]; exact HBj.out)
              rw [← hje, ← Hds.out] at e
              obtain ⟨TJ, HTJ⟩ : ∃ R, Hid (insT x D j = R) := ⟨_, Lib.hid (Eq.refl _)⟩
              rw [HTJ.out] at HN hln e
              have He := Lib.hid e
              clear hje hln2 e
              go_wp2_with (first | (at_builtin; go_must (refine wpList_append_Z wq rfl (.tmp 46) (.tmp 48) rfl wr.heap.size _ TJ x HN.out rfl rfl rfl hln hbs ?_; intro v8 w8 ho8 hb8; have HO8 := Lib.hid ho8; have HB8 := Lib.hid (HBq.out.trans hb8); have hbs8 : wr.heap.size ≤ w8.heap.size := HB8.out.size; clear ho8 hb8)) | fail)
              have H2 : Hid (OwnZ w8 w.heap.size v8 (descL cnt (i + 1))) := by
                show OwnZ _ _ _ _
                rw [← He.out]
                exact HO8.out.base HB.out.size
              have HB2 := Lib.hid (HB.out.trans (HB8.out.mono HB.out.size))
              go_roundw
              case rel => exact ⟨i + 1, by omega, by go_num, H2, HB2⟩
              case measure => simp [intOf]; omega
      · have d2 : decide (0 < x) = false := by rw [decide_eq_false_iff_not]; exact hx0
        have H2 : Hid (OwnZ wr w.heap.size u5 (descL cnt (i + 1))) := by
          have e : descL cnt (i + 1) = descL cnt i := by rw [descL, if_neg (by rw [Hx.out]; exact hx0)]
          show OwnZ _ _ _ _
          rw [e]; exact HO.out
        go_wp2_with fail
        go_roundw
        case rel => exact ⟨i + 1, by omega, by go_num, H2, HB⟩
        case measure => simp [intOf]; omega
    · obtain rfl : i = n := by omega
      have d1 : decide ((i : Int) < (i : Int)) = false := by rw [decide_eq_false_iff_not]; omega
      obtain ⟨ad, c, rfl, hv1, hv2, hv3⟩ := HO.out.view
      have CL := Lib.hid (CLE.out _ ad c wr rfl hv1 hv2 hv3)
      have h9 := H9.out i (Nat.le_refl _)
      obtain ⟨D, HD⟩ : ∃ D, Hid (descL cnt i = D) := ⟨_, Lib.hid (Eq.refl _)⟩
      have hB := HB.out
      go_wp2_with fail
      refine CL.out.mono ?_
      rintro e w1 ⟨rfl, rfl⟩
      go_wp2_with fail
      go_ret
      exact ⟨rfl, hB⟩
end Go.Proofs.Ytahgeeklenojjaa
