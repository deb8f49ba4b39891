/- The chunker: Write. Conditions: at most a hundred thousand bytes. -/
import Derived.Test.YtgjofpefglbjjaaKW
namespace Go.Proofs.Ytgjofpefglbjjaa
open Go.RowKit
set_option maxRecDepth 100000

theorem crun_take (mn b mx : Nat) (S : CS) (s : ByteArray) (k : Nat) (hk : k < s.size) : crun mn b mx S (s.data.toList.take (k + 1)) = cstep mn b mx (crun mn b mx S (s.data.toList.take k)) s[k] := by
  rw [List.take_succ_eq_append_getElem (by simpa using hk), crun_snoc]; rfl
theorem crun_begun_le (mn b mx : Nat) (S : CS) (l : List UInt8) : (crun mn b mx S l).begun.length ≤ S.begun.length + l.length := by
  induction l generalizing S with
  | nil => simp [crun]
  | cons c r ih =>
    have h := ih (cstep mn b mx S c)
    have h2 : (cstep mn b mx S c).begun.length ≤ S.begun.length + 1 := by unfold cstep; split <;> simp
    show (crun mn b mx (cstep mn b mx S c) r).begun.length ≤ _
    rw [List.length_cons]
    omega
theorem crun_out_le (mn b mx : Nat) (S : CS) (l : List UInt8) : (crun mn b mx S l).out.length ≤ S.out.length + l.length := by
  induction l generalizing S with
  | nil => simp [crun]
  | cons c r ih =>
    have h := ih (cstep mn b mx S c)
    have h2 : (cstep mn b mx S c).out.length ≤ S.out.length + 1 := by unfold cstep; split <;> simp
    show (crun mn b mx (cstep mn b mx S c) r).out.length ≤ _
    rw [List.length_cons]
    omega

theorem k_29 {mn b mx t p : Nat} {ring ot : Nat → Nat} {v : Value} {cl : Bool} : (kcells mn b mx ring t p ot v cl)[29]? = some v := by rw [k_get 29 (by decide)]; rfl
theorem kw_ne {w wr : World} {P base gs : Nat} {v0 v vo : Value} {s : ByteArray} {g : List UInt8} {outs : List (List UInt8)} {cs : Array Value} (h : KW w wr P base gs v0 v vo s g outs) (hB : Blk wr P 74 cs) : some P ≠ v.ownBlock := by
  rcases row_blk h.own hB (by decide) with e | e
  · rw [e]; simp
  · exact fun e2 => e e2.symm
theorem kw_app {w wr wr' : World} {P base gs n : Nat} {v0 v v' vo : Value} {s : ByteArray} {g : List UInt8} {outs : List (List UInt8)} {c : UInt8} (h : KW w wr P base gs v0 v vo s g outs) (hg : wr.grownBy wr' v.ownBlock)
    (hown : wr'.ownsRow base 5 1 v' n (bcells g ++ [.int .u8 (c.toNat : Int)])) (hf : ∀ k, k < wr.heap.size → v.ownBlock ≠ some k → v'.ownBlock ≠ some k) (hn : n = g.length + 1 := by rfl) : KW w wr' P base gs v0 v' vo s (g ++ [c]) outs := by
  subst hn
  refine h.more hg ?_ hf
  unfold OwnB
  rw [bcells_append, List.length_append]
  exact hown
theorem kw_ne2 {w wr : World} {P base gs : Nat} {v0 v vo : Value} {s : ByteArray} {g : List UInt8} {outs : List (List UInt8)} {cs : Array Value} (h : KW w wr P base gs v0 v vo s g outs) (hB : Blk wr P 74 cs) : some P ≠ vo.ownBlock := by
  rcases row_blk h.out hB (by decide) with e | e
  · rw [e]; simp
  · exact fun e2 => e e2.symm
theorem kw_psh {w wr wr' : World} {P base gs n : Nat} {v0 v vo vo' : Value} {s : ByteArray} {g x : List UInt8} {outs : List (List UInt8)} (h : KW w wr P base gs v0 v vo s g outs) (hg : wr.grownBy wr' vo.ownBlock)
    (hown : wr'.ownsRow w.heap.size 9 1 vo' n (svals outs ++ [.string ⟨x.toArray⟩])) (hn : n = outs.length + 1 := by rfl) : KW w wr' P base gs v0 v vo' s g (outs ++ [x]) := by
  subst hn
  refine h.push hg ?_
  unfold OwnS
  rw [svals_snoc, List.length_append]
  exact hown
/-- What Write hands back. -/
def WritePost (P base mn b mx : Nat) (S : CS) (v0 : Value) (w : World) (e : Ending) (w' : World) : Prop :=
  ∃ vo v, e = .returned vo ∧ OwnS w' w.heap.size vo S.out ∧ KAt w' P base mn b mx S.hist S.begun v false ∧ KChg w w' P v0 ∧ KFresh w v0 v

set_option maxHeartbeats 8000000 in
theorem write_any (P base mn b mx : Nat) (h g : List UInt8) (v0 : Value) (s : ByteArray) (hs : s.size ≤ 100000) (hg : g.length ≤ 100000) (hb : b ≤ 20) (hmx : mx ≤ 4096) (w : World)
    (hK : KAt w P base mn b mx h g v0 false) (hbase : base ≤ w.heap.size) :
    Calls Try.prog 41 #[.pointer (some ⟨P, 0, none⟩), .string s] w (WritePost P base mn b mx (crun mn b mx ⟨h, g, []⟩ s.data.toList) v0 w) := by
  obtain ⟨ring, t, hB, hR, hO⟩ := hK
  have hc30 : w.cell? ⟨P, 30, none⟩ = some (.bool false) := by rw [hB.cell, k_get 30 (by decide)]; rfl
  have hcv := fun W => run_bytes_of_string (P := Try.prog) W 9 53 5 s Try.underlying9 Try.underlying53 Try.underlying5
  have hkw : KW w ((w.alloc (.cells (bytesRow s (grownCap w s.size 0 5)) 5 ((bytesRow s (grownCap w s.size 0 5)).size, (bytesRow s (grownCap w s.size 0 5)).size + 1))).drew) P base w.heap.size v0 v0 (.slice none 0 0) s g [] := by
    refine ⟨World.ownsRow.alloc hO _, World.ownsRow_nil _ _ _ _, (KeepB.new w s _).drew, ?_, KFresh.refl _ _⟩
    exact (KChg.refl w P v0).row (only_drew (World.grownBy_alloc w _ none)) (fun _ e => by cases e)
  have hB1 := (hB.alloc (.cells (bytesRow s (grownCap w s.size 0 5)) 5 ((bytesRow s (grownCap w s.size 0 5)).size, (bytesRow s (grownCap w s.size 0 5)).size + 1))).drew
  have HB1 := Lib.hid hB1
  have Hkw := Lib.hid hkw
  have HR := Lib.hid hR
  obtain ⟨gs, Hgs⟩ : ∃ gs, Hid (w.heap.size = gs) := ⟨_, Lib.hid (Eq.refl _)⟩
  clear hB1 hkw hR hB hO
  go_enter Try.func41, Try.ntmps41
  go_wp2_with fail
  clear hcv hc30
  generalize (w.alloc (.cells (bytesRow s (grownCap w s.size 0 5)) 5 ((bytesRow s (grownCap w s.size 0 5)).size, (bytesRow s (grownCap w s.size 0 5)).size + 1))).drew = w2 at *
  rw [Hgs.out] at Hkw ⊢
  go_loopw [5, 16] (fun vo i wr => ∃ (k t : Nat) (ring : Nat → Nat) (v : Value), k ≤ s.size ∧ i = .int .i64 (k : Int) ∧
      Hid (Blk wr P 74 (kcells mn b mx ring t (fp (crun mn b mx ⟨h, g, []⟩ (s.data.toList.take k)).hist) og v false)) ∧ Hid (KRing ring t (crun mn b mx ⟨h, g, []⟩ (s.data.toList.take k)).hist) ∧
      Hid (KW w wr P base gs v0 v vo s (crun mn b mx ⟨h, g, []⟩ (s.data.toList.take k)).begun (crun mn b mx ⟨h, g, []⟩ (s.data.toList.take k)).out))
    (fun _ i _ => s.size - (intOf i).toNat)
  case atStart => exact ⟨0, t, ring, v0, by omega, rfl, HB1, HR, Hkw⟩
  case round =>
    clear HB1 HR Hkw
    obtain ⟨k, t, ring, v, hk, rfl, HB, HR, HK⟩ := hrel
    by_cases hlt : k < s.size
    · have Hst := Lib.hid (crun_take mn b mx ⟨h, g, []⟩ s k hlt)
      have hgl := crun_begun_le mn b mx ⟨h, g, []⟩ (s.data.toList.take k)
      have hol := crun_out_le mn b mx ⟨h, g, []⟩ (s.data.toList.take k)
      rw [List.length_take, show s.data.toList.length = s.size by simp] at hgl hol
      simp at hgl hol
      have hc := HK.out.keep.cell k hlt
      obtain ⟨S, HS⟩ : ∃ S, Hid (crun mn b mx ⟨h, g, []⟩ (s.data.toList.take k) = S) := ⟨_, Lib.hid (Eq.refl _)⟩
      rw [HS.out] at HB HR HK hgl hol Hst
      go_wp2_with fail
      refine (roll_any P mn b mx t ring S.hist v false s[k] _ HB.out HR.out).mono ?_
      rintro e w3 ⟨rfl, ring3, t3, hB3, hR3, hg3, hz3⟩
      have hK3 := HK.out.block HB.out hg3
      have hc29 : w3.cell? ⟨P, 29, none⟩ = some v := by rw [hB3.cell, k_get 29 (by decide)]; rfl
      have hf29 := hB3.frozen 29
      have hP3 := hB3.lt
      have HB3 := Lib.hid hB3
      have HR3 := Lib.hid hR3
      have HK3 := Lib.hid hK3
      clear HB HR HK hB3 hR3 hg3 hz3 hK3 hc
      have hown3 := HK3.out.own
      have hbs3 := Nat.le_trans hbase HK3.out.size
      go_wp2_with (first
        | (at_builtin; go_must (refine wpList_append_elem_at _ rfl (.tmp 27) (.tmp 29) rfl Try.underlying53 info_u8 rfl (by decide) base v S.begun.length (bcells S.begun) [.int .u8 (s[k].toNat : Int)] hown3 rfl ?_ rfl rfl rfl ?_ ?_ hbs3 ?_; (intro y hy; simp at hy; subst hy; rfl); (unfold maxLen; omega); omega; intro v4 w4 hown4 hg4 hf4; obtain ⟨g4, cap4, rfl, hgb4⟩ := World.ownsRow.form hown4 (Nat.succ_pos _); have hB4 := HB3.out.grown hg4 (kw_ne HK3.out HB3.out); have hd29 := hB4.cell 29; rw [k_29] at hd29; have hfd29 := hB4.frozen 29; have HB4 := Lib.hid hB4; have HK4 := Lib.hid (kw_app HK3.out hg4 hown4 hf4); clear hB4 hown4 hg4 hf4 hown3))
        | fail)
      have hcat : (S.begun ++ [s[k]]).length = S.begun.length + 1 := by simp
      refine gen_code (fun W => Hid (Blk W P 74 (kcells mn b mx ring3 t3 (fp (S.hist ++ [s[k]])) og (.slice (some ⟨g4, 0, none⟩) (S.begun.length + 1) cap4) false)) ∧
          Hid (KW w W P base gs v0 (.slice (some ⟨g4, 0, none⟩) (S.begun.length + 1) cap4) u5 s (S.begun ++ [s[k]]) S.out)) ⟨?_, ?_⟩ ?_
      · show Blk _ _ _ _
        rw [← k_begun (v := v)]
        exact HB4.out.set_ 29 _
      · exact HK4.out.block HB4.out (only_set (only_refl _ _) _ _)
      · clear hd29 hfd29 HB4 HK4 hc29 hf29 hP3 HB3 HK3 hbs3
        rintro W ⟨HB, HK⟩
        have c0 : W.cell? ⟨P, 0, none⟩ = some (.int .i64 (mn : Int)) := by rw [HB.out.cell, k_get 0 (by decide)]; rfl
        have c1 : W.cell? ⟨P, 1, none⟩ = some (.int .i64 (b : Int)) := by rw [HB.out.cell, k_get 1 (by decide)]; rfl
        have c2 : W.cell? ⟨P, 2, none⟩ = some (.int .i64 (mx : Int)) := by rw [HB.out.cell, k_get 2 (by decide)]; rfl
        have c20 : W.cell? ⟨P, 20, none⟩ = some (.int .u64 (fp (S.hist ++ [s[k]]) : Int)) := by rw [HB.out.cell, k_get 20 (by decide)]; rfl
        have hFl : fp (S.hist ++ [s[k]]) < 9007199254740992 := lt53 _
        obtain ⟨F, HF⟩ : ∃ F, Hid (fp (S.hist ++ [s[k]]) = F) := ⟨_, Lib.hid (Eq.refl _)⟩
        rw [HF.out] at c20 hFl
        obtain ⟨N, HN⟩ : ∃ N, Hid (S.begun.length + 1 = N) := ⟨_, Lib.hid (Eq.refl _)⟩
        have hNi : (S.begun.length : Int) + 1 = (N : Int) := by have := HN.out; omega
        obtain ⟨B2, HB2, hB2⟩ : ∃ B2 : Nat, Hid (2 ^ b = B2) ∧ 1 ≤ B2 ∧ B2 ≤ 1048576 := ⟨2 ^ b, Lib.hid (Eq.refl _), Nat.pow_pos (by decide), Nat.le_trans (Nat.pow_le_pow_right (by decide) hb) (by decide)⟩
        obtain ⟨hB2a, hB2b⟩ := hB2
        have hpw : (2 : Int) ^ b = (B2 : Int) := by rw [← HB2.out]; simp
        have hw1 : IntKind.u64.wrap (B2 : Int) = (B2 : Int) := by rw [IntKind.wrap_u64]; omega
        have hw2 : IntKind.u64.wrap ((B2 : Int) - 1) = ((B2 - 1 : Nat) : Int) := by rw [IntKind.wrap_u64]; omega
        have hw3 : (B2 : Int) - 1 = ((B2 - 1 : Nat) : Int) := by omega
        have hand := u64_and_nat F (B2 - 1) (by omega) (by omega)
        rw [show F &&& (B2 - 1) = F % B2 by rw [← HB2.out]; exact Nat.and_two_pow_sub_one_eq_mod F b] at hand
        obtain ⟨M, HM⟩ : ∃ M, Hid (B2 - 1 = M) := ⟨_, Lib.hid (Eq.refl _)⟩
        obtain ⟨R, HRm⟩ : ∃ R, Hid (F % B2 = R) := ⟨_, Lib.hid (Eq.refl _)⟩
        rw [HM.out] at hw2 hw3 hand
        rw [HRm.out] at hand
        have hend : Hid (cend mn b mx (S.hist ++ [s[k]]) (S.begun.length + 1) = ((N == mx) || (decide (mn ≤ N) && (R == 0)))) := by
          show _ = _
          unfold cend
          rw [HF.out, HN.out, HB2.out, HRm.out]
        have hbl : b ≤ 62 := by omega
        clear hB2a
        by_cases e1 : N = mx
        · subst e1
          go_quiet (fail)
          all_goals
            rename_i nq
            have hKq := HK.out.drewN nq
            have hBq := HB.out.drewN nq
            have hs1 := run_string_own _ _ _ _ hKq.own
            have hos := hKq.out
            have hbsw := hKq.size
            have HKq := Lib.hid hKq
            have HBq := Lib.hid hBq
            have hq29 : (W.drewN nq).cell? ⟨P, 29, none⟩ = some (.slice (some ⟨g4, 0, none⟩) (S.begun.length + 1) cap4) := by rw [hBq.cell, k_get 29 (by decide)]; rfl
            clear hKq hBq c0 c1 c2 c20 hand hw1 hw2 hw3 hpw
            go_wp2_with (first
              | (at_builtin; go_must (refine wpList_append_elem _ rfl (.tmp 69) (.tmp 75) rfl Try.underlying43 info_str rfl (by decide) w.heap.size u5 S.out.length (svals S.out) [.string ⟨(S.begun ++ [s[k]]).toArray⟩] hos rfl ?_ rfl rfl rfl ?_ ?_ hbsw ?_; (intro y hy; simp at hy; subst hy; rfl); (unfold maxLen; omega); omega; intro v5 w5 hown5 hg5; have hB5 := HBq.out.grown hg5 (kw_ne2 HKq.out HBq.out); have hd29 := hB5.cell 29; rw [k_29] at hd29; have hfd29 := hB5.frozen 29; have HB5 := Lib.hid hB5; have HK5 := Lib.hid (kw_psh HKq.out hg5 hown5); clear hB5 hown5 hg5 hos))
              | fail)
            go_roundw
            case rel =>
              have hce := hend.out
              rw [show ((N == N) || (decide (mn ≤ N) && (R == 0))) = true by simp] at hce
              have hstep : cstep mn b N S s[k] = ⟨S.hist ++ [s[k]], [], S.out ++ [S.begun ++ [s[k]]]⟩ := by unfold cstep; rw [hce]; rfl
              refine ⟨k + 1, t3, ring3, .slice (some ⟨g4, 0, none⟩) 0 cap4, by omega, by go_num, ?_, ?_, ?_⟩
              · show Blk _ _ _ _
                rw [Hst.out, hstep, ← k_begun (v := .slice (some ⟨g4, 0, none⟩) (S.begun.length + 1) cap4)]
                exact HB5.out.set_ 29 _
              · show KRing _ _ _
                rw [Hst.out, hstep]
                exact HR3.out
              · show KW _ _ _ _ _ _ _ _ _ _ _
                rw [Hst.out, hstep]
                exact (HK5.out.block HB5.out (only_set (only_refl _ _) _ _)).cut
            case measure => simp [intOf]; omega

        · have e1a : ((N : Int) == (mx : Int)) = false := by simp; omega
          have e1b : (N == mx) = false := by simpa using e1
          have E1 := Lib.hid e1b
          clear e1b e1
          by_cases e2 : mn ≤ N
          · have e2a : decide ((mn : Int) ≤ (N : Int)) = true := by simp; omega
            have e2b : decide (mn ≤ N) = true := by simpa using e2
            have E2 := Lib.hid e2b
            by_cases e3 : R = 0
            · subst e3
              go_quiet (fail)
              all_goals
                rename_i nq
                have hKq := HK.out.drewN nq
                have hBq := HB.out.drewN nq
                have hs1 := run_string_own _ _ _ _ hKq.own
                have hos := hKq.out
                have hbsw := hKq.size
                have HKq := Lib.hid hKq
                have HBq := Lib.hid hBq
                have hq29 : (W.drewN nq).cell? ⟨P, 29, none⟩ = some (.slice (some ⟨g4, 0, none⟩) (S.begun.length + 1) cap4) := by rw [hBq.cell, k_get 29 (by decide)]; rfl
                clear hKq hBq c0 c1 c2 c20 hand hw1 hw2 hw3 hpw
                go_wp2_with (first
                  | (at_builtin; go_must (refine wpList_append_elem _ rfl (.tmp 69) (.tmp 75) rfl Try.underlying43 info_str rfl (by decide) w.heap.size u5 S.out.length (svals S.out) [.string ⟨(S.begun ++ [s[k]]).toArray⟩] hos rfl ?_ rfl rfl rfl ?_ ?_ hbsw ?_; (intro y hy; simp at hy; subst hy; rfl); (unfold maxLen; omega); omega; intro v5 w5 hown5 hg5; have hB5 := HBq.out.grown hg5 (kw_ne2 HKq.out HBq.out); have hd29 := hB5.cell 29; rw [k_29] at hd29; have hfd29 := hB5.frozen 29; have HB5 := Lib.hid hB5; have HK5 := Lib.hid (kw_psh HKq.out hg5 hown5); clear hB5 hown5 hg5 hos))
                  | fail)
                go_roundw
                case rel =>
                  have hce := hend.out
                  rw [show ((N == mx) || (decide (mn ≤ N) && ((0 : Nat) == 0))) = true by rw [E1.out, E2.out]; rfl] at hce
                  have hstep : cstep mn b mx S s[k] = ⟨S.hist ++ [s[k]], [], S.out ++ [S.begun ++ [s[k]]]⟩ := by unfold cstep; rw [hce]; rfl
                  refine ⟨k + 1, t3, ring3, .slice (some ⟨g4, 0, none⟩) 0 cap4, by omega, by go_num, ?_, ?_, ?_⟩
                  · show Blk _ _ _ _
                    rw [Hst.out, hstep, ← k_begun (v := .slice (some ⟨g4, 0, none⟩) (S.begun.length + 1) cap4)]
                    exact HB5.out.set_ 29 _
                  · show KRing _ _ _
                    rw [Hst.out, hstep]
                    exact HR3.out
                  · show KW _ _ _ _ _ _ _ _ _ _ _
                    rw [Hst.out, hstep]
                    exact (HK5.out.block HB5.out (only_set (only_refl _ _) _ _)).cut
                case measure => simp [intOf]; omega

            · have e3a : ((R : Int) == 0) = false := by simp; omega
              have e3b : (R == 0) = false := by simpa using e3
              have E3 := Lib.hid e3b
              clear e3 e3b
              go_quiet (fail)
              all_goals
                rename_i nq
                have HKq := Lib.hid (HK.out.drewN nq)
                have HBq := Lib.hid (HB.out.drewN nq)
                clear c0 c1 c2 c20 hand hw1 hw2 hw3 hpw
                go_wp2_with fail
                go_roundw
                case rel =>
                  have hce := hend.out
                  rw [show ((N == mx) || (decide (mn ≤ N) && (R == 0))) = false by rw [E1.out, E2.out, E3.out]; rfl] at hce
                  have hstep : cstep mn b mx S s[k] = ⟨S.hist ++ [s[k]], S.begun ++ [s[k]], S.out⟩ := by unfold cstep; rw [hce]; rfl
                  refine ⟨k + 1, t3, ring3, .slice (some ⟨g4, 0, none⟩) (S.begun.length + 1) cap4, by omega, by go_num, ?_, ?_, ?_⟩
                  · show Blk _ _ _ _
                    rw [Hst.out, hstep]
                    exact HBq.out
                  · show KRing _ _ _
                    rw [Hst.out, hstep]
                    exact HR3.out
                  · show KW _ _ _ _ _ _ _ _ _ _ _
                    rw [Hst.out, hstep]
                    exact HKq.out
                case measure => simp [intOf]; omega

          · have e2a : decide ((mn : Int) ≤ (N : Int)) = false := by simp; omega
            have e2b : decide (mn ≤ N) = false := by simpa using e2
            have E2 := Lib.hid e2b
            clear e2
            go_quiet (fail)
            all_goals
              rename_i nq
              have HKq := Lib.hid (HK.out.drewN nq)
              have HBq := Lib.hid (HB.out.drewN nq)
              clear c0 c1 c2 c20 hand hw1 hw2 hw3 hpw
              go_wp2_with fail
              go_roundw
              case rel =>
                have hce := hend.out
                rw [show ((N == mx) || (decide (mn ≤ N) && (R == 0))) = false by rw [E1.out, E2.out]; rfl] at hce
                have hstep : cstep mn b mx S s[k] = ⟨S.hist ++ [s[k]], S.begun ++ [s[k]], S.out⟩ := by unfold cstep; rw [hce]; rfl
                refine ⟨k + 1, t3, ring3, .slice (some ⟨g4, 0, none⟩) (S.begun.length + 1) cap4, by omega, by go_num, ?_, ?_, ?_⟩
                · show Blk _ _ _ _
                  rw [Hst.out, hstep]
                  exact HBq.out
                · show KRing _ _ _
                  rw [Hst.out, hstep]
                  exact HR3.out
                · show KW _ _ _ _ _ _ _ _ _ _ _
                  rw [Hst.out, hstep]
                  exact HKq.out
              case measure => simp [intOf]; omega

    · obtain rfl : k = s.size := by omega
      rw [show s.data.toList.take s.size = s.data.toList from List.take_of_length_le (by simp)] at HB HR HK
      go_wp2_with fail
      go_ret
      exact ⟨_, v, rfl, HK.out.out, ⟨ring, t, HB.out, HR.out, HK.out.own⟩, HK.out.chg, HK.out.fresh⟩
end Go.Proofs.Ytgjofpefglbjjaa
