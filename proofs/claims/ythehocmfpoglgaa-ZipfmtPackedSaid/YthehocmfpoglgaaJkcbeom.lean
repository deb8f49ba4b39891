/- Texts joined: Hds Wr CutP RTokK. Conditions: each theorem says its own. -/
import Derived.BigQuiet
import Derived.Deep.CutRange
import Derived.Lib.Hide
import Derived.Test.YthehocmfpoglgaaJceeild
import Derived.Test.YthehocmfpoglgaaJepaakj
import Derived.Test.YthehocmfpoglgaaLaw5aJ
namespace Go.Proofs.Ythehocmfpoglgaa
open Go.RowKit
set_option maxRecDepth 100000
def HeadsPost (w : World) (res : Except Nat (List Hd)) (r : Ending) (w' : World) : Prop :=
 Below w.heap.size w w' /\ ((∃ e, res = .error e /\ r = .returned (.tuple #[.slice none 0 0, .int .i64 (e : Int)])) \/ (∃ l v, res = .ok l /\ r = .returned (.tuple #[v, .int .i64 0]) /\ OwnH w' w.heap.size v l))
theorem at2_lt (s : ByteArray) (i : Nat) : atN s i 2 < 65536 := by
 rw [atN_list s i 2 (by decide)]
 refine Qb (getN_lt _) (Qe (Nat.pow_le_pow_right (by decide) (?_ : _ <= 2)) (by decide))
 rw [List.length_take]; omega
theorem idxH_most (L : List Hd) (h : ∀ x ∈ L, x.name.size < 65536) : (idxH L).length <= 65600 * L.length := by
 induction L with
 | nil => exact Qa _
 | cons x r ih =>
  have e : idxH (x :: r) = idxL1 x ++ idxH r := rfl
  have h1 := h x (List.mem_cons_self ..)
  have h2 := ih fun y hy => h y (List.mem_cons_of_mem _ hy)
  rw [e, List.length_append, idxL1_len, List.length_cons]; omega
theorem OwnH.below {w w' : World} {base B : Nat} {v : Value} {L : List Hd} (h : OwnH w base v L) (hb : Below B w w') (hB : w.heap.size <= B) : OwnH w' base v L := by
 have hlt := World.ownsRow.lt h
 refine ⟨h.1, ?_⟩
 rcases h.2 with h2 | ⟨g, cap, cur, rfl, h3, h4, h5⟩
 . exact .inl h2
 . exact .inr ⟨g, cap, cur, rfl, h3, (hb.block g (Qb (hlt g rfl).2 hB)).trans h4, h5⟩
set_option maxHeartbeats 8000000 in
theorem heads_any (s : ByteArray) (hs : s.size <= 140737488351232) (w : World) :
 Calls Try.prog 11 #[.string s] w (HeadsPost w (headsF s)) := by
 have Hb0 := Qf (Below.refl w.heap.size w)
 have HF : Hid (headsF s = headsF s) := rfl
 obtain ⟨RES, HRES⟩ := Qi (headsF s)
 rw [HRES.out]
 by_cases h1 : 262144 < s.size
 . have d1 : decide ((262144 : Int) < (s.size : Int)) = true := Qg (by omega)
   have d1b : decide (262144 < s.size) = true := Qg (by omega)
   have hr : RES = .error 2 := by rw [<- HRES.out]; unfold headsF; rw [if_pos h1]
   subst hr
   clear HF HRES
   go_enter Try.func11, Try.ntmps11
   go_wp2_with fail
   go_ret2
   exact ⟨Hb0.out, .inl ⟨2, rfl, rfl⟩⟩
 . have d1 : decide ((262144 : Int) < (s.size : Int)) = false := Qh (by omega)
   have d1b : decide (262144 < s.size) = false := Qh (by omega)
   by_cases h2 : s.size < 22
   . have d2 : decide ((s.size : Int) < 22) = true := Qg (by omega)
     have d2b : decide (s.size < 22) = true := Qg (by omega)
     have hr : RES = .error 3 := by rw [<- HRES.out]; unfold headsF; rw [if_neg h1, if_pos h2]
     subst hr
     clear HF HRES
     go_enter Try.func11, Try.ntmps11
     go_wp2_with fail
     go_ret2
     exact ⟨Hb0.out, .inl ⟨3, rfl, rfl⟩⟩
   . have d2 : decide ((s.size : Int) < 22) = false := Qh (by omega)
     have d2b : decide (s.size < 22) = false := Qh (by omega)
     obtain ⟨e, he⟩ : ∃ e, s.size = e + 22 := ⟨s.size - 22, by omega⟩
     have heI : (s.size : Int) - 22 = (e : Int) := by omega
     have hes : s.size - 22 = e := by omega
     have C8 := Qf (fun W => at_any s (e + 8) 2 (by decide) (by omega) (by omega) W)
     have C16 := Qf (fun W => at_any s (e + 16) 4 (by decide) (by omega) (by omega) W)
     have hc8 : ((e + 8 : Nat) : Int) = (e : Int) + 8 := by omega
     have hc16 : ((e + 16 : Nat) : Int) = (e : Int) + 16 := by omega
     have hn2 : ((2 : Nat) : Int) = 2 := rfl
     have hn4 : ((4 : Nat) : Int) = 4 := rfl
     rw [hc8, hn2] at C8
     rw [hc16, hn4] at C16
     have HR2 : Hid (RES = headsF s) := HRES.out.symm
     obtain ⟨n, Hn⟩ := Qi (atN s (e + 8) 2)
     obtain ⟨fr, Hfr⟩ := Qi (atN s (e + 16) 4)
     have hnlt := at2_lt s (e + 8)
     have hfrlt := atN_lt s (e + 16) 4 (by decide)
     rw [Hn.out] at C8 hnlt
     rw [Hfr.out] at C16 hfrlt
     have HeI := Qf heI
     have HE := Qf he
     clear HF HRES hc8 hc16 hn2 hn4 hes
     by_cases h3 : e < fr
     . have d3 : decide ((e : Int) < (fr : Int)) = true := Qg (by omega)
       have d3b : decide (e < fr) = true := Qg (by omega)
       have hr : RES = .error 3 := by
        rw [HR2.out]; unfold headsF
        rw [if_neg h1, if_neg h2, show s.size - 22 = e by omega, Hfr.out, if_pos h3]
       subst hr
       clear HR2 he h3
       go_enter Try.func11, Try.ntmps11
       go_wp2_with fail
       refine (C8.out _).mono ?_
       rintro r w1 ⟨rfl, rfl⟩
       go_wp2_with fail
       refine (C16.out _).mono ?_
       rintro r w1 ⟨rfl, rfl⟩
       go_wp2_with fail
       go_ret2
       exact ⟨Hb0.out, .inl ⟨3, rfl, rfl⟩⟩
     . have d3 : decide ((e : Int) < (fr : Int)) = false := Qh (by omega)
       have d3b : decide (e < fr) = false := Qh (by omega)
       obtain ⟨LR, HLR⟩ := Qi (headsL s e n fr [])
       have HO0 : Hid (OwnH w w.heap.size (.slice none 0 0) []) := World.ownsRow_nil _ _ _ _
       have hfre : fr <= e := by omega
       clear he h3
       go_enter Try.func11, Try.ntmps11
       go_wp2_with fail
       refine (C8.out _).mono ?_
       rintro r w1 ⟨rfl, rfl⟩
       go_wp2_with fail
       refine (C16.out _).mono ?_
       rintro r w1 ⟨rfl, rfl⟩
       go_wp2_with fail
       go_loopw [7, 8] (fun v_ i_ wr => ∃ (i : Nat) (out : List Hd), i <= e /\ out.length <= n /\ i_ = .int .i64 (i : Int) /\ Hid (headsL s e (n - out.length) i out = LR) /\ Hid (OwnH wr w.heap.size v_ out) /\ Hid (Below w.heap.size w wr)) (fun _ i _ => e - (intOf i).toNat)
       case atStart => exact ⟨fr, [], hfre, Nat.zero_le _, rfl, HLR, HO0, Hb0⟩
       case round =>
        clear HO0 Hb0
        obtain ⟨i, out, hie, hon, rfl, HL, HO, HB⟩ := hrel
        obtain ⟨a, cap, rfl, hrow⟩ := HO.out.view
        have HRw := Qf hrow
        clear hrow
        obtain ⟨k, Hk⟩ := Qi (out.length)
        rw [Hk.out] at hon HO HL ⊢
        by_cases hgo : i < e /\ k < n
        . have d4 : decide ((i : Int) < (e : Int)) = true := Qg (by omega)
          have d4b : decide (i < e) = true := Qg (by omega)
          have d5 : decide ((k : Int) < (n : Int)) = true := Qg (by omega)
          have d5b : decide (k < n) = true := Qg (by omega)
          obtain ⟨m, hm⟩ : ∃ m, n - k = m + 1 := ⟨n - k - 1, by omega⟩
          have hm0 := Qf hm
          have hL := HL.out
          rw [hm] at hL
          have hL2 : (if e - i < 46 \/ e - (i + 46) < atN s (i + 28) 2 then none else headsL s e m (i + 46 + atN s (i + 28) 2) (out ++ [headAt s i])) = LR := by
           rw [<- hL]; show _ = (if i < e then _ else _); rw [if_pos hgo.1]
          have HL2 := Qf hL2
          clear hL hL2 HL
          by_cases h46 : e - i < 46
          . have d6 : decide ((e : Int) - (i : Int) < 46) = true := Qg (by omega)
            have hlr : LR = none := by rw [<- HL2.out, if_pos (.inl h46)]
            have hr : RES = .error 3 := by
             rw [HR2.out]; unfold headsF
             have hes : s.size - 22 = e := by have := HE.out; omega
             rw [if_neg h1, if_neg h2, hes, Hfr.out, if_neg (by omega), Hn.out, HLR.out, hlr]
            subst hr
            clear HR2 HL2 h46 hlr hgo hm
            go_wp2_with fail
            go_ret2
            exact ⟨HB.out, .inl ⟨3, rfl, rfl⟩⟩
          . have d6 : decide ((e : Int) - (i : Int) < 46) = false := Qh (by omega)
            have hsz := HE.out
            have CAt : Hid (∀ (c z : Nat), z <= 4 -> c + z <= 46 -> ∀ W, Calls Try.prog 34 #[.string s, .int .i64 ((i : Int) + (c : Int)), .int .i64 (z : Int)] W fun r w' => r = .returned (.int .i64 (atN s (i + c) z : Int)) /\ W = w') := by
             intro c z hz hcz W
             have := at_any s (i + c) z hz (by omega) (by omega) W
             rwa [show ((i + c : Nat) : Int) = (i : Int) + (c : Int) by omega] at this
            have A10 := Qf (CAt.out 10 2 (by decide) (by decide))
            have A16 := Qf (CAt.out 16 4 (by decide) (by decide))
            have A20 := Qf (CAt.out 20 4 (by decide) (by decide))
            have A24 := Qf (CAt.out 24 4 (by decide) (by decide))
            have A42 := Qf (CAt.out 42 4 (by decide) (by decide))
            have A28 := Qf (CAt.out 28 2 (by decide) (by decide))
            have l16 := atN_lt s (i + 16) 4 (by decide)
            have l28 := atN_lt s (i + 28) 2 (by decide)
            obtain ⟨x10, H10⟩ := Qi (atN s (i + 10) 2)
            obtain ⟨x16, H16⟩ := Qi (atN s (i + 16) 4)
            obtain ⟨x20, H20⟩ := Qi (atN s (i + 20) 4)
            obtain ⟨x24, H24⟩ := Qi (atN s (i + 24) 4)
            obtain ⟨x42, H42⟩ := Qi (atN s (i + 42) 4)
            obtain ⟨x28, H28⟩ := Qi (atN s (i + 28) 2)
            rw [H10.out] at A10
            rw [H16.out] at A16 l16
            rw [H20.out] at A20
            rw [H24.out] at A24
            rw [H42.out] at A42
            rw [H28.out] at A28 l28 HL2
            have hw16 : IntKind.u32.wrap (x16 : Int) = (x16 : Int) := by rw [IntKind.wrap_u32]; omega
            have hi46 : i + 46 <= e := by omega
            clear hsz CAt
            go_wp2_with fail
            refine (A10.out _).mono ?_
            rintro r w1 ⟨rfl, rfl⟩
            go_wp2_with fail
            refine (A16.out _).mono ?_
            rintro r w1 ⟨rfl, rfl⟩
            go_wp2_with fail
            refine (A20.out _).mono ?_
            rintro r w1 ⟨rfl, rfl⟩
            go_wp2_with fail
            refine (A24.out _).mono ?_
            rintro r w1 ⟨rfl, rfl⟩
            go_wp2_with fail
            refine (A42.out _).mono ?_
            rintro r w1 ⟨rfl, rfl⟩
            go_wp2_with fail
            refine (A28.out _).mono ?_
            rintro r w1 ⟨rfl, rfl⟩
            have hal := HB.out.alloc HB.out.size (.cells #[.string ⟨#[]⟩, .int .i64 (x10 : Int), .int .u32 (x16 : Int), .int .i64 (x20 : Int), .int .i64 (x24 : Int), .int .i64 (x42 : Int)] 26)
            have HBa := Qf hal
            clear hal A10 A16 A20 A24 A42 A28
            by_cases hnm : e - (i + 46) < x28
            . have d7 : decide ((e : Int) - ((i : Int) + 46) < (x28 : Int)) = true := Qg (by omega)
              have hlr : LR = none := by rw [<- HL2.out, if_pos (.inr hnm)]
              have hr : RES = .error 3 := by
               rw [HR2.out]; unfold headsF
               have hes : s.size - 22 = e := by have := HE.out; omega
               rw [if_neg h1, if_neg h2, hes, Hfr.out, if_neg (by omega), Hn.out, HLR.out, hlr]
              subst hr
              clear HR2 HL2 hlr hgo hm hnm
              go_wp2_with fail
              go_ret2
              exact ⟨HBa.out, .inl ⟨3, rfl, rfl⟩⟩
            . have HL3 : Hid (headsL s e m (i + 46 + x28) (out ++ [headAt s i]) = LR) := by
               show _ = _; rw [<- HL2.out, if_neg (by omega)]
              obtain ⟨i2, Hi2⟩ := Qi (i + 46)
              obtain ⟨i3, Hi3⟩ := Qi (i + 46 + x28)
              have hq2 := Hi2.out
              have hq3 := Hi3.out
              obtain ⟨nm, Hnm⟩ := Qi (s.extract i2 i3)
              have hhd : headAt s i = ⟨nm, (x10 : Int), x16, (x20 : Int), (x24 : Int), (x42 : Int)⟩ := by
               unfold headAt; rw [H28.out, H10.out, H16.out, H20.out, H24.out, H42.out, <- Hnm.out, Hi2.out, <- Hi3.out, Hi2.out]
              rw [hhd, Hi3.out] at HL3
              have w2 : IntKind.i64.wrap ((i : Int) + 46) = (i2 : Int) := by rw [IntKind.wrap_i64]; omega
              have w3 : IntKind.i64.wrap ((i2 : Int) + (x28 : Int)) = (i3 : Int) := by rw [IntKind.wrap_i64]; omega
              have d7 : decide ((e : Int) - (i2 : Int) < (x28 : Int)) = false := Qh (by omega)
              have l23 : i2 <= i3 := by omega
              have l3e : i3 <= e := by omega
              have l3s : i3 <= s.size := by omega
              have l23I : (i2 : Int) <= (i3 : Int) := by omega
              have l3sI : (i3 : Int) <= (s.size : Int) := by omega
              clear HL2 hnm hhd hq2 hq3 hm
              go_upto_region 20 with fail
              rw [Hnm.out]
              have hbn := Blk.new wr 26 #[.string nm, .int .i64 (x10 : Int), .int .u32 (x16 : Int), .int .i64 (x20 : Int), .int .i64 (x24 : Int), .int .i64 (x42 : Int)]
              have hal := below_al (w := w) HB.out (.cells #[.string nm, .int .i64 (x10 : Int), .int .u32 (x16 : Int), .int .i64 (x20 : Int), .int .i64 (x24 : Int), .int .i64 (x42 : Int)] 26)
              have hos := HO.out.below (below_al (Below.refl wr.heap.size wr) (.cells #[.string nm, .int .i64 (x10 : Int), .int .u32 (x16 : Int), .int .i64 (x20 : Int), .int .i64 (x24 : Int), .int .i64 (x42 : Int)] 26)) (Qa _)
              unfold OwnH at hos
              rw [Hk.out] at hos
              have HBn := Qf hbn
              obtain ⟨G, HG⟩ := Qi (wr.heap.size)
              rw [HG.out] at HBn ⊢
              clear hbn
              obtain ⟨w2, HW2⟩ := Qi (wr.alloc (.cells #[.string nm, .int .i64 (x10 : Int), .int .u32 (x16 : Int), .int .i64 (x20 : Int), .int .i64 (x24 : Int), .int .i64 (x42 : Int)] 26))
              rw [HW2.out] at HBn hal hos ⊢
              clear HW2
              have k0 : w2.cell? ⟨G, 0, none⟩ = some (.string nm) := HBn.out.cell 0
              have k1 : w2.cell? ⟨G, 1, none⟩ = some (.int .i64 (x10 : Int)) := HBn.out.cell 1
              have k2 : w2.cell? ⟨G, 2, none⟩ = some (.int .u32 (x16 : Int)) := HBn.out.cell 2
              have k3 : w2.cell? ⟨G, 3, none⟩ = some (.int .i64 (x20 : Int)) := HBn.out.cell 3
              have k4 : w2.cell? ⟨G, 4, none⟩ = some (.int .i64 (x24 : Int)) := HBn.out.cell 4
              have k5 : w2.cell? ⟨G, 5, none⟩ = some (.int .i64 (x42 : Int)) := HBn.out.cell 5
              have HBal := Qf hal
              have hbsw : w.heap.size <= w2.heap.size := hal.size
              have hone : ∀ u ∈ ([.string nm, .int .i64 (x10 : Int), .int .u32 (x16 : Int), .int .i64 (x20 : Int), .int .i64 (x24 : Int), .int .i64 (x42 : Int)] : List Value), u.oneCell' = true := hd_one ⟨nm, (x10 : Int), x16, (x20 : Int), (x24 : Int), (x42 : Int)⟩
              clear hal HBa HO HB
              go_wp2_with (first
               | (at_builtin; go_must (refine wpList_append_elem _ rfl (.tmp 91) (.tmp 93) rfl Try.underlying22 info_head rfl (by decide) w.heap.size (.slice a k cap) k (hcells out) [.string nm, .int .i64 (x10 : Int), .int .u32 (x16 : Int), .int .i64 (x20 : Int), .int .i64 (x24 : Int), .int .i64 (x42 : Int)] hos rfl hone rfl rfl rfl ?_ ?_ hbsw ?_; (unfold maxLen; omega); omega; intro v8 w8 hown8 hg8; have HO8 := Qf hown8; have HB8 := Qf (HBal.out.trans (below_grown hos hg8 hbsw)); clear hown8 hg8))
               | fail)
              go_roundw
              case rel => exact ⟨i3, out ++ [⟨nm, (x10 : Int), x16, (x20 : Int), (x24 : Int), (x42 : Int)⟩], l3e, (by rw [List.length_append, Hk.out]; show k + 1 <= n; omega), (by go_num), (by show headsL _ _ _ _ _ = _; rw [List.length_append, Hk.out]; show headsL s e (n - (k + 1)) i3 _ = LR; rw [show n - (k + 1) = m by have := hm0.out; omega]; exact HL3.out), OwnH.snoc (by rw [Hk.out]; exact HO8.out), HB8⟩
              case measure =>
               have := Hi2.out
               simp [intOf]; omega
        . -- behind the loop
          have hnot : (decide ((i : Int) < (e : Int)) = false /\ decide (i < e) = false) \/ ((decide ((i : Int) < (e : Int)) = true /\ decide (i < e) = true) /\ (decide ((k : Int) < (n : Int)) = false /\ decide (k < n) = false)) := by
           rcases Nat.lt_or_ge i e with h | h
           . exact .inr ⟨⟨Qg (by omega), Qg (by omega)⟩, ⟨Qh (by omega), Qh (by omega)⟩⟩
           . exact .inl ⟨Qh (by omega), Qh (by omega)⟩
          have hlr : LR = some out := by
           rw [<- HL.out]
           rcases Nat.lt_or_ge k n with h | h
           . obtain ⟨m, hm⟩ : ∃ m, n - k = m + 1 := ⟨n - k - 1, by omega⟩
             rw [hm]
             show (if i < e then _ else _) = _
             rw [if_neg (by omega)]
           . rw [show n - k = 0 by omega]; rfl
          have HR3 : Hid (RES = if out.length ≠ n \/ indexL out (fr : Int) ≠ (s.extract fr s.size).data.toList then .error 3 else if !namesL ⟨#[]⟩ out then .error 4 else if 200 < n then .error 2 else .ok out) := by
           show _ = _
           rw [HR2.out]; unfold headsF
           have hes : s.size - 22 = e := by have := HE.out; omega
           rw [if_neg h1, if_neg h2, hes, Hfr.out, if_neg (by omega), Hn.out, HLR.out, hlr]
          have hfit : ∀ h ∈ out, h.Fit := headsL_fit s e n fr [] out (fun _ hx => by cases hx) (by rw [HLR.out, hlr])
          have Hnsz : Hid (∀ h ∈ out, h.name.size < 65536) := fun h hh => (hfit h hh).2.2.2.2.2
          have hmost := idxH_most out fun h hh => (hfit h hh).2.2.2.2.2
          have hok := Hk.out
          have CI := Qf (fun (W : World) (hr : HRow W a out) => index_any out a cap (fr : Int) (by omega) (fun h hh => (hfit h hh).2.1) (fun h hh => Nat.le_of_lt (Nat.lt_trans (hfit h hh).2.2.2.2.2 (by decide))) (by omega) W hr)
          rw [Hk.out] at HR3 CI
          have hidx : indexL out (fr : Int) = (⟨(indexL out (fr : Int)).toArray⟩ : ByteArray).data.toList := rfl
          rw [hidx] at HR3
          obtain ⟨IX, HIX⟩ := Qi ((⟨(indexL out (fr : Int)).toArray⟩ : ByteArray))
          rw [HIX.out] at HR3 CI
          obtain ⟨EX, HEX⟩ := Qi (s.extract fr s.size)
          rw [HEX.out] at HR3
          have hkb : k <= 65536 := by omega
          clear HR2 HL HLR hlr hfit hmost hidx HIX hgo
          have l1 : (fr : Int) <= (s.size : Int) := by have := HE.out; omega
          have l1n : fr <= s.size := by have := HE.out; omega
          by_cases hkn : k = n
          . obtain ⟨y, hy⟩ : ∃ y, (IX.toList == (s.extract fr s.size).toList) = y := ⟨_, rfl⟩
            have HR4 : Hid (RES = if y = false then .error 3 else if !namesL ⟨#[]⟩ out then .error 4 else if 200 < n then .error 2 else .ok out) := by
             show _ = _
             rw [HR3.out, <- hy, HEX.out, ByteArray.toList_eq, ByteArray.toList_eq]
             by_cases hh : IX.data.toList = EX.data.toList
             . have e1 : (IX.data.toList == EX.data.toList) = true := by rw [hh]; simp
               rw [if_neg (by
                rintro (g | g); · exact g hkn
                . exact g hh), e1, if_neg (c := true = false) (by decide)]
             . have e1 : (IX.data.toList == EX.data.toList) = false := by simpa using hh
               rw [if_pos (.inr hh), e1, if_pos rfl]
            clear HR3 HEX
            subst hkn
            cases y with
            | false =>
             have hr : RES = .error 3 := HR4.out
             subst hr
             clear HR4
             rcases hnot with ⟨d4, d4b⟩ | ⟨⟨d4, d4b⟩, d5, d5b⟩
             all_goals
              go_wp2_with fail
              go_region_held3 (fun _ => True) (trivial)
               (first
                | (go_at_call 8; refine (CI.out _ (HRw.out.below (B := wr.heap.size) (by (repeat' (first | with_reducible exact Below.refl _ _ | with_reducible assumption | with_reducible apply Below.drew | with_reducible apply below_al))) (Qa _))).mono ?_; rintro r w8 ⟨rfl, hb8⟩; have HB8 : Below wr.heap.size wr w8 := bthen (by (repeat' (first | with_reducible exact Below.refl _ _ | with_reducible assumption | with_reducible apply Below.drew | with_reducible apply below_al))) hb8; clear hb8))
              all_goals
               go_wp2_with fail
               go_ret2
               exact ⟨bthen HB.out (HB8.mono (Qa _)), .inl ⟨3, rfl, rfl⟩⟩
            | true =>
             have HR5 : Hid (RES = if !namesL ⟨#[]⟩ (out.drop 0) then .error 4 else if 200 < k then .error 2 else .ok out) := HR4.out
             clear HR4
             rcases hnot with ⟨d4, d4b⟩ | ⟨⟨d4, d4b⟩, d5, d5b⟩
             all_goals
              go_wp2_with fail
              go_region_held3 (fun _ => True) (trivial)
               (first
                | (go_at_call 8; refine (CI.out _ (HRw.out.below (B := wr.heap.size) (by (repeat' (first | with_reducible exact Below.refl _ _ | with_reducible assumption | with_reducible apply Below.drew | with_reducible apply below_al))) (Qa _))).mono ?_; rintro r w8 ⟨rfl, hb8⟩; have HB8 : Below wr.heap.size wr w8 := bthen (by (repeat' (first | with_reducible exact Below.refl _ _ | with_reducible assumption | with_reducible apply Below.drew | with_reducible apply below_al))) hb8; clear hb8))
              all_goals
               go_wp2_with fail
               have HR8 := Qf (HRw.out.below (B := wr.heap.size) HB8 (Qa _))
               have HO8 := Qf (HO.out.below (B := wr.heap.size) HB8 (Qa _))
               have HBw8 := Qf (bthen HB.out HB8)
               have HZ := Qf (Below.refl w8.heap.size w8)
               clear HO HB HRw HB8
               go_loopw [11, 110] (fun l_ j_ wq => ∃ (j : Nat) (last : ByteArray), j <= k /\ j_ = .int .i64 (j : Int) /\ l_ = .string last /\ Hid (RES = if !namesL last (out.drop j) then .error 4 else if 200 < k then .error 2 else .ok out) /\ Hid (Below w8.heap.size w8 wq)) (fun _ j _ => k - (intOf j).toNat)
               case atStart => exact ⟨0, ⟨#[]⟩, Nat.zero_le _, rfl, rfl, HR5, HZ⟩
               case round =>
                clear HR5 HZ
                obtain ⟨j, last, hj, rfl, rfl, HC, HBl⟩ := hrel
                by_cases hlt : j < k
                . have dj : decide ((j : Int) < (k : Int)) = true := Qg (by omega)
                  have djb : decide (j < k) = true := Qg (by omega)
                  have hjI : (j : Int) < (k : Int) := by omega
                  have hjL : j < out.length := by rw [Hk.out]; exact hlt
                  obtain ⟨b, off, rfl, hbl, hcl⟩ := (HR8.out.below HBl.out (Qa _)) j hjL
                  have hC := HC.out
                  rw [List.drop_eq_getElem_cons hjL] at hC
                  have hsz := Hnsz.out _ (List.getElem_mem hjL)
                  obtain ⟨h, Hh⟩ := Qi (out[j])
                  rw [Hh.out] at hcl hC hsz
                  obtain ⟨nm, me, cr, pk, sz, pl⟩ := h
                  unfold Hd.cells at hcl
                  dsimp only at hcl hsz
                  have k0 := hcl 0 _ rfl
                  have k1 := hcl 1 _ rfl
                  have k2 := hcl 2 _ rfl
                  have k3 := hcl 3 _ rfl
                  have k4 := hcl 4 _ rfl
                  have k5 := hcl 5 _ rfl
                  simp only [Nat.add_zero] at k0
                  have HC2 : Hid (RES = if (!(if (!nmB nm || strLe nm last) = true then false else namesL nm (out.drop (j + 1)))) = true then .error 4 else if 200 < k then .error 2 else .ok out) := hC
                  have CN := Qf (name_any nm)
                  obtain ⟨nb, Hnb⟩ := Qi (nmB nm)
                  rw [Hnb.out] at CN HC2
                  obtain ⟨x, hx⟩ : ∃ R, Op.bytesLess nm.toList last.toList = R := ⟨_, rfl⟩
                  obtain ⟨y, hy⟩ : ∃ R, (nm.toList == last.toList) = R := ⟨_, rfl⟩
                  have hxy : strLe nm last = (x || y) := by unfold strLe; rw [hx, hy]
                  rw [hxy] at HC2
                  have hal := HBl.out.alloc HBl.out.size (.cells #[.string nm, .int .i64 me, .int .u32 (cr : Int), .int .i64 pk, .int .i64 sz, .int .i64 pl] 26)
                  have hbn := Blk.new wr 26 #[.string nm, .int .i64 me, .int .u32 (cr : Int), .int .i64 pk, .int .i64 sz, .int .i64 pl]
                  have t0 : (wr.alloc (.cells #[.string nm, .int .i64 me, .int .u32 (cr : Int), .int .i64 pk, .int .i64 sz, .int .i64 pl] 26)).cell? ⟨wr.heap.size, 0, none⟩ = some (.string nm) := hbn.cell 0
                  have HBa := Qf hal
                  have HBn := Qf hbn
                  clear hC HC hxy hal hbn hjL hbl Hh hcl hsz
                  go_wp2_with fail
                  refine (CN.out _).mono ?_
                  rintro r w3 ⟨hb3, rfl⟩
                  have HB3 := Qf (bthen HBa.out hb3)
                  have h3 := HBn.out.below hb3 HBn.out.lt
                  have u0 : w3.cell? ⟨wr.heap.size, 0, none⟩ = some (.string nm) := h3.cell 0
                  clear hb3 h3 t0 k0 k1 k2 k3 k4 k5
                  cases nb with
                  | false =>
                   have hr : RES = .error 4 := by rw [HC2.out]; rfl
                   subst hr
                   clear HC2
                   go_wp2_with fail
                   go_ret2
                   exact ⟨bthen HBw8.out HB3.out, .inl ⟨4, rfl, rfl⟩⟩
                  | true =>
                   have HC4 : Hid (RES = if (!(if (x || y) = true then false else namesL nm (out.drop (j + 1)))) = true then .error 4 else if 200 < k then .error 2 else .ok out) := HC2.out
                   clear HC2
                   by_cases hv : (x || y) = true
                   . have hr : RES = .error 4 := by rw [HC4.out, if_pos hv]; rfl
                     subst hr
                     clear HC4
                     cases x <;> cases y <;> simp at hv
                     all_goals
                      go_wp2_with fail
                      go_ret2
                      exact ⟨bthen HBw8.out HB3.out, .inl ⟨4, rfl, rfl⟩⟩
                   . have hx2 : x = false := by cases x <;> simp_all
                     have hy2 : y = false := by cases y <;> simp_all
                     have HC5 : Hid (RES = if !namesL nm (out.drop (j + 1)) then .error 4 else if 200 < k then .error 2 else .ok out) := by show _ = _; rw [HC4.out, if_neg hv]
                     subst hx2 hy2
                     clear HC4 hv
                     go_wp2_with fail
                     go_roundw
                     case rel => exact ⟨j + 1, nm, by omega, by go_num, rfl, HC5, HB3⟩
                     case measure => simp [intOf]; omega
                . obtain rfl : j = k := by omega
                  have dj : decide ((j : Int) < (j : Int)) = false := Qh (by omega)
                  have hC := HC.out
                  rw [List.drop_of_length_le (by rw [Hk.out]; exact Qa _)] at hC
                  have HC2 : Hid (RES = if 200 < j then .error 2 else .ok out) := hC
                  have HO9 := Qf (HO8.out.below HBl.out (Qa _))
                  clear hC HC
                  by_cases h200 : 200 < j
                  . have d9 : decide ((200 : Int) < (j : Int)) = true := Qg (by omega)
                    have d9b : decide (200 < j) = true := Qg (by omega)
                    have hr : RES = .error 2 := by rw [HC2.out, if_pos h200]
                    subst hr
                    clear HC2
                    go_wp2_with fail
                    go_ret2
                    exact ⟨bthen HBw8.out HBl.out, .inl ⟨2, rfl, rfl⟩⟩
                  . have d9 : decide ((200 : Int) < (j : Int)) = false := Qh (by omega)
                    have d9b : decide (200 < j) = false := Qh (by omega)
                    have hr : RES = .ok out := by rw [HC2.out, if_neg h200]
                    subst hr
                    clear HC2
                    go_wp2_with fail
                    go_ret2
                    exact ⟨bthen HBw8.out HBl.out, .inr ⟨out, _, rfl, rfl, HO9.out⟩⟩
          . have d8 : decide ((k : Int) = (n : Int)) = false := Qh (by omega)
            have d8b : ((k : Int) == (n : Int)) = false := by rw [beq_eq_false_iff_ne]; omega
            have hr : RES = .error 3 := by rw [HR3.out, if_pos (.inl hkn)]
            subst hr
            have hknI : ¬ (k : Int) = (n : Int) := by omega
            have hknb : (!((k : Int) == (n : Int))) = true := by rw [d8b]; rfl
            have hknc : (!(k == n)) = true := by rw [beq_eq_false_iff_ne.2 hkn]; rfl
            clear HR3
            rcases hnot with ⟨d4, d4b⟩ | ⟨⟨d4, d4b⟩, d5, d5b⟩
            all_goals
             go_wp2_with fail
             go_quiet (fail)
             all_goals
              go_wp2_with fail
              go_ret2
              exact ⟨below_drewN HB.out _, .inl ⟨3, rfl, rfl⟩⟩
def WritePost (w : World) (res : Except Nat ByteArray) (r : Ending) (w' : World) : Prop :=
 Below w.heap.size w w' /\ ((∃ e : Nat, res = .error e /\ e ≠ 0 /\ r = .returned (.tuple #[.string ⟨#[]⟩, .int .i64 (e : Int)])) \/ (∃ x, res = .ok x /\ r = .returned (.tuple #[.string x, .int .i64 0])))
theorem own_far {w : World} {b e s n b' e' s' n' : Nat} {v v' : Value} {x x' : List Value} (h : w.ownsRow b e s v n x) (k : w.ownsRow b' e' s' v' n' x') (hne : e ≠ e') : ∀ g, v.ownBlock = some g -> v'.ownBlock ≠ some g := by
 intro g hg hg'
 rcases h.2 with ⟨rfl, _⟩ | ⟨g1, cap, cur, rfl, _, hh, _⟩
 . cases hg
 . rcases k.2 with ⟨rfl, _⟩ | ⟨g2, cap2, cur2, rfl, _, kk, _⟩
   . cases hg'
   . simp only [Value.ownBlock, Option.some.injEq] at hg hg'
     subst hg
     subst hg'
     rw [hh] at kk
     simp only [Option.some.injEq, Obj.cells.injEq] at kk
     exact hne kk.2.1
theorem OwnH.chg {w w' : World} {base B : Nat} {vh vb : Value} {L : List Hd} {l : List UInt8} (h : OwnH w base vh L) (hb : BldAt w B vb l) (hc : Chg w w' B vb) : OwnH w' base vh L := by
 have hlt := World.ownsRow.lt h
 obtain ⟨⟨p, _, hB⟩, hO⟩ := hb
 have h1 := row_blk h hB (by decide)
 have h2 := own_far h hO (by decide)
 refine ⟨h.1, ?_⟩
 rcases h.2 with h3 | ⟨g, cap, cur, rfl, h3, h4, h5⟩
 . exact .inl h3
 . refine .inr ⟨g, cap, cur, rfl, h3, (hc.2.2 g (hlt g rfl).2 ?_ (h2 g rfl)).trans h4, h5⟩
   rcases h1 with h1 | h1
   . cases h1
   . exact fun e => h1 (by rw [e]; rfl)
theorem BldAt.grownH {w w' : World} {base B : Nat} {vh vb : Value} {L : List Hd} {l : List UInt8} (hb : BldAt w B vb l) (h : OwnH w base vh L) (hg : w.grownBy w' vh.ownBlock) : BldAt w' B vb l := by
 obtain ⟨⟨p, hp, hB⟩, hO⟩ := hb
 have h1 := row_blk h hB (by decide)
 have h2 := own_far hO h (by decide)
 refine ⟨⟨p, hp, hB.grown hg fun e => ?_⟩, World.ownsRow.kept hO hg ?_⟩
 . rcases h1 with h1 | h1
   . rw [h1] at e; cases e
   . exact h1 e.symm
 . cases hv : vb.ownBlock with
   | none => exact .inl rfl
   | some g => exact .inr fun e => h2 g hv e.symm
theorem grown_two (w : World) (K : Nat) (u v : Value) : w.grownBy ((w.setCell ⟨K, 1, none⟩ u).setCell ⟨K, 3, none⟩ v) (some K) :=
 ⟨rfl, rfl, rfl, by simp [World.setCell], fun g _ hne => by
  have : g ≠ K := fun e => hne (by rw [e])
  exact (heap_setCell_other _ _ _ _ this).trans (heap_setCell_other _ _ _ _ this)⟩
theorem BldAt.grownK {w w' : World} {B K : Nat} {vb : Value} {l : List UInt8} {cs : Array Value} (hb : BldAt w B vb l) (h : Blk w K 26 cs) (hg : w.grownBy w' (some K)) : BldAt w' B vb l := by
 obtain ⟨⟨p, hp, hB⟩, hO⟩ := hb
 have h2 := row_blk hO h (by decide)
 refine ⟨⟨p, hp, hB.grown hg fun e => ?_⟩, World.ownsRow.kept hO hg h2⟩
 simp only [Option.some.injEq] at e
 subst e
 have := blk_one hB h
 revert this
 decide
theorem OwnH.keepU {w w' : World} {base : Nat} {v : Value} {L : List Hd} (h : OwnH w base v L) (hk : KeepU w w') : OwnH w' base v L := by
 refine ⟨h.1, ?_⟩
 rcases h.2 with h2 | ⟨g, cap, cur, rfl, h3, h4, h5⟩
 . exact .inl h2
 . exact .inr ⟨g, cap, cur, rfl, h3, hk g _ cur (by decide) (by decide) h4, h5⟩
theorem bldLen_blk (B : Nat) (a : Option Addr) (n cap : Nat) (p : Value) (W : World) (h : Blk W B 64 #[p, .slice a n cap]) :
 Calls Try.prog 28 #[.pointer (some ⟨B, 0, none⟩)] W fun e W' => e = .returned (.int .i64 (n : Int)) /\ W = W' := by
 have c1 : W.cell? ⟨B, 1, none⟩ = some (.slice a n cap) := h.cell 1
 clear h
 go_enter Try.func28, Try.ntmps28
 go_wp2_with fail
 go_ret
 exact ⟨rfl, rfl⟩
theorem archL_snoc (Q : List Part) (c : Part) : archL (Q ++ [c]) = archL Q ++ partL c := by
 unfold archL; rw [List.flatMap_append]; simp
set_option maxHeartbeats 8000000 in
theorem write_any (D : ByteArray -> ByteArray) (L : List Fl) (a : Option Addr) (cap : Nat) (lv : Nat) (hlv : lv <= 9) (hL : L.length <= 100000000)
 (hD : chkF L = 0 -> ∀ f ∈ L, ∀ W, Calls Try.prog 15 #[.string f.2, .int .i64 (lv : Int)] W fun e w' => e = .returned (.tuple #[.string (D f.2), .int .i64 0]) /\ Below W.heap.size W w')
 (w : World) (hr : FRow w a L) :
 Calls Try.prog 20 #[.slice a L.length cap, .int .i64 (lv : Int)] w (WritePost w (writeF D L)) := by
 have CC := Qf (fun W h => check_any L a cap hL W h)
 have HF : Hid (writeF D L = if chkF L ≠ 0 then .error (chkF L) else if 262144 < (wholeL (packL D L 0)).length then .error 2 else .ok ⟨(wholeL (packL D L 0)).toArray⟩) := rfl
 obtain ⟨RES, HR⟩ := Qi (writeF D L)
 rw [HR.out] at HF ⊢
 have HRo := Qf hr
 have HDf := Qf hD
 have HKo : Hid (chkF L = 0 -> L.length <= 200 /\ ∀ f ∈ L, f.2.size <= 65536 /\ f.1.size <= 64) := fun h => ⟨(chkF_ok h).1, fun f hf => ⟨(chkL_ok L _ (chkF_ok h).2 f hf).1, nmB_size (chkL_ok L _ (chkF_ok h).2 f hf).2⟩⟩
 obtain ⟨c, Hc⟩ := Qi (chkF L)
 rw [Hc.out] at CC HF HDf HKo
 obtain ⟨M, HM⟩ := Qi (L.length)
 rw [HM.out] at CC HKo ⊢
 have e1 : decide ((lv : Int) < 0) = false := Qh (by omega)
 have e2 : decide ((9 : Int) < (lv : Int)) = false := Qh (by omega)
 have e2b : decide (9 < lv) = false := Qh (by omega)
 clear hr hD hL HR Hc
 by_cases hc : c = 0
 . subst hc
   obtain ⟨hM, hsz⟩ := HKo.out rfl
   have Hsz := Qf hsz
   have HD := Qf (HDf.out rfl)
   obtain ⟨P, HP⟩ := Qi (packL D L 0)
   rw [HP.out] at HF
   have HF2 : Hid (RES = if 262144 < (wholeL P).length then .error 2 else .ok ⟨(wholeL P).toArray⟩) := by show _ = _; rw [HF.out, if_neg (by decide)]
   clear HF HKo HDf hsz
   go_enter Try.func20, Try.ntmps20
   go_wp2_with fail
   refine (CC.out _ HRo.out).mono ?_
   rintro r w1 ⟨rfl, hb1⟩
   have HB1 := Qf hb1
   have HR1 := Qf (HRo.out.below hb1 (Qa _))
   have hn0 := BldAt.new w1
   have hb0 := (Below.refl w1.heap.size w1).alloc (Qa _) (.cells #[.pointer none, .slice none 0 0] 64)
   obtain ⟨B, HB⟩ := Qi (w1.heap.size)
   have HN0 : Hid (BldAt (w1.alloc (.cells #[.pointer none, .slice none 0 0] 64)) B (.slice none 0 0) (archL [])) := by rw [<- HB.out]; exact hn0
   have HB0 := Qf hb0
   have HO0 : Hid (OwnH (w1.alloc (.cells #[.pointer none, .slice none 0 0] 64)) w1.heap.size (.slice none 0 0) (([] : List Part).map Part.h)) := World.ownsRow_nil _ _ _ _
   have HP0 : Hid ([] ++ packL D (L.drop 0) (archL []).length = P) := HP.out
   clear hb1 hn0 hb0 CC HRo
   go_upto_region 9 with fail
   rw [HB.out]
   obtain ⟨w2, HW2⟩ := Qi (w1.alloc (.cells #[.pointer none, .slice none 0 0] 64))
   rw [HW2.out] at HN0 HB0 HO0 ⊢
   clear HW2
   go_loopw [8, 29] (fun h_ j_ wq => ∃ (j : Nat) (Q : List Part) (v : Value), j <= M /\ Q.length = j /\ j_ = .int .i64 (j : Int) /\ (archL Q).length <= 65700 * j /\ Hid (Q ++ packL D (L.drop j) (archL Q).length = P) /\ Hid (BldAt wq B v (archL Q)) /\ Hid (OwnH wq w1.heap.size h_ (Q.map Part.h)) /\ Hid (Below w1.heap.size w1 wq) /\ Hid (j = 0 -> v = .slice none 0 0)) (fun _ j _ => M - (intOf j).toNat)
   case atStart => exact ⟨0, [], _, Nat.zero_le _, rfl, rfl, Nat.zero_le _, HP0, HN0, HO0, HB0, fun _ => rfl⟩
   case round =>
    clear HN0 HB0 HO0 HP0
    obtain ⟨j, Q, v, hj, Hj, rfl, hq, HPq, HN, HO, HBl, Hv0⟩ := hrel
    have HJ := Qf Hj
    clear Hj
    obtain ⟨oa, ocap, rfl, hrw⟩ := HO.out.view
    have HRw := Qf hrw
    clear hrw
    rw [List.length_map, HJ.out] at HO ⊢
    by_cases hlt : j < M
    . have dj : decide ((j : Int) < (M : Int)) = true := Qg (by omega)
      have djb : decide (j < M) = true := Qg (by omega)
      have hjI : (j : Int) < (M : Int) := by omega
      have hjL : j < L.length := by rw [HM.out]; exact hlt
      obtain ⟨b, off, rfl, hbl, c0, c1⟩ := (HR1.out.below HBl.out (Qa _)) j hjL
      have hPq := HPq.out
      rw [List.drop_eq_getElem_cons hjL, packL] at hPq
      have hsz := Hsz.out _ (List.getElem_mem hjL)
      have CD := Qf (HD.out _ (List.getElem_mem hjL))
      obtain ⟨⟨nm, dt⟩, Hf⟩ : ∃ R, Hid (L[j] = R) := ⟨_, Qf (Eq.refl _)⟩
      rw [Hf.out] at c0 c1 hPq hsz CD
      dsimp only at c0 c1 hsz CD
      have CR := Qf (fun W => crc32_any dt W (by unfold maxLen; omega))
      have hcr := crc0_lt dt.data.toList
      have HPO : Hid (packOf D (nm, dt) (archL Q).length = if (D dt).size < dt.size then ⟨⟨nm, 8, crcOf 0 dt.data.toList, ((D dt).size : Int), (dt.size : Int), ((archL Q).length : Int)⟩, D dt, dt⟩ else ⟨⟨nm, 0, crcOf 0 dt.data.toList, (dt.size : Int), (dt.size : Int), ((archL Q).length : Int)⟩, dt, dt⟩) := rfl
      have hple := packOf_len D (nm, dt) (archL Q).length
      dsimp only at hple
      obtain ⟨pc, Hpc⟩ := Qi (packOf D (nm, dt) (archL Q).length)
      obtain ⟨cc, Hcc⟩ := Qi (crcOf 0 dt.data.toList)
      obtain ⟨d, Hd0⟩ := Qi (D dt)
      rw [Hpc.out] at HPO hPq hple
      rw [Hcc.out] at CR hcr HPO
      rw [Hd0.out] at CD HPO
      obtain ⟨l0, Hl0⟩ := Qi (archL Q)
      rw [Hl0.out] at HN hq hPq HPO
      have CLn := Qf (bldLen_any B v l0 (by omega))
      obtain ⟨n0, Hn0⟩ := Qi (l0.length)
      rw [Hn0.out] at hq hPq HPO CLn
      have HPq2 := Qf hPq
      have hal := HBl.out.alloc HBl.out.size (.cells #[.string nm, .string dt] 44)
      have hal0 := (Below.refl wr.heap.size wr).alloc (Qa _) (.cells #[.string nm, .string dt] 44)
      have HBn := Qf (Blk.new wr 44 #[.string nm, .string dt])
      have HNa := Qf (HN.out.below hal0)
      have HOa := Qf (HO.out.below hal0 (Qa _))
      have HBa := Qf hal
      clear hPq hal hal0 HN HO HBl HPq hjL hbl Hf
      go_upto_region 11 with fail
      obtain ⟨F, HF0⟩ := Qi (wr.heap.size)
      rw [HF0.out] at HBn ⊢
      obtain ⟨w3, HW3⟩ := Qi (wr.alloc (.cells #[.string nm, .string dt] 44))
      rw [HW3.out] at HBn HNa HOa HBa ⊢
      clear HW3 c0 c1
      go_cut [11, 29] from 29 to 78 (fun p_ j_ wx => ∃ K : Nat, p_ = .pointer (some ⟨K, 0, none⟩) /\ j_ = .int .i64 (j : Int) /\ w3.heap.size <= K /\ Hid (Blk wx K 26 #[.string nm, .int .i64 0, .int .u32 (cc : Int), .int .i64 (dt.size : Int), .int .i64 (dt.size : Int), .int .i64 (n0 : Int)]) /\ Hid (Below w3.heap.size w3 wx))
      case first =>
       have HS : Hid (∀ W, Below w3.heap.size w3 W -> W.cell? ⟨F, 0, none⟩ = some (.string nm) /\ W.cell? ⟨F, 1, none⟩ = some (.string dt)) := fun W hb => ⟨(HBn.out.below hb HBn.out.lt).cell 0, (HBn.out.below hb HBn.out.lt).cell 1⟩
       have q0 : w3.drew.cell? ⟨F, 0, none⟩ = some (.string nm) := HBn.out.cell 0
       have q1 : w3.drew.cell? ⟨F, 1, none⟩ = some (.string dt) := HBn.out.cell 1
       go_region_held3 (fun W => W.cell? ⟨F, 0, none⟩ = some (.string nm) /\ W.cell? ⟨F, 1, none⟩ = some (.string dt))
        (first | (refine HS.out _ ?_; (repeat' (first | with_reducible exact Below.refl _ _ | with_reducible assumption | with_reducible apply Below.drew | with_reducible apply below_al | with_reducible apply Below.setCell | exact Qa _))))
        (first
         | (go_at_call 28; refine (CLn.out _ (HNa.out.below (by (repeat' (first | with_reducible exact Below.refl _ _ | with_reducible assumption | with_reducible apply Below.drew | with_reducible apply below_al))))).mono ?_; rintro e w7 ⟨rfl, rfl⟩)
         | (go_at_call 22; refine (CR.out _).mono ?_; rintro e w8 ⟨rfl, hb8⟩; have HB8 : Below w3.heap.size w3 w8 := bthen (by (repeat' (first | with_reducible exact Below.refl _ _ | with_reducible assumption | with_reducible apply Below.drew | with_reducible apply below_al))) hb8; (try (have hN8 : Blk w8 w3.heap.size 26 #[.string ⟨#[]⟩, .int .i64 0, .int .u32 0, .int .i64 0, .int .i64 0, .int .i64 0] := (by first | exact Blk.below (Blk.new _ _ _) hb8 (Blk.lt (Blk.new _ _ _)) | exact Blk.below (Blk.drew (Blk.new _ _ _)) hb8 (Blk.lt (Blk.drew (Blk.new _ _ _)))); have m0 : w8.cell? ⟨w3.heap.size, 0, none⟩ = some (.string ⟨#[]⟩) := hN8.cell 0; have f0 := hN8.frozen 0; have m1 : w8.cell? ⟨w3.heap.size, 1, none⟩ = some (.int .i64 0) := hN8.cell 1; have f1 := hN8.frozen 1; have m2 : w8.cell? ⟨w3.heap.size, 2, none⟩ = some (.int .u32 0) := hN8.cell 2; have f2 := hN8.frozen 2; have m3 : w8.cell? ⟨w3.heap.size, 3, none⟩ = some (.int .i64 0) := hN8.cell 3; have f3 := hN8.frozen 3; have m4 : w8.cell? ⟨w3.heap.size, 4, none⟩ = some (.int .i64 0) := hN8.cell 4; have f4 := hN8.frozen 4; have m5 : w8.cell? ⟨w3.heap.size, 5, none⟩ = some (.int .i64 0) := hN8.cell 5; have f5 := hN8.frozen 5; have HN8 := Qf hN8; clear hN8)); have hz8 := HB8.size; clear hb8))
       all_goals
        go_wp2_with fail
        go_meet
        first
         | exact ⟨_, rfl, rfl, hz8, Qf (Blk.new _ _ _), Qf (by (repeat' (first | with_reducible exact Below.refl _ _ | with_reducible assumption | with_reducible apply Below.drew | with_reducible apply below_al | with_reducible apply Below.setCell | exact Qa _)))⟩
         | exact ⟨_, rfl, rfl, Qa _, Qf (by
          have := (((((HN8.out.set_ 0 (.string nm)).set_ 1 (.int .i64 0)).set_ 2 (.int .u32 (cc : Int))).set_ 3 (.int .i64 (dt.size : Int))).set_ 4 (.int .i64 (dt.size : Int))).set_ 5 (.int .i64 (n0 : Int))
          simpa using this), Qf (by (repeat' (first | with_reducible exact Below.refl _ _ | with_reducible assumption | with_reducible apply Below.drew | with_reducible apply below_al | with_reducible apply Below.setCell | exact Qa _)))⟩
      case rest =>
       obtain ⟨K, rfl, rfl, hK3, HKb, HBc⟩ := hcut
       have hKne : (Value.slice oa j ocap).ownBlock ≠ some K := fun e => by have := (World.ownsRow.lt HOa.out K e).2; omega
       have HKne := Qf hKne
       have hK1 : w1.heap.size <= K := Qe HBa.out.size hK3
       have HK1 := Qf hK1
       have HX4 := Qf (HBn.out.below HBc.out HBn.out.lt)
       have HN4 := Qf (HNa.out.below HBc.out)
       have HO4 := Qf (HOa.out.below HBc.out (Qa _))
       have HB4 := Qf (bthen HBa.out HBc.out)
       have u0 : wc.cell? ⟨F, 0, none⟩ = some (.string nm) := HX4.out.cell 0
       have u1 : wc.cell? ⟨F, 1, none⟩ = some (.string dt) := HX4.out.cell 1
       clear HNa HOa HBa HBn HBc hKne hK3 hK1 CR CLn
       go_wp2_with fail
       refine (CD.out _).mono ?_
       rintro e w5 ⟨rfl, hb5⟩
       have HN5 := Qf (HN4.out.below hb5)
       have HO5 := Qf (HO4.out.below hb5 (Qa _))
       have HB5 := Qf (bthen HB4.out hb5)
       have HK5 := Qf (HKb.out.below hb5 HKb.out.lt)
       clear HN4 HO4 HB4 HKb HX4 u0 u1 hb5 CD
       by_cases hsm : d.size < dt.size
       . have dd : decide ((d.size : Int) < (dt.size : Int)) = true := Qg (by omega)
         have ddb : decide (d.size < dt.size) = true := Qg (by omega)
         have HPc : Hid (pc = ⟨⟨nm, 8, cc, (d.size : Int), (dt.size : Int), (n0 : Int)⟩, d, dt⟩) := by show _ = _; rw [HPO.out, if_pos hsm]
         have hdz : d.size <= 65536 := by omega
         have v1 : w5.cell? ⟨K, 1, none⟩ = some (.int .i64 0) := HK5.out.cell 1
         have v3 : w5.cell? ⟨K, 3, none⟩ = some (.int .i64 (dt.size : Int)) := HK5.out.cell 3
         have f1 := HK5.out.frozen 1
         have f3 := HK5.out.frozen 3
         clear HPO
         go_upto_region 16 with fail
         have hx6 := grown_two w5 K (.int .i64 8) (.int .i64 (d.size : Int))
         have HK6 : Hid (Blk ((w5.setCell ⟨K, 1, none⟩ (.int .i64 8)).setCell ⟨K, 3, none⟩ (.int .i64 (d.size : Int))) K 26 #[.string nm, .int .i64 8, .int .u32 (cc : Int), .int .i64 (d.size : Int), .int .i64 (dt.size : Int), .int .i64 (n0 : Int)]) := by
          have := (HK5.out.set_ 1 (.int .i64 8)).set_ 3 (.int .i64 (d.size : Int))
          show Blk _ _ _ _
          simpa using this
         have HN6 := Qf (HN5.out.grownK HK5.out hx6)
         have HO6 : Hid (OwnH ((w5.setCell ⟨K, 1, none⟩ (.int .i64 8)).setCell ⟨K, 3, none⟩ (.int .i64 (d.size : Int))) w1.heap.size (.slice oa j ocap) (Q.map Part.h)) := World.ownsRow.kept HO5.out hx6 (.inr HKne.out)
         have HB6 := Qf (HB5.out.grown hx6 HB5.out.size (fun k e => by simp only [Option.some.injEq] at e; subst e; exact HK1.out))
         obtain ⟨w6, HW6⟩ := Qi (((w5.setCell ⟨K, 1, none⟩ (.int .i64 8)).setCell ⟨K, 3, none⟩ (.int .i64 (d.size : Int))))
         rw [HW6.out] at HK6 HN6 HO6 HB6 ⊢
         clear hx6 HW6 v1 v3 f1 f3 HN5 HO5 HB5 HK5
         have CL := Qf (fun W => local_any ⟨nm, 8, cc, (d.size : Int), (dt.size : Int), (n0 : Int)⟩ hcr (by show nm.size <= _; omega) W)
         have hlz : (⟨(localL ⟨nm, 8, cc, (d.size : Int), (dt.size : Int), (n0 : Int)⟩).toArray⟩ : ByteArray).size = 30 + nm.size := locB_size ⟨nm, 8, cc, (d.size : Int), (dt.size : Int), (n0 : Int)⟩
         have hpl : Hid (partL pc = ((⟨(localL ⟨nm, 8, cc, (d.size : Int), (dt.size : Int), (n0 : Int)⟩).toArray⟩ : ByteArray) ++ d).data.toList) := by show _ = _; rw [HPc.out]; unfold partL; simp only [ByteArray.data_append, Array.toList_append]
         unfold Hd.val Hd.cells at CL
         dsimp only at CL
         obtain ⟨lo, Hlo⟩ := Qi ((⟨(localL ⟨nm, 8, cc, (d.size : Int), (dt.size : Int), (n0 : Int)⟩).toArray⟩ : ByteArray))
         rw [Hlo.out] at CL hlz hpl
         have CW := Qf (fun (W : World) (hh : BldAt W B v l0) => bldWrite_any B v l0 (lo ++ d) (by rw [ByteArray.size_append, Hn0.out]; omega) W hh)
         have hov1 : ¬ 9223372036854775807 < lo.size + d.size := by omega
         have hov2 : ¬ 9223372036854775807 < 30 + nm.size + d.size := by omega
         have HLz := Qf hlz
         have k0 : w6.cell? ⟨K, 0, none⟩ = some (.string nm) := HK6.out.cell 0
         have k1 : w6.cell? ⟨K, 1, none⟩ = some (.int .i64 8) := HK6.out.cell 1
         have k2 : w6.cell? ⟨K, 2, none⟩ = some (.int .u32 (cc : Int)) := HK6.out.cell 2
         have k3 : w6.cell? ⟨K, 3, none⟩ = some (.int .i64 (d.size : Int)) := HK6.out.cell 3
         have k4 : w6.cell? ⟨K, 4, none⟩ = some (.int .i64 (dt.size : Int)) := HK6.out.cell 4
         have k5 : w6.cell? ⟨K, 5, none⟩ = some (.int .i64 (n0 : Int)) := HK6.out.cell 5
         have hos : w6.ownsRow w1.heap.size 26 6 (.slice oa j ocap) j (hcells (Q.map Part.h)) := by
          have := HO6.out
          unfold OwnH at this
          rwa [List.length_map, HJ.out] at this
         have hbsw : w1.heap.size <= w6.heap.size := HB6.out.size
         have hone : ∀ u ∈ ([.string nm, .int .i64 8, .int .u32 (cc : Int), .int .i64 (d.size : Int), .int .i64 (dt.size : Int), .int .i64 (n0 : Int)] : List Value), u.oneCell' = true := hd_one ⟨nm, 8, cc, (d.size : Int), (dt.size : Int), (n0 : Int)⟩
         go_wp2_with (first
          | (at_builtin; go_must (refine wpList_append_elem _ rfl (.tmp 69) (.tmp 71) rfl Try.underlying22 info_head rfl (by decide) w1.heap.size (.slice oa j ocap) j (hcells (Q.map Part.h)) [.string nm, .int .i64 8, .int .u32 (cc : Int), .int .i64 (d.size : Int), .int .i64 (dt.size : Int), .int .i64 (n0 : Int)] hos rfl hone rfl rfl rfl ?_ ?_ hbsw ?_; (unfold maxLen; omega); omega; intro v8 w8 hown8 hg8; have HO8 : Hid (OwnH w8 w1.heap.size v8 ((Q ++ [pc]).map Part.h)) := (by show OwnH _ _ _ _; rw [List.map_append, HPc.out]; exact OwnH.snoc (by rw [List.length_map, HJ.out]; exact hown8)); have HN8 := Qf (HN6.out.grownH HO6.out hg8); have HB8 := Qf (HB6.out.trans (below_grown hos hg8 hbsw)); have hK8 := HK6.out.grown hg8 (fun e => HKne.out e.symm); have r0 : w8.cell? ⟨K, 0, none⟩ = some (.string nm) := hK8.cell 0; have r1 : w8.cell? ⟨K, 1, none⟩ = some (.int .i64 8) := hK8.cell 1; have r2 : w8.cell? ⟨K, 2, none⟩ = some (.int .u32 (cc : Int)) := hK8.cell 2; have r3 : w8.cell? ⟨K, 3, none⟩ = some (.int .i64 (d.size : Int)) := hK8.cell 3; have r4 : w8.cell? ⟨K, 4, none⟩ = some (.int .i64 (dt.size : Int)) := hK8.cell 4; have r5 : w8.cell? ⟨K, 5, none⟩ = some (.int .i64 (n0 : Int)) := hK8.cell 5; clear hown8 hg8 hK8 k0 k1 k2 k3 k4 k5))
          | fail)
         refine (CL.out _).mono ?_
         rintro e w9 ⟨rfl, hb9⟩
         have HN9 := Qf (HN8.out.below hb9)
         have HO9 := Qf (HO8.out.below hb9 (Qa _))
         have HB9 := Qf (bthen HB8.out hb9)
         clear hb9 HN8 HO8 HB8 CL r0 r1 r2 r3 r4 r5
         go_wp2_with fail
         refine (CW.out _ HN9.out).mono ?_
         rintro e w10 ⟨rfl, v10, hn10, hc10, hf10⟩
         have HN10 : Hid (BldAt w10 B v10 (archL (Q ++ [pc]))) := by show BldAt _ _ _ _; rw [archL_snoc, Hl0.out, hpl.out]; exact hn10
         have HO10 := Qf (HO9.out.chg HN9.out hc10)
         have HB10 := Qf (hc10.below HB9.out (by rw [HB.out]; exact Qa _) (fun g e => by have := (World.ownsRow.lt HN9.out.2 g e).1; have := HB.out; omega))
         clear hn10 hc10 hf10 HN9 HO9 HB9 CW
         go_wp2_with fail
         go_roundw
         case rel =>
          have ez : (archL (Q ++ [pc])).length = n0 + (partL pc).length := by rw [archL_snoc, List.length_append, Hl0.out, Hn0.out]
          exact ⟨j + 1, Q ++ [pc], v10, by omega, by rw [List.length_append, HJ.out]; rfl, by go_num, by rw [ez]; omega, (by show _ = _; rw [ez, List.append_assoc]; exact HPq2.out), HN10, HO10, HB10, fun h => by omega⟩
         case measure => simp [intOf]; omega
       . have dd : decide ((d.size : Int) < (dt.size : Int)) = false := Qh (by omega)
         have ddb : decide (d.size < dt.size) = false := Qh (by omega)
         have HPc : Hid (pc = ⟨⟨nm, 0, cc, (dt.size : Int), (dt.size : Int), (n0 : Int)⟩, dt, dt⟩) := by show _ = _; rw [HPO.out, if_neg hsm]
         clear HPO hsm
         go_upto_region 16 with fail
         have HK6 := HK5
         have HN6 := HN5
         have HO6 := HO5
         have HB6 := HB5
         clear HN5 HO5 HB5 HK5
         have CL := Qf (fun W => local_any ⟨nm, 0, cc, (dt.size : Int), (dt.size : Int), (n0 : Int)⟩ hcr (by show nm.size <= _; omega) W)
         have hlz : (⟨(localL ⟨nm, 0, cc, (dt.size : Int), (dt.size : Int), (n0 : Int)⟩).toArray⟩ : ByteArray).size = 30 + nm.size := locB_size ⟨nm, 0, cc, (dt.size : Int), (dt.size : Int), (n0 : Int)⟩
         have hpl : Hid (partL pc = ((⟨(localL ⟨nm, 0, cc, (dt.size : Int), (dt.size : Int), (n0 : Int)⟩).toArray⟩ : ByteArray) ++ dt).data.toList) := by show _ = _; rw [HPc.out]; unfold partL; simp only [ByteArray.data_append, Array.toList_append]
         unfold Hd.val Hd.cells at CL
         dsimp only at CL
         obtain ⟨lo, Hlo⟩ := Qi ((⟨(localL ⟨nm, 0, cc, (dt.size : Int), (dt.size : Int), (n0 : Int)⟩).toArray⟩ : ByteArray))
         rw [Hlo.out] at CL hlz hpl
         have CW := Qf (fun (W : World) (hh : BldAt W B v l0) => bldWrite_any B v l0 (lo ++ dt) (by rw [ByteArray.size_append, Hn0.out]; omega) W hh)
         have hov1 : ¬ 9223372036854775807 < lo.size + dt.size := by omega
         have hov2 : ¬ 9223372036854775807 < 30 + nm.size + dt.size := by omega
         have HLz := Qf hlz
         have k0 : w5.cell? ⟨K, 0, none⟩ = some (.string nm) := HK6.out.cell 0
         have k1 : w5.cell? ⟨K, 1, none⟩ = some (.int .i64 0) := HK6.out.cell 1
         have k2 : w5.cell? ⟨K, 2, none⟩ = some (.int .u32 (cc : Int)) := HK6.out.cell 2
         have k3 : w5.cell? ⟨K, 3, none⟩ = some (.int .i64 (dt.size : Int)) := HK6.out.cell 3
         have k4 : w5.cell? ⟨K, 4, none⟩ = some (.int .i64 (dt.size : Int)) := HK6.out.cell 4
         have k5 : w5.cell? ⟨K, 5, none⟩ = some (.int .i64 (n0 : Int)) := HK6.out.cell 5
         have hos : w5.ownsRow w1.heap.size 26 6 (.slice oa j ocap) j (hcells (Q.map Part.h)) := by
          have := HO6.out
          unfold OwnH at this
          rwa [List.length_map, HJ.out] at this
         have hbsw : w1.heap.size <= w5.heap.size := HB6.out.size
         have hone : ∀ u ∈ ([.string nm, .int .i64 0, .int .u32 (cc : Int), .int .i64 (dt.size : Int), .int .i64 (dt.size : Int), .int .i64 (n0 : Int)] : List Value), u.oneCell' = true := hd_one ⟨nm, 0, cc, (dt.size : Int), (dt.size : Int), (n0 : Int)⟩
         go_wp2_with (first
          | (at_builtin; go_must (refine wpList_append_elem _ rfl (.tmp 69) (.tmp 71) rfl Try.underlying22 info_head rfl (by decide) w1.heap.size (.slice oa j ocap) j (hcells (Q.map Part.h)) [.string nm, .int .i64 0, .int .u32 (cc : Int), .int .i64 (dt.size : Int), .int .i64 (dt.size : Int), .int .i64 (n0 : Int)] hos rfl hone rfl rfl rfl ?_ ?_ hbsw ?_; (unfold maxLen; omega); omega; intro v8 w8 hown8 hg8; have HO8 : Hid (OwnH w8 w1.heap.size v8 ((Q ++ [pc]).map Part.h)) := (by show OwnH _ _ _ _; rw [List.map_append, HPc.out]; exact OwnH.snoc (by rw [List.length_map, HJ.out]; exact hown8)); have HN8 := Qf (HN6.out.grownH HO6.out hg8); have HB8 := Qf (HB6.out.trans (below_grown hos hg8 hbsw)); have hK8 := HK6.out.grown hg8 (fun e => HKne.out e.symm); have r0 : w8.cell? ⟨K, 0, none⟩ = some (.string nm) := hK8.cell 0; have r1 : w8.cell? ⟨K, 1, none⟩ = some (.int .i64 0) := hK8.cell 1; have r2 : w8.cell? ⟨K, 2, none⟩ = some (.int .u32 (cc : Int)) := hK8.cell 2; have r3 : w8.cell? ⟨K, 3, none⟩ = some (.int .i64 (dt.size : Int)) := hK8.cell 3; have r4 : w8.cell? ⟨K, 4, none⟩ = some (.int .i64 (dt.size : Int)) := hK8.cell 4; have r5 : w8.cell? ⟨K, 5, none⟩ = some (.int .i64 (n0 : Int)) := hK8.cell 5; clear hown8 hg8 hK8 k0 k1 k2 k3 k4 k5))
          | fail)
         refine (CL.out _).mono ?_
         rintro e w9 ⟨rfl, hb9⟩
         have HN9 := Qf (HN8.out.below hb9)
         have HO9 := Qf (HO8.out.below hb9 (Qa _))
         have HB9 := Qf (bthen HB8.out hb9)
         clear hb9 HN8 HO8 HB8 CL r0 r1 r2 r3 r4 r5
         go_wp2_with fail
         refine (CW.out _ HN9.out).mono ?_
         rintro e w10 ⟨rfl, v10, hn10, hc10, hf10⟩
         have HN10 : Hid (BldAt w10 B v10 (archL (Q ++ [pc]))) := by show BldAt _ _ _ _; rw [archL_snoc, Hl0.out, hpl.out]; exact hn10
         have HO10 := Qf (HO9.out.chg HN9.out hc10)
         have HB10 := Qf (hc10.below HB9.out (by rw [HB.out]; exact Qa _) (fun g e => by have := (World.ownsRow.lt HN9.out.2 g e).1; have := HB.out; omega))
         clear hn10 hc10 hf10 HN9 HO9 HB9 CW
         go_wp2_with fail
         go_roundw
         case rel =>
          have ez : (archL (Q ++ [pc])).length = n0 + (partL pc).length := by rw [archL_snoc, List.length_append, Hl0.out, Hn0.out]
          exact ⟨j + 1, Q ++ [pc], v10, by omega, by rw [List.length_append, HJ.out]; rfl, by go_num, by rw [ez]; omega, (by show _ = _; rw [ez, List.append_assoc]; exact HPq2.out), HN10, HO10, HB10, fun h => by omega⟩
         case measure => simp [intOf]; omega
    . obtain rfl : j = M := by omega
      have dj : decide ((j : Int) < (j : Int)) = false := Qh (by omega)
      have hQ : Q = P := by
       have := HPq.out
       rwa [List.drop_of_length_le (by rw [HM.out]; exact Qa _), packL, List.append_nil] at this
      have hfit : ∀ h ∈ P.map Part.h, h.Fit := placed_fit P 0 (by rw [<- HP.out]; exact packL_placed D L 0 Hsz.out (by rw [HM.out]; omega))
      have hpl2 : (P.map Part.h).length = j := by rw [List.length_map, <- hQ, HJ.out]
      have hmost := idxH_most (P.map Part.h) fun h hh => (hfit h hh).2.2.2.2.2
      have hnil : archL Q ≠ [] \/ v = .slice none 0 0 := by
       by_cases h0 : j = 0
       . exact .inr (Hv0.out h0)
       . left
         intro e
         cases hq2 : Q with
         | nil => have := HJ.out; rw [hq2] at this; exact h0 this.symm
         | cons q r =>
          rw [hq2] at e
          have := congrArg List.length e
          rw [show archL (q :: r) = partL q ++ archL r from rfl, List.length_append, partL_len, List.length_nil] at this
          omega
      have CS := Qf (bldString_any w1 B v (archL Q) (by omega) wr HN.out HBl.out (by rw [HB.out]; exact Qa _) hnil)
      obtain ⟨va, vcap, rfl⟩ := OwnB.slice HN.out.2
      have hwl : Hid ((⟨(archL Q).toArray⟩ : ByteArray) ++ ⟨(indexL (P.map Part.h) ((archL Q).length : Int)).toArray⟩ = ⟨(wholeL P).toArray⟩) := by
       show _ = _
       unfold wholeL
       rw [hQ]
       apply ByteArray.ext
       apply Array.ext'
       simp only [ByteArray.data_append, Array.toList_append]
      have HRg := Qf (HO.out)
      rw [hQ] at HRg
      have CI := Qf (fun (W : World) (hr : HRow W oa (P.map Part.h)) => index_any (P.map Part.h) oa ocap ((archL Q).length : Int) (by omega) (fun h hh => (hfit h hh).2.1) (fun h hh => Nat.le_of_lt (Nat.lt_trans (hfit h hh).2.2.2.2.2 (by decide))) (by omega) W hr)
      rw [hpl2] at CI
      have hzA : (⟨(archL Q).toArray⟩ : ByteArray).size = (archL Q).length := by show (archL Q).toArray.size = _; rw [List.size_toArray]
      have hzI : (⟨(indexL (P.map Part.h) ((archL Q).length : Int)).toArray⟩ : ByteArray).size = (idxH (P.map Part.h)).length + 22 := by show (indexL (P.map Part.h) ((archL Q).length : Int)).toArray.size = _; rw [List.size_toArray, indexL_len]
      have hzW : (wholeL P).length = (archL Q).length + ((idxH (P.map Part.h)).length + 22) := by unfold wholeL; rw [List.length_append, indexL_len, hQ]
      obtain ⟨n0, Hn0⟩ := Qi ((archL Q).length)
      obtain ⟨A, HA⟩ := Qi ((⟨(archL Q).toArray⟩ : ByteArray))
      rw [Hn0.out] at CI hzA hzI hzW hwl hq
      obtain ⟨I, HI⟩ := Qi ((⟨(indexL (P.map Part.h) (n0 : Int)).toArray⟩ : ByteArray))
      rw [HA.out] at CS hzA hwl
      rw [HI.out] at CI hzI hwl
      have HF3 : Hid (RES = if 262144 < A.size + I.size then .error 2 else .ok (A ++ I)) := by show _ = _; rw [HF2.out, hwl.out, hzW, hzA, hzI]
      have hAb : A.size <= 20000000 := by omega
      have hIb : I.size <= 20000000 := by omega
      have hov : ¬ 9223372036854775807 < A.size + I.size := by omega
      obtain ⟨oa2, ocap2, he2, hrw2⟩ := HRg.out.view
      have HAl : Hid (n0 = A.size) := hzA.symm
      clear hQ hfit hmost hnil HPq HF2 hwl hzA hzI hzW hpl2 HI HA he2 hrw2
      go_wp2_with fail
      refine CS.out.mono ?_
      rintro e w3 ⟨rfl, hb3, hk3, hs3, p3, hB3⟩
      have HB3 := Qf hb3
      have HO3 := HRg.out.keepU hk3
      have hrow3 : HRow w3 oa (P.map Part.h) := by
       obtain ⟨oa3, ocap3, he3, hr3⟩ := HO3.view
       injection he3 with e1 _ _
       rw [e1]; exact hr3
      have HR3 := Qf hrow3
      have CLn := Qf (bldLen_blk B va (archL Q).length vcap p3 w3 hB3)
      rw [Hn0.out] at CLn
      clear hb3 hk3 hs3 hB3 HO3 hrow3 CS
      go_wp2_with fail
      refine CLn.out.mono ?_
      rintro e w4 ⟨rfl, rfl⟩
      go_wp2_with fail
      refine (CI.out _ HR3.out).mono ?_
      rintro e w5 ⟨rfl, hb5⟩
      have HB5 := Qf (bthen HB3.out hb5)
      clear hb5
      by_cases hbig : 262144 < A.size + I.size
      . have hr : RES = .error 2 := by rw [HF3.out, if_pos hbig]
        subst hr
        have t1 : decide ((262144 : Int) < (A.size : Int) + (I.size : Int)) = true := Qg (by omega)
        have t2 : decide (262144 < A.size + I.size) = true := Qg (by omega)
        clear HF3
        go_wp2_with fail
        go_ret2
        exact ⟨bthen HB1.out HB5.out, .inl ⟨2, rfl, by decide, rfl⟩⟩
      . have hr : RES = .ok (A ++ I) := by rw [HF3.out, if_neg hbig]
        subst hr
        have t1 : decide ((262144 : Int) < (A.size : Int) + (I.size : Int)) = false := Qh (by omega)
        have t2 : decide (262144 < A.size + I.size) = false := Qh (by omega)
        clear HF3
        go_wp2_with fail
        go_ret2
        exact ⟨bthen HB1.out HB5.out, .inr ⟨_, rfl, rfl⟩⟩
 . have hr : RES = .error c := by rw [HF.out, if_pos hc]
   subst hr
   have hcI : ¬ (c : Int) = 0 := by omega
   clear HF HDf HKo
   go_enter Try.func20, Try.ntmps20
   go_wp2_with fail
   refine (CC.out _ HRo.out).mono ?_
   rintro r w1 ⟨rfl, hb1⟩
   have HB1 := Qf hb1
   clear hb1
   go_wp2_with fail
   go_ret2
   exact ⟨HB1.out, .inl ⟨c, rfl, hc, rfl⟩⟩
noncomputable def begB (s p : ByteArray) : Bool := decide (p.size <= s.size) && (s.extract 0 p.size).toList == p.toList
theorem hasPre_any (s p : ByteArray) (w : World) : Calls Try.prog 91 #[.string s, .string p] w fun e w' => e = .returned (.bool (begB s p)) /\ w = w' := by
 have hb : Hid (begB s p = (decide (p.size <= s.size) && (s.extract 0 p.size).toList == p.toList)) := rfl
 by_cases h : p.size <= s.size
 . have h1 : decide ((s.size : Int) ≥ (p.size : Int)) = true := Qg (by omega)
   have h2 : decide (p.size <= s.size) = true := Qg (by omega)
   have h3 : (p.size : Int) <= (s.size : Int) := by omega
   go_enter Try.func91, Try.ntmps91
   go_wp2_with fail
   go_ret
   exact ⟨by rw [hb.out, h2, Bool.true_and]; rfl, rfl⟩
 . have h1 : decide ((s.size : Int) ≥ (p.size : Int)) = false := Qh (by omega)
   have h2 : decide (p.size <= s.size) = false := Qh (by omega)
   have h3 : ¬ (p.size : Int) <= (s.size : Int) := by omega
   go_enter Try.func91, Try.ntmps91
   go_wp2_with fail
   go_ret
   exact ⟨by rw [hb.out, h2, Bool.false_and]; rfl, rfl⟩
theorem cut1_any (s p : ByteArray) (w : World) : Calls Try.prog 71 #[.string s, .string p] w fun e w' => e = .returned (.tuple (if begB s p = true then #[.string (s.extract p.size s.size), .bool true] else #[.string s, .bool false])) /\ w = w' := by
 have C := Qf (hasPre_any s p)
 have hb : Hid (begB s p = true -> p.size <= s.size) := fun h => by
  unfold begB at h
  rw [Bool.and_eq_true, decide_eq_true_eq] at h
  exact h.1
 obtain ⟨b, Hb⟩ := Qi (begB s p)
 rw [Hb.out] at C hb ⊢
 cases b with
 | false =>
  go_enter Try.func71, Try.ntmps71
  go_wp2_with fail
  refine (C.out _).mono ?_
  rintro e w1 ⟨rfl, rfl⟩
  go_wp2_with fail
  go_ret2
  exact ⟨rfl, rfl⟩
 | true =>
  have h1 := hb.out rfl
  have h2 : (p.size : Int) <= (s.size : Int) := by omega
  clear hb
  go_enter Try.func71, Try.ntmps71
  go_wp2_with fail
  refine (C.out _).mono ?_
  rintro e w1 ⟨rfl, rfl⟩
  go_wp2_with fail
  go_ret2
  exact ⟨rfl, rfl⟩
theorem cutp_any (s p : ByteArray) (w : World) : Calls Try.prog 50 #[.string s, .string p] w fun e w' => e = .returned (.tuple (if begB s p = true then #[.string (s.extract p.size s.size), .bool true] else #[.string s, .bool false])) /\ w = w' := by
 have C := Qf (cut1_any s p)
 obtain ⟨b, Hb⟩ := Qi (begB s p)
 rw [Hb.out] at C ⊢
 cases b with
 | false =>
  have C2 := Qf (fun W => (C.out W))
  simp only [Bool.false_eq_true, if_false] at C2 ⊢
  clear C
  go_enter Try.func50, Try.ntmps50
  go_wp2_with fail
  refine (C2.out _).mono ?_
  rintro e w1 ⟨rfl, rfl⟩
  go_wp2_with fail
  go_ret2
  exact ⟨rfl, rfl⟩
 | true =>
  have C2 := Qf (fun W => (C.out W))
  simp only [if_true] at C2 ⊢
  clear C
  go_enter Try.func50, Try.ntmps50
  go_wp2_with fail
  refine (C2.out _).mono ?_
  rintro e w1 ⟨rfl, rfl⟩
  go_wp2_with fail
  go_ret2
  exact ⟨rfl, rfl⟩
theorem bits_m (R P : Nat) (s : ByteArray) (p z most k : Nat) (hk : k <= 16) (hs : s.size <= 100000) (hp : p <= 8 * s.size) (w : World) (hR : RdAt w R P s p z most 0) :
 Calls Try.prog 65 #[.pointer (some ⟨R, 0, none⟩), .int .i64 (k : Int)] w fun r w' => ∃ v : Nat, v < 2 ^ k /\ v < 65536 /\ r = .returned (.int .i64 (v : Int)) /\ Rch R P w w' /\
  ((bitsM k (sg s p z) = .error 6 /\ RdAt w' R P s (p + k) z most 6 /\ (8 * s.size - p = 0 -> v = 0) /\ v < 2 ^ (8 * s.size - p)) \/ (bitsM k (sg s p z) = .ok (v, sg s (p + k) z) /\ p + k <= 8 * s.size /\ RdAt w' R P s (p + k) z most 0)) := by
 refine (bits_any R P s p z most 0 k hk hs (by omega) w hR).mono ?_
 rintro r w' ⟨rfl, hR', hC⟩
 refine ⟨bitsAt s p k, Nat.mod_lt _ (Nat.two_pow_pos k), bitsAt_lt s p k hk, rfl, hC, ?_⟩
 unfold bitsE at hR'
 by_cases h : 8 * s.size < p + k
 . rw [if_pos h] at hR'
   have hlt : bitsAt s p k < 2 ^ (8 * s.size - p) := by
    unfold bitsAt
    have h1 : num s / 2 ^ p < 2 ^ (8 * s.size - p) := by
     have h2 : num s < 2 ^ (8 * s.size) := by
      have := leN_lt s.data.toList
      rw [Nat.pow_mul]
      unfold num
      simpa using this
     rw [Nat.div_lt_iff_lt_mul (Nat.two_pow_pos p), <- Nat.pow_add, show 8 * s.size - p + p = 8 * s.size by omega]
     exact h2
    exact Nat.lt_of_le_of_lt (Nat.mod_le _ _) h1
   refine .inl ⟨bits_sg_short s p z k hp h, hR', fun h0 => ?_, hlt⟩
   rw [h0] at hlt
   have : (2 : Nat) ^ 0 = 1 := rfl
   omega
 . rw [if_neg h] at hR'
   exact .inr ⟨bits_sg s p z k (by omega), by omega, hR'⟩
theorem symbol_m (L : Nat -> Nat) (n : Nat) (hL : ∀ i, i < n -> L i <= 15) (hn : n <= 400) (T g N cap : Nat) (B : Nat -> Nat -> Int) (pv pn : Nat -> Nat) (hG : Grown (bitsF L n) L (InAll L n) B N pv pn)
 (R P : Nat) (s : ByteArray) (p z most : Nat) (hs : s.size <= 100000) (hp : p <= 8 * s.size) (hTP : T ≠ P) (hgP : g ≠ P) (w : World) (hA : TreeAt w T g N cap B) (hR : RdAt w R P s p z most 0) :
 Calls Try.prog 89 #[.pointer (some ⟨R, 0, none⟩), .pointer (some ⟨T, 0, none⟩)] w fun r w' => ∃ (v p' : Nat), r = .returned (.int .i64 (v : Int)) /\ Rch R P w w' /\ p < p' /\ p' <= p + 16 /\
  ((∃ e, e ≠ 0 /\ symM L n (sg s p z) = .error e /\ RdAt w' R P s p' z most e /\ v = 0) \/ (symM L n (sg s p z) = .ok (v, sg s p' z) /\ p' <= 8 * s.size /\ v < n /\ RdAt w' R P s p' z most 0)) := by
 refine (symbol_ok L n (fun i h => hL i h.1) hn T g N cap B pv pn hG R P s p z most hs (by omega) hTP hgP w hA hR).mono ?_
 rintro r w' ⟨sym, err, taken, rfl, hN, ht, hR', hC⟩
 have h1 := hN.1
 have hN2 := hN.rest hp
 have hnr := nextR_of L n hL hN2
 have hsy : symM L n (sg s p z) = if err = 0 then .ok (sym, sg s (p + taken) z) else .error err := by
  unfold symM
  have e1 : (sg s p z).X = num s / 2 ^ p := rfl
  have e2 : (sg s p z).n = 8 * s.size - p := rfl
  rw [e1, e2, hnr]
  by_cases h0 : err = 0
  . rw [if_pos h0, if_pos h0]
    unfold sg
    have e3 : num s / 2 ^ p / 2 ^ taken = num s / 2 ^ (p + taken) := by rw [Nat.div_div_eq_div_mul, <- Nat.pow_add]
    have e4 : 8 * s.size - p - taken = 8 * s.size - (p + taken) := by omega
    simp only [e3, e4]
  . rw [if_neg h0, if_neg h0]
 refine ⟨sym, p + taken, rfl, hC, by omega, by omega, ?_⟩
 by_cases h0 : err = 0
 . subst h0
   rw [if_pos rfl] at hsy
   rcases hN.2.2 with ⟨_, h, _⟩ | ⟨_, _, h, _⟩ | ⟨h2, h3, _⟩
   . cases h
   . cases h
   . exact .inr ⟨hsy, h2, h3.1, hR'⟩
 . rw [if_neg h0] at hsy
   refine .inl ⟨err, h0, hsy, hR', ?_⟩
   rcases hN.2.2 with ⟨_, _, h⟩ | ⟨_, _, _, h⟩ | ⟨_, _, _, _, h⟩
   . exact h
   . exact h
   . exact absurd h h0
section
variable {R P : Nat} {w w' : World}
theorem Rch.then_below {w0 : World} {B : Nat} (h : Rch R P w0 w) (hb : Below B w w') (hB : w0.heap.size <= B) : Rch R P w0 w' :=
 ⟨hb.os.trans h.1, hb.tape.trans h.2.1, hb.output.trans h.2.2.1, Qe h.2.2.2.1 hb.size, fun g hg h1 h2 => (hb.block g (by omega)).trans (h.2.2.2.2 g hg h1 h2)⟩
theorem Rch.cell (h : Rch R P w w') {b off : Nat} (hb : b < w.heap.size) (h1 : b ≠ R) (h2 : b ≠ P) : w'.cell? ⟨b, off, none⟩ = w.cell? ⟨b, off, none⟩ := by
 unfold World.cell?
 rw [h.2.2.2.2 b hb h1 h2]
theorem TreeAt.rch {T g N cap : Nat} {B : Nat -> Nat -> Int} (h : TreeAt w T g N cap B) (hc : Rch R P w w') (h1 : T ≠ R) (h2 : T ≠ P) (h3 : g ≠ R) (h4 : g ≠ P) : TreeAt w' T g N cap B :=
 ⟨hc.blk h.1 h1 h2, Qb h.2.1 hc.2.2.2.1, fun a b ha hb => (hc.cell h.2.1 h3 h4).trans (h.2.2 a b ha hb)⟩
theorem ownsRow_rch {base e size n : Nat} {v : Value} {xs : List Value} (h : w.ownsRow base e size v n xs) (hc : Rch R P w w') (h1 : R < base) (h2 : P < base) : w'.ownsRow base e size v n xs := by
 refine ⟨h.1, ?_⟩
 rcases h.2 with h | ⟨g, cap, cur, a1, a2, a3, a4⟩
 . exact .inl h
 . refine .inr ⟨g, cap, cur, a1, a2, ?_, a4⟩
   have hlt : g < w.heap.size := by
    rcases Nat.lt_or_ge g w.heap.size with h | h
    . exact h
    . rw [Array.getElem?_eq_none h] at a3; cases a3
   exact (hc.2.2.2.2 g hlt (by omega) (by omega)).trans a3
theorem OwnK.rch {base e : Nat} {v : Value} {S : List Tok} (h : OwnK e w base v S) (hc : Rch R P w w') (h1 : R < base) (h2 : P < base) : OwnK e w' base v S := ownsRow_rch h hc h1 h2
theorem IRow.rch {a : Option Addr} {n : Nat} {m : Nat -> Int} (h : IRow w a n m) (hc : Rch R P w w') (h1 : ∀ b off sp, a = some ⟨b, off, sp⟩ -> b ≠ R /\ b ≠ P) : IRow w' a n m := by
 rcases h with h | ⟨b, off, e, hb, hcell⟩
 . exact .inl h
 . obtain ⟨h2, h3⟩ := h1 b off none e
   exact .inr ⟨b, off, e, Qb hb hc.2.2.2.1, fun i hi => (hc.cell hb h2 h3).trans (hcell i hi)⟩
end
theorem size_near_b : ∀ i : Nat, i <= 28 -> 3 <= (sizeS false (i : Int)).1 /\ (sizeS false (i : Int)).1 <= 258 /\ (sizeS false (i : Int)).2 <= 5 := by decide
theorem size_far_b : ∀ i : Nat, i <= 29 -> 1 <= (sizeS true (i : Int)).1 /\ (sizeS true (i : Int)).1 <= 24577 /\ (sizeS true (i : Int)).2 <= 13 := by decide
theorem size_near_0 (i : Int) (h : 28 < i) : sizeS false i = (0, 0) := by unfold sizeS; rw [if_neg (by decide), if_pos (.inr h)]
theorem size_far_0 (i : Int) (h : 29 < i) : sizeS true i = (0, 0) := by unfold sizeS; rw [if_pos rfl, if_pos (.inr h)]
end Go.Proofs.Ythehocmfpoglgaa
