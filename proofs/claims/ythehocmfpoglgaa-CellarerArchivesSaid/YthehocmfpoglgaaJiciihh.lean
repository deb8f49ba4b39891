/- Texts joined: Def7 DflP Wk Few Shr Frame FileF ArcP. Conditions: each theorem says its own. -/
import Derived.StillTailTactics
import Derived.BigQuiet
import Derived.WalkKit
import Derived.ProofKit
import Derived.OpenShut
import Derived.ShutString
import Derived.ChangeOld
import Derived.Below
import Derived.SizedLaws
import Derived.Lib.SmallJoins
import Derived.SliceStrings
import Derived.Deep.Slices
import Derived.Test.YthehocmfpoglgaaJpjgiil
import Derived.Test.YthehocmfpoglgaaTokensJ
import Derived.Test.YthehocmfpoglgaaJcgbgpl
import Derived.Test.YthehocmfpoglgaaJkcbeom
import Derived.Test.YthehocmfpoglgaaJepaakj
import Derived.Test.YthehocmfpoglgaaJceeild
import Derived.Test.YthehocmfpoglgaaRows
namespace Go.Proofs.Ythehocmfpoglgaa
open Go.RowKit
set_option maxRecDepth 100000
theorem own_toks2 {e : TypeId} {w : World} {base : Nat} {v : Value} {S : List Tok} (h : OwnK e w base v S) : (S = [] /\ v = .slice none 0 0) \/ ∃ g cap, v = .slice (some ⟨g, 0, none⟩) S.length cap /\ S.length <= cap /\ TkRow w (some ⟨g, 0, none⟩) S := by
 obtain ⟨a, cap, h1, h2⟩ := h.view
 rcases h.2 with ⟨h3, h4⟩ | ⟨g, cap2, cur, h3, _, _, h4, _⟩
 . exact .inl ⟨List.eq_nil_of_length_eq_zero h4, h3⟩
 . refine .inr ⟨g, cap2, h3, h4, ?_⟩
   rw [h3] at h1
   injection h1 with e1 _ _
   rw [<- e1] at h2
   exact h2
noncomputable def pkE (fx : Bool) (S : List Tok) : List (Nat × Nat) := if fx = true then fixE S else dynS S
theorem packed_any (fx : Bool) (S : List Tok) (hS : S.length <= 4000) (base : Nat) (v : Value) (ht : ∀ t ∈ S, TokW 286 30 t /\ TokW 288 32 t) (w : World) (h : OwnK 110 w base v S) :
 Calls Try.prog 40 #[v, .bool fx] w fun e w' => e = .returned (.string (encB (pkE fx S))) /\ Below w.heap.size w w' := by
 rcases own_toks2 h with ⟨h1, rfl⟩ | ⟨g, cap, rfl, h2, h3⟩
 . cases fx
   . exact packed_dyn0 S h1 w
   . exact packed_fix0 S h1 w
 . cases fx
   . exact packed_dyn1 S hS g 0 cap h2 (fun t h => (ht t h).1) w h3
   . exact packed_fix S hS g 0 cap h2 (fun t h => (ht t h).2) w h3
noncomputable def bstB (S : List Tok) (u : ByteArray) : Nat -> ByteArray
 | 0 => u
 | j + 1 => if (encB (pkE (decide (j = 0)) S)).size < (bstB S u j).size then encB (pkE (decide (j = 0)) S) else bstB S u j
set_option maxHeartbeats 16000000 in
theorem deflate_any (s : ByteArray) (lv : Nat) (hlv : lv <= 9) (hs : s.size <= 65536) (hn : (tokF s lv s.size 0).length <= 4000) (w : World) :
 Calls Try.prog 15 #[.string s, .int .i64 (lv : Int)] w fun e w' => ∃ u, StoRes s u /\ e = .returned (.tuple #[.string (bstB (tokF s lv s.size 0) u 2), .int .i64 0]) /\ Below w.heap.size w w' := by
 have CT := Qf (fun W => tokens_any s lv hlv hs W)
 have CS := Qf (fun W => stored_any s hs W)
 have hex := tokF_exp s lv s.size 0 (by omega) (Nat.zero_le _)
 have ht := tokW_of hex
 obtain ⟨S, HS⟩ := Qi (tokF s lv s.size 0)
 rw [HS.out] at CT hn ht ⊢
 have CP := Qf (fun (fx : Bool) (base : Nat) (v : Value) (W : World) (h : OwnK 110 W base v S) => packed_any fx S hn base v ht W h)
 clear hex ht hn HS
 go_enter Try.func15, Try.ntmps15
 go_wp2_with fail
 refine (CT.out _).mono ?_
 rintro e w1 ⟨v, rfl, ho, hb1⟩
 have HO1 := Qf ho
 have HB1 := Qf hb1
 clear ho hb1 CT
 go_wp2_with fail
 refine (CS.out _).mono ?_
 rintro e w2 ⟨u, rfl, hu, hb2⟩
 have HO2 := Qf (HO1.out.below hb2 (Qa _))
 have HB2 := Qf (bthen HB1.out hb2)
 have HU := Qf hu
 have hal := (Below.refl w2.heap.size w2).alloc (Qa _) (.cells #[.bool true, .bool false] 4)
 have hbn := Blk.new w2 4 #[.bool true, .bool false]
 have HO3 := Qf (HO2.out.below hal (Qa _))
 have HB3 := Qf (bthen HB2.out hal)
 have HN3 := Qf hbn
 obtain ⟨Bb, HBb⟩ := Qi (w2.heap.size)
 rw [HBb.out] at HN3
 clear hu hb2 hal hbn CS HO1 HB1 HO2 HB2
 go_wp2_with fail
 rw [HBb.out]
 obtain ⟨w3, HW3⟩ := Qi (w2.alloc (.cells #[.bool true, .bool false] 4))
 rw [HW3.out] at HN3 HO3 HB3 ⊢
 clear HW3 HBb
 have Hb0 : Hid (bstB S u 0 = u) := Qf (Eq.refl _)
 go_loopw [8, 25] (fun b_ j_ wr => ∃ (j : Nat) (x : ByteArray), j <= 2 /\ j_ = .int .i64 (j : Int) /\ b_ = .string x /\ Hid (bstB S u j = x) /\ Hid (Blk wr Bb 4 #[.bool true, .bool false]) /\ Hid (OwnK 110 wr w.heap.size v S) /\ Hid (Below w.heap.size w wr)) (fun _ j _ => 2 - (intOf j).toNat)
 case atStart => exact ⟨0, u, by decide, rfl, rfl, Hb0, HN3, HO3, HB3⟩
 case round =>
  clear HN3 HO3 HB3 Hb0
  obtain ⟨j, x, hj, rfl, rfl, HX, HN, HO, HB⟩ := hrel
  by_cases hlt : j < 2
  . have dj : decide ((j : Int) < 2) = true := Qg (by omega)
    have djb : decide (j < 2) = true := Qg (by omega)
    have hjI : (j : Int) < 2 := by omega
    obtain ⟨fx, Hfx⟩ := Qi (decide (j = 0))
    have c0 : wr.cell? ⟨Bb, j, none⟩ = some (.bool fx) := by
     rw [Blk.cell HN.out, <- Hfx.out]
     rcases show j = 0 \/ j = 1 by omega with rfl | rfl <;> rfl
    have CPx := Qf (CP.out fx w.heap.size v wr HO.out)
    obtain ⟨t, Ht⟩ := Qi (encB (pkE fx S))
    rw [Ht.out] at CPx
    have hnx : bstB S u (j + 1) = if t.size < x.size then t else x := by
     show (if (encB (pkE (decide (j = 0)) S)).size < (bstB S u j).size then encB (pkE (decide (j = 0)) S) else bstB S u j) = _
     rw [Hfx.out, Ht.out, HX.out]
    have Hnx := Qf hnx
    clear hnx
    go_wp2_with fail
    refine CPx.out.mono ?_
    rintro e w4 ⟨rfl, hb4⟩
    have HN4 := Qf (HN.out.below hb4 HN.out.lt)
    have HO4 := Qf (HO.out.below hb4 (Qa _))
    have HB4 := Qf (bthen HB.out hb4)
    clear hb4 HN HO HB CPx
    by_cases hsz : t.size < x.size
    . have d1 : decide ((t.size : Int) < (x.size : Int)) = true := Qg (by omega)
      have d1b : decide (t.size < x.size) = true := Qg (by omega)
      have HX2 : Hid (bstB S u (j + 1) = t) := by show _ = _; rw [Hnx.out, if_pos hsz]
      go_wp2_with fail
      go_roundw
      case rel => exact ⟨j + 1, t, by omega, by go_num, rfl, HX2, HN4, HO4, HB4⟩
      case measure => simp [intOf]; omega
    . have d1 : decide ((t.size : Int) < (x.size : Int)) = false := Qh (by omega)
      have d1b : decide (t.size < x.size) = false := Qh (by omega)
      have HX2 : Hid (bstB S u (j + 1) = x) := by show _ = _; rw [Hnx.out, if_neg hsz]
      go_wp2_with fail
      go_roundw
      case rel => exact ⟨j + 1, x, by omega, by go_num, rfl, HX2, HN4, HO4, HB4⟩
      case measure => simp [intOf]; omega
  . have hj2 : Hid (j = 2) := by show _ = _; omega
    have dj : decide ((j : Int) < 2) = false := Qh (by omega)
    have djb : decide (j < 2) = false := Qh (by omega)
    go_wp2_with fail
    go_ret2
    have hX := HX.out
    rw [hj2.out] at hX
    exact ⟨u, HU.out, by rw [hX]; rfl, HB.out⟩
theorem terr_le {m m' : Int} (h : m <= m') {n : Nat} {t : Tok} (h0 : terr m n t = 0) : terr m' n t = 0 := by
 unfold terr at h0 ⊢
 by_cases h1 : t.l = 0
 . rw [if_pos h1] at h0 ⊢
   by_cases h2 : t.d ≠ 0
   . rw [if_pos h2] at h0; cases h0
   . rw [if_neg h2] at h0 ⊢
     by_cases h3 : m <= (n : Int)
     . rw [if_pos h3] at h0; cases h0
     . rw [if_neg (by omega)]
 . rw [if_neg h1] at h0 ⊢
   by_cases h2 : t.b ≠ 0 \/ t.l < 3 \/ 258 < t.l \/ t.d < 1 \/ 32768 < t.d \/ (n : Int) < t.d
   . rw [if_pos h2] at h0; cases h0
   . rw [if_neg h2] at h0 ⊢
     by_cases h3 : m < (n : Int) + t.l
     . rw [if_pos h3] at h0; cases h0
     . rw [if_neg (by omega)]
theorem texp_le {m m' : Int} (h : m <= m') : ∀ {S : List Tok} {o T : List UInt8}, texp m o S = (T, 0) -> texp m' o S = (T, 0) := by
 intro S
 induction S with
 | nil => intro o T h1; exact h1
 | cons t S ih =>
  intro o T h1
  obtain ⟨h2, h3⟩ := texp_cons h1
  rw [texp_step (terr_le h h2)]
  exact ih h3
theorem bst_two (S : List Tok) (u : ByteArray) : (bstB S u 2 = u \/ bstB S u 2 = encB (fixE S) \/ bstB S u 2 = encB (dynS S)) /\ (bstB S u 2).size <= u.size /\ (bstB S u 2).size <= (encB (fixE S)).size := by
 have e1 : bstB S u 1 = if (encB (fixE S)).size < u.size then encB (fixE S) else u := rfl
 have e2 : bstB S u 2 = if (encB (dynS S)).size < (bstB S u 1).size then encB (dynS S) else bstB S u 1 := rfl
 have h1 : (bstB S u 1 = u \/ bstB S u 1 = encB (fixE S)) /\ (bstB S u 1).size <= u.size /\ (bstB S u 1).size <= (encB (fixE S)).size := by
  rw [e1]
  split
  . exact ⟨.inr rfl, by omega, Qa _⟩
  . exact ⟨.inl rfl, Qa _, by omega⟩
 obtain ⟨h2, h3, h4⟩ := h1
 rw [e2]
 split
 . exact ⟨.inr (.inr rfl), by omega, by omega⟩
 . refine ⟨?_, h3, h4⟩
   rcases h2 with h | h
   . exact .inl h
   . exact .inr (.inl h)
def ReadsAs (d : ByteArray) (s : ByteArray) (most : Nat) : Prop := ∃ bs σ, inflR d most = .ok (bs, σ) /\ joinL [] bs = s.data.toList /\ σ.n < 8 /\ σ.out = s.size
theorem dfl_reads (s u : ByteArray) (lv most : Nat) (hm : s.size <= most) (hu : bstB (tokF s lv s.size 0) u 2 ≠ u \/ (u = stoS s /\ s.size <= 65535)) : ReadsAs (bstB (tokF s lv s.size 0) u 2) s most := by
 have hex : texp (most : Int) [] (tokF s lv s.size 0) = (s.data.toList, 0) := texp_le (by omega) (tokF_exp s lv s.size 0 (by omega) (Nat.zero_le _))
 have ht := fun t h => ((tokW_of hex) t h).1
 have hl : s.data.toList.length = s.size := by simp
 obtain ⟨S, hS⟩ : ∃ S, tokF s lv s.size 0 = S := ⟨_, rfl⟩
 rw [hS] at hex ht hu ⊢
 rcases (bst_two S u).1 with h | h | h
 . rcases hu with h2 | ⟨h2, h3⟩
   . exact absurd h h2
   . rw [h, h2]
     refine ⟨_, _, sto_infl s most h3 hm, ?_, by show 0 < 8; decide, rfl⟩
     show joinB [] ⟨0, s.data.toList, []⟩ = _
     show joinS ([] ++ s.data.toList) [] = _
     rfl
 . rw [h]
   refine ⟨_, _, fix_infl S most _ hex, fix_join S most _ hex, ?_, hl⟩
   show 8 * ((encN (fixE S) + 7) / 8) - encN (fixE S) < 8
   omega
 . rw [h]
   refine ⟨_, _, dyn_ok S most _ ht hex, texp_join most S [] _ hex, ?_, hl⟩
   show 8 * ((encN (dynS S) + 7) / 8) - encN (dynS S) < 8
   omega
noncomputable def dflB (s : ByteArray) (lv : Nat) : ByteArray := bstB (tokF s lv s.size 0) (stoS s) 2
theorem dflB_reads (s : ByteArray) (lv most : Nat) (hs : s.size <= 65535) (hm : s.size <= most) : ReadsAs (dflB s lv) s most := dfl_reads s (stoS s) lv most hm (.inr ⟨rfl, hs⟩)
theorem deflate_small (s : ByteArray) (lv : Nat) (hlv : lv <= 9) (hs : s.size <= 4000) (w : World) :
 Calls Try.prog 15 #[.string s, .int .i64 (lv : Int)] w fun e w' => e = .returned (.tuple #[.string (dflB s lv), .int .i64 0]) /\ Below w.heap.size w w' := by
 refine (deflate_any s lv hlv (by omega) (by have := tokF_len s lv s.size 0; omega) w).mono ?_
 rintro e w' ⟨u, hu, rfl, hb⟩
 rw [hu.1 (by omega)]
 exact ⟨rfl, hb⟩
theorem reads_T {d s : ByteArray} {most : Nat} (h : ReadsAs d s most) : inflT d most = some (s, d.size) := by
 obtain ⟨bs, σ, h1, h2, h3, h4⟩ := h
 unfold inflT
 rw [h1]
 dsimp only
 have e1 : (⟨(joinL [] bs).toArray⟩ : ByteArray) = s := ByteArray.ext (Array.ext' h2)
 have h5 : σ.n <= 8 * d.size := by
  have := blocksM_count _ (show blocksM most (8 * d.size + 1) (sg d 0 0) [] = .ok (bs, σ) from h1)
  have e0 : (sg d 0 0).n = 8 * d.size := rfl
  rw [e0] at this
  simp at this
  omega
 have e2 : (8 * d.size - σ.n + 7) / 8 = d.size := by omega
 rw [e1, e2]
theorem dflB_T (s : ByteArray) (lv : Nat) (hs : s.size <= 65535) : inflT (dflB s lv) s.size = some (s, (dflB s lv).size) := reads_T (dflB_reads s lv s.size hs (Qa _))
theorem encN_cons (a b : Nat) (l : List (Nat × Nat)) : encN ((a, b) :: l) = b + encN l := rfl
theorem dflB_two (s : ByteArray) (lv : Nat) : 2 <= (dflB s lv).size := by
 unfold dflB
 obtain ⟨h, _⟩ := bst_two (tokF s lv s.size 0) (stoS s)
 rcases h with h | h | h
 . rw [h, stoS_size]; omega
 . rw [h, encB_size]
   unfold fixE
   rw [encN_cons, encN_cons, encN_app]
   have e1 : encN [symE (lens fixL) 288 256] = 7 := by decide +kernel
   rw [e1]
   omega
 . rw [h, encB_size]
   unfold dynS dynE headE
   rw [encN_cons, encN_cons, List.cons_append, encN_cons, List.cons_append, encN_cons, List.cons_append, encN_cons]
   omega
def strA : ByteArray := ⟨#[97]⟩
def strHi : ByteArray := ⟨#[104, 105]⟩
theorem nmB_true {s : ByteArray} (h : nmOK s) : nmB s = true := by
 classical
 unfold nmB
 exact decide_eq_true h
theorem nmB_a : nmB strA = true := nmB_true ⟨by decide, by decide, fun i hi => by
 have : i = 0 := by have e : strA.size = 1 := rfl; omega
 subst this
 decide⟩
theorem wake_chk : chkF [(strA, strHi)] = 0 := by
 unfold chkF chkL
 rw [if_neg (by decide), if_neg (by decide), nmB_a]
 have e : strLe strA ⟨#[]⟩ = false := by decide +kernel
 rw [e]
 rfl
theorem wake_write : ∃ s, writeF (fun x => dflB x 6) [(strA, strHi)] = .ok s /\ s.size = 102 /\ readF s = .ok [(strA, strHi)] := by
 have e1 : packL (fun x => dflB x 6) [(strA, strHi)] 0 = [⟨⟨strA, 0, crcOf 0 strHi.data.toList, 2, 2, 0⟩, strHi, strHi⟩] := by
  have h2 := dflB_two strHi 6
  rw [packL, packL]
  unfold packOf
  have hz : strHi.size = 2 := rfl
  dsimp only
  rw [hz, if_neg (by omega)]
  rfl
 have e2 : (wholeL (packL (fun x => dflB x 6) [(strA, strHi)] 0)).length = 102 := by
  rw [e1]
  unfold wholeL
  rw [List.length_append, indexL_len]
  show (archL [_]).length + ((idxH [_]).length + 22) = 102
  unfold archL idxH
  rw [List.flatMap_cons, List.flatMap_cons, List.length_append, List.length_append, partL_len, idxL1_len]
  rfl
 have e3 : writeF (fun x => dflB x 6) [(strA, strHi)] = .ok ⟨(wholeL (packL (fun x => dflB x 6) [(strA, strHi)] 0)).toArray⟩ := by
  unfold writeF
  rw [wake_chk, if_neg (by decide), if_neg (by rw [e2]; decide)]
 obtain ⟨_, h2, _⟩ := write_read e3 (fun f hf => by
  rw [List.mem_singleton] at hf
  subst hf
  intro h
  have h2 := dflB_two strHi 6
  have hz : strHi.size = 2 := rfl
  dsimp only at h
  omega)
 refine ⟨_, e3, ?_, h2⟩
 show (wholeL _).toArray.size = 102
 rw [List.size_toArray, e2]
set_option maxHeartbeats 4000000 in
theorem awake8_any (w : World) : Calls Try.prog 9 #[] w fun e w' => e = .returned (.bool true) /\ Below w.heap.size w w' := by
 obtain ⟨s, h1, h2, h3⟩ := wake_write
 have CW : Hid (∀ W a cap, FRow W a [(strA, strHi)] -> Calls Try.prog 20 #[.slice a 1 cap, .int .i64 6] W fun e w' => e = .returned (.tuple #[.string s, .int .i64 0]) /\ Below W.heap.size W w') := by
  intro W a cap hr
  refine (write_any (fun x => dflB x 6) [(strA, strHi)] a cap 6 (by decide) (by decide) (fun _ f hf W' => ?_) W hr).mono ?_
  . rw [List.mem_singleton] at hf
    subst hf
    exact deflate_small strHi 6 (by decide) (by decide) W'
  . rintro e w' ⟨hb, ⟨k, hk, _, _⟩ | ⟨x, hx, he⟩⟩
    . rw [h1] at hk; cases hk
    . rw [h1] at hx; injection hx with hx; subst hx; exact ⟨he, hb⟩
 have CR : Hid (∀ W, Calls Try.prog 16 #[.string s] W fun e w' => Below W.heap.size W w' /\ ∃ a cap, e = .returned (.tuple #[.slice a 1 cap, .int .i64 0]) /\ FRow w' a [(strA, strHi)]) := by
  intro W
  refine (read_any s (by omega) W).mono ?_
  rintro e w' ⟨hb, ⟨k, hk, _, _⟩ | ⟨l, v, hl, he, hv⟩⟩
  . rw [h3] at hk; cases hk
  . rw [h3] at hl; injection hl with hl; subst hl
    obtain ⟨a, cap, rfl, hr⟩ := hv.view
    exact ⟨hb, a, cap, he, hr⟩
 have hsI : (s.size : Int) = 102 := by omega
 clear h1 h3
 have hr0 : FRow (w.alloc (.cells #[.string strA, .string strHi] 44)) (some ⟨w.heap.size, 0, none⟩) [(strA, strHi)] := fun k hk => by
  have : k = 0 := by simp at hk; exact hk
  subst this
  have hb := Blk.new w 44 #[.string strA, .string strHi]
  exact ⟨_, 0, rfl, hb.lt, hb.cell 0, hb.cell 1⟩
 have HR0 := Qf hr0
 have HB0 := Qf ((Below.refl w.heap.size w).alloc (Qa _) (.cells #[.string strA, .string strHi] 44))
 clear hr0
 go_enter Try.func9, Try.ntmps9
 go_wp2_with fail
 refine (CW.out _ _ _ HR0.out).mono ?_
 rintro e w1 ⟨rfl, hb1⟩
 have HB1 := Qf (bthen HB0.out hb1)
 clear hb1
 go_wp2_with fail
 refine (CR.out _).mono ?_
 rintro e w2 ⟨hb2, a, cap, rfl, hr2⟩
 have HB2 := Qf (bthen HB1.out hb2)
 obtain ⟨b, off, rfl, hbl, c0, c1⟩ := hr2 0 (by decide)
 simp only [Nat.zero_mul, Nat.add_zero] at c0 c1
 have d0 : w2.cell? ⟨b, off, none⟩ = some (.string ⟨#[97]⟩) := c0
 have d1 : w2.cell? ⟨b, off + 1, none⟩ = some (.string ⟨#[104, 105]⟩) := c1
 clear hb2 hr2 c0 c1
 go_wp2_with fail
 go_ret
 exact ⟨rfl, HB2.out⟩
def few (s : ByteArray) (n : Nat) : ByteArray := if n < s.size then s.extract 0 n else s
theorem few_list (s : ByteArray) (n : Nat) : (few s n).data.toList = s.data.toList.take n := by
 unfold few
 split
 . simp
 . rw [List.take_of_length_le (by simp; omega)]
theorem few_size (s : ByteArray) (n : Nat) : (few s n).size <= n := by
 unfold few
 split
 . simp; omega
 . omega
theorem few_any (s : ByteArray) (n : Nat) (hn : n <= 100000) (_hs : s.size <= maxLen) (w : World) :
 Calls Try.prog 38 #[.string s, .int .i64 (n : Int)] w fun e w' => e = .returned (.string (few s n)) /\ w = w' := by
 by_cases h : n < s.size
 . have e := Qf (show few s n = s.extract 0 n by unfold few; rw [if_pos h])
   go_enter Try.func38, Try.ntmps38
   go_wp2
   go_ret
   exact ⟨by rw [e.out]; rfl, rfl⟩
 . have e := Qf (show few s n = s by unfold few; rw [if_neg h])
   go_enter Try.func38, Try.ntmps38
   go_wp2
   go_ret
   exact ⟨by rw [e.out]; rfl, rfl⟩
theorem calls_symf {P : Program} {f : FuncId} {args : Array Value} {w : World} {v : Value} (h : Calls P f args w fun e w' => e = .returned v /\ w = w') : Calls P f args w fun e w' => e = .returned v /\ w' = w :=
 h.mono fun _ _ h => ⟨h.1, h.2.symm⟩
theorem OwnFl.empty (w : World) (base : Nat) (hb : base <= w.heap.size) : OwnFl (w.alloc (.cells #[] 44)) base (.slice (some ⟨w.heap.size, 0, none⟩) 0 0) [] :=
 ⟨rfl, .inr ⟨w.heap.size, 0, #[], rfl, hb, Blk.new w _ _, Qa _, Nat.zero_le _, rfl, rfl⟩⟩
def shortL (L : List Fl) (n : Nat) : List Fl := (L.take n).map fun f => (f.1, few f.2 400)
theorem shortL_len (L : List Fl) (n : Nat) : (shortL L n).length = min n L.length := by simp [shortL]
theorem shortL_mem {L : List Fl} {n : Nat} {f : Fl} (h : f ∈ shortL L n) : f.2.size <= 400 /\ ∃ g ∈ L, f.1 = g.1 := by
 unfold shortL at h
 rw [List.mem_map] at h
 obtain ⟨g, hg, rfl⟩ := h
 exact ⟨few_size _ _, g, List.mem_of_mem_take hg, rfl⟩
attribute [local irreducible] wpStill
set_option maxHeartbeats 4000000 in
theorem short_any (L : List Fl) (a : Option Addr) (cap : Nat) (n : Nat) (hn : n <= 100) (hs : ∀ f ∈ L, f.2.size <= maxLen) (w : World) (hr : FRow w a L) :
 Calls Try.prog 13 #[.slice a L.length cap, .int .i64 (n : Int)] w fun e w' => Below w.heap.size w w' /\ ∃ v, e = .returned v /\ OwnFl w' w.heap.size v (shortL L n) := by
 have HR := Qf hr
 have HS := Qf hs
 have HB0 := Qf (Below.refl w.heap.size w)
 obtain ⟨M, HM⟩ := Qi (L.length)
 rw [HM.out]
 have HO0 : Hid (OwnFl (w.alloc (.cells #[] 44)) w.heap.size (.slice (some ⟨w.heap.size, 0, none⟩) 0 0) ((L.take 0).map fun f => (f.1, few f.2 400))) := OwnFl.empty w _ (Qa _)
 have HBa := Qf ((Below.refl w.heap.size w).alloc (Qa _) (.cells #[] 44))
 obtain ⟨w1, HW1⟩ := Qi (w.alloc (.cells #[] 44))
 rw [HW1.out] at HO0 HBa
 clear hr hs HB0
 go_enter Try.func13, Try.ntmps13
 go_wp2_with fail
 rw [HW1.out]
 go_loopw [5, 6] (fun v_ j_ wq => ∃ (j : Nat), j <= M /\ j <= n /\ j_ = .int .i64 (j : Int) /\ Hid (OwnFl wq w.heap.size v_ ((L.take j).map fun f => (f.1, few f.2 400))) /\ Hid (Below w.heap.size w wq)) (fun _ j _ => M - (intOf j).toNat)
 case atStart => exact ⟨0, Nat.zero_le _, Nat.zero_le _, rfl, HO0, HBa⟩
 case round =>
  clear HO0 HBa
  obtain ⟨j, hjM, hjn, rfl, HO, HB⟩ := hrel
  have hln : ((L.take j).map fun f => ((f.1, few f.2 400) : Fl)).length = j := by rw [List.length_map, List.length_take, HM.out]; omega
  obtain ⟨oa, ocap, rfl, -⟩ := HO.out.view
  rw [hln] at HO ⊢
  have HLn := Qf hln
  clear hln
  by_cases hlt : j < M /\ j < n
  . have dj : decide ((j : Int) < (M : Int)) = true := Qg (by omega)
    have djb : decide (j < M) = true := Qg (by omega)
    have dn : decide ((j : Int) < (n : Int)) = true := Qg (by omega)
    have dnb : decide (j < n) = true := Qg (by omega)
    have hjI : (j : Int) < (M : Int) := by omega
    have hjL : j < L.length := by rw [HM.out]; exact hlt.1
    obtain ⟨b, off, rfl, hbl, c0', c1'⟩ := HR.out j hjL
    have c0 := (HB.out.cell (p := ⟨b, off + j * 2, none⟩) hbl).trans c0'
    have c1 := (HB.out.cell (p := ⟨b, off + j * 2 + 1, none⟩) hbl).trans c1'
    have HBL := Qf hbl
    clear c0' c1'
    have hsz := HS.out _ (List.getElem_mem hjL)
    have hsn : Hid ((L.take (j + 1)).map (fun f => ((f.1, few f.2 400) : Fl)) = ((L.take j).map fun f => (f.1, few f.2 400)) ++ [((L[j]).1, few (L[j]).2 400)]) := by
     show _ = _
     rw [List.take_succ_eq_append_getElem hjL, List.map_append]; rfl
    obtain ⟨⟨nm, dt⟩, Hf⟩ : ∃ R, Hid (L[j] = R) := ⟨_, Qf (Eq.refl _)⟩
    rw [Hf.out] at c0 c1 hsz hsn
    dsimp only at c0 c1 hsz hsn
    have CF := Qf (fun W => calls_symf (few_any dt 400 (by decide) hsz W))
    obtain ⟨fd, Hfd⟩ := Qi (few dt 400)
    rw [Hfd.out] at CF hsn
    have hos : wr.drew.ownsRow w.heap.size 44 2 (.slice oa j ocap) j (flcells ((L.take j).map fun f => (f.1, few f.2 400))) := by
     have := HO.out
     unfold OwnFl at this
     rw [HLn.out] at this
     exact this.drew
    have HBz : Hid (Below w.heap.size w wr.drew) := HB.out.drew
    have hbsw : w.heap.size <= wr.drew.heap.size := HBz.out.size
    have hone := fl_one nm fd
    obtain ⟨XS, HXS⟩ := Qi (flcells ((L.take j).map fun f => (f.1, few f.2 400)))
    rw [HXS.out] at hos
    have z0 : wr.drew.cell? ⟨b, off + j * 2, none⟩ = some (.string nm) := c0
    have z1 : wr.drew.cell? ⟨b, off + j * 2 + 1, none⟩ = some (.string dt) := c1
    clear hjL hbl Hf HO HB hsz
    go_upto_region 5 with fail
    go_region_held3 (fun W => W.cell? ⟨b, off + j * 2, none⟩ = some (.string nm) /\ W.cell? ⟨b, off + j * 2 + 1, none⟩ = some (.string dt)) (first | exact ⟨z0, z1⟩ | exact ⟨y0, y1⟩ | exact ⟨by assumption, by assumption⟩ | go_keep)
     (first
      | (go_at_call 38; refine (CF.out _).mono ?_; rintro e w7 ⟨rfl, rfl⟩)
      | (refine step_append_lit wr.drew rfl (.tmp 19) (.tmp 32) rfl Try.underlying38 info_file rfl (by decide) w.heap.size (.slice oa j ocap) j XS [.string nm, .string fd] 1 hos rfl hone rfl (sz := wr.drew.heap.size) rfl rfl ?_ ?_ hbsw rfl ?_; (unfold maxLen; omega); omega; intro v8 w8 hown8 hg8; have HO8 := Qf hown8; have hbg := below_grown hos hg8 hbsw; have y0 : w8.cell? ⟨b, off + j * 2, none⟩ = some (.string nm) := (hbg.cell (p := ⟨b, off + j * 2, none⟩) HBL.out).trans z0; have y1 : w8.cell? ⟨b, off + j * 2 + 1, none⟩ = some (.string dt) := (hbg.cell (p := ⟨b, off + j * 2 + 1, none⟩) HBL.out).trans z1; have HB8 := Qf (HBz.out.trans hbg); clear hown8 hg8 hbg))
    all_goals
     go_wp2_with fail
     rw [<- HXS.out] at HO8
     go_roundw
     case rel => exact ⟨j + 1, by omega, by omega, by go_num, (by show OwnFl _ _ _ _; rw [hsn.out]; exact OwnFl.snoc (by rw [HLn.out]; exact HO8.out)), HB8⟩
     case measure => simp [intOf]; omega
  . have hO2 : OwnFl wr w.heap.size (.slice oa j ocap) (shortL L n) := by
     have := HO.out
     unfold shortL
     rcases Nat.lt_or_ge j n with h | h
     . have e1 : L.take j = L.take n := by rw [List.take_of_length_le (by rw [HM.out]; omega), List.take_of_length_le (by rw [HM.out]; omega)]
       rw [<- e1]; exact this
     . have e1 : j = n := by omega
       rw [<- e1]; exact this
    have HO2 := Qf hO2
    have hnot : (decide ((j : Int) < (M : Int)) = false /\ decide (j < M) = false) \/ ((decide ((j : Int) < (M : Int)) = true /\ decide (j < M) = true) /\ (decide ((j : Int) < (n : Int)) = false /\ decide (j < n) = false)) := by
     rcases Nat.lt_or_ge j M with h | h
     . exact .inr ⟨⟨Qg (by omega), Qg (by omega)⟩, ⟨Qh (by omega), Qh (by omega)⟩⟩
     . exact .inl ⟨Qh (by omega), Qh (by omega)⟩
    clear hO2 HO hlt
    rcases hnot with ⟨d4, d4b⟩ | ⟨⟨d4, d4b⟩, d5, d5b⟩
    all_goals
     go_wp2_with fail
     go_ret
     exact ⟨HB.out, _, rfl, HO2.out⟩
open Go.ChangeShapes Go.WideShapes Go.ChangeAt Go.RowKit
theorem own : ownKnob Try.prog.godebug = none := by kernel_rfl
theorem laidOut : laidOutB Try.prog = true := by kernel_rfl
theorem bd_i64 {a : Int} (h : (Lit.int .i64 a).wf = true) : -9223372036854775808 <= a /\ a <= 9223372036854775807 := by
 have h1 : IntKind.i64.min = -9223372036854775808 := rfl
 have h2 : IntKind.i64.max = 9223372036854775807 := rfl
 simpa only [Lit.wf, Bool.and_eq_true, decide_eq_true_eq, h1, h2] using h
open Go.ChangeShapes Go.WideShapes Go.ChangeAt Go.RowKit
open Go.ChangeMaps (open_string shut_string)
open Go.Deep (oneCellFields hone_of)
set_option maxRecDepth 100000
section
variable {H : Type} {enc : TypeId × Value -> H} {W : World} {base : Nat} {spare : Nat -> Bool} {held : Bool}
theorem file_struct : ∃ f0 f1 : Field, Try.prog.underlying 44 = some (.struct #[f0, f1]) /\ f0.type = 9 /\ f1.type = 9 /\ oneCellFields Try.prog #[f0, f1] = true := by
 refine ⟨_, _, Try.underlying44, rfl, rfl, by kernel_rfl⟩
theorem open_files {v : Value} {d : DataW H} {p : List MemPlace} {b0 : Nat} {r : Reach} (hv : Value.okWide Try.prog W r b0 38 v) (h : DataW.Trod enc Try.prog W base (fun _ => true) held 38 v d p) :
 ∃ a cap L, v = .slice a (List.length L) cap /\ (∀ f ∈ L, f.1.size <= maxLen /\ f.2.size <= maxLen) /\ FRow W a L := by
 obtain ⟨a, len, cap, rfl⟩ := okWide_slice Try.underlying38 hv
 obtain ⟨fuel, hf⟩ := h
 obtain ⟨f0, f1, hs, t0, t1, hone⟩ := file_struct
 have hce : Try.prog.cellsOf 44 = 2 := by kernel_rfl
 rcases Go.Deep.open_slice Try.underlying38 hf with ⟨hcs, _⟩ | ⟨x, l, c, m, n, D, Pl, hcs, _, hl, hm, hmm, _, hx⟩
 . simp [Value.cells] at hcs
   obtain ⟨rfl, rfl, rfl⟩ := hcs
   exact ⟨none, 0, [], rfl, (fun f hf => by cases hf), fun k hk => by cases hk⟩
 . simp [Value.cells] at hcs
   obtain ⟨rfl, rfl, rfl⟩ := hcs
   simp at hmm
   subst hmm
   have each : ∀ i, i < m -> ∃ q : Fl, (q.1.size <= maxLen /\ q.2.size <= maxLen) /\ W.cell? (x.add (i * 2)) = some (.string q.1) /\ W.cell? (x.add (i * 2 + 1)) = some (.string q.2) := by
    intro i hi
    obtain ⟨cs', h1, h2⟩ := hx i hi
    rw [hce] at h1
    obtain ⟨_, hlen, hcell⟩ := World.cells?_some h1
    obtain ⟨xs, k, _, hxy, _, hxl, hf⟩ := DataW.trod_struct hs h2
    obtain ⟨o0, k0⟩ := hone_of hone 0 f0 rfl
    obtain ⟨o1, k1⟩ := hone_of hone 1 f1 rfl
    match xs, hxl, cs', hlen with
    | [y0, y1], _, [v0, v1], _ =>
     have g0 := hf 0 f0 rfl
     have g1 := hf 1 f1 rfl
     simp [o0, o1, k0, k1] at g0 g1
     rw [t0] at g0
     rw [t1] at g1
     obtain ⟨s0, e0, _, z0⟩ := DataW.trod_string Try.underlying9 g0
     obtain ⟨s1, e1, _, z1⟩ := DataW.trod_string Try.underlying9 g1
     have c0 := hcell 0 (by omega)
     have c1 := hcell 1 (by omega)
     rw [Go.Deep.add_add] at c0 c1
     simp at e0 e1
     subst e0 e1
     exact ⟨(s0, s1), ⟨z0, z1⟩, by simpa using c0, by simpa using c1⟩
   obtain ⟨q, hq⟩ := Go.Deep.choose_lt each
   have hln : ((List.range len).map q).length = len := by simp
   refine ⟨some x, m, (List.range len).map q, by rw [hln], ?_, ?_⟩
   . intro f hf
     rw [List.mem_map] at hf
     obtain ⟨i, hi, rfl⟩ := hf
     rw [List.mem_range] at hi
     exact (hq i (by omega)).1
   . intro k hk
     rw [hln] at hk
     obtain ⟨_, d0, d1⟩ := hq k (by omega)
     obtain ⟨b, off, spot⟩ := x
     have hspot : spot = none := by
      obtain ⟨_, d00, _⟩ := hq 0 (by omega)
      simpa [Addr.add] using World.cell?_spot d00
     subst hspot
     have e : ∀ j, (⟨b, off, none⟩ : Addr).add j = ⟨b, off + j, none⟩ := fun j => by unfold Addr.add; split <;> simp_all
     rw [e] at d0 d1
     refine ⟨b, off, rfl, World.block_lt_of_cell? _ _ d0, ?_, ?_⟩
     . rw [List.getElem_map, List.getElem_range]; exact d0
     . rw [List.getElem_map, List.getElem_range]; exact d1
end
theorem archL_app (A B : List Part) : archL (A ++ B) = archL A ++ archL B := by unfold archL; rw [List.flatMap_append]
theorem placed_mid : ∀ (A : List Part) (n : Nat) (c : Part) (B : List Part), Placed n (A ++ c :: B) -> c.h.place = ((n + (archL A).length : Nat) : Int) /\ c.h.packed = (c.d.size : Int) /\ c.h.Fit := by
 intro A
 induction A with
 | nil => intro n c B h; exact ⟨by rw [show archL [] = [] from rfl]; exact h.1, h.2.1, h.2.2.1⟩
 | cons a r ih =>
  intro n c B h
  obtain ⟨_, _, _, h4⟩ := h
  have := ih _ c B h4
  have e1 : archL (a :: r) = partL a ++ archL r := rfl
  rw [e1, List.length_append, partL_len]
  rw [show n + 30 + a.h.name.size + a.d.size + (archL r).length = n + (30 + a.h.name.size + a.d.size + (archL r).length) by omega] at this
  exact this
theorem part_at {s : ByteArray} {P : List Part} (hs : s.data.toList = wholeL P) (hP : Placed 0 P) (j : Nat) (hj : j < P.length) :
 ∃ (n0 : Nat) (p q : List UInt8), (P[j]).h.place = (n0 : Int) /\ (P[j]).h.packed = ((P[j]).d.size : Int) /\ (P[j]).h.Fit /\ s.data.toList = p ++ (localL (P[j]).h ++ (P[j]).d.data.toList ++ q) /\ p.length = n0 := by
 have e : P = P.take j ++ P[j] :: P.drop (j + 1) := by rw [<- List.drop_eq_getElem_cons hj, List.take_append_drop]
 generalize P[j] = c at e ⊢
 have hp2 : Placed 0 (P.take j ++ c :: P.drop (j + 1)) := by rw [<- e]; exact hP
 obtain ⟨h1, h2, h3⟩ := placed_mid (P.take j) 0 c (P.drop (j + 1)) hp2
 rw [Nat.zero_add] at h1
 refine ⟨(archL (P.take j)).length, archL (P.take j), archL (P.drop (j + 1)) ++ indexL (P.map Part.h) ((archL P).length : Int), h1, h2, h3, ?_, rfl⟩
 have e2 : archL P = archL (P.take j) ++ (partL c ++ archL (P.drop (j + 1))) := by
  conv => lhs; rw [e, archL_app]
  rfl
 rw [hs]
 unfold wholeL
 rw [e2]
 unfold partL
 simp only [List.append_assoc]
theorem packL_at (D : ByteArray -> ByteArray) : ∀ (L : List Fl) (n j : Nat) (hj : j < L.length) (hj2 : j < (packL D L n).length), ∃ n', (packL D L n)[j] = packOf D L[j] n' := by
 intro L
 induction L with
 | nil => intro n j hj; cases hj
 | cons f r ih =>
  intro n j hj hj2
  cases j with
  | zero => exact ⟨n, rfl⟩
  | succ j =>
   obtain ⟨n', h⟩ := ih (n + (partL (packOf D f n)).length) j (by simpa using hj) (by rw [packL_len]; simpa using hj)
   exact ⟨n', h⟩
structure AtJ (D : ByteArray -> ByteArray) (s : ByteArray) (f : Fl) (h : Hd) (n0 : Nat) (d : ByteArray) : Prop where
 name : h.name = f.1
 size : h.size = (f.2.size : Int)
 crc : h.crc = crcOf 0 f.2.data.toList
 place : h.place = (n0 : Int)
 packed : h.packed = (d.size : Int)
 fits : n0 + 30 + f.1.size + d.size <= s.size
 here : s.extract (n0 + 30 + f.1.size) (n0 + 30 + f.1.size + d.size) = d
 rest : ∃ v, s.extract (n0 + 30 + f.1.size) s.size = d ++ v
 opens : openF s h = .ok f.2
 way : (h.method = 8 /\ d = D f.2 /\ d.size < f.2.size) \/ (h.method = 0 /\ d = f.2)
theorem write_at {D : ByteArray -> ByteArray} {L : List Fl} {s : ByteArray} (h : writeF D L = .ok s) (hD : ∀ f ∈ L, (D f.2).size < f.2.size -> inflT (D f.2) f.2.size = some (f.2, (D f.2).size)) (j : Nat) (hj : j < L.length) (hj2 : j < ((packL D L 0).map Part.h).length) :
 ∃ n0 d, AtJ D s L[j] ((packL D L 0).map Part.h)[j] n0 d := by
 obtain ⟨_, _, h3, h4, _⟩ := write_read h hD
 have c1 : chkF L = 0 := by
  unfold writeF at h
  by_cases c1 : chkF L ≠ 0
  . rw [if_pos c1] at h; cases h
  . exact Classical.byContradiction fun g => c1 g
 have k3 := chkL_ok L _ (chkF_ok c1).2 _ (List.getElem_mem hj)
 have hj3 : j < (packL D L 0).length := by simpa using hj2
 obtain ⟨n', hc⟩ := packL_at D L 0 j hj hj3
 obtain ⟨n0, p, q, a1, a2, a3, a4, a5⟩ := part_at h3 h4 j hj3
 rw [List.getElem_map]
 obtain ⟨b1, b2⟩ := packL_open D L 0 (fun f hf => ⟨(chkL_ok L _ (chkF_ok c1).2 f hf).1, hD f hf⟩) _ (List.getElem_mem hj3)
 have hop : openF s ((packL D L 0)[j]).h = .ok ((packL D L 0)[j]).x := openF_put a4 (by rw [a1, a5]) a2 a3.2.2.2.1.1 b2 b1
 rw [hc] at a1 a2 a3 a4 hop ⊢
 obtain ⟨f1, f2, f3, f4⟩ := packOf_name D L[j] n'
 have hl : s.data.toList.length = s.size := by simp
 have hd : (packOf D L[j] n').d.data.toList.length = (packOf D L[j] n').d.size := by simp
 have hz : s.size = n0 + (30 + (L[j]).1.size + (packOf D L[j] n').d.size + q.length) := by rw [<- hl, a4]; simp only [List.length_append, localL_len, hd, a5, f1]
 have hpl : (p ++ localL (packOf D L[j] n').h).length = n0 + 30 + (L[j]).1.size := by rw [List.length_append, localL_len, a5, f1]; omega
 refine ⟨n0, (packOf D L[j] n').d, ⟨f1, f3, f4, a1, a2, by omega, ?_, ⟨⟨q.toArray⟩, ?_⟩, by rw [hop, f2], ?_⟩⟩
 . exact ext_mid (p := p ++ localL (packOf D L[j] n').h) (q := q) (by rw [a4]; simp only [List.append_assoc]) hpl
 . apply ByteArray.ext
   apply Array.ext'
   rw [drop_ext, ByteArray.data_append, Array.toList_append, a4, <- List.append_assoc, <- List.append_assoc, List.append_assoc (p ++ localL _), <- hpl, List.drop_left]
 . unfold packOf
   split
   . next hh => exact .inl ⟨rfl, rfl, hh⟩
   . exact .inr ⟨rfl, rfl⟩
theorem inflate_tail {s d v : ByteArray} {x : ByteArray} {q most : Nat} (hs : s.size <= 100000) (hq : q <= s.size) (hm : most <= 65536) (hu : s.extract q s.size = d ++ v) (hr : ReadsAs d x most) (w : World) :
 Calls Try.prog 23 #[.string s, .int .i64 (q : Int), .int .i64 (most : Int)] w fun r w' => r = .returned (.tuple #[.string x, .int .i64 (d.size : Int), .int .i64 0]) /\ Below w.heap.size w w' := by
 obtain ⟨bs, σ, h1, h2, h3, h4⟩ := hr
 have h5 := infl_ext h1 v
 have hn : σ.n <= 8 * d.size := by
  have := blocksM_count _ (show blocksM most (8 * d.size + 1) (sg d 0 0) [] = .ok (bs, σ) from h1)
  have e0 : (sg d 0 0).n = 8 * d.size := rfl
  rw [e0] at this
  simp at this
  omega
 refine (inflate_is_ok hs hq hm hu h5 w).mono ?_
 rintro r w' ⟨rfl, hb⟩
 refine ⟨?_, hb⟩
 have e1 : (⟨(joinL [] bs).toArray⟩ : ByteArray) = x := ByteArray.ext (Array.ext' h2)
 have e2 : (8 * (d ++ v).size - (extS (8 * v.size) (num v) σ).n + 7) / 8 = d.size := by
  rw [ByteArray.size_append]
  show (8 * (d.size + v.size) - (σ.n + 8 * v.size) + 7) / 8 = d.size
  omega
 rw [e1, e2]
end Go.Proofs.Ythehocmfpoglgaa
