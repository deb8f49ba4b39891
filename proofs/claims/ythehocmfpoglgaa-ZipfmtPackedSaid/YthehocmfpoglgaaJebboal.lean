/- Texts joined: Def7 DflP Wk Few Shr Ful Frame Put Rfa Rfb RefCrc Tld Rfc PkP FileF IRowF. Conditions: each theorem says its own. -/
import Derived.StillTailTactics
import Derived.BigQuiet
import Derived.WalkKit
import Derived.ProofKit
import Derived.OpenShut
import Derived.ShutString
import Derived.ChangeOld
import Derived.Below
import Derived.SizedLaws
import Derived.Deep.CutRange
import Derived.Lib.SmallJoins
import Derived.SliceStrings
import Derived.Deep.Slices
import Derived.Test.YthehocmfpoglgaaJgphlfh
import Derived.Test.YthehocmfpoglgaaTokensJ
import Derived.Test.YthehocmfpoglgaaJcgbgpl
import Derived.Test.YthehocmfpoglgaaJkcbeom
import Derived.Test.YthehocmfpoglgaaJepaakj
import Derived.Test.YthehocmfpoglgaaJceeild
import Derived.Test.YthehocmfpoglgaaRows
namespace Go.Proofs.Ythehocmfpoglgaa
open Go.RowKit
set_option maxRecDepth 100000
theorem own_toks2 {e : TypeId} {w : World} {base : Nat} {v : Value} {S : List Tok} (h : OwnK e w base v S) : (S = [] /\ v = .slice none 0 0) \/ ∃ g cap, v = .slice (some ⟨g, 0, none⟩) S.length cap /\ S.length <= cap /\ TkRow w (some ⟨g, 0, none⟩) S := by
 obtain ⟨a, cap, h1, h2⟩ := h.view
 rcases h.2 with ⟨h3, h4⟩ | ⟨g, cap2, cur, h3, _, _, h4, _⟩
 . exact .inl ⟨List.eq_nil_of_length_eq_zero h4, h3⟩
 . refine .inr ⟨g, cap2, h3, h4, ?_⟩
   rw [h3] at h1
   injection h1 with e1 _ _
   rw [<- e1] at h2
   exact h2
noncomputable def pkE (fx : Bool) (S : List Tok) : List (Nat × Nat) := if fx = true then fixE S else dynS S
theorem packed_any (fx : Bool) (S : List Tok) (hS : S.length <= 4000) (base : Nat) (v : Value) (ht : ∀ t ∈ S, TokW 286 30 t /\ TokW 288 32 t) (w : World) (h : OwnK 110 w base v S) :
 Calls Try.prog 40 #[v, .bool fx] w fun e w' => e = .returned (.string (encB (pkE fx S))) /\ Below w.heap.size w w' := by
 rcases own_toks2 h with ⟨h1, rfl⟩ | ⟨g, cap, rfl, h2, h3⟩
 . cases fx
   . exact packed_dyn0 S h1 w
   . exact packed_fix0 S h1 w
 . cases fx
   . exact packed_dyn1 S hS g 0 cap h2 (fun t h => (ht t h).1) w h3
   . exact packed_fix S hS g 0 cap h2 (fun t h => (ht t h).2) w h3
noncomputable def bstB (S : List Tok) (u : ByteArray) : Nat -> ByteArray
 | 0 => u
 | j + 1 => if (encB (pkE (decide (j = 0)) S)).size < (bstB S u j).size then encB (pkE (decide (j = 0)) S) else bstB S u j
set_option maxHeartbeats 16000000 in
theorem deflate_any (s : ByteArray) (lv : Nat) (hlv : lv <= 9) (hs : s.size <= 65536) (hn : (tokF s lv s.size 0).length <= 4000) (w : World) :
 Calls Try.prog 15 #[.string s, .int .i64 (lv : Int)] w fun e w' => ∃ u, StoRes s u /\ e = .returned (.tuple #[.string (bstB (tokF s lv s.size 0) u 2), .int .i64 0]) /\ Below w.heap.size w w' := by
 have CT := Qf (fun W => tokens_any s lv hlv hs W)
 have CS := Qf (fun W => stored_any s hs W)
 have hex := tokF_exp s lv s.size 0 (by omega) (Nat.zero_le _)
 have ht := tokW_of hex
 obtain ⟨S, HS⟩ := Qi (tokF s lv s.size 0)
 rw [HS.out] at CT hn ht ⊢
 have CP := Qf (fun (fx : Bool) (base : Nat) (v : Value) (W : World) (h : OwnK 110 W base v S) => packed_any fx S hn base v ht W h)
 clear hex ht hn HS
 go_enter Try.func15, Try.ntmps15
 go_wp2_with fail
 refine (CT.out _).mono ?_
 rintro e w1 ⟨v, rfl, ho, hb1⟩
 have HO1 := Qf ho
 have HB1 := Qf hb1
 clear ho hb1 CT
 go_wp2_with fail
 refine (CS.out _).mono ?_
 rintro e w2 ⟨u, rfl, hu, hb2⟩
 have HO2 := Qf (HO1.out.below hb2 (Qa _))
 have HB2 := Qf (bthen HB1.out hb2)
 have HU := Qf hu
 have hal := (Below.refl w2.heap.size w2).alloc (Qa _) (.cells #[.bool true, .bool false] 4)
 have hbn := Blk.new w2 4 #[.bool true, .bool false]
 have HO3 := Qf (HO2.out.below hal (Qa _))
 have HB3 := Qf (bthen HB2.out hal)
 have HN3 := Qf hbn
 obtain ⟨Bb, HBb⟩ := Qi (w2.heap.size)
 rw [HBb.out] at HN3
 clear hu hb2 hal hbn CS HO1 HB1 HO2 HB2
 go_wp2_with fail
 rw [HBb.out]
 obtain ⟨w3, HW3⟩ := Qi (w2.alloc (.cells #[.bool true, .bool false] 4))
 rw [HW3.out] at HN3 HO3 HB3 ⊢
 clear HW3 HBb
 have Hb0 : Hid (bstB S u 0 = u) := Qf (Eq.refl _)
 go_loopw [8, 25] (fun b_ j_ wr => ∃ (j : Nat) (x : ByteArray), j <= 2 /\ j_ = .int .i64 (j : Int) /\ b_ = .string x /\ Hid (bstB S u j = x) /\ Hid (Blk wr Bb 4 #[.bool true, .bool false]) /\ Hid (OwnK 110 wr w.heap.size v S) /\ Hid (Below w.heap.size w wr)) (fun _ j _ => 2 - (intOf j).toNat)
 case atStart => exact ⟨0, u, by decide, rfl, rfl, Hb0, HN3, HO3, HB3⟩
 case round =>
  clear HN3 HO3 HB3 Hb0
  obtain ⟨j, x, hj, rfl, rfl, HX, HN, HO, HB⟩ := hrel
  by_cases hlt : j < 2
  . have dj : decide ((j : Int) < 2) = true := Qg (by omega)
    have djb : decide (j < 2) = true := Qg (by omega)
    have hjI : (j : Int) < 2 := by omega
    obtain ⟨fx, Hfx⟩ := Qi (decide (j = 0))
    have c0 : wr.cell? ⟨Bb, j, none⟩ = some (.bool fx) := by
     rw [Blk.cell HN.out, <- Hfx.out]
     rcases show j = 0 \/ j = 1 by omega with rfl | rfl <;> rfl
    have CPx := Qf (CP.out fx w.heap.size v wr HO.out)
    obtain ⟨t, Ht⟩ := Qi (encB (pkE fx S))
    rw [Ht.out] at CPx
    have hnx : bstB S u (j + 1) = if t.size < x.size then t else x := by
     show (if (encB (pkE (decide (j = 0)) S)).size < (bstB S u j).size then encB (pkE (decide (j = 0)) S) else bstB S u j) = _
     rw [Hfx.out, Ht.out, HX.out]
    have Hnx := Qf hnx
    clear hnx
    go_wp2_with fail
    refine CPx.out.mono ?_
    rintro e w4 ⟨rfl, hb4⟩
    have HN4 := Qf (HN.out.below hb4 HN.out.lt)
    have HO4 := Qf (HO.out.below hb4 (Qa _))
    have HB4 := Qf (bthen HB.out hb4)
    clear hb4 HN HO HB CPx
    by_cases hsz : t.size < x.size
    . have d1 : decide ((t.size : Int) < (x.size : Int)) = true := Qg (by omega)
      have d1b : decide (t.size < x.size) = true := Qg (by omega)
      have HX2 : Hid (bstB S u (j + 1) = t) := by show _ = _; rw [Hnx.out, if_pos hsz]
      go_wp2_with fail
      go_roundw
      case rel => exact ⟨j + 1, t, by omega, by go_num, rfl, HX2, HN4, HO4, HB4⟩
      case measure => simp [intOf]; omega
    . have d1 : decide ((t.size : Int) < (x.size : Int)) = false := Qh (by omega)
      have d1b : decide (t.size < x.size) = false := Qh (by omega)
      have HX2 : Hid (bstB S u (j + 1) = x) := by show _ = _; rw [Hnx.out, if_neg hsz]
      go_wp2_with fail
      go_roundw
      case rel => exact ⟨j + 1, x, by omega, by go_num, rfl, HX2, HN4, HO4, HB4⟩
      case measure => simp [intOf]; omega
  . have hj2 : Hid (j = 2) := by show _ = _; omega
    have dj : decide ((j : Int) < 2) = false := Qh (by omega)
    have djb : decide (j < 2) = false := Qh (by omega)
    go_wp2_with fail
    go_ret2
    have hX := HX.out
    rw [hj2.out] at hX
    exact ⟨u, HU.out, by rw [hX]; rfl, HB.out⟩
theorem terr_le {m m' : Int} (h : m <= m') {n : Nat} {t : Tok} (h0 : terr m n t = 0) : terr m' n t = 0 := by
 unfold terr at h0 ⊢
 by_cases h1 : t.l = 0
 . rw [if_pos h1] at h0 ⊢
   by_cases h2 : t.d ≠ 0
   . rw [if_pos h2] at h0; cases h0
   . rw [if_neg h2] at h0 ⊢
     by_cases h3 : m <= (n : Int)
     . rw [if_pos h3] at h0; cases h0
     . rw [if_neg (by omega)]
 . rw [if_neg h1] at h0 ⊢
   by_cases h2 : t.b ≠ 0 \/ t.l < 3 \/ 258 < t.l \/ t.d < 1 \/ 32768 < t.d \/ (n : Int) < t.d
   . rw [if_pos h2] at h0; cases h0
   . rw [if_neg h2] at h0 ⊢
     by_cases h3 : m < (n : Int) + t.l
     . rw [if_pos h3] at h0; cases h0
     . rw [if_neg (by omega)]
theorem texp_le {m m' : Int} (h : m <= m') : ∀ {S : List Tok} {o T : List UInt8}, texp m o S = (T, 0) -> texp m' o S = (T, 0) := by
 intro S
 induction S with
 | nil => intro o T h1; exact h1
 | cons t S ih =>
  intro o T h1
  obtain ⟨h2, h3⟩ := texp_cons h1
  rw [texp_step (terr_le h h2)]
  exact ih h3
theorem bst_two (S : List Tok) (u : ByteArray) : (bstB S u 2 = u \/ bstB S u 2 = encB (fixE S) \/ bstB S u 2 = encB (dynS S)) /\ (bstB S u 2).size <= u.size /\ (bstB S u 2).size <= (encB (fixE S)).size := by
 have e1 : bstB S u 1 = if (encB (fixE S)).size < u.size then encB (fixE S) else u := rfl
 have e2 : bstB S u 2 = if (encB (dynS S)).size < (bstB S u 1).size then encB (dynS S) else bstB S u 1 := rfl
 have h1 : (bstB S u 1 = u \/ bstB S u 1 = encB (fixE S)) /\ (bstB S u 1).size <= u.size /\ (bstB S u 1).size <= (encB (fixE S)).size := by
  rw [e1]
  split
  . exact ⟨.inr rfl, by omega, Qa _⟩
  . exact ⟨.inl rfl, Qa _, by omega⟩
 obtain ⟨h2, h3, h4⟩ := h1
 rw [e2]
 split
 . exact ⟨.inr (.inr rfl), by omega, by omega⟩
 . refine ⟨?_, h3, h4⟩
   rcases h2 with h | h
   . exact .inl h
   . exact .inr (.inl h)
def ReadsAs (d : ByteArray) (s : ByteArray) (most : Nat) : Prop := ∃ bs σ, inflR d most = .ok (bs, σ) /\ joinL [] bs = s.data.toList /\ σ.n < 8 /\ σ.out = s.size
theorem dfl_reads (s u : ByteArray) (lv most : Nat) (hm : s.size <= most) (hu : bstB (tokF s lv s.size 0) u 2 ≠ u \/ (u = stoS s /\ s.size <= 65535)) : ReadsAs (bstB (tokF s lv s.size 0) u 2) s most := by
 have hex : texp (most : Int) [] (tokF s lv s.size 0) = (s.data.toList, 0) := texp_le (by omega) (tokF_exp s lv s.size 0 (by omega) (Nat.zero_le _))
 have ht := fun t h => ((tokW_of hex) t h).1
 have hl : s.data.toList.length = s.size := by simp
 obtain ⟨S, hS⟩ : ∃ S, tokF s lv s.size 0 = S := ⟨_, rfl⟩
 rw [hS] at hex ht hu ⊢
 rcases (bst_two S u).1 with h | h | h
 . rcases hu with h2 | ⟨h2, h3⟩
   . exact absurd h h2
   . rw [h, h2]
     refine ⟨_, _, sto_infl s most h3 hm, ?_, by show 0 < 8; decide, rfl⟩
     show joinB [] ⟨0, s.data.toList, []⟩ = _
     show joinS ([] ++ s.data.toList) [] = _
     rfl
 . rw [h]
   refine ⟨_, _, fix_infl S most _ hex, fix_join S most _ hex, ?_, hl⟩
   show 8 * ((encN (fixE S) + 7) / 8) - encN (fixE S) < 8
   omega
 . rw [h]
   refine ⟨_, _, dyn_ok S most _ ht hex, texp_join most S [] _ hex, ?_, hl⟩
   show 8 * ((encN (dynS S) + 7) / 8) - encN (dynS S) < 8
   omega
noncomputable def dflB (s : ByteArray) (lv : Nat) : ByteArray := bstB (tokF s lv s.size 0) (stoS s) 2
theorem dflB_reads (s : ByteArray) (lv most : Nat) (hs : s.size <= 65535) (hm : s.size <= most) : ReadsAs (dflB s lv) s most := dfl_reads s (stoS s) lv most hm (.inr ⟨rfl, hs⟩)
theorem dflB_size (s : ByteArray) (lv : Nat) : (dflB s lv).size <= s.size + 5 := by
 rw [<- stoS_size]
 exact (bst_two _ _).2.1
theorem deflate_small (s : ByteArray) (lv : Nat) (hlv : lv <= 9) (hs : s.size <= 4000) (w : World) :
 Calls Try.prog 15 #[.string s, .int .i64 (lv : Int)] w fun e w' => e = .returned (.tuple #[.string (dflB s lv), .int .i64 0]) /\ Below w.heap.size w w' := by
 refine (deflate_any s lv hlv (by omega) (by have := tokF_len s lv s.size 0; omega) w).mono ?_
 rintro e w' ⟨u, hu, rfl, hb⟩
 rw [hu.1 (by omega)]
 exact ⟨rfl, hb⟩
theorem reads_T {d s : ByteArray} {most : Nat} (h : ReadsAs d s most) : inflT d most = some (s, d.size) := by
 obtain ⟨bs, σ, h1, h2, h3, h4⟩ := h
 unfold inflT
 rw [h1]
 dsimp only
 have e1 : (⟨(joinL [] bs).toArray⟩ : ByteArray) = s := ByteArray.ext (Array.ext' h2)
 have h5 : σ.n <= 8 * d.size := by
  have := blocksM_count _ (show blocksM most (8 * d.size + 1) (sg d 0 0) [] = .ok (bs, σ) from h1)
  have e0 : (sg d 0 0).n = 8 * d.size := rfl
  rw [e0] at this
  simp at this
  omega
 have e2 : (8 * d.size - σ.n + 7) / 8 = d.size := by omega
 rw [e1, e2]
theorem dflB_T (s : ByteArray) (lv : Nat) (hs : s.size <= 65535) : inflT (dflB s lv) s.size = some (s, (dflB s lv).size) := reads_T (dflB_reads s lv s.size hs (Qa _))
theorem encN_cons (a b : Nat) (l : List (Nat × Nat)) : encN ((a, b) :: l) = b + encN l := rfl
theorem dflB_two (s : ByteArray) (lv : Nat) : 2 <= (dflB s lv).size := by
 unfold dflB
 obtain ⟨h, _⟩ := bst_two (tokF s lv s.size 0) (stoS s)
 rcases h with h | h | h
 . rw [h, stoS_size]; omega
 . rw [h, encB_size]
   unfold fixE
   rw [encN_cons, encN_cons, encN_app]
   have e1 : encN [symE (lens fixL) 288 256] = 7 := by decide +kernel
   rw [e1]
   omega
 . rw [h, encB_size]
   unfold dynS dynE headE
   rw [encN_cons, encN_cons, List.cons_append, encN_cons, List.cons_append, encN_cons, List.cons_append, encN_cons]
   omega
def strA : ByteArray := ⟨#[97]⟩
def strHi : ByteArray := ⟨#[104, 105]⟩
theorem nmB_true {s : ByteArray} (h : nmOK s) : nmB s = true := by
 classical
 unfold nmB
 exact decide_eq_true h
theorem nmB_a : nmB strA = true := nmB_true ⟨by decide, by decide, fun i hi => by
 have : i = 0 := by have e : strA.size = 1 := rfl; omega
 subst this
 decide⟩
theorem wake_chk : chkF [(strA, strHi)] = 0 := by
 unfold chkF chkL
 rw [if_neg (by decide), if_neg (by decide), nmB_a]
 have e : strLe strA ⟨#[]⟩ = false := by decide +kernel
 rw [e]
 rfl
theorem wake_write : ∃ s, writeF (fun x => dflB x 6) [(strA, strHi)] = .ok s /\ s.size = 102 /\ readF s = .ok [(strA, strHi)] := by
 have e1 : packL (fun x => dflB x 6) [(strA, strHi)] 0 = [⟨⟨strA, 0, crcOf 0 strHi.data.toList, 2, 2, 0⟩, strHi, strHi⟩] := by
  have h2 := dflB_two strHi 6
  rw [packL, packL]
  unfold packOf
  have hz : strHi.size = 2 := rfl
  dsimp only
  rw [hz, if_neg (by omega)]
  rfl
 have e2 : (wholeL (packL (fun x => dflB x 6) [(strA, strHi)] 0)).length = 102 := by
  rw [e1]
  unfold wholeL
  rw [List.length_append, indexL_len]
  show (archL [_]).length + ((idxH [_]).length + 22) = 102
  unfold archL idxH
  rw [List.flatMap_cons, List.flatMap_cons, List.length_append, List.length_append, partL_len, idxL1_len]
  rfl
 have e3 : writeF (fun x => dflB x 6) [(strA, strHi)] = .ok ⟨(wholeL (packL (fun x => dflB x 6) [(strA, strHi)] 0)).toArray⟩ := by
  unfold writeF
  rw [wake_chk, if_neg (by decide), if_neg (by rw [e2]; decide)]
 obtain ⟨_, h2, _⟩ := write_read e3 (fun f hf => by
  rw [List.mem_singleton] at hf
  subst hf
  intro h
  have h2 := dflB_two strHi 6
  have hz : strHi.size = 2 := rfl
  dsimp only at h
  omega)
 refine ⟨_, e3, ?_, h2⟩
 show (wholeL _).toArray.size = 102
 rw [List.size_toArray, e2]
set_option maxHeartbeats 4000000 in
theorem awake8_any (w : World) : Calls Try.prog 9 #[] w fun e w' => e = .returned (.bool true) /\ Below w.heap.size w w' := by
 obtain ⟨s, h1, h2, h3⟩ := wake_write
 have CW : Hid (∀ W a cap, FRow W a [(strA, strHi)] -> Calls Try.prog 20 #[.slice a 1 cap, .int .i64 6] W fun e w' => e = .returned (.tuple #[.string s, .int .i64 0]) /\ Below W.heap.size W w') := by
  intro W a cap hr
  refine (write_any (fun x => dflB x 6) [(strA, strHi)] a cap 6 (by decide) (by decide) (fun _ f hf W' => ?_) W hr).mono ?_
  . rw [List.mem_singleton] at hf
    subst hf
    exact deflate_small strHi 6 (by decide) (by decide) W'
  . rintro e w' ⟨hb, ⟨k, hk, _, _⟩ | ⟨x, hx, he⟩⟩
    . rw [h1] at hk; cases hk
    . rw [h1] at hx; injection hx with hx; subst hx; exact ⟨he, hb⟩
 have CR : Hid (∀ W, Calls Try.prog 16 #[.string s] W fun e w' => Below W.heap.size W w' /\ ∃ a cap, e = .returned (.tuple #[.slice a 1 cap, .int .i64 0]) /\ FRow w' a [(strA, strHi)]) := by
  intro W
  refine (read_any s (by omega) W).mono ?_
  rintro e w' ⟨hb, ⟨k, hk, _, _⟩ | ⟨l, v, hl, he, hv⟩⟩
  . rw [h3] at hk; cases hk
  . rw [h3] at hl; injection hl with hl; subst hl
    obtain ⟨a, cap, rfl, hr⟩ := hv.view
    exact ⟨hb, a, cap, he, hr⟩
 have hsI : (s.size : Int) = 102 := by omega
 clear h1 h3
 have hr0 : FRow (w.alloc (.cells #[.string strA, .string strHi] 44)) (some ⟨w.heap.size, 0, none⟩) [(strA, strHi)] := fun k hk => by
  have : k = 0 := by simp at hk; exact hk
  subst this
  have hb := Blk.new w 44 #[.string strA, .string strHi]
  exact ⟨_, 0, rfl, hb.lt, hb.cell 0, hb.cell 1⟩
 have HR0 := Qf hr0
 have HB0 := Qf ((Below.refl w.heap.size w).alloc (Qa _) (.cells #[.string strA, .string strHi] 44))
 clear hr0
 go_enter Try.func9, Try.ntmps9
 go_wp2_with fail
 refine (CW.out _ _ _ HR0.out).mono ?_
 rintro e w1 ⟨rfl, hb1⟩
 have HB1 := Qf (bthen HB0.out hb1)
 clear hb1
 go_wp2_with fail
 refine (CR.out _).mono ?_
 rintro e w2 ⟨hb2, a, cap, rfl, hr2⟩
 have HB2 := Qf (bthen HB1.out hb2)
 obtain ⟨b, off, rfl, hbl, c0, c1⟩ := hr2 0 (by decide)
 simp only [Nat.zero_mul, Nat.add_zero] at c0 c1
 have d0 : w2.cell? ⟨b, off, none⟩ = some (.string ⟨#[97]⟩) := c0
 have d1 : w2.cell? ⟨b, off + 1, none⟩ = some (.string ⟨#[104, 105]⟩) := c1
 clear hb2 hr2 c0 c1
 go_wp2_with fail
 go_ret
 exact ⟨rfl, HB2.out⟩
def few (s : ByteArray) (n : Nat) : ByteArray := if n < s.size then s.extract 0 n else s
theorem few_list (s : ByteArray) (n : Nat) : (few s n).data.toList = s.data.toList.take n := by
 unfold few
 split
 . simp
 . rw [List.take_of_length_le (by simp; omega)]
theorem few_size (s : ByteArray) (n : Nat) : (few s n).size <= n := by
 unfold few
 split
 . simp; omega
 . omega
theorem few_any (s : ByteArray) (n : Nat) (hn : n <= 100000) (_hs : s.size <= maxLen) (w : World) :
 Calls Try.prog 38 #[.string s, .int .i64 (n : Int)] w fun e w' => e = .returned (.string (few s n)) /\ w = w' := by
 by_cases h : n < s.size
 . have e := Qf (show few s n = s.extract 0 n by unfold few; rw [if_pos h])
   go_enter Try.func38, Try.ntmps38
   go_wp2
   go_ret
   exact ⟨by rw [e.out]; rfl, rfl⟩
 . have e := Qf (show few s n = s by unfold few; rw [if_neg h])
   go_enter Try.func38, Try.ntmps38
   go_wp2
   go_ret
   exact ⟨by rw [e.out]; rfl, rfl⟩
theorem calls_symf {P : Program} {f : FuncId} {args : Array Value} {w : World} {v : Value} (h : Calls P f args w fun e w' => e = .returned v /\ w = w') : Calls P f args w fun e w' => e = .returned v /\ w' = w :=
 h.mono fun _ _ h => ⟨h.1, h.2.symm⟩
theorem OwnFl.empty (w : World) (base : Nat) (hb : base <= w.heap.size) : OwnFl (w.alloc (.cells #[] 44)) base (.slice (some ⟨w.heap.size, 0, none⟩) 0 0) [] :=
 ⟨rfl, .inr ⟨w.heap.size, 0, #[], rfl, hb, Blk.new w _ _, Qa _, Nat.zero_le _, rfl, rfl⟩⟩
def shortL (L : List Fl) (n : Nat) : List Fl := (L.take n).map fun f => (f.1, few f.2 400)
theorem shortL_len (L : List Fl) (n : Nat) : (shortL L n).length = min n L.length := by simp [shortL]
theorem shortL_mem {L : List Fl} {n : Nat} {f : Fl} (h : f ∈ shortL L n) : f.2.size <= 400 /\ ∃ g ∈ L, f.1 = g.1 := by
 unfold shortL at h
 rw [List.mem_map] at h
 obtain ⟨g, hg, rfl⟩ := h
 exact ⟨few_size _ _, g, List.mem_of_mem_take hg, rfl⟩
attribute [local irreducible] wpStill
set_option maxHeartbeats 4000000 in
theorem short_any (L : List Fl) (a : Option Addr) (cap : Nat) (n : Nat) (hn : n <= 100) (hs : ∀ f ∈ L, f.2.size <= maxLen) (w : World) (hr : FRow w a L) :
 Calls Try.prog 13 #[.slice a L.length cap, .int .i64 (n : Int)] w fun e w' => Below w.heap.size w w' /\ ∃ v, e = .returned v /\ OwnFl w' w.heap.size v (shortL L n) := by
 have HR := Qf hr
 have HS := Qf hs
 have HB0 := Qf (Below.refl w.heap.size w)
 obtain ⟨M, HM⟩ := Qi (L.length)
 rw [HM.out]
 have HO0 : Hid (OwnFl (w.alloc (.cells #[] 44)) w.heap.size (.slice (some ⟨w.heap.size, 0, none⟩) 0 0) ((L.take 0).map fun f => (f.1, few f.2 400))) := OwnFl.empty w _ (Qa _)
 have HBa := Qf ((Below.refl w.heap.size w).alloc (Qa _) (.cells #[] 44))
 obtain ⟨w1, HW1⟩ := Qi (w.alloc (.cells #[] 44))
 rw [HW1.out] at HO0 HBa
 clear hr hs HB0
 go_enter Try.func13, Try.ntmps13
 go_wp2_with fail
 rw [HW1.out]
 go_loopw [5, 6] (fun v_ j_ wq => ∃ (j : Nat), j <= M /\ j <= n /\ j_ = .int .i64 (j : Int) /\ Hid (OwnFl wq w.heap.size v_ ((L.take j).map fun f => (f.1, few f.2 400))) /\ Hid (Below w.heap.size w wq)) (fun _ j _ => M - (intOf j).toNat)
 case atStart => exact ⟨0, Nat.zero_le _, Nat.zero_le _, rfl, HO0, HBa⟩
 case round =>
  clear HO0 HBa
  obtain ⟨j, hjM, hjn, rfl, HO, HB⟩ := hrel
  have hln : ((L.take j).map fun f => ((f.1, few f.2 400) : Fl)).length = j := by rw [List.length_map, List.length_take, HM.out]; omega
  obtain ⟨oa, ocap, rfl, -⟩ := HO.out.view
  rw [hln] at HO ⊢
  have HLn := Qf hln
  clear hln
  by_cases hlt : j < M /\ j < n
  . have dj : decide ((j : Int) < (M : Int)) = true := Qg (by omega)
    have djb : decide (j < M) = true := Qg (by omega)
    have dn : decide ((j : Int) < (n : Int)) = true := Qg (by omega)
    have dnb : decide (j < n) = true := Qg (by omega)
    have hjI : (j : Int) < (M : Int) := by omega
    have hjL : j < L.length := by rw [HM.out]; exact hlt.1
    obtain ⟨b, off, rfl, hbl, c0', c1'⟩ := HR.out j hjL
    have c0 := (HB.out.cell (p := ⟨b, off + j * 2, none⟩) hbl).trans c0'
    have c1 := (HB.out.cell (p := ⟨b, off + j * 2 + 1, none⟩) hbl).trans c1'
    have HBL := Qf hbl
    clear c0' c1'
    have hsz := HS.out _ (List.getElem_mem hjL)
    have hsn : Hid ((L.take (j + 1)).map (fun f => ((f.1, few f.2 400) : Fl)) = ((L.take j).map fun f => (f.1, few f.2 400)) ++ [((L[j]).1, few (L[j]).2 400)]) := by
     show _ = _
     rw [List.take_succ_eq_append_getElem hjL, List.map_append]; rfl
    obtain ⟨⟨nm, dt⟩, Hf⟩ : ∃ R, Hid (L[j] = R) := ⟨_, Qf (Eq.refl _)⟩
    rw [Hf.out] at c0 c1 hsz hsn
    dsimp only at c0 c1 hsz hsn
    have CF := Qf (fun W => calls_symf (few_any dt 400 (by decide) hsz W))
    obtain ⟨fd, Hfd⟩ := Qi (few dt 400)
    rw [Hfd.out] at CF hsn
    have hos : wr.drew.ownsRow w.heap.size 44 2 (.slice oa j ocap) j (flcells ((L.take j).map fun f => (f.1, few f.2 400))) := by
     have := HO.out
     unfold OwnFl at this
     rw [HLn.out] at this
     exact this.drew
    have HBz : Hid (Below w.heap.size w wr.drew) := HB.out.drew
    have hbsw : w.heap.size <= wr.drew.heap.size := HBz.out.size
    have hone := fl_one nm fd
    obtain ⟨XS, HXS⟩ := Qi (flcells ((L.take j).map fun f => (f.1, few f.2 400)))
    rw [HXS.out] at hos
    have z0 : wr.drew.cell? ⟨b, off + j * 2, none⟩ = some (.string nm) := c0
    have z1 : wr.drew.cell? ⟨b, off + j * 2 + 1, none⟩ = some (.string dt) := c1
    clear hjL hbl Hf HO HB hsz
    go_upto_region 5 with fail
    go_region_held3 (fun W => W.cell? ⟨b, off + j * 2, none⟩ = some (.string nm) /\ W.cell? ⟨b, off + j * 2 + 1, none⟩ = some (.string dt)) (first | exact ⟨z0, z1⟩ | exact ⟨y0, y1⟩ | exact ⟨by assumption, by assumption⟩ | go_keep)
     (first
      | (go_at_call 38; refine (CF.out _).mono ?_; rintro e w7 ⟨rfl, rfl⟩)
      | (refine step_append_lit wr.drew rfl (.tmp 19) (.tmp 32) rfl Try.underlying38 info_file rfl (by decide) w.heap.size (.slice oa j ocap) j XS [.string nm, .string fd] 1 hos rfl hone rfl (sz := wr.drew.heap.size) rfl rfl ?_ ?_ hbsw rfl ?_; (unfold maxLen; omega); omega; intro v8 w8 hown8 hg8; have HO8 := Qf hown8; have hbg := below_grown hos hg8 hbsw; have y0 : w8.cell? ⟨b, off + j * 2, none⟩ = some (.string nm) := (hbg.cell (p := ⟨b, off + j * 2, none⟩) HBL.out).trans z0; have y1 : w8.cell? ⟨b, off + j * 2 + 1, none⟩ = some (.string dt) := (hbg.cell (p := ⟨b, off + j * 2 + 1, none⟩) HBL.out).trans z1; have HB8 := Qf (HBz.out.trans hbg); clear hown8 hg8 hbg))
    all_goals
     go_wp2_with fail
     rw [<- HXS.out] at HO8
     go_roundw
     case rel => exact ⟨j + 1, by omega, by omega, by go_num, (by show OwnFl _ _ _ _; rw [hsn.out]; exact OwnFl.snoc (by rw [HLn.out]; exact HO8.out)), HB8⟩
     case measure => simp [intOf]; omega
  . have hO2 : OwnFl wr w.heap.size (.slice oa j ocap) (shortL L n) := by
     have := HO.out
     unfold shortL
     rcases Nat.lt_or_ge j n with h | h
     . have e1 : L.take j = L.take n := by rw [List.take_of_length_le (by rw [HM.out]; omega), List.take_of_length_le (by rw [HM.out]; omega)]
       rw [<- e1]; exact this
     . have e1 : j = n := by omega
       rw [<- e1]; exact this
    have HO2 := Qf hO2
    have hnot : (decide ((j : Int) < (M : Int)) = false /\ decide (j < M) = false) \/ ((decide ((j : Int) < (M : Int)) = true /\ decide (j < M) = true) /\ (decide ((j : Int) < (n : Int)) = false /\ decide (j < n) = false)) := by
     rcases Nat.lt_or_ge j M with h | h
     . exact .inr ⟨⟨Qg (by omega), Qg (by omega)⟩, ⟨Qh (by omega), Qh (by omega)⟩⟩
     . exact .inl ⟨Qh (by omega), Qh (by omega)⟩
    clear hO2 HO hlt
    rcases hnot with ⟨d4, d4b⟩ | ⟨⟨d4, d4b⟩, d5, d5b⟩
    all_goals
     go_wp2_with fail
     go_ret
     exact ⟨HB.out, _, rfl, HO2.out⟩
def nmI (i : Nat) : ByteArray := ⟨#[UInt8.ofNat (97 + i / 26), UInt8.ofNat (97 + i % 26)]⟩
def fullL (n z : Nat) : List Fl := (List.range n).map fun i => (nmI i, runS z 0)
theorem fullL_snoc (n z : Nat) : fullL (n + 1) z = fullL n z ++ [(nmI n, runS z 0)] := by
 unfold fullL
 rw [List.range_succ, List.map_append]; rfl
theorem fullL_len (n z : Nat) : (fullL n z).length = n := by simp [fullL]
theorem run_two {x y : Nat} (hx : x < 256) (hy : y < 256) (w : World) (g : Nat) (h : Blk w g 5 #[.int .u8 (x : Int), .int .u8 (y : Int)]) :
 (convert 31 9 (.slice (some ⟨g, 0, none⟩) 2 2)).run Try.prog w = .ok (.string ⟨#[UInt8.ofNat x, UInt8.ofNat y]⟩) w := by
 have := run_convert_bytes_back (P := Try.prog) w 31 9 5 ⟨g, 0, none⟩ 2 [UInt8.ofNat x, UInt8.ofNat y] Try.underlying31 Try.underlying5 Try.underlying9 (fun j hj => by
  have e : (⟨g, 0, none⟩ : Addr).add j = ⟨g, j, none⟩ := by unfold Addr.add; split <;> simp_all
  rw [e, h.cell j]
  have e1 : (UInt8.ofNat x).toNat = x := by rw [UInt8.toNat_ofNat']; omega
  have e2 : (UInt8.ofNat y).toNat = y := by rw [UInt8.toNat_ofNat']; omega
  match j, hj with
  | 0, _ => simp [e1]
  | 1, _ => simp [e2])
 exact this
theorem nmI_ok : ∀ i, i < 210 -> prn (UInt8.ofNat (97 + i / 26)) = true /\ prn (UInt8.ofNat (97 + i % 26)) = true := by decide +kernel
theorem nmI_up : ∀ i, i < 209 -> strLe (nmI (i + 1)) (nmI i) = false := by decide +kernel
theorem nmI_first : strLe (nmI 0) ⟨#[]⟩ = false := by decide +kernel
theorem nmI_nm (i : Nat) (h : i < 210) : nmB (nmI i) = true := nmB_true ⟨by show ¬ (2 = 0); decide, by show 2 <= 64; decide, fun j hj => by
 have e : (nmI i).size = 2 := rfl
 rw [e] at hj
 obtain ⟨h1, h2⟩ := nmI_ok i h
 match j, hj with
 | 0, _ => exact h1
 | 1, _ => exact h2⟩
theorem full_chk (z : Nat) (hz : z <= 65536) : ∀ (m k : Nat), k + m <= 210 -> chkL (if k = 0 then ⟨#[]⟩ else nmI (k - 1)) ((List.range' k m).map fun i => (nmI i, runS z 0)) = 0 := by
 intro m
 induction m with
 | zero => intro k _; rfl
 | succ m ih =>
  intro k hk
  rw [List.range'_succ, List.map_cons, chkL]
  dsimp only
  rw [runS_size, if_neg (by omega), nmI_nm k (by omega)]
  have e : strLe (nmI k) (if k = 0 then ⟨#[]⟩ else nmI (k - 1)) = false := by
   by_cases h : k = 0
   . rw [if_pos h, h]; exact nmI_first
   . rw [if_neg h]
     have := nmI_up (k - 1) (by omega)
     rwa [show k - 1 + 1 = k by omega] at this
  rw [e]
  have := ih (k + 1) (by omega)
  rw [if_neg (by omega), Nat.add_sub_cancel] at this
  exact this
theorem full_chkF (n z : Nat) (hn : n <= 210) : chkF (fullL n z) = if 200 < n \/ (0 < n /\ 65536 < z) then 2 else 0 := by
 unfold chkF
 rw [fullL_len]
 by_cases h1 : 200 < n
 . rw [if_pos h1, if_pos (.inl h1)]
 . rw [if_neg h1]
   by_cases h2 : 0 < n /\ 65536 < z
   . rw [if_pos (.inr h2)]
     obtain ⟨m, rfl⟩ : ∃ m, n = m + 1 := ⟨n - 1, by omega⟩
     unfold fullL
     rw [List.range_eq_range', List.range'_succ, List.map_cons, chkL]
     dsimp only
     rw [runS_size, if_pos h2.2]
   . rw [if_neg (by omega)]
     by_cases h0 : n = 0
     . subst h0; rfl
     . have := full_chk z (by omega) n 0 (by omega)
       rw [if_pos rfl] at this
       unfold fullL
       rw [List.range_eq_range']
       exact this
noncomputable def dzB (s : ByteArray) : ByteArray := bstB (tokF s 1 s.size 0) (if s.size <= 65535 then stoS s else ⟨(List.replicate 65546 0).toArray⟩) 2
theorem bst_like (S : List Tok) (u v : ByteArray) (h : u.size = v.size) (hf : (encB (fixE S)).size < u.size) : bstB S u 2 = bstB S v 2 := by
 have e1 : ∀ u, bstB S u 1 = if (encB (fixE S)).size < u.size then encB (fixE S) else u := fun _ => rfl
 have e2 : ∀ u, bstB S u 2 = if (encB (dynS S)).size < (bstB S u 1).size then encB (dynS S) else bstB S u 1 := fun _ => rfl
 have h1 : bstB S u 1 = encB (fixE S) := by rw [e1, if_pos hf]
 have h2 : bstB S v 1 = encB (fixE S) := by rw [e1, if_pos (by omega)]
 have h3 := e2 u
 have h4 := e2 v
 rw [h1] at h3
 rw [h2] at h4
 rw [h3, h4]
theorem dz_len (z : Nat) (hz : z <= 65536) : (encB (fixE (tokF (runS z 0) 1 z 0))).size <= 64 + z / 64 /\ (tokF (runS z 0) 1 z 0).length <= 4000 := by
 have hex := tokF_exp (runS z 0) 1 (runS z 0).size 0 (by omega) (Nat.zero_le _)
 have hlen := tokF_run (runS_all z 0) 1 (by decide)
 rw [runS_size] at hex hlen
 have hfx := fixE_len (tokF (runS z 0) 1 z 0) (fun t h => ((tokW_of hex) t h).2.ok)
 have hsh := run_short (tokF (runS z 0) 1 z 0).length z hlen
 rw [encB_size]
 refine ⟨by omega, by omega⟩
theorem dz_size (z : Nat) (hz : z <= 65536) : (dzB (runS z 0)).size <= 64 + z / 64 := by
 unfold dzB
 rw [runS_size]
 have h1 := (dz_len z hz).1
 have h2 := (bst_two (tokF (runS z 0) 1 z 0) (if z <= 65535 then stoS (runS z 0) else ⟨(List.replicate 65546 0).toArray⟩)).2.2
 omega
theorem dz_any (z : Nat) (hz : z <= 65536) (w : World) : Calls Try.prog 15 #[.string (runS z 0), .int .i64 1] w fun e w' => e = .returned (.tuple #[.string (dzB (runS z 0)), .int .i64 0]) /\ Below w.heap.size w w' := by
 have h1 := dz_len z hz
 refine (deflate_any (runS z 0) 1 (by decide) (by rw [runS_size]; exact hz) (by rw [runS_size]; exact h1.2) w).mono ?_
 rintro e w' ⟨u, hu, rfl, hb⟩
 refine ⟨?_, hb⟩
 have e1 : bstB (tokF (runS z 0) 1 (runS z 0).size 0) u 2 = dzB (runS z 0) := by
  unfold dzB
  rw [runS_size]
  by_cases h : z <= 65535
  . rw [if_pos h, hu.1 (by rw [runS_size]; exact h)]
  . rw [if_neg h]
    have h2 := hu.2 (by rw [runS_size]; omega)
    exact bst_like _ _ _ (by rw [h2]; show 65546 = (List.replicate 65546 (0 : UInt8)).toArray.size; rw [List.size_toArray, List.length_replicate]) (by omega)
 rw [e1]
theorem archP_two (D : ByteArray -> ByteArray) (c : Nat) : ∀ (L : List Fl) (n : Nat), (∀ f ∈ L, f.1.size = 2 /\ (D f.2).size <= c) -> (archL (packL D L n)).length <= (32 + c) * L.length /\ (idxH ((packL D L n).map Part.h)).length <= 48 * L.length := by
 intro L
 induction L with
 | nil => intro n _; exact ⟨Qa _, Qa _⟩
 | cons f r ih =>
  intro n hf
  obtain ⟨g1, g2⟩ := hf f (List.mem_cons_self ..)
  obtain ⟨i1, i2⟩ := ih (n + (partL (packOf D f n)).length) fun x hx => hf x (List.mem_cons_of_mem _ hx)
  have hl : (partL (packOf D f n)).length <= 32 + c := by
   rw [partL_len, (packOf_name D f n).1, g1]
   unfold packOf
   split
   . dsimp only; omega
   . dsimp only; omega
  have e1 : archL (packOf D f n :: packL D r (n + (partL (packOf D f n)).length)) = partL (packOf D f n) ++ archL (packL D r (n + (partL (packOf D f n)).length)) := rfl
  have e2 : ∀ (x : Hd) (y : List Hd), idxH (x :: y) = idxL1 x ++ idxH y := fun _ _ => rfl
  rw [packL, e1, List.map_cons, e2, List.length_append, List.length_append, idxL1_len, (packOf_name D f n).1, List.length_cons, Nat.mul_add]
  omega
theorem full_write (n z : Nat) (hn : n <= 210) (hnz : n * z <= 300000) : if 200 < n \/ (0 < n /\ 65536 < z) then writeF dzB (fullL n z) = .error 2 else ∃ s, writeF dzB (fullL n z) = .ok s /\ s.size ≠ 0 := by
 have h1 := full_chkF n z hn
 split
 . next h => rw [if_pos h] at h1; unfold writeF; rw [h1, if_pos (by decide)]
 . next h =>
   rw [if_neg h] at h1
   have hb : (wholeL (packL dzB (fullL n z) 0)).length <= 262144 /\ 22 <= (wholeL (packL dzB (fullL n z) 0)).length := by
    unfold wholeL
    rw [List.length_append, indexL_len]
    refine ⟨?_, by omega⟩
    by_cases h0 : n = 0
    . subst h0
      rw [show fullL 0 z = [] from rfl, packL]
      decide
    . obtain ⟨a1, a2⟩ := archP_two dzB (64 + z / 64) (fullL n z) 0 (fun f hf => by
       unfold fullL at hf
       rw [List.mem_map] at hf
       obtain ⟨i, _, rfl⟩ := hf
       exact ⟨rfl, dz_size z (by omega)⟩)
      rw [fullL_len] at a1 a2
      have b1 : n * (z / 64) <= n * z := Nat.mul_le_mul_left n (Nat.div_le_self z 64)
      have b2 : (32 + (64 + z / 64)) * n = 96 * n + n * (z / 64) := by rw [<- Nat.add_assoc, Nat.add_mul, Nat.mul_comm (z / 64) n]
      have b3 : 64 * (n * (z / 64)) <= n * z := by
       rw [<- Nat.mul_assoc, Nat.mul_comm 64 n, Nat.mul_assoc]
       exact Nat.mul_le_mul_left n (by omega)
      omega
   refine ⟨⟨(wholeL (packL dzB (fullL n z) 0)).toArray⟩, ?_, ?_⟩
   . unfold writeF
     rw [h1, if_neg (by decide), if_neg (by omega)]
   . show (wholeL _).toArray.size ≠ 0
     rw [List.size_toArray]; omega
open Go.ChangeShapes Go.WideShapes Go.ChangeAt Go.RowKit
theorem own : ownKnob Try.prog.godebug = none := by kernel_rfl
theorem laidOut : laidOutB Try.prog = true := by kernel_rfl
theorem bd_i64 {a : Int} (h : (Lit.int .i64 a).wf = true) : -9223372036854775808 <= a /\ a <= 9223372036854775807 := by
 have h1 : IntKind.i64.min = -9223372036854775808 := rfl
 have h2 : IntKind.i64.max = 9223372036854775807 := rfl
 simpa only [Lit.wf, Bool.and_eq_true, decide_eq_true_eq, h1, h2] using h
theorem refPut_nat (x : Nat) (n : Nat) (hx : x < 18446744073709551616) (hn : n <= 1000) (w : World) :
 Calls Try.prog 32 #[.int .u64 (x : Int), .int .i64 (n : Int)] w fun e w' => e = .returned (.string ⟨(putL x n).toArray⟩) /\ Below w.heap.size w w' := by
 go_enter Try.func32, Try.ntmps32
 go_wp2
 go_loopw [0, 5, 6] (fun y v i wr => ∃ k : Nat, k <= n /\ i = .int .i64 k /\ y = .int .u64 ((x : Int) / 256 ^ k) /\ OwnB wr w.heap.size v (putL x k) /\ Below w.heap.size w wr)
  (fun _ _ i _ => n - (intOf i).toNat)
 case atStart => exact ⟨0, Nat.zero_le _, rfl, by simp, OwnB.empty _ _ (Qa _), (Below.refl _ _).alloc (Qa _) _⟩
 case round =>
  obtain ⟨k, hk, rfl, rfl, hown, hb⟩ := hrel
  have hl := putL_length x k
  have hll : (putL x k).length < 140737488355328 := by omega
  clear hl
  have hbs := hb.size
  have hst := Qf (put_step x k)
  have hxk : 0 <= (x : Int) / 256 ^ k := Int.ediv_nonneg (by omega) (Int.le_of_lt (Int.pow_pos (by decide)))
  have hxk2 : (x : Int) / 256 ^ k <= 18446744073709551615 := Int.le_trans (Int.ediv_le_self _ (by omega)) (by omega)
  by_cases hlt : k < n
  . go_wp2_with (at_builtin; go_must (refine wpList_append_byte _ rfl _ _ rfl w.heap.size _ (putL x k) _ hown rfl rfl rfl ?_ ?_ hll hbs ?_; omega; omega; intro v' w1 hown1 hb1))
    go_roundw
    case rel => exact ⟨k + 1, by omega, by go_num, by rw [div_pow_step], by rw [hst.out]; exact hown1, hb.trans hb1⟩
    case measure => simp [intOf]; omega
  . have hs := run_string_own wr _ _ _ hown
    go_wp2_with fail
    go_ret
    obtain rfl : k = n := by omega
    exact ⟨rfl, hb⟩
def putB (x : Int) (n : Nat) : ByteArray := ⟨(putL (u64 x) n).toArray⟩
theorem putB_size (x : Int) (n : Nat) : (putB x n).size = n := by show (putL (u64 x) n).toArray.size = n; rw [List.size_toArray, putL_length]
theorem two_any (x : Int) (w : World) : Calls Try.prog 30 #[.int .i64 x] w fun e w' => e = .returned (.string (putB x 2)) /\ Below w.heap.size w w' := by
 have C := Qf (fun W => refPut_nat (u64 x) 2 (u64_lt x) (by decide) W)
 have e0 : (⟨(putL (u64 x) 2).toArray⟩ : ByteArray) = putB x 2 := rfl
 rw [e0] at C
 have hw := u64_wrap x
 obtain ⟨u, Hu⟩ := Qi (u64 x)
 rw [Hu.out] at C hw
 clear e0
 go_enter Try.func30, Try.ntmps30
 go_wp2_with fail
 refine (C.out _).mono ?_
 rintro e w1 ⟨rfl, hb⟩
 go_wp2_with fail
 go_ret
 exact ⟨rfl, hb⟩
theorem four_any (x : Int) (w : World) : Calls Try.prog 33 #[.int .i64 x] w fun e w' => e = .returned (.string (putB x 4)) /\ Below w.heap.size w w' := by
 have C := Qf (fun W => refPut_nat (u64 x) 4 (u64_lt x) (by decide) W)
 have e0 : (⟨(putL (u64 x) 4).toArray⟩ : ByteArray) = putB x 4 := rfl
 rw [e0] at C
 have hw := u64_wrap x
 obtain ⟨u, Hu⟩ := Qi (u64 x)
 rw [Hu.out] at C hw
 clear e0
 go_enter Try.func33, Try.ntmps33
 go_wp2_with fail
 refine (C.out _).mono ?_
 rintro e w1 ⟨rfl, hb⟩
 go_wp2_with fail
 go_ret
 exact ⟨rfl, hb⟩
set_option maxHeartbeats 8000000 in
theorem rfacts_any (h : Hd) (hc : h.crc < 4294967296) (w : World) : Calls Try.prog 31 #[h.val] w fun e w' => e = .returned (.string ⟨(factsL h).toArray⟩) /\ Below w.heap.size w w' := by
 have HE : Hid (putB 20 2 ++ putB 0 2 ++ putB h.method 2 ++ putB 0 4 ++ putB (h.crc : Int) 4 ++ putB h.packed 4 ++ putB h.size 4 ++ putB (h.name.size : Int) 2 ++ putB 0 2 = ⟨(factsL h).toArray⟩) := by
  show _ = _
  apply ByteArray.ext
  apply Array.ext'
  unfold factsL Hd.nums putB fldL
  simp only [ByteArray.data_append, Array.toList_append, List.flatMap_cons, List.flatMap_nil, List.append_nil, List.append_assoc]
 obtain ⟨FL, HFL⟩ := Qi ((⟨(factsL h).toArray⟩ : ByteArray))
 rw [HFL.out] at HE ⊢
 obtain ⟨nm, me, cr, pk, sz, pl⟩ := h
 dsimp only at HE hc
 unfold Hd.val Hd.cells
 dsimp only
 have C2 := Qf two_any
 have C4 := Qf four_any
 have s2 : ∀ x, (putB x 2).size = 2 := fun x => putB_size x 2
 have s4 : ∀ x, (putB x 4).size = 4 := fun x => putB_size x 4
 obtain ⟨F2, HF2⟩ : ∃ F : Int -> ByteArray, Hid ((fun x => putB x 2) = F) := ⟨_, Qf (Eq.refl _)⟩
 obtain ⟨F4, HF4⟩ : ∃ F : Int -> ByteArray, Hid ((fun x => putB x 4) = F) := ⟨_, Qf (Eq.refl _)⟩
 have g2 : ∀ x, putB x 2 = F2 x := fun x => congrFun HF2.out x
 have g4 : ∀ x, putB x 4 = F4 x := fun x => congrFun HF4.out x
 have D2 : Hid (∀ x W, Calls Try.prog 30 #[.int .i64 x] W fun e w' => e = .returned (.string (F2 x)) /\ Below W.heap.size W w') := fun x W => by rw [<- g2]; exact C2.out x W
 have D4 : Hid (∀ x W, Calls Try.prog 33 #[.int .i64 x] W fun e w' => e = .returned (.string (F4 x)) /\ Below W.heap.size W w') := fun x W => by rw [<- g4]; exact C4.out x W
 rw [g2, g2, g2, g2, g4, g4, g4, g4] at HE
 have z1 : (F2 20).size = 2 := by rw [<- g2]; exact s2 _
 have z2 : (F2 0).size = 2 := by rw [<- g2]; exact s2 _
 have z3 : (F2 me).size = 2 := by rw [<- g2]; exact s2 _
 have z4 : (F2 (nm.size : Int)).size = 2 := by rw [<- g2]; exact s2 _
 have z5 : (F4 0).size = 4 := by rw [<- g4]; exact s4 _
 have z6 : (F4 (cr : Int)).size = 4 := by rw [<- g4]; exact s4 _
 have z7 : (F4 pk).size = 4 := by rw [<- g4]; exact s4 _
 have z8 : (F4 sz).size = 4 := by rw [<- g4]; exact s4 _
 have hwc : IntKind.i64.wrap (cr : Int) = (cr : Int) := by rw [IntKind.wrap_i64]; omega
 clear g2 g4 s2 s4 C2 C4 HF2 HF4 HFL
 have hbx := Blk.new w 27 #[.string nm, .int .i64 me, .int .u32 (cr : Int), .int .i64 pk, .int .i64 sz, .int .i64 pl]
 have hbb := (Below.refl w.heap.size w).alloc (Qa _) (.cells #[.string nm, .int .i64 me, .int .u32 (cr : Int), .int .i64 pk, .int .i64 sz, .int .i64 pl] 27)
 obtain ⟨G, HG⟩ := Qi (w.heap.size)
 rw [HG.out] at hbx
 have HBX := Qf hbx
 have HBB := Qf hbb
 clear hbx hbb
 go_enter Try.func31, Try.ntmps31
 go_wp2_with fail
 rw [HG.out]
 obtain ⟨w1, HW1⟩ := Qi (w.alloc (.cells #[.string nm, .int .i64 me, .int .u32 (cr : Int), .int .i64 pk, .int .i64 sz, .int .i64 pl] 27))
 rw [HW1.out] at HBX HBB ⊢
 clear HW1
 have HS : Hid (∀ W, Below w1.heap.size w1 W -> W.cell? ⟨G, 0, none⟩ = some (.string nm) /\ W.cell? ⟨G, 1, none⟩ = some (.int .i64 me) /\ W.cell? ⟨G, 2, none⟩ = some (.int .u32 (cr : Int)) /\ W.cell? ⟨G, 3, none⟩ = some (.int .i64 pk) /\ W.cell? ⟨G, 4, none⟩ = some (.int .i64 sz) /\ W.cell? ⟨G, 5, none⟩ = some (.int .i64 pl)) := fun W hb => by
  have h := HBX.out.below hb HBX.out.lt
  exact ⟨h.cell 0, h.cell 1, h.cell 2, h.cell 3, h.cell 4, h.cell 5⟩
 obtain ⟨k0, k1, k2, k3, k4, k5⟩ := HS.out w1.drew ((Below.refl _ _).drew)
 go_region_held3 (fun W => W.cell? ⟨G, 0, none⟩ = some (.string nm) /\ W.cell? ⟨G, 1, none⟩ = some (.int .i64 me) /\ W.cell? ⟨G, 2, none⟩ = some (.int .u32 (cr : Int)) /\ W.cell? ⟨G, 3, none⟩ = some (.int .i64 pk) /\ W.cell? ⟨G, 4, none⟩ = some (.int .i64 sz) /\ W.cell? ⟨G, 5, none⟩ = some (.int .i64 pl))
  (first | (refine HS.out _ ?_; (repeat' (first | with_reducible exact Below.refl _ _ | with_reducible assumption | with_reducible apply Below.drew | with_reducible apply below_al))))
  (first
   | (go_at_call 30; refine (D2.out _ _).mono ?_; rintro e w2 ⟨rfl, hb2⟩; have HB2 : Below w1.heap.size w1 w2 := bthen (by (repeat' (first | with_reducible exact Below.refl _ _ | with_reducible assumption | with_reducible apply Below.drew | with_reducible apply below_al))) hb2; clear hb2)
   | (go_at_call 33; refine (D4.out _ _).mono ?_; rintro e w2 ⟨rfl, hb2⟩; have HB2 : Below w1.heap.size w1 w2 := bthen (by (repeat' (first | with_reducible exact Below.refl _ _ | with_reducible assumption | with_reducible apply Below.drew | with_reducible apply below_al))) hb2; clear hb2))
 all_goals
  go_wp2_with fail
  go_ret
  exact ⟨by rw [<- HE.out]; rfl, bthen HBB.out (by (repeat' (first | with_reducible exact Below.refl _ _ | with_reducible assumption | with_reducible apply Below.drew | with_reducible apply below_al)))⟩
set_option maxHeartbeats 8000000 in
theorem rindex_any (L : List Hd) (a : Option Addr) (cap : Nat) (at' : Int) (hL : L.length <= 1000000) (hc : ∀ h ∈ L, h.crc < 4294967296) (hn : ∀ h ∈ L, h.name.size <= 1000000000) (ht : (idxH L).length <= 50000000000) (w : World) (hr : HRow w a L) :
 Calls Try.prog 10 #[.slice a L.length cap, .int .i64 at'] w fun e w' => e = .returned (.string ⟨(indexL L at').toArray⟩) /\ Below w.heap.size w w' := by
 have HR := Qf hr
 have Hc := Qf hc
 have Hn := Qf hn
 have HB0 := Qf (Below.refl w.heap.size w)
 obtain ⟨M, HM⟩ := Qi (L.length)
 rw [HM.out] at hL ⊢
 have C2 := Qf two_any
 have C4 := Qf four_any
 have C10 : Hid (∀ W, Calls Try.prog 32 #[.int .u64 0, .int .i64 10] W fun e w' => e = .returned (.string (putB 0 10)) /\ Below W.heap.size W w') := fun W => refPut_nat 0 10 (by decide) (by decide) W
 clear hr hc hn
 go_enter Try.func10, Try.ntmps10
 go_wp2_with fail
 go_loopw [5, 10] (fun s_ j_ wr => ∃ (j : Nat), j <= M /\ j_ = .int .i64 (j : Int) /\ s_ = .string ⟨(idxH (L.take j)).toArray⟩ /\ Hid (Below w.heap.size w wr)) (fun _ j _ => M - (intOf j).toNat)
 case atStart => exact ⟨0, Nat.zero_le _, rfl, rfl, HB0⟩
 case round =>
  clear HB0
  obtain ⟨j, hj, rfl, rfl, HBl⟩ := hrel
  by_cases hlt : j < M
  . have dj : decide ((j : Int) < (M : Int)) = true := Qg (by omega)
    have djb : decide (j < M) = true := Qg (by omega)
    have hjI : (j : Int) < (M : Int) := by omega
    have hjL : j < L.length := by rw [HM.out]; exact hlt
    obtain ⟨b, off, rfl, hbl, hcl⟩ := (HR.out.below HBl.out (Qa _)) j hjL
    have hmem := List.getElem_mem hjL
    have hcr := Hc.out _ hmem
    have hnm := Hn.out _ hmem
    have hsn := idxH_snoc L j hjL
    have hle := idxH_le L (j + 1)
    have hz0 : (⟨(idxH (L.take j)).toArray⟩ : ByteArray).size = (idxH (L.take j)).length := by show (idxH (L.take j)).toArray.size = _; rw [List.size_toArray]
    obtain ⟨h, Hh⟩ := Qi (L[j])
    rw [Hh.out] at hcl hcr hnm hsn
    rw [hsn, List.length_append, idxL1_len] at hle
    have CFa := Qf (fun W => rfacts_any h hcr W)
    have hfl : (⟨(factsL h).toArray⟩ : ByteArray).size = 26 := by show (factsL h).toArray.size = 26; rw [List.size_toArray, factsL_len]
    have HE : Hid ((⟨(idxH (L.take j)).toArray⟩ : ByteArray) ++ ((⟨#[80, 75, 1, 2]⟩ : ByteArray) ++ putB 20 2 ++ ⟨(factsL h).toArray⟩ ++ putB 0 10 ++ putB h.place 4 ++ h.name) = ⟨(idxH (L.take (j + 1))).toArray⟩) := by
     show _ = _
     rw [hsn]
     unfold idxL1 putB fldL
     apply ByteArray.ext
     apply Array.ext'
     simp only [ByteArray.data_append, Array.toList_append, List.flatMap_cons, List.flatMap_nil, List.append_nil, List.append_assoc]
    have D2 := Qf (C2.out 20)
    have D4 := Qf (C4.out h.place)
    have D10 := Qf C10.out
    have s1 := putB_size 20 2
    have s3 := putB_size 0 10
    have s4 := putB_size h.place 4
    obtain ⟨S0, HS0⟩ := Qi ((⟨(idxH (L.take j)).toArray⟩ : ByteArray))
    obtain ⟨S1, HS1⟩ := Qi ((⟨(idxH (L.take (j + 1))).toArray⟩ : ByteArray))
    obtain ⟨x1, Hx1⟩ := Qi (putB 20 2)
    obtain ⟨x2, Hx2⟩ := Qi ((⟨(factsL h).toArray⟩ : ByteArray))
    obtain ⟨x3, Hx3⟩ := Qi (putB 0 10)
    obtain ⟨x4, Hx4⟩ := Qi (putB h.place 4)
    rw [HS0.out, HS1.out, Hx1.out, Hx2.out, Hx3.out, Hx4.out] at HE
    rw [HS0.out] at hz0 ⊢
    rw [Hx1.out] at D2 s1
    rw [Hx2.out] at CFa hfl
    rw [Hx3.out] at D10 s3
    rw [Hx4.out] at D4 s4
    obtain ⟨nm, me, cr, pk, sz, pl⟩ := h
    dsimp only at hcr hnm HE hle D4
    unfold Hd.val at CFa
    unfold Hd.cells at CFa hcl
    dsimp only at CFa hcl
    have k0 := hcl 0 _ rfl
    have k1 := hcl 1 _ rfl
    have k2 := hcl 2 _ rfl
    have k3 := hcl 3 _ rfl
    have k4 := hcl 4 _ rfl
    have k5 := hcl 5 _ rfl
    simp only [Nat.add_zero] at k0
    have hov1 : ¬ 9223372036854775807 < S0.size + (46 + nm.size) := by omega
    have hov2 : ¬ 9223372036854775807 < 46 + nm.size := by omega
    have hov3 : ¬ 9223372036854775807 < 4 + 2 + 26 + 10 + 4 + nm.size := by omega
    have hov4 : ¬ 9223372036854775807 < S0.size + (4 + 2 + 26 + 10 + 4 + nm.size) := by omega
    have HBn := Qf (Blk.new wr 27 #[.string nm, .int .i64 me, .int .u32 (cr : Int), .int .i64 pk, .int .i64 sz, .int .i64 pl])
    have HBa := Qf (HBl.out.alloc HBl.out.size (.cells #[.string nm, .int .i64 me, .int .u32 (cr : Int), .int .i64 pk, .int .i64 sz, .int .i64 pl] 27))
    clear hcl hbl hjL hmem hsn HBl Hh HS0 Hx1 Hx2 Hx3 Hx4 hz0 hle
    go_upto_region 5 with fail
    obtain ⟨G, HG⟩ := Qi (wr.heap.size)
    rw [HG.out] at HBn ⊢
    obtain ⟨w2, HW2⟩ := Qi (wr.alloc (.cells #[.string nm, .int .i64 me, .int .u32 (cr : Int), .int .i64 pk, .int .i64 sz, .int .i64 pl] 27))
    rw [HW2.out] at HBa HBn ⊢
    clear HW2 k0 k1 k2 k3 k4 k5
    have HS : Hid (∀ W, Below w2.heap.size w2 W -> W.cell? ⟨G, 0, none⟩ = some (.string nm) /\ W.cell? ⟨G, 1, none⟩ = some (.int .i64 me) /\ W.cell? ⟨G, 2, none⟩ = some (.int .u32 (cr : Int)) /\ W.cell? ⟨G, 3, none⟩ = some (.int .i64 pk) /\ W.cell? ⟨G, 4, none⟩ = some (.int .i64 sz) /\ W.cell? ⟨G, 5, none⟩ = some (.int .i64 pl)) := fun W hb => by
     have h := HBn.out.below hb HBn.out.lt
     exact ⟨h.cell 0, h.cell 1, h.cell 2, h.cell 3, h.cell 4, h.cell 5⟩
    obtain ⟨k0, k1, k2, k3, k4, k5⟩ := HS.out w2.drew ((Below.refl _ _).drew)
    go_region_held3 (fun W => W.cell? ⟨G, 0, none⟩ = some (.string nm) /\ W.cell? ⟨G, 1, none⟩ = some (.int .i64 me) /\ W.cell? ⟨G, 2, none⟩ = some (.int .u32 (cr : Int)) /\ W.cell? ⟨G, 3, none⟩ = some (.int .i64 pk) /\ W.cell? ⟨G, 4, none⟩ = some (.int .i64 sz) /\ W.cell? ⟨G, 5, none⟩ = some (.int .i64 pl))
     (first | (refine HS.out _ ?_; (repeat' (first | with_reducible exact Below.refl _ _ | with_reducible assumption | with_reducible apply Below.drew | with_reducible apply below_al))))
     (first
      | (go_at_call 30; refine (D2.out _).mono ?_; rintro e w3 ⟨rfl, hb3⟩; have HB3 : Below w2.heap.size w2 w3 := bthen (by (repeat' (first | with_reducible exact Below.refl _ _ | with_reducible assumption | with_reducible apply Below.drew | with_reducible apply below_al))) hb3; clear hb3)
      | (go_at_call 31; refine (CFa.out _).mono ?_; rintro e w3 ⟨rfl, hb3⟩; have HB3 : Below w2.heap.size w2 w3 := bthen (by (repeat' (first | with_reducible exact Below.refl _ _ | with_reducible assumption | with_reducible apply Below.drew | with_reducible apply below_al))) hb3; clear hb3)
      | (go_at_call 32; refine (D10.out _).mono ?_; rintro e w3 ⟨rfl, hb3⟩; have HB3 : Below w2.heap.size w2 w3 := bthen (by (repeat' (first | with_reducible exact Below.refl _ _ | with_reducible assumption | with_reducible apply Below.drew | with_reducible apply below_al))) hb3; clear hb3)
      | (go_at_call 33; refine (D4.out _).mono ?_; rintro e w3 ⟨rfl, hb3⟩; have HB3 : Below w2.heap.size w2 w3 := bthen (by (repeat' (first | with_reducible exact Below.refl _ _ | with_reducible assumption | with_reducible apply Below.drew | with_reducible apply below_al))) hb3; clear hb3))
    all_goals
     go_wp2_with fail
     go_roundw
     case rel => exact ⟨j + 1, by omega, by go_num, by rw [HE.out, HS1.out], Qf (bthen HBa.out (by (repeat' (first | with_reducible exact Below.refl _ _ | with_reducible assumption | with_reducible apply Below.drew | with_reducible apply below_al))))⟩
     case measure => simp [intOf]; omega
  . obtain rfl : j = M := by omega
    have dj : decide ((j : Int) < (j : Int)) = false := Qh (by omega)
    have htk : idxH (L.take j) = idxH L := by rw [<- HM.out, List.take_length]
    have hzS : (⟨(idxH (L.take j)).toArray⟩ : ByteArray).size = (idxH L).length := by show (idxH (L.take j)).toArray.size = _; rw [List.size_toArray, htk]
    have HE : Hid ((⟨(idxH (L.take j)).toArray⟩ : ByteArray) ++ ⟨#[80, 75, 5, 6]⟩ ++ putB 0 4 ++ putB (j : Int) 2 ++ putB (j : Int) 2 ++ putB ((idxH L).length : Int) 4 ++ putB at' 4 ++ putB 0 2 = ⟨(indexL L at').toArray⟩) := by
     show _ = _
     unfold indexL endL putB fldL
     rw [htk, HM.out]
     apply ByteArray.ext
     apply Array.ext'
     simp only [ByteArray.data_append, Array.toList_append, List.flatMap_cons, List.flatMap_nil, List.append_nil, List.append_assoc]
    have s0 := putB_size 0 4
    have s1 := putB_size (j : Int) 2
    have s3 := putB_size ((idxH L).length : Int) 4
    have s4 := putB_size at' 4
    have s5 := putB_size 0 2
    obtain ⟨IX, HIX⟩ := Qi ((⟨(indexL L at').toArray⟩ : ByteArray))
    obtain ⟨S0, HS0⟩ := Qi ((⟨(idxH (L.take j)).toArray⟩ : ByteArray))
    rw [HIX.out] at HE
    rw [HS0.out] at HE hzS ⊢
    rw [<- hzS] at HE s3 ht
    have D0 := Qf (C4.out 0)
    have D1 := Qf (C2.out (j : Int))
    have D3 := Qf (C4.out (S0.size : Int))
    have D4 := Qf (C4.out at')
    have D5 := Qf (C2.out 0)
    obtain ⟨y0, Hy0⟩ := Qi (putB 0 4)
    obtain ⟨y1, Hy1⟩ := Qi (putB (j : Int) 2)
    obtain ⟨y3, Hy3⟩ := Qi (putB (S0.size : Int) 4)
    obtain ⟨y4, Hy4⟩ := Qi (putB at' 4)
    obtain ⟨y5, Hy5⟩ := Qi (putB 0 2)
    rw [Hy0.out, Hy1.out, Hy3.out, Hy4.out, Hy5.out] at HE
    rw [Hy0.out] at D0 s0
    rw [Hy1.out] at D1 s1
    rw [Hy3.out] at D3 s3
    rw [Hy4.out] at D4 s4
    rw [Hy5.out] at D5 s5
    have o1 : ¬ 9223372036854775807 < S0.size + 4 := by omega
    have o2 : ¬ 9223372036854775807 < S0.size + 4 + 4 := by omega
    have o3 : ¬ 9223372036854775807 < S0.size + 4 + 4 + 2 := by omega
    have o4 : ¬ 9223372036854775807 < S0.size + 4 + 4 + 2 + 2 := by omega
    have o5 : ¬ 9223372036854775807 < S0.size + 4 + 4 + 2 + 2 + 4 := by omega
    have o6 : ¬ 9223372036854775807 < S0.size + 4 + 4 + 2 + 2 + 4 + 4 := by omega
    have o7 : ¬ 9223372036854775807 < S0.size + 4 + 4 + 2 + 2 + 4 + 4 + 2 := by omega
    clear hzS htk HS0 Hy0 Hy1 Hy3 Hy4 Hy5
    go_wp2_with fail
    refine (D0.out _).mono ?_
    rintro e v0 ⟨rfl, hb0⟩
    have HB1 := Qf (bthen HBl.out hb0)
    clear hb0
    go_wp2_with fail
    refine (D1.out _).mono ?_
    rintro e v1 ⟨rfl, hb1⟩
    have HB2 := Qf (bthen HB1.out hb1)
    clear hb1
    go_wp2_with fail
    refine (D1.out _).mono ?_
    rintro e v2 ⟨rfl, hb2⟩
    have HB3 := Qf (bthen HB2.out hb2)
    clear hb2
    go_wp2_with fail
    refine (D3.out _).mono ?_
    rintro e v3 ⟨rfl, hb3⟩
    have HB4 := Qf (bthen HB3.out hb3)
    clear hb3
    go_wp2_with fail
    refine (D4.out _).mono ?_
    rintro e v4 ⟨rfl, hb4⟩
    have HB5 := Qf (bthen HB4.out hb4)
    clear hb4
    go_wp2_with fail
    refine (D5.out _).mono ?_
    rintro e v5 ⟨rfl, hb5⟩
    have HB6 := Qf (bthen HB5.out hb5)
    clear hb5
    go_wp2_with fail
    go_ret
    exact ⟨by rw [HIX.out, <- HE.out]; rfl, HB6.out⟩
theorem half_lt (x : Nat) (hx : x < 4294967296) : half x < 4294967296 := by
 unfold half
 split
 . exact Nat.xor_lt_two_pow (n := 32) (by omega) (by omega)
 . omega
def halves : Nat -> Nat -> Nat
 | 0, x => x
 | k + 1, x => half (halves k x)
def dbit (l : List UInt8) (i : Nat) : Bool := (l.getD (i / 8) 0).toNat / 2 ^ (i % 8) % 2 == 1
def reg (l : List UInt8) : Nat -> Nat
 | 0 => 4294967295
 | i + 1 => half (reg l i ^^^ (dbit l i).toNat)
def pb (k : Nat) : Bool := 4374732215 / 2 ^ (32 - k) % 2 == 1
def first (l : List UInt8) (k j : Nat) : Bool := if j < k then dbit l j ^^ decide (j < 32) else false
def bcell (f : Nat -> Bool) (i : Nat) : Value := .bool (f i)
theorem dbit_go (s : ByteArray) (k : Nat) (h : k / 8 < s.size) : (((s[k / 8].toNat : Int) / 2 ^ (k % 8)).tmod 2 == 1) = dbit s.data.toList k := by
 unfold dbit
 have e : s.data.toList.getD (k / 8) 0 = s[k / 8] := by
  rw [List.getD_eq_getElem?_getD, List.getElem?_eq_getElem (by simpa using h)]
  rfl
 rw [e]
 have e2 : ((s[k / 8].toNat : Int) / 2 ^ (k % 8)) = ((s[k / 8].toNat / 2 ^ (k % 8) : Nat) : Int) := by simp
 rw [e2]
 have e3 : (((s[k / 8].toNat / 2 ^ (k % 8) : Nat) : Int)).tmod 2 = ((s[k / 8].toNat / 2 ^ (k % 8) % 2 : Nat) : Int) := rfl
 rw [e3, Bool.eq_iff_iff]
 simp only [beq_iff_eq]
 omega
theorem dbit_out (l : List UInt8) (k : Nat) (h : l.length <= k / 8) : dbit l k = false := by
 unfold dbit
 rw [List.getD_eq_getElem?_getD, List.getElem?_eq_none h]
 simp
theorem first_set (l : List UInt8) (k : Nat) (b : Bool) (hb : b = (dbit l k ^^ decide (k < 32))) : (fun i => if i = k then .bool b else bcell (first l k) i) = bcell (first l (k + 1)) := by
 funext i
 unfold bcell first
 by_cases h : i = k
 . subst h; rw [if_pos rfl, if_pos (by omega), hb]
 . rw [if_neg h]
   by_cases h2 : i < k
   . rw [if_pos h2, if_pos (by omega)]
   . rw [if_neg h2, if_neg (by omega)]
theorem first_set2 (l : List UInt8) (k : Nat) (b c : Bool) (hb : b = (dbit l k ^^ decide (k < 32))) : (fun i => if i = k then .bool b else if i = k then .bool c else bcell (first l k) i) = bcell (first l (k + 1)) := by
 rw [<- first_set l k b hb]
 funext i
 by_cases h : i = k
 . rw [if_pos h, if_pos h]
 . rw [if_neg h, if_neg h, if_neg h]
theorem data_length (s : ByteArray) : s.data.toList.length = s.size := by simp
def RowAt (l : List UInt8) (n i : Nat) (f : Nat -> Bool) : Prop := ∀ j, i <= j -> j < n -> f j = ((reg l i).testBit (j - i) ^^ dbit l j)
def turnIn (f : Nat -> Bool) (i k j : Nat) : Bool := f j ^^ (decide (i <= j) && decide (j < i + k) && pb (j - i))
theorem testBit_ones (j : Nat) : (4294967295 : Nat).testBit j = decide (j < 32) := by
 have h1 : (4294967295 : Nat) = 2 ^ 32 - 1 := by decide
 rw [h1, Nat.testBit_two_pow_sub_one]
theorem rowAt_first (l : List UInt8) (n : Nat) : RowAt l n 0 (first l n) := by
 intro j _ hj
 unfold first reg
 rw [if_pos hj, Nat.sub_zero, testBit_ones, Bool.xor_comm]
theorem pb_poly : ∀ j, j < 32 -> pb (j + 1) = (0xedb88320 : Nat).testBit j := by decide +kernel
theorem poly_out (j : Nat) (h : 32 <= j) : (0xedb88320 : Nat).testBit j = false :=
 Nat.testBit_lt_two_pow (Qb (show (0xedb88320 : Nat) < 2 ^ 32 by decide) (Nat.pow_le_pow_right (by decide) h))
theorem reg_succ_bit (l : List UInt8) (i j : Nat) : (reg l (i + 1)).testBit j = ((reg l i).testBit (j + 1) ^^ (((reg l i).testBit 0 ^^ dbit l i) && (0xedb88320 : Nat).testBit j)) := by
 have h2 : (reg l i ^^^ (dbit l i).toNat) / 2 = reg l i / 2 := by
  apply Nat.eq_of_testBit_eq
  intro m
  rw [Nat.testBit_div_two, Nat.testBit_div_two, Nat.testBit_xor]
  cases dbit l i
  . simp
  . have : (1 : Nat).testBit (m + 1) = false := by rw [Nat.testBit_succ]; simp
    simp [this]
 have h3 : ((reg l i ^^^ (dbit l i).toNat) % 2 = 1) ↔ ((reg l i).testBit 0 ^^ dbit l i) = true := by
  have : (reg l i ^^^ (dbit l i).toNat).testBit 0 = ((reg l i).testBit 0 ^^ dbit l i) := by
   rw [Nat.testBit_xor]
   cases dbit l i <;> simp
  rw [<- this, Nat.testBit_zero]
  simp
 show (half (reg l i ^^^ (dbit l i).toNat)).testBit j = _
 unfold half
 rw [h2]
 by_cases h : ((reg l i).testBit 0 ^^ dbit l i) = true
 . rw [if_pos (h3.2 h), Nat.testBit_xor, Nat.testBit_div_two, h]
   simp
 . rw [if_neg (fun h4 => h (h3.1 h4)), Nat.testBit_div_two]
   simp only [Bool.not_eq_true] at h
   rw [h]
   simp
theorem RowAt.skip {l : List UInt8} {n i : Nat} {f : Nat -> Bool} (h : RowAt l n i f) (hi : i < n) (hf : f i = false) : RowAt l n (i + 1) f := by
 intro j hj hn
 have h0 := h i (Qa _) hi
 rw [hf, Nat.sub_self] at h0
 rw [h j (by omega) hn, reg_succ_bit, <- h0]
 have : j - (i + 1) + 1 = j - i := by omega
 rw [this]
 simp
theorem RowAt.flip {l : List UInt8} {n i : Nat} {f : Nat -> Bool} (h : RowAt l n i f) (hi : i < n) (hf : f i = true) : RowAt l n (i + 1) (turnIn f i 33) := by
 intro j hj hn
 have h0 := h i (Qa _) hi
 rw [hf, Nat.sub_self] at h0
 unfold turnIn
 rw [h j (by omega) hn, reg_succ_bit, <- h0]
 have e : j - (i + 1) + 1 = j - i := by omega
 rw [e]
 by_cases h33 : j < i + 33
 . have e2 : j - i = j - (i + 1) + 1 := by omega
   have e3 : pb (j - i) = (0xedb88320 : Nat).testBit (j - (i + 1)) := by rw [e2]; exact pb_poly _ (by omega)
   rw [e3]
   cases (reg l i).testBit (j - i) <;> cases dbit l j <;> simp [h33, show i <= j by omega]
 . rw [poly_out _ (by omega)]
   simp [h33]
theorem turnIn_zero (f : Nat -> Bool) (i : Nat) : turnIn f i 0 = f := by
 funext j
 unfold turnIn
 have : (decide (i <= j) && decide (j < i + 0)) = false := by
  by_cases h : i <= j
  . simp [h]
  . simp [h]
 rw [this]
 simp
theorem turnIn_skip (f : Nat -> Bool) (i k : Nat) (h : pb k = false) : turnIn f i (k + 1) = turnIn f i k := by
 funext j
 unfold turnIn
 by_cases e : j = i + k
 . subst e
   rw [Nat.add_sub_cancel_left, h]
   simp
 . have : decide (j < i + (k + 1)) = decide (j < i + k) := by
    rw [decide_eq_decide]; omega
   rw [this]
theorem turnIn_turn (f : Nat -> Bool) (i k : Nat) (h : pb k = true) : (fun j => if j = i + k then .bool (!turnIn f i k (i + k)) else bcell (turnIn f i k) j) = bcell (turnIn f i (k + 1)) := by
 funext j
 unfold bcell turnIn
 by_cases e : j = i + k
 . subst e
   rw [if_pos rfl, Nat.add_sub_cancel_left, h]
   simp
 . rw [if_neg e]
   have : decide (j < i + (k + 1)) = decide (j < i + k) := by
    rw [decide_eq_decide]; omega
   rw [this]
theorem pb_go : ∀ c : Nat, c < 33 -> (bits .and .i64 ((4374732215 : Int) / 2 ^ (32 - c)) 1 == 1) = pb c := by decide +kernel
def gat (g : Nat -> Bool) : Nat -> Nat
 | 0 => 0
 | k + 1 => gat g k + if g k then 2 ^ k else 0
theorem gat_lt (g : Nat -> Bool) (k : Nat) : gat g k < 2 ^ k := by
 induction k with
 | zero => exact Nat.zero_lt_one
 | succ k ih =>
  simp only [gat, Nat.pow_succ]
  split <;> omega
theorem gat_bit (g : Nat -> Bool) (k m : Nat) : (gat g k).testBit m = (decide (m < k) && g m) := by
 induction k with
 | zero => simp [gat]
 | succ k ih =>
  simp only [gat]
  have hl := gat_lt g k
  by_cases hg : g k = true
  . rw [if_pos hg]
    have h1 := Nat.two_pow_add_eq_or_of_lt hl 1
    rw [Nat.mul_one] at h1
    rw [Nat.add_comm, h1, Nat.testBit_or, ih, Nat.testBit_two_pow]
    by_cases e : k = m
    . subst e; simp [hg]
    . by_cases h2 : m < k
      . simp [h2, show m < k + 1 by omega, e]
      . simp [h2, show ¬ m < k + 1 by omega, e]
  . rw [if_neg hg, Nat.add_zero, ih]
    by_cases e : k = m
    . subst e; simp [hg]
    . by_cases h2 : m < k
      . simp [h2, show m < k + 1 by omega]
      . simp [h2, show ¬ m < k + 1 by omega]
theorem gat_not (g : Nat -> Bool) (x : Nat) (hx : x < 4294967296) (h : ∀ m, m < 32 -> g m = !x.testBit m) : gat g 32 = 4294967295 - x := by
 rw [<- not_nat x hx]
 apply Nat.eq_of_testBit_eq
 intro m
 rw [gat_bit, Nat.testBit_xor, testBit_ones]
 by_cases hm : m < 32
 . simp [hm, h m hm]
 . have : x.testBit m = false := Nat.testBit_lt_two_pow (Qb (show x < 2 ^ 32 by omega) (Nat.pow_le_pow_right (by decide) (by omega)))
   simp [hm, this]
theorem gat_add (x j : Nat) (hx : x < 2 ^ j) (hj : j < 32) : ((x : Int) + 2 ^ j % 4294967296) % 4294967296 = ((x + 2 ^ j : Nat) : Int) := by
 have h1 : 2 ^ (j + 1) <= 2 ^ 32 := Nat.pow_le_pow_right (by decide) (by omega)
 rw [Nat.pow_succ] at h1
 have h2 : (2 : Nat) ^ 32 = 4294967296 := by decide
 have h3 : ((2 : Int) ^ j) = ((2 ^ j : Nat) : Int) := by simp
 rw [h3]
 generalize 2 ^ j = p at *
 omega
theorem half_xor (x y : Nat) : half (x ^^^ 2 * y) = half x ^^^ y := by
 have e0 : ∀ z : Nat, (2 * y).testBit (z + 1) = y.testBit z := fun z => by
  rw [Nat.testBit_succ]; congr 1; omega
 have e1 : (x ^^^ 2 * y) / 2 = x / 2 ^^^ y := by
  apply Nat.eq_of_testBit_eq
  intro m
  rw [Nat.testBit_div_two, Nat.testBit_xor, Nat.testBit_xor, Nat.testBit_div_two, e0]
 have e2 : (x ^^^ 2 * y) % 2 = x % 2 := by
  have h1 : (x ^^^ 2 * y).testBit 0 = x.testBit 0 := by
   rw [Nat.testBit_xor]
   have : (2 * y).testBit 0 = false := by simp
   rw [this, Bool.xor_false]
  rw [Nat.testBit_zero, Nat.testBit_zero, decide_eq_decide] at h1
  omega
 unfold half
 rw [e1, e2]
 split
 . rw [Nat.xor_assoc, Nat.xor_assoc, Nat.xor_comm y]
 . rfl
theorem halves_xor (k x y : Nat) : halves k (x ^^^ 2 ^ k * y) = halves k x ^^^ y := by
 induction k generalizing y with
 | zero => simp [halves]
 | succ k ih =>
  have e : 2 ^ (k + 1) * y = 2 ^ k * (2 * y) := by rw [Nat.pow_succ, Nat.mul_assoc]
  rw [e]
  show half (halves k _) = half (halves k x) ^^^ y
  rw [ih, half_xor]
theorem byte_bits (b t : Nat) : (b / 2 ^ t) ^^^ (b / 2 ^ t % 2 == 1).toNat = 2 * (b / 2 ^ (t + 1)) := by
 have h : b / 2 ^ (t + 1) = b / 2 ^ t / 2 := by rw [Nat.pow_succ, Nat.div_div_eq_div_mul]
 rw [h]
 generalize b / 2 ^ t = q
 apply Nat.eq_of_testBit_eq
 intro m
 rcases m with _ | m
 . rw [Nat.testBit_xor]
   have h1 : q.testBit 0 = (q % 2 == 1) := by rw [Nat.testBit_zero]; rfl
   have h2 : (2 * (q / 2)).testBit 0 = false := by simp
   rw [h1, h2]
   cases (q % 2 == 1) <;> simp
 . rw [Nat.testBit_xor]
   have h3 : (q % 2 == 1).toNat.testBit (m + 1) = false := by
    cases (q % 2 == 1)
    . simp
    . rw [Nat.testBit_succ]; simp
   have e0 : (2 * (q / 2)).testBit (m + 1) = (q / 2).testBit m := by
    rw [Nat.testBit_succ]; congr 1; omega
   rw [h3, e0, Nat.testBit_div_two, Bool.xor_false]
theorem reg_part (l : List UInt8) (m t : Nat) (ht : t <= 8) (b : Nat) (hb : b = (l.getD m 0).toNat) : reg l (8 * m + t) = halves t (reg l (8 * m) ^^^ b) ^^^ b / 2 ^ t := by
 induction t with
 | zero => simp [halves, Nat.xor_assoc]
 | succ t ih =>
  have hd : dbit l (8 * m + t) = (b / 2 ^ t % 2 == 1) := by
   unfold dbit
   have e1 : (8 * m + t) / 8 = m := by omega
   have e2 : (8 * m + t) % 8 = t := by omega
   rw [e1, e2, hb]
  show half (reg l (8 * m + t) ^^^ (dbit l (8 * m + t)).toNat) = half (halves t _) ^^^ _
  rw [ih (by omega), hd, Nat.xor_assoc, byte_bits, half_xor]
theorem crcStep_eq (C : Nat) (b : UInt8) : crcStep C b = halves 8 (C ^^^ b.toNat) := by
 have hC : C ^^^ b.toNat = (C % 256 ^^^ b.toNat) ^^^ 2 ^ 8 * (C / 256) := by
  have h1 : C = (2 ^ 8 * (C / 256)) ^^^ (C % 256) := by
   have h3 : C % 256 < 2 ^ 8 := by omega
   have h2 := Nat.two_pow_add_eq_or_of_lt h3 (C / 256)
   have h4 : 2 ^ 8 * (C / 256) ||| (C % 256) = 2 ^ 8 * (C / 256) ^^^ (C % 256) := by
    apply Nat.eq_of_testBit_eq
    intro j
    rw [Nat.testBit_or, Nat.testBit_xor, Nat.testBit_two_pow_mul]
    by_cases hj : 8 <= j
    . have : (C % 256).testBit j = false := Nat.testBit_lt_two_pow (Qb h3 (Nat.pow_le_pow_right (by decide) hj))
      simp [this]
    . simp [hj]
   rw [<- h4, <- h2]
   omega
  have h5 : C ^^^ b.toNat = ((2 ^ 8 * (C / 256)) ^^^ (C % 256)) ^^^ b.toNat := by rw [<- h1]
  rw [h5, Nat.xor_assoc, Nat.xor_comm]
 rw [hC, halves_xor]
 rfl
theorem reg_byte (l : List UInt8) (m : Nat) (hm : m < l.length) : reg l (8 * (m + 1)) = crcStep (reg l (8 * m)) l[m] := by
 have hb : l.getD m 0 = l[m] := by rw [List.getD_eq_getElem?_getD, List.getElem?_eq_getElem hm]; rfl
 have h := reg_part l m 8 (Qa _) l[m].toNat (by rw [hb])
 have h0 : l[m].toNat / 2 ^ 8 = 0 := by have := l[m].toNat_lt; omega
 rw [h0, Nat.xor_zero] at h
 have e : 8 * (m + 1) = 8 * m + 8 := by omega
 rw [e, h]
 exact (crcStep_eq _ _).symm
theorem reg_lt (l : List UInt8) (i : Nat) : reg l i < 4294967296 := by
 induction i with
 | zero => exact (by decide : (4294967295 : Nat) < 4294967296)
 | succ i ih =>
  refine half_lt _ (Nat.xor_lt_two_pow (n := 32) ih ?_)
  cases dbit l i <;> decide
theorem reg_all (l : List UInt8) : reg l (8 * l.length) = crcL 4294967295 l := by
 have h : ∀ m, m <= l.length -> reg l (8 * m) = crcL 4294967295 (l.take m) := by
  intro m
  induction m with
  | zero => intro _; rfl
  | succ m ih => intro hm; rw [reg_byte l m (by omega), crcL_take_succ _ _ _ (by omega), ih (by omega)]
 rw [h _ (Qa _), List.take_length]
theorem ref_end (l : List UInt8) (n : Nat) (f : Nat -> Bool) (h : RowAt l n (8 * l.length) f) (hn : 8 * l.length + 31 < n) : gat (fun m => !f (8 * l.length + m)) 32 = crcOf 0 l := by
 have hr := reg_lt l (8 * l.length)
 unfold crcOf
 rw [Nat.sub_zero, <- reg_all]
 refine gat_not _ _ hr fun m hm => ?_
 rw [h (8 * l.length + m) (by omega) (by omega), Nat.add_sub_cancel_left, dbit_out l _ (by omega), Bool.xor_false]
theorem info_boolc : (Try.prog.info? 4).map (fun i => (i.zero, i.size, i.bytes)) = some (some (.bool false), 1, 1) := by kernel_rfl
set_option maxHeartbeats 2000000 in
theorem refCrc_any (s : ByteArray) (w : World) (hs : s.size <= 65536) :
 Calls Try.prog 41 #[.string s] w fun e w' => e = .returned (.int .u32 (crcOf 0 s.data.toList : Int)) /\ Below w.heap.size w w' := by
 obtain ⟨n, hn⟩ : ∃ n, n = 8 * s.size + 32 := ⟨_, rfl⟩
 have hnI : 8 * (s.size : Int) + 32 = (n : Int) := by omega
 have hmk := run_make_f Try.underlying83 info_boolc rfl n _ rfl (by omega) (by omega)
 have Hn := Qf hn
 have hn1 : n <= 524320 := by omega
 clear hn
 go_enter Try.func41, Try.ntmps41
 go_wp2_with fail
 go_loopw [4, 16] (fun _ i wr => ∃ k : Nat, k <= n /\ i = .int .i64 (k : Int) /\ Blk wr w.heap.size 4 (fcells n (bcell (first s.data.toList k))) /\ Below w.heap.size w wr)
  (fun _ i _ => n - (intOf i).toNat)
 case atStart => exact ⟨0, by omega, rfl, Blk.new _ _ _, (Below.refl _ _).alloc (Qa _) _⟩
 case round =>
  clear hmk
  obtain ⟨k, hk, rfl, hB, hb⟩ := hrel
  have hb0 := hb
  by_cases hlt : k < n
  . have hf := hB.frozen k
    have hc := hB.cell k
    rw [fcells_at _ _ _ hlt] at hc
    by_cases h8 : k < 8 * s.size
    . have h8' : k / 8 < s.size := by omega
      have hd := dbit_go s k h8'
      have H1 := fun v => hB.set_ k v
      have hb1 := fun v => hb.setCell (p := ⟨w.heap.size, k, none⟩) (Qa _) v
      by_cases h32 : k < 32
      . have H2 := fun u v => (H1 u).set_ k v
        have hb2 := fun u v => (hb1 u).setCell (p := ⟨w.heap.size, k, none⟩) (Qa _) v
        go_wp2_with fail
        go_roundw
        case rel =>
         refine ⟨k + 1, by omega, by go_num, ?_, hb2 _ _⟩
         rw [<- first_set2 s.data.toList k (!dbit s.data.toList k) (dbit s.data.toList k) (by simp [h32]), <- fcells_set, <- fcells_set]
         exact H2 _ _
        case measure => simp [intOf]; omega
      . go_wp2_with fail
        go_roundw
        case rel =>
         refine ⟨k + 1, by omega, by go_num, ?_, hb1 _⟩
         rw [<- first_set s.data.toList k (dbit s.data.toList k) (by simp [h32]), <- fcells_set]
         exact H1 _
        case measure => simp [intOf]; omega
    . have Hd := Qf (dbit_out s.data.toList k (by rw [data_length]; omega))
      have H1 := fun v => hB.set_ k v
      have hb1 := fun v => hb.setCell (p := ⟨w.heap.size, k, none⟩) (Qa _) v
      by_cases h32 : k < 32
      . have H2 := fun u v => (H1 u).set_ k v
        have hb2 := fun u v => (hb1 u).setCell (p := ⟨w.heap.size, k, none⟩) (Qa _) v
        go_wp2_with fail
        go_roundw
        case rel =>
         refine ⟨k + 1, by omega, by go_num, ?_, hb2 _ _⟩
         rw [<- first_set2 s.data.toList k true false (by simp [h32, Hd.out]), <- fcells_set, <- fcells_set]
         exact H2 _ _
        case measure => simp [intOf]; omega
      . go_wp2_with fail
        go_roundw
        case rel =>
         refine ⟨k + 1, by omega, by go_num, ?_, hb1 _⟩
         rw [<- first_set s.data.toList k false (by simp [h32, Hd.out]), <- fcells_set]
         exact H1 _
        case measure => simp [intOf]; omega
  . obtain rfl : k = n := by omega
    go_wp2_with fail
    clear hb
    go_loopw [5, 6] (fun i _ wr => ∃ (i' : Nat) (f : Nat -> Bool), i' <= 8 * s.size /\ i = .int .i64 (i' : Int) /\ RowAt s.data.toList k i' f /\ Blk wr w.heap.size 4 (fcells k (bcell f)) /\ Below w.heap.size w wr)
     (fun i _ _ => 8 * s.size - (intOf i).toNat)
    case atStart => exact ⟨0, first s.data.toList k, by omega, rfl, rowAt_first _ _, hB, hb0⟩
    case round =>
     clear hB hb0
     obtain ⟨i, f, hi, rfl, hrow, hB, hb⟩ := hrel
     have Hrow := Qf hrow
     clear hrow
     by_cases hlt2 : i < 8 * s.size
     . have hc := hB.cell i
       rw [fcells_at _ _ _ (by omega)] at hc
       unfold bcell at hc
       cases hfi : f i
       . rw [hfi] at hc
         have Hs := Qf (RowAt.skip Hrow.out (by omega) hfi)
         clear hfi
         go_wp2_with fail
         go_roundw
         case rel => exact ⟨i + 1, f, by omega, by go_num, Hs.out, hB, hb⟩
         case measure => simp [intOf]; omega
       . rw [hfi] at hc
         have Hs := Qf (RowAt.flip Hrow.out (by omega) hfi)
         clear hfi
         obtain ⟨wo, rfl⟩ : ∃ wo : World, wo = wr := ⟨_, rfl⟩
         have hsz : 8 * s.size + 32 = k := Hn.out.symm
         have hik : i + 32 < k := by omega
         clear hsz
         go_wp2_with fail
         clear hc
         go_loopw [6] (fun c wr => ∃ c' : Nat, c' <= 33 /\ c = .int .i64 (c' : Int) /\ Blk wr w.heap.size 4 (fcells k (bcell (turnIn f i c'))) /\ Below w.heap.size w wr)
          (fun c _ => 33 - (intOf c).toNat)
         case atStart => exact ⟨0, by omega, rfl, by rw [turnIn_zero]; exact hB, hb⟩
         case round =>
          clear hB hb
          obtain ⟨c, hc33, rfl, hB, hb⟩ := hrel
          by_cases hlt3 : c < 33
          . have hf := hB.frozen (i + c)
            have hc := hB.cell (i + c)
            rw [fcells_at _ _ _ (by omega)] at hc
            unfold bcell at hc
            have hpg := pb_go c hlt3
            cases hpb : pb c
            . rw [hpb] at hpg
              have Hp := Qf hpb
              clear hpb
              go_wp2_with fail
              go_roundw
              case rel => exact ⟨c + 1, by omega, by go_num, by rw [turnIn_skip _ _ _ Hp.out]; exact hB, hb⟩
              case measure => simp [intOf]; omega
            . rw [hpb] at hpg
              have Hp := Qf hpb
              have H1 := hB.set_ (i + c) (.bool (!turnIn f i c (i + c)))
              have hb1 := hb.setCell (p := ⟨w.heap.size, i + c, none⟩) (Qa _) (.bool (!turnIn f i c (i + c)))
              clear hpb
              go_wp2_with fail
              go_roundw
              case rel =>
               refine ⟨c + 1, by omega, by go_num, ?_, hb1⟩
               rw [<- turnIn_turn _ _ _ Hp.out, <- fcells_set]
               exact H1
              case measure => simp [intOf]; omega
          . obtain rfl : c = 33 := by omega
            go_wp2_with fail
            go_roundw
            case rel => exact ⟨i + 1, _, by omega, by go_num, Hs.out, hB, hb⟩
            case measure => simp [intOf]; omega
     . obtain rfl : i = 8 * s.size := by omega
       have hsz : 8 * s.size + 32 = k := Hn.out.symm
       have hik : 8 * s.size + 31 < k := by omega
       clear hsz
       go_wp2_with fail
       go_loop [7, 8] (fun x i => ∃ j : Nat, j <= 32 /\ i = .int .i64 (j : Int) /\ x = .int .u32 (gat (fun m => !f (8 * s.size + m)) j : Int))
        (fun _ i => 32 - (intOf i).toNat)
       case atStart => exact ⟨0, by omega, rfl, rfl⟩
       case round =>
        obtain ⟨j, hj, rfl, rfl⟩ := hrel
        have hg := gat_lt (fun m => !f (8 * s.size + m)) j
        have Hg : Hid (gat (fun m => !f (8 * s.size + m)) (j + 1) = gat (fun m => !f (8 * s.size + m)) j + if !f (8 * s.size + j) then 2 ^ j else 0) := rfl
        by_cases hlt4 : j < 32
        . have hc := hB.cell (8 * s.size + j)
          rw [fcells_at _ _ _ (by omega)] at hc
          unfold bcell at hc
          generalize gat (fun m => !f (8 * s.size + m)) j = x at *
          cases hfj : f (8 * s.size + j)
          . rw [hfj] at hc Hg
            clear hfj
            go_wp2_with fail
            go_round
            case rel => exact ⟨j + 1, by omega, by go_num, by rw [Hg.out, gat_add x j hg hlt4]; simp⟩
            case measure => simp [intOf]; omega
          . rw [hfj] at hc Hg
            clear hfj
            go_wp2_with fail
            go_round
            case rel => exact ⟨j + 1, by omega, by go_num, by rw [Hg.out]; simp⟩
            case measure => simp [intOf]; omega
        . obtain rfl : j = 32 := by omega
          have He := Qf (ref_end s.data.toList k f (by rw [data_length]; exact Hrow.out) (by rw [data_length]; exact hik))
          rw [data_length] at He
          go_wp2_with fail
          go_ret
          exact ⟨by rw [He.out]; rfl, hb⟩
theorem info_rfile : (Try.prog.info? 85).map (fun i => (i.zero, i.size, i.bytes)) = some (some (.agg #[.string ⟨#[]⟩, .string ⟨#[]⟩]), 2, 32) := by kernel_rfl
def OwnFr (w : World) (base : Nat) (v : Value) (L : List Fl) : Prop := w.ownsRow base 85 2 v L.length (flcells L)
theorem OwnFr.snoc {w : World} {base : Nat} {v : Value} {L : List Fl} {a b : ByteArray} (ho : w.ownsRow base 85 2 v (L.length + 1) (flcells L ++ [.string a, .string b])) : OwnFr w base v (L ++ [(a, b)]) := by
 unfold OwnFr
 rw [List.length_append, flcells_append]
 exact ho
theorem OwnFr.view {w : World} {base : Nat} {v : Value} {L : List Fl} (h : OwnFr w base v L) : ∃ a cap, v = .slice a L.length cap /\ FRow w a L := by
 have hlt := World.ownsRow.lt h
 have hc := fun g hg => World.ownsRow.cells h (g := g) hg
 rcases h.2 with ⟨rfl, h0⟩ | ⟨G, cap, cur, rfl, _⟩
 . exact ⟨none, 0, by rw [h0], fun k hk => by omega⟩
 . refine ⟨_, _, rfl, fun k hk => ⟨G, 0, rfl, (hlt G rfl).2, ?_, ?_⟩⟩
   . have e0 : ∀ j, (⟨G, 0, none⟩ : Addr).add j = ⟨G, j, none⟩ := fun j => by unfold Addr.add; split <;> simp_all
     have := hc G rfl (k * 2) _ (flcells_at L k hk).1
     rw [e0] at this
     rwa [Nat.zero_add]
   . have e0 : ∀ j, (⟨G, 0, none⟩ : Addr).add j = ⟨G, j, none⟩ := fun j => by unfold Addr.add; split <;> simp_all
     have := hc G rfl (k * 2 + 1) _ (flcells_at L k hk).2
     rw [e0] at this
     rwa [Nat.zero_add]
theorem OwnFr.below {w w' : World} {base B : Nat} {v : Value} {L : List Fl} (h : OwnFr w base v L) (hb : Below B w w') (hB : w.heap.size <= B) : OwnFr w' base v L := by
 have hlt := World.ownsRow.lt h
 refine ⟨h.1, ?_⟩
 rcases h.2 with h2 | ⟨g, cap, cur, rfl, h3, h4, h5⟩
 . exact .inl h2
 . exact .inr ⟨g, cap, cur, rfl, h3, (hb.block g (Qb (hlt g rfl).2 hB)).trans h4, h5⟩
theorem OwnFr.empty (w : World) (base : Nat) (hb : base <= w.heap.size) : OwnFr (w.alloc (.cells #[] 85)) base (.slice (some ⟨w.heap.size, 0, none⟩) 0 0) [] :=
 ⟨rfl, .inr ⟨w.heap.size, 0, #[], rfl, hb, Blk.new w _ _, Qa _, Nat.zero_le _, rfl, rfl⟩⟩
set_option maxHeartbeats 4000000 in
theorem told_any (L : List Fl) (a : Option Addr) (cap : Nat) (hL : L.length <= 100000000) (w : World) (hr : FRow w a L) :
 Calls Try.prog 18 #[.slice a L.length cap] w fun e w' => Below w.heap.size w w' /\ ∃ v, e = .returned v /\ OwnFr w' w.heap.size v L := by
 have HR := Qf hr
 obtain ⟨M, HM⟩ := Qi (L.length)
 rw [HM.out] at hL ⊢
 have HO0 : Hid (OwnFr (w.alloc (.cells #[] 85)) w.heap.size (.slice (some ⟨w.heap.size, 0, none⟩) 0 0) (L.take 0)) := OwnFr.empty w _ (Qa _)
 have HBa := Qf ((Below.refl w.heap.size w).alloc (Qa _) (.cells #[] 85))
 obtain ⟨w1, HW1⟩ := Qi (w.alloc (.cells #[] 85))
 rw [HW1.out] at HO0 HBa
 clear hr
 go_enter Try.func18, Try.ntmps18
 go_wp2_with fail
 rw [HW1.out]
 go_loopw [3, 9] (fun v_ j_ wq => ∃ (j : Nat), j <= M /\ j_ = .int .i64 (j : Int) /\ Hid (OwnFr wq w.heap.size v_ (L.take j)) /\ Hid (Below w.heap.size w wq)) (fun _ j _ => M - (intOf j).toNat)
 case atStart => exact ⟨0, Nat.zero_le _, rfl, HO0, HBa⟩
 case round =>
  clear HO0 HBa
  obtain ⟨j, hjM, rfl, HO, HB⟩ := hrel
  by_cases hlt : j < M
  . have hln : (L.take j).length = j := by rw [List.length_take, HM.out]; omega
    obtain ⟨oa, ocap, rfl, -⟩ := HO.out.view
    rw [hln] at HO ⊢
    have HLn := Qf hln
    have dj : decide ((j : Int) < (M : Int)) = true := Qg (by omega)
    have djb : decide (j < M) = true := Qg (by omega)
    have hjI : (j : Int) < (M : Int) := by omega
    have hjL : j < L.length := by rw [HM.out]; exact hlt
    obtain ⟨b, off, rfl, hbl, c0, c1⟩ := (HR.out.below HB.out (Qa _)) j hjL
    have hsn : Hid (L.take (j + 1) = L.take j ++ [((L[j]).1, (L[j]).2)]) := by
     show _ = _
     rw [List.take_succ_eq_append_getElem hjL]
    obtain ⟨⟨nm, dt⟩, Hf⟩ : ∃ R, Hid (L[j] = R) := ⟨_, Qf (Eq.refl _)⟩
    rw [Hf.out] at c0 c1 hsn
    dsimp only at c0 c1 hsn
    have hal := HB.out.alloc HB.out.size (.cells #[.string nm, .string dt] 44)
    have hos := HO.out.below (below_al (Below.refl wr.heap.size wr) (.cells #[.string nm, .string dt] 44)) (Qa _)
    unfold OwnFr at hos
    rw [hln] at hos
    have HBn := Qf (Blk.new wr 44 #[.string nm, .string dt])
    clear hln hjL hbl Hf
    go_upto_region 5 with fail
    obtain ⟨G, HG⟩ := Qi (wr.heap.size)
    rw [HG.out] at HBn ⊢
    obtain ⟨w2, HW2⟩ := Qi (wr.alloc (.cells #[.string nm, .string dt] 44))
    rw [HW2.out] at HBn hal hos ⊢
    clear HW2 c0 c1
    have k0 : w2.cell? ⟨G, 0, none⟩ = some (.string nm) := HBn.out.cell 0
    have k1 : w2.cell? ⟨G, 1, none⟩ = some (.string dt) := HBn.out.cell 1
    have HBal := Qf hal
    have hbsw : w.heap.size <= w2.heap.size := hal.size
    have hone := fl_one nm dt
    clear hal HO HB
    go_wp2_with (first
     | (at_builtin; go_must (refine wpList_append_elem _ rfl (.tmp 13) (.tmp 15) rfl Try.underlying50 info_rfile rfl (by decide) w.heap.size (.slice oa j ocap) j (flcells (L.take j)) [.string nm, .string dt] hos rfl hone rfl rfl rfl ?_ ?_ hbsw ?_; (unfold maxLen; omega); omega; intro v8 w8 hown8 hg8; have HO8 := Qf hown8; have HB8 := Qf (HBal.out.trans (below_grown hos hg8 hbsw)); clear hown8 hg8))
     | fail)
    go_roundw
    case rel => exact ⟨j + 1, by omega, by go_num, (by show OwnFr _ _ _ _; rw [hsn.out]; exact OwnFr.snoc (by rw [HLn.out]; exact HO8.out)), HB8⟩
    case measure => simp [intOf]; omega
  . obtain rfl : j = M := by omega
    have dj : decide ((j : Int) < (j : Int)) = false := Qh (by omega)
    have hO2 := HO.out
    rw [List.take_of_length_le (by rw [HM.out]; exact Qa _)] at hO2
    have HO2 := Qf hO2
    clear hO2 HO
    go_wp2_with fail
    go_ret
    exact ⟨HB.out, _, rfl, HO2.out⟩
open Classical in
noncomputable def sameB (L1 L2 : List Fl) : Bool := decide (L1 = L2)
theorem bytes_eq {a b : ByteArray} : (a.toList == b.toList) = true ↔ a = b := by
 rw [ByteArray.toList_eq, ByteArray.toList_eq]
 constructor
 . intro h; exact ByteArray.ext (Array.ext' (by simpa using h))
 . rintro rfl; simp
theorem bytes_ne {a b : ByteArray} (h : a ≠ b) : (a.toList == b.toList) = false := by
 cases hh : (a.toList == b.toList) with
 | false => rfl
 | true => exact absurd (bytes_eq.1 hh) h
theorem list_next {L1 L2 : List Fl} {j : Nat} (h1 : j < L1.length) (h2 : j < L2.length) (h : L1.take j = L2.take j) (he : L1[j] = L2[j]) : L1.take (j + 1) = L2.take (j + 1) := by
 rw [List.take_succ_eq_append_getElem h1, List.take_succ_eq_append_getElem h2, h, he]
set_option maxHeartbeats 4000000 in
theorem same_any (L1 L2 : List Fl) (a1 a2 : Option Addr) (c1 c2 : Nat) (h1 : L1.length <= 100000000) (h2 : L2.length <= 100000000) (w : World) (r1 : FRow w a1 L1) (r2 : FRow w a2 L2) :
 Calls Try.prog 19 #[.slice a1 L1.length c1, .slice a2 L2.length c2] w fun e w' => Below w.heap.size w w' /\ e = .returned (.bool (sameB L1 L2)) := by
 classical
 have R1 := Qf r1
 have R2 := Qf r2
 have HB0 := Qf (Below.refl w.heap.size w)
 obtain ⟨M, HM⟩ := Qi (L1.length)
 obtain ⟨N, HN⟩ := Qi (L2.length)
 obtain ⟨z, HZ⟩ := Qi (sameB L1 L2)
 rw [HM.out] at h1 ⊢
 rw [HN.out] at h2 ⊢
 rw [HZ.out]
 clear r1 r2
 by_cases hmn : M = N
 . subst hmn
   have HS0 : Hid (L1.take 0 = L2.take 0) := rfl
   go_enter Try.func19, Try.ntmps19
   go_wp2_with fail
   go_loopw [13] (fun j_ wq => ∃ (j : Nat), j <= M /\ j_ = .int .i64 (j : Int) /\ Hid (L1.take j = L2.take j) /\ Hid (Below w.heap.size w wq)) (fun j _ => M - (intOf j).toNat)
   case atStart => exact ⟨0, Nat.zero_le _, rfl, HS0, HB0⟩
   case round =>
    clear HS0 HB0
    obtain ⟨j, hjM, rfl, HS, HB⟩ := hrel
    by_cases hlt : j < M
    . have dj : decide ((j : Int) < (M : Int)) = true := Qg (by omega)
      have djb : decide (j < M) = true := Qg (by omega)
      have hjI : (j : Int) < (M : Int) := by omega
      have hj1 : j < L1.length := by rw [HM.out]; exact hlt
      have hj2 : j < L2.length := by rw [HN.out]; exact hlt
      obtain ⟨b1, o1, rfl, hb1, p0, p1⟩ := (R1.out.below HB.out (Qa _)) j hj1
      obtain ⟨b2, o2, rfl, hb2, q0, q1⟩ := (R2.out.below HB.out (Qa _)) j hj2
      have HNx : Hid (L1[j] = L2[j] -> L1.take (j + 1) = L2.take (j + 1)) := fun he => list_next hj1 hj2 HS.out he
      have HNo : Hid (L1[j] ≠ L2[j] -> z = false) := fun he => by
       rw [<- HZ.out]
       unfold sameB
       rw [decide_eq_false_iff_not]
       rintro rfl
       exact he rfl
      obtain ⟨⟨x1, y1⟩, Hf1⟩ : ∃ R, Hid (L1[j] = R) := ⟨_, Qf (Eq.refl _)⟩
      obtain ⟨⟨x2, y2⟩, Hf2⟩ : ∃ R, Hid (L2[j] = R) := ⟨_, Qf (Eq.refl _)⟩
      rw [Hf1.out] at p0 p1 HNx HNo
      rw [Hf2.out] at q0 q1 HNx HNo
      dsimp only at p0 p1 q0 q1
      clear Hf1 Hf2 hj1 hj2 hb1 hb2
      by_cases hx : x1 = x2
      . by_cases hy : y1 = y2
        . have HS2 := Qf (HNx.out (by rw [hx, hy]))
          subst hx
          subst hy
          clear HNx HNo
          go_wp2_with fail
          go_quiet (fail)
          all_goals
           go_wp2_with fail
           go_roundw
           case rel => exact ⟨j + 1, by omega, by go_num, HS2, Qf (below_drewN HB.out _)⟩
           case measure => simp [intOf]; omega
        . have hz := HNo.out (fun h => by injection h with h h'; exact hy h')
          subst hz
          subst hx
          have hyb := bytes_ne hy
          clear HNx HNo
          go_wp2_with fail
          go_quiet (fail)
          all_goals
           go_wp2_with fail
           go_ret
           exact ⟨below_drewN HB.out _, rfl⟩
      . have hz := HNo.out (fun h => by injection h with h h'; exact hx h)
        subst hz
        have hxb := bytes_ne hx
        clear HNx HNo
        go_wp2_with fail
        go_quiet (fail)
        all_goals
         go_wp2_with fail
         go_ret
         exact ⟨below_drewN HB.out _, rfl⟩
    . obtain rfl : j = M := by omega
      have dj : decide ((j : Int) < (j : Int)) = false := Qh (by omega)
      have hz : z = true := by
       have := HS.out
       rw [List.take_of_length_le (by rw [HM.out]; exact Qa _), List.take_of_length_le (by rw [HN.out]; exact Qa _)] at this
       rw [<- HZ.out]
       unfold sameB
       rw [decide_eq_true_eq]
       exact this
      subst hz
      go_wp2_with fail
      go_ret
      exact ⟨HB.out, rfl⟩
 . have hz : z = false := by
    rw [<- HZ.out]
    unfold sameB
    rw [decide_eq_false_iff_not]
    rintro rfl
    exact hmn (HM.out.symm.trans HN.out)
   subst hz
   have hmnI : ¬ (M : Int) = (N : Int) := by omega
   have hmnb : ((M : Int) == (N : Int)) = false := by rw [beq_eq_false_iff_ne]; omega
   go_enter Try.func19, Try.ntmps19
   go_wp2_with fail
   go_ret
   exact ⟨HB0.out, rfl⟩
def RowU (w : World) (a : Option Addr) (L : List Value) : Prop := ∀ k (hk : k < L.length), ∃ b off, a = some ⟨b, off, none⟩ /\ b < w.heap.size /\ w.cell? ⟨b, off + k, none⟩ = some L[k]
theorem RowU.below {B : Nat} {w w' : World} {a : Option Addr} {L : List Value} (h : RowU w a L) (hb : Below B w w') (hB : w.heap.size <= B) : RowU w' a L := fun k hk => by
 obtain ⟨b, off, rfl, hbl, hc⟩ := h k hk
 exact ⟨b, off, rfl, Qb hbl hb.size, (hb.cell (p := ⟨b, off + k, none⟩) (Qb hbl hB)).trans hc⟩
structure Arc where
 f : Fl
 d : ByteArray
 m : Int
def arcOf (z : Arc) (n : Nat) : Part := ⟨⟨z.f.1, z.m, crcOf 0 z.f.2.data.toList, (z.d.size : Int), (z.f.2.size : Int), (n : Int)⟩, z.d, z.f.2⟩
def arcP : List Arc -> Nat -> List Part
 | [], _ => []
 | z :: r, n => arcOf z n :: arcP r (n + (partL (arcOf z n)).length)
theorem arcP_len : ∀ (L : List Arc) (n : Nat), (arcP L n).length = L.length := by
 intro L
 induction L with
 | nil => intro _; rfl
 | cons g r ih => intro n; rw [arcP, List.length_cons, List.length_cons, ih]
def OwnHr (w : World) (base : Nat) (v : Value) (L : List Hd) : Prop := w.ownsRow base 27 6 v L.length (hcells L)
theorem info_rhead : (Try.prog.info? 27).map (fun i => (i.zero, i.size, i.bytes)) = some (some (.agg #[.string ⟨#[]⟩, .int .i64 0, .int .u32 0, .int .i64 0, .int .i64 0, .int .i64 0]), 6, 56) := by kernel_rfl
theorem OwnHr.empty (w : World) (base : Nat) (hb : base <= w.heap.size) : OwnHr (w.alloc (.cells #[] 27)) base (.slice (some ⟨w.heap.size, 0, none⟩) 0 0) [] :=
 ⟨rfl, .inr ⟨w.heap.size, 0, #[], rfl, hb, Blk.new w _ _, Qa _, Nat.zero_le _, rfl, rfl⟩⟩
theorem OwnHr.snoc {w : World} {base : Nat} {v : Value} {L : List Hd} {h : Hd} (ho : w.ownsRow base 27 6 v (L.length + 1) (hcells L ++ h.cells.toList)) : OwnHr w base v (L ++ [h]) := by
 unfold OwnHr
 rw [List.length_append, hcells_append]
 have e : hcells [h] = h.cells.toList := by simp [hcells]
 rw [e]
 exact ho
theorem OwnHr.view {w : World} {base : Nat} {v : Value} {L : List Hd} (h : OwnHr w base v L) : ∃ a cap, v = .slice a L.length cap /\ HRow w a L := by
 have hlt := World.ownsRow.lt h
 have hc := fun g hg => World.ownsRow.cells h (g := g) hg
 rcases h.2 with ⟨rfl, h0⟩ | ⟨G, cap, cur, rfl, _⟩
 . exact ⟨none, 0, by rw [h0], fun k hk => by omega⟩
 . refine ⟨_, _, rfl, fun k hk => ⟨G, 0, rfl, (hlt G rfl).2, fun i u hu => ?_⟩⟩
   have e0 : ∀ j, (⟨G, 0, none⟩ : Addr).add j = ⟨G, j, none⟩ := fun j => by unfold Addr.add; split <;> simp_all
   have := hc G rfl (k * 6 + i) u (hcells_at L k i u hk hu)
   rw [e0] at this
   rwa [Nat.zero_add]
theorem OwnHr.below {w w' : World} {base B : Nat} {v : Value} {L : List Hd} (h : OwnHr w base v L) (hb : Below B w w') (hB : w.heap.size <= B) : OwnHr w' base v L := by
 have hlt := World.ownsRow.lt h
 refine ⟨h.1, ?_⟩
 rcases h.2 with h2 | ⟨g, cap, cur, rfl, h3, h4, h5⟩
 . exact .inl h2
 . exact .inr ⟨g, cap, cur, rfl, h3, (hb.block g (Qb (hlt g rfl).2 hB)).trans h4, h5⟩
set_option maxHeartbeats 8000000 in
theorem archive_any (L : List Arc) (a ap am : Option Addr) (cap cp cm : Nat) (hL : L.length <= 200) (hz : ∀ z ∈ L, z.f.2.size <= 65536 /\ z.f.1.size <= 64 /\ z.d.size <= 100000) (w : World) (hr : FRow w a (L.map Arc.f)) (hp : RowU w ap (L.map fun z => .string z.d)) (hm : RowU w am (L.map fun z => .int .i64 z.m)) :
 Calls Try.prog 17 #[.slice a L.length cap, .slice ap L.length cp, .slice am L.length cm] w fun e w' => e = .returned (.string ⟨(wholeL (arcP L 0)).toArray⟩) /\ Below w.heap.size w w' := by
 have HR := Qf hr
 have HP := Qf hp
 have HMt := Qf hm
 have Hz := Qf hz
 obtain ⟨M, HM⟩ := Qi (L.length)
 rw [HM.out] at hL ⊢
 obtain ⟨P, HPx⟩ := Qi (arcP L 0)
 rw [HPx.out]
 have HP0 : Hid ([] ++ arcP (L.drop 0) (archL []).length = P) := HPx.out
 have HO0 : Hid (OwnHr (w.alloc (.cells #[] 27)) w.heap.size (.slice (some ⟨w.heap.size, 0, none⟩) 0 0) (([] : List Part).map Part.h)) := OwnHr.empty w _ (Qa _)
 have HBa := Qf ((Below.refl w.heap.size w).alloc (Qa _) (.cells #[] 27))
 obtain ⟨w1, HW1⟩ := Qi (w.alloc (.cells #[] 27))
 rw [HW1.out] at HO0 HBa
 clear hr hp hm hz
 go_enter Try.func17, Try.ntmps17
 go_wp2_with fail
 rw [HW1.out]
 clear HW1
 go_loopw [7, 8, 15] (fun s_ h_ j_ wq => ∃ (j : Nat) (Q : List Part), j <= M /\ Q.length = j /\ j_ = .int .i64 (j : Int) /\ (archL Q).length <= 170000 * j /\ s_ = .string ⟨(archL Q).toArray⟩ /\ Hid (Q ++ arcP (L.drop j) (archL Q).length = P) /\ Hid (OwnHr wq w.heap.size h_ (Q.map Part.h)) /\ Hid (∀ h ∈ Q.map Part.h, h.crc < 4294967296 /\ h.name.size <= 64) /\ Hid (Below w.heap.size w wq)) (fun _ _ j _ => M - (intOf j).toNat)
 case atStart => exact ⟨0, [], Nat.zero_le _, rfl, rfl, Nat.zero_le _, rfl, HP0, HO0, (fun _ h => by cases h), HBa⟩
 case round =>
  clear HO0 HBa HP0
  obtain ⟨j, Q, hj, Hj, rfl, hq, rfl, HPq, HO, HCr, HBl⟩ := hrel
  have HJ := Qf Hj
  clear Hj
  obtain ⟨oa, ocap, rfl, hrw⟩ := HO.out.view
  have HRw := Qf hrw
  clear hrw
  rw [List.length_map, HJ.out] at HO ⊢
  have hz0 : (⟨(archL Q).toArray⟩ : ByteArray).size = (archL Q).length := by show (archL Q).toArray.size = _; rw [List.size_toArray]
  by_cases hlt : j < M
  . have dj : decide ((j : Int) < (M : Int)) = true := Qg (by omega)
    have djb : decide (j < M) = true := Qg (by omega)
    have hjI : (j : Int) < (M : Int) := by omega
    have hjL : j < L.length := by rw [HM.out]; exact hlt
    obtain ⟨b, off, rfl, hbl, c0, c1⟩ := (HR.out.below HBl.out (Qa _)) j (by rw [List.length_map]; exact hjL)
    obtain ⟨pb, po, rfl, hpl, cp0⟩ := HP.out j (by rw [List.length_map]; exact hjL)
    obtain ⟨mb, mo, rfl, hml, cm0⟩ := HMt.out j (by rw [List.length_map]; exact hjL)
    rw [List.getElem_map] at c0 c1 cp0 cm0
    have hPq := HPq.out
    rw [List.drop_eq_getElem_cons hjL, arcP] at hPq
    have hsz := Hz.out _ (List.getElem_mem hjL)
    obtain ⟨⟨⟨nm, dt⟩, d, me⟩, Hf⟩ : ∃ R, Hid (L[j] = R) := ⟨_, Qf (Eq.refl _)⟩
    rw [Hf.out] at c0 c1 cp0 cm0 hPq hsz
    dsimp only at c0 c1 cp0 cm0 hsz
    obtain ⟨z1, z2, z3⟩ := hsz
    have CR := Qf (fun W => refCrc_any dt W z1)
    have hcr := crc0_lt dt.data.toList
    have HPO : Hid (arcOf ⟨(nm, dt), d, me⟩ (archL Q).length = ⟨⟨nm, me, crcOf 0 dt.data.toList, (d.size : Int), (dt.size : Int), ((archL Q).length : Int)⟩, d, dt⟩) := rfl
    obtain ⟨pc, Hpc⟩ := Qi (arcOf ⟨(nm, dt), d, me⟩ (archL Q).length)
    obtain ⟨cr, Hcc⟩ := Qi (crcOf 0 dt.data.toList)
    rw [Hpc.out] at HPO hPq
    rw [Hcc.out] at CR hcr HPO
    have hpl2 : (partL pc).length = 30 + nm.size + d.size := by rw [HPO.out, partL_len]
    have CFa : Hid (∀ W, Calls Try.prog 31 #[.agg #[.string nm, .int .i64 me, .int .u32 (cr : Int), .int .i64 (d.size : Int), .int .i64 (dt.size : Int), .int .i64 ((archL Q).length : Int)]] W fun e w' => e = .returned (.string ⟨(factsL pc.h).toArray⟩) /\ Below W.heap.size W w') := fun W => by
     have := rfacts_any pc.h (by rw [HPO.out]; exact hcr) W
     rw [HPO.out] at this ⊢
     exact this
    have hfl : (⟨(factsL pc.h).toArray⟩ : ByteArray).size = 26 := by show (factsL pc.h).toArray.size = 26; rw [List.size_toArray, factsL_len]
    have HE : Hid ((⟨(archL Q).toArray⟩ : ByteArray) ++ ((⟨#[80, 75, 3, 4]⟩ : ByteArray) ++ ⟨(factsL pc.h).toArray⟩ ++ nm ++ d) = ⟨(archL (Q ++ [pc])).toArray⟩) := by
     show _ = _
     rw [archL_snoc]
     have e1 : partL pc = [80, 75, 3, 4] ++ factsL pc.h ++ nm.data.toList ++ d.data.toList := by
      unfold partL localL
      rw [HPO.out]
     rw [e1]
     apply ByteArray.ext
     apply Array.ext'
     simp only [ByteArray.data_append, Array.toList_append, List.append_assoc]
    obtain ⟨S0, HS0⟩ := Qi ((⟨(archL Q).toArray⟩ : ByteArray))
    obtain ⟨fa, Hfa⟩ := Qi ((⟨(factsL pc.h).toArray⟩ : ByteArray))
    rw [HS0.out, Hfa.out] at HE
    rw [HS0.out] at hz0 ⊢
    rw [Hfa.out] at CFa hfl
    obtain ⟨l0, Hl0⟩ := Qi (archL Q)
    rw [Hl0.out] at hPq HPO hz0 hq CFa
    obtain ⟨n0, Hn0⟩ := Qi (l0.length)
    rw [Hn0.out] at hPq HPO hz0 hq CFa
    have HPq2 := Qf hPq
    have HPo := HPO
    have hz0I : (S0.size : Int) = (n0 : Int) := by omega
    have hov1 : ¬ 9223372036854775807 < S0.size + (4 + 26 + nm.size + d.size) := by omega
    have hov2 : ¬ 9223372036854775807 < 4 + 26 + nm.size + d.size := by omega
    have hov3 : ¬ 9223372036854775807 < 4 + 26 + nm.size := by omega
    have hov4 : ¬ 9223372036854775807 < S0.size + (30 + nm.size + d.size) := by omega
    have hov5 : ¬ 9223372036854775807 < n0 + (30 + nm.size + d.size) := by omega
    have hov6 : ¬ 9223372036854775807 < 30 + nm.size + d.size := by omega
    have hov7 : ¬ 9223372036854775807 < 30 + nm.size := by omega
    have hov8 : ¬ 9223372036854775807 < n0 + (4 + 26 + nm.size + d.size) := by omega
    have hal := HBl.out.alloc HBl.out.size (.cells #[.string nm, .string dt] 85)
    have hal0 := (Below.refl wr.heap.size wr).alloc (Qa _) (.cells #[.string nm, .string dt] 85)
    have HBn := Qf (Blk.new wr 85 #[.string nm, .string dt])
    have HOa := Qf (HO.out.below hal0 (Qa _))
    have HBa := Qf hal
    have HPW := Qf hpl
    have hpl3 : pb < wr.heap.size := Qb hpl HBl.out.size
    have hml3 : mb < wr.heap.size := Qb hml HBl.out.size
    have y0 := (hal.cell (p := ⟨pb, po + j, none⟩) hpl).trans cp0
    have y1 := (hal.cell (p := ⟨mb, mo + j, none⟩) hml).trans cm0
    clear hPq hal hal0 HO HBl HPq hjL hbl Hf hpl hml cp0 cm0 Hpc
    go_upto_region 6 with fail
    obtain ⟨F, HF0⟩ := Qi (wr.heap.size)
    rw [HF0.out] at HBn ⊢
    obtain ⟨w3, HW3⟩ := Qi (wr.alloc (.cells #[.string nm, .string dt] 85))
    have hpl4 : pb < w3.heap.size := by rw [<- HW3.out]; exact Qb hpl3 (by simp)
    have hml4 : mb < w3.heap.size := by rw [<- HW3.out]; exact Qb hml3 (by simp)
    have HPL := Qf hpl4
    have HML := Qf hml4
    rw [HW3.out] at HBn HOa HBa y0 y1 ⊢
    clear HW3 c0 c1 hpl3 hml3 hpl4 hml4
    go_cut [11, 15] from 15 to 57 (fun p_ j_ wx => ∃ K : Nat, p_ = .pointer (some ⟨K, 0, none⟩) /\ j_ = .int .i64 (j : Int) /\ w3.heap.size <= K /\ Hid (Blk wx K 27 #[.string nm, .int .i64 me, .int .u32 (cr : Int), .int .i64 (d.size : Int), .int .i64 (dt.size : Int), .int .i64 (n0 : Int)]) /\ Hid (Below w3.heap.size w3 wx))
    case first =>
     have HS : Hid (∀ W, Below w3.heap.size w3 W -> W.cell? ⟨F, 0, none⟩ = some (.string nm) /\ W.cell? ⟨F, 1, none⟩ = some (.string dt) /\ W.cell? ⟨pb, po + j, none⟩ = some (.string d) /\ W.cell? ⟨mb, mo + j, none⟩ = some (.int .i64 me)) := fun W hb => ⟨(HBn.out.below hb HBn.out.lt).cell 0, (HBn.out.below hb HBn.out.lt).cell 1, (hb.cell (p := ⟨pb, po + j, none⟩) HPL.out).trans y0, (hb.cell (p := ⟨mb, mo + j, none⟩) HML.out).trans y1⟩
     obtain ⟨q0, q1, q2, q3⟩ := HS.out w3.drew ((Below.refl _ _).drew)
     go_region_held3 (fun W => W.cell? ⟨F, 0, none⟩ = some (.string nm) /\ W.cell? ⟨F, 1, none⟩ = some (.string dt) /\ W.cell? ⟨pb, po + j, none⟩ = some (.string d) /\ W.cell? ⟨mb, mo + j, none⟩ = some (.int .i64 me))
      (first | (refine HS.out _ ?_; (repeat' (first | with_reducible exact Below.refl _ _ | with_reducible assumption | with_reducible apply Below.drew | with_reducible apply below_al | with_reducible apply Below.setCell | exact Qa _))))
      (first
       | (go_at_call 41; refine (CR.out _).mono ?_; rintro e w8 ⟨rfl, hb8⟩; have HB8 : Below w3.heap.size w3 w8 := bthen (by (repeat' (first | with_reducible exact Below.refl _ _ | with_reducible assumption | with_reducible apply Below.drew | with_reducible apply below_al))) hb8; (try (have hN8 : Blk w8 w3.heap.size 27 #[.string ⟨#[]⟩, .int .i64 0, .int .u32 0, .int .i64 0, .int .i64 0, .int .i64 0] := (by first | exact Blk.below (Blk.new _ _ _) hb8 (Blk.lt (Blk.new _ _ _)) | exact Blk.below (Blk.drew (Blk.new _ _ _)) hb8 (Blk.lt (Blk.drew (Blk.new _ _ _)))); have m0 : w8.cell? ⟨w3.heap.size, 0, none⟩ = some (.string ⟨#[]⟩) := hN8.cell 0; have f0 := hN8.frozen 0; have m1 : w8.cell? ⟨w3.heap.size, 1, none⟩ = some (.int .i64 0) := hN8.cell 1; have f1 := hN8.frozen 1; have m2 : w8.cell? ⟨w3.heap.size, 2, none⟩ = some (.int .u32 0) := hN8.cell 2; have f2 := hN8.frozen 2; have m3 : w8.cell? ⟨w3.heap.size, 3, none⟩ = some (.int .i64 0) := hN8.cell 3; have f3 := hN8.frozen 3; have m4 : w8.cell? ⟨w3.heap.size, 4, none⟩ = some (.int .i64 0) := hN8.cell 4; have f4 := hN8.frozen 4; have m5 : w8.cell? ⟨w3.heap.size, 5, none⟩ = some (.int .i64 0) := hN8.cell 5; have f5 := hN8.frozen 5; have HN8 := Qf hN8; clear hN8)); have hz8 := HB8.size; clear hb8))
     all_goals
      go_wp2_with fail
      go_meet
      first
       | exact ⟨_, rfl, rfl, hz8, Qf (Blk.new _ _ _), Qf (by (repeat' (first | with_reducible exact Below.refl _ _ | with_reducible assumption | with_reducible apply Below.drew | with_reducible apply below_al | with_reducible apply Below.setCell | exact Qa _)))⟩
       | exact ⟨_, rfl, rfl, Qa _, Qf (by
        have := (((((HN8.out.set_ 0 (.string nm)).set_ 1 (.int .i64 me)).set_ 2 (.int .u32 (cr : Int))).set_ 3 (.int .i64 (d.size : Int))).set_ 4 (.int .i64 (dt.size : Int))).set_ 5 (.int .i64 (n0 : Int))
        simpa using this), Qf (by (repeat' (first | with_reducible exact Below.refl _ _ | with_reducible assumption | with_reducible apply Below.drew | with_reducible apply below_al | with_reducible apply Below.setCell | exact Qa _)))⟩
    case rest =>
     obtain ⟨K, rfl, rfl, hK3, HK, HBc⟩ := hcut
     have hKne : (Value.slice oa j ocap).ownBlock ≠ some K := fun e => by have := (World.ownsRow.lt HOa.out K e).2; omega
     have HKne := Qf hKne
     have HX4 := Qf (HBn.out.below HBc.out HBn.out.lt)
     have HO4 := Qf (HOa.out.below HBc.out (Qa _))
     have HB4 := Qf (bthen HBa.out HBc.out)
     have y0c := (HBc.out.cell (p := ⟨pb, po + j, none⟩) HPL.out).trans y0
     have hpc : pb < wc.heap.size := Qb HPL.out HBc.out.size
     have HPC := Qf hpc
     clear HOa HBa HBn HBc hKne hK3 CR y0 y1 hpc HPL HML
     have k0 : wc.cell? ⟨K, 0, none⟩ = some (.string nm) := HK.out.cell 0
     have k1 : wc.cell? ⟨K, 1, none⟩ = some (.int .i64 me) := HK.out.cell 1
     have k2 : wc.cell? ⟨K, 2, none⟩ = some (.int .u32 (cr : Int)) := HK.out.cell 2
     have k3 : wc.cell? ⟨K, 3, none⟩ = some (.int .i64 (d.size : Int)) := HK.out.cell 3
     have k4 : wc.cell? ⟨K, 4, none⟩ = some (.int .i64 (dt.size : Int)) := HK.out.cell 4
     have k5 : wc.cell? ⟨K, 5, none⟩ = some (.int .i64 (n0 : Int)) := HK.out.cell 5
     have hos : wc.ownsRow w.heap.size 27 6 (.slice oa j ocap) j (hcells (Q.map Part.h)) := by
      have := HO4.out
      unfold OwnHr at this
      rwa [List.length_map, HJ.out] at this
     have hbsw : w.heap.size <= wc.heap.size := HB4.out.size
     have hone : ∀ u ∈ ([.string nm, .int .i64 me, .int .u32 (cr : Int), .int .i64 (d.size : Int), .int .i64 (dt.size : Int), .int .i64 (n0 : Int)] : List Value), u.oneCell' = true := hd_one ⟨nm, me, cr, (d.size : Int), (dt.size : Int), (n0 : Int)⟩
     have hFne : (Value.slice oa j ocap).ownBlock ≠ some F := by
      rcases row_blk hos HX4.out (by decide) with h | h
      . rw [h]; simp
      . exact h
     have HFne := Qf hFne
     clear hFne
     go_upto_region 8 with (first
      | (at_builtin; go_must (refine wpList_append_elem_at wc rfl (.tmp 40) (.tmp 42) rfl Try.underlying23 info_rhead rfl (by decide) w.heap.size (.slice oa j ocap) j (hcells (Q.map Part.h)) [.string nm, .int .i64 me, .int .u32 (cr : Int), .int .i64 (d.size : Int), .int .i64 (dt.size : Int), .int .i64 (n0 : Int)] hos rfl hone rfl rfl rfl ?_ ?_ hbsw ?_; (unfold maxLen; omega); omega; intro v8 w8 hown8 hg8 hn8; have HO8 : Hid (OwnHr w8 w.heap.size v8 ((Q ++ [pc]).map Part.h)) := (by show OwnHr _ _ _ _; rw [List.map_append, HPo.out]; exact OwnHr.snoc (by rw [List.length_map, HJ.out]; exact hown8)); have HB8 := Qf (HB4.out.trans (below_grown hos hg8 hbsw)); have HK8 := Qf (HK.out.grown hg8 (fun e => HKne.out e.symm)); have HX8 := Qf (HX4.out.grown hg8 (fun e => HFne.out e.symm)); have HG8 := Qf hg8; clear hown8 hg8 hn8))
      | fail)
     have y8 : w8.cell? ⟨pb, po + j, none⟩ = some (.string d) := ((below_grown hos HG8.out hbsw).cell (p := ⟨pb, po + j, none⟩) HPW.out).trans y0c
     clear HG8 k0 k1 k2 k3 k4 k5 HO4 HB4 HK HX4 y0c HPC
     have hpw8 : pb < w8.heap.size := Qb HPW.out HB8.out.size
     have HPW8 := Qf hpw8
     clear hpw8
     have HSZ : Hid (∀ W, Below w8.heap.size w8 W -> W.cell? ⟨K, 0, none⟩ = some (.string nm) /\ W.cell? ⟨K, 1, none⟩ = some (.int .i64 me) /\ W.cell? ⟨K, 2, none⟩ = some (.int .u32 (cr : Int)) /\ W.cell? ⟨K, 3, none⟩ = some (.int .i64 (d.size : Int)) /\ W.cell? ⟨K, 4, none⟩ = some (.int .i64 (dt.size : Int)) /\ W.cell? ⟨K, 5, none⟩ = some (.int .i64 (n0 : Int)) /\ W.cell? ⟨F, 0, none⟩ = some (.string nm) /\ W.cell? ⟨pb, po + j, none⟩ = some (.string d)) := fun W hb => by
      have h := HK8.out.below hb HK8.out.lt
      have h2 := HX8.out.below hb HX8.out.lt
      exact ⟨h.cell 0, h.cell 1, h.cell 2, h.cell 3, h.cell 4, h.cell 5, h2.cell 0, (hb.cell (p := ⟨pb, po + j, none⟩) HPW8.out).trans y8⟩
     obtain ⟨l0', l1, l2, l3, l4, l5, l6, l7⟩ := HSZ.out w8.drew ((Below.refl _ _).drew)
     go_region_held3 (fun W => W.cell? ⟨K, 0, none⟩ = some (.string nm) /\ W.cell? ⟨K, 1, none⟩ = some (.int .i64 me) /\ W.cell? ⟨K, 2, none⟩ = some (.int .u32 (cr : Int)) /\ W.cell? ⟨K, 3, none⟩ = some (.int .i64 (d.size : Int)) /\ W.cell? ⟨K, 4, none⟩ = some (.int .i64 (dt.size : Int)) /\ W.cell? ⟨K, 5, none⟩ = some (.int .i64 (n0 : Int)) /\ W.cell? ⟨F, 0, none⟩ = some (.string nm) /\ W.cell? ⟨pb, po + j, none⟩ = some (.string d))
      (first | (refine HSZ.out _ ?_; (repeat' (first | with_reducible exact Below.refl _ _ | with_reducible assumption | with_reducible apply Below.drew | with_reducible apply below_al))))
      (first
       | (go_at_call 31; refine (CFa.out _).mono ?_; rintro e w9 ⟨rfl, hb9⟩; have HB9 : Below w8.heap.size w8 w9 := bthen (by (repeat' (first | with_reducible exact Below.refl _ _ | with_reducible assumption | with_reducible apply Below.drew | with_reducible apply below_al))) hb9; clear hb9))
     all_goals
      go_wp2_with fail
      go_roundw
      case rel =>
       have ez : (archL (Q ++ [pc])).length = n0 + (partL pc).length := by rw [archL_snoc, List.length_append, Hl0.out, Hn0.out]
       exact ⟨j + 1, Q ++ [pc], by omega, by rw [List.length_append, HJ.out]; rfl, by go_num, by rw [ez]; omega, by rw [HE.out], (by show _ = _; rw [ez, List.append_assoc]; exact HPq2.out), Qf (HO8.out.below HB9 (Qa _)), (fun h hh => by
        rw [List.map_append, List.mem_append] at hh
        rcases hh with hh | hh
        . exact HCr.out h hh
        . rw [List.map_cons, List.map_nil, List.mem_singleton] at hh
          subst hh
          rw [HPo.out]
          exact ⟨hcr, z2⟩), Qf (bthen HB8.out HB9)⟩
      case measure => simp [intOf]; omega
  . obtain rfl : j = M := by omega
    have dj : decide ((j : Int) < (j : Int)) = false := Qh (by omega)
    have hQ : Q = P := by
     have := HPq.out
     rwa [List.drop_of_length_le (by rw [HM.out]; exact Qa _), arcP, List.append_nil] at this
    have hpl2 : (P.map Part.h).length = j := by rw [List.length_map, <- hQ, HJ.out]
    have hcr := HCr.out
    rw [hQ] at hcr
    have hmost := idxH_most (P.map Part.h) fun h hh => Nat.lt_of_le_of_lt (hcr h hh).2 (by decide)
    have CI := Qf (fun (W : World) (hr : HRow W oa (P.map Part.h)) => rindex_any (P.map Part.h) oa ocap ((archL Q).length : Int) (by omega) (fun h hh => (hcr h hh).1) (fun h hh => Qe (hcr h hh).2 (by decide)) (by omega) W hr)
    rw [hpl2] at CI
    have hwl : Hid ((⟨(archL Q).toArray⟩ : ByteArray) ++ ⟨(indexL (P.map Part.h) ((archL Q).length : Int)).toArray⟩ = ⟨(wholeL P).toArray⟩) := by
     show _ = _
     unfold wholeL
     rw [hQ]
     apply ByteArray.ext
     apply Array.ext'
     simp only [ByteArray.data_append, Array.toList_append]
    have hzI : (⟨(indexL (P.map Part.h) ((archL Q).length : Int)).toArray⟩ : ByteArray).size = (idxH (P.map Part.h)).length + 22 := by show (indexL (P.map Part.h) ((archL Q).length : Int)).toArray.size = _; rw [List.size_toArray, indexL_len]
    rw [<- hz0] at CI hwl hzI hq
    obtain ⟨S0, HS0⟩ := Qi ((⟨(archL Q).toArray⟩ : ByteArray))
    rw [HS0.out] at CI hwl hzI hq ⊢
    obtain ⟨I, HI⟩ := Qi ((⟨(indexL (P.map Part.h) (S0.size : Int)).toArray⟩ : ByteArray))
    rw [HI.out] at CI hwl hzI
    have hov : ¬ 9223372036854775807 < S0.size + I.size := by omega
    have hrw := HRw.out
    rw [hQ] at hrw
    have HRg := Qf hrw
    clear hQ hmost HPq hzI hpl2 HI hrw hcr hz0 HS0
    go_wp2_with fail
    refine (CI.out _ HRg.out).mono ?_
    rintro e w5 ⟨rfl, hb5⟩
    have HB5 := Qf (bthen HBl.out hb5)
    clear hb5
    go_wp2_with fail
    go_ret
    exact ⟨by rw [<- hwl.out]; rfl, HB5.out⟩
noncomputable def zOf (n : Nat) (m : Nat -> Int) (f : Fl) (j : Nat) : Arc := if j < n /\ 0 <= m j /\ m j <= 9 then ⟨f, dflB f.2 (m j).toNat, 8⟩ else ⟨f, f.2, 0⟩
noncomputable def zpL (n : Nat) (m : Nat -> Int) : List Fl -> Nat -> List Arc
 | [], _ => []
 | f :: r, j => zOf n m f j :: zpL n m r (j + 1)
theorem zOf_f (n : Nat) (m : Nat -> Int) (f : Fl) (j : Nat) : (zOf n m f j).f = f := by unfold zOf; split <;> rfl
theorem zpL_f (n : Nat) (m : Nat -> Int) : ∀ (L : List Fl) (j : Nat), (zpL n m L j).map Arc.f = L := by
 intro L
 induction L with
 | nil => intro _; rfl
 | cons f r ih => intro j; rw [zpL, List.map_cons, ih, zOf_f]
theorem zpL_len (n : Nat) (m : Nat -> Int) (L : List Fl) (j : Nat) : (zpL n m L j).length = L.length := by
 have := congrArg List.length (zpL_f n m L j)
 simpa using this
theorem zpL_all (n : Nat) (m : Nat -> Int) (p : Arc -> Prop) : ∀ (L : List Fl) (j : Nat), (∀ f ∈ L, ∀ k, p (zOf n m f k)) -> ∀ z ∈ zpL n m L j, p z := by
 intro L
 induction L with
 | nil => intro _ _ z hz; cases hz
 | cons f r ih =>
  intro j h z hz
  rw [zpL, List.mem_cons] at hz
  rcases hz with rfl | hz
  . exact h f (List.mem_cons_self ..) j
  . exact ih (j + 1) (fun g hg => h g (List.mem_cons_of_mem _ hg)) z hz
theorem arcP_names : ∀ (L : List Arc) (last : ByteArray) (n : Nat), chkL last (L.map Arc.f) = 0 -> namesL last ((arcP L n).map Part.h) = true := by
 intro L
 induction L with
 | nil => intro _ _ _; rfl
 | cons g r ih =>
  intro last n h
  rw [List.map_cons, chkL] at h
  by_cases c1 : 65536 < g.f.2.size
  . rw [if_pos c1] at h; cases h
  rw [if_neg c1] at h
  by_cases c2 : (!nmB g.f.1 || strLe g.f.1 last) = true
  . rw [if_pos c2] at h; cases h
  rw [if_neg c2] at h
  rw [arcP, List.map_cons, namesL]
  show (if (!nmB g.f.1 || strLe g.f.1 last) = true then false else _) = true
  rw [if_neg c2]
  exact ih _ _ h
theorem arcP_files : ∀ (L : List Arc) (n : Nat), (arcP L n).map (fun c => (c.h.name, c.x)) = L.map Arc.f := by
 intro L
 induction L with
 | nil => intro _; rfl
 | cons g r ih => intro n; rw [arcP, List.map_cons, ih]; rfl
def ArcOK (z : Arc) : Prop := z.f.2.size <= 400 /\ z.f.1.size <= 64 /\ z.d.size <= 405 /\ ((z.m = 0 /\ z.d = z.f.2) \/ (z.m = 8 /\ inflT z.d z.f.2.size = some (z.f.2, z.d.size)))
theorem arcP_placed : ∀ (L : List Arc) (n : Nat), (∀ z ∈ L, ArcOK z) -> n + 500 * L.length < 4294967296 -> Placed n (arcP L n) := by
 intro L
 induction L with
 | nil => intro _ _ _; trivial
 | cons g r ih =>
  intro n hf hn
  obtain ⟨g1, g2, g3, g4⟩ := hf g (List.mem_cons_self ..)
  rw [List.length_cons] at hn
  have hl : (partL (arcOf g n)).length = 30 + g.f.1.size + g.d.size := partL_len _
  have hi := ih (n + (partL (arcOf g n)).length) (fun x hx => hf x (List.mem_cons_of_mem _ hx)) (by omega)
  rw [hl] at hi
  rw [arcP]
  refine ⟨rfl, rfl, ?_, ?_⟩
  . have hc := crc0_lt g.f.2.data.toList
    refine ⟨?_, hc, ⟨by show (0 : Int) <= (g.d.size : Int); omega, by show (g.d.size : Int) < _; omega⟩, ⟨by show (0 : Int) <= (g.f.2.size : Int); omega, by show (g.f.2.size : Int) < _; omega⟩, ⟨by show (0 : Int) <= (n : Int); omega, by show (n : Int) < _; omega⟩, by show g.f.1.size < _; omega⟩
    show 0 <= g.m /\ g.m < 65536
    rcases g4 with ⟨h, _⟩ | ⟨h, _⟩ <;> omega
  . show Placed (n + 30 + g.f.1.size + g.d.size) _
    rw [hl, show n + 30 + g.f.1.size + g.d.size = n + (30 + g.f.1.size + g.d.size) by omega]
    exact hi
theorem arcP_open : ∀ (L : List Arc) (n : Nat), (∀ z ∈ L, ArcOK z) -> ∀ c ∈ arcP L n, openD c.d c.h = .ok c.x /\ c.h.size <= 65536 := by
 intro L
 induction L with
 | nil => intro _ _ c hc; cases hc
 | cons g r ih =>
  intro n hf c hc
  obtain ⟨g1, g2, g3, g4⟩ := hf g (List.mem_cons_self ..)
  rw [arcP, List.mem_cons] at hc
  rcases hc with rfl | hc
  . refine ⟨?_, by show (g.f.2.size : Int) <= _; omega⟩
    rcases g4 with ⟨h, hd⟩ | ⟨h, hd⟩
    . have : (arcOf g n).d = g.f.2 := hd
      rw [this]
      exact openD_stored h rfl rfl
    . exact openD_deflated h rfl rfl hd
  . exact ih _ (fun x hx => hf x (List.mem_cons_of_mem _ hx)) c hc
theorem arcP_le : ∀ (L : List Arc) (n : Nat), (∀ z ∈ L, ArcOK z) -> (archL (arcP L n)).length <= 500 * L.length /\ (idxH ((arcP L n).map Part.h)).length <= 110 * L.length := by
 intro L
 induction L with
 | nil => intro n _; exact ⟨Qa _, Qa _⟩
 | cons g r ih =>
  intro n hf
  obtain ⟨g1, g2, g3, _⟩ := hf g (List.mem_cons_self ..)
  obtain ⟨i1, i2⟩ := ih (n + (partL (arcOf g n)).length) fun x hx => hf x (List.mem_cons_of_mem _ hx)
  have hl : (partL (arcOf g n)).length = 30 + g.f.1.size + g.d.size := partL_len _
  have e1 : archL (arcOf g n :: arcP r (n + (partL (arcOf g n)).length)) = partL (arcOf g n) ++ archL (arcP r (n + (partL (arcOf g n)).length)) := rfl
  have e2 : ∀ (x : Hd) (y : List Hd), idxH (x :: y) = idxL1 x ++ idxH y := fun _ _ => rfl
  rw [arcP, e1, List.map_cons, e2, List.length_append, List.length_append, idxL1_len, List.length_cons]
  show _ /\ 46 + g.f.1.size + _ <= _
  omega
theorem zOf_ok (n : Nat) (m : Nat -> Int) (f : Fl) (j : Nat) (h1 : f.2.size <= 400) (h2 : f.1.size <= 64) : ArcOK (zOf n m f j) := by
 unfold ArcOK
 rw [zOf_f]
 refine ⟨h1, h2, ?_, ?_⟩
 . unfold zOf
   split
   . have := dflB_size f.2 (m j).toNat
     dsimp only
     omega
   . dsimp only; omega
 . unfold zOf
   split
   . exact .inr ⟨rfl, dflB_T f.2 _ (by omega)⟩
   . exact .inl ⟨rfl, rfl⟩
theorem packed_read {S : List Fl} (hS : ∀ f ∈ S, f.2.size <= 400) (hl : S.length <= 10) (hc : chkF S = 0) (n : Nat) (m : Nat -> Int) :
 readF ⟨(wholeL (arcP (zpL n m S 0) 0)).toArray⟩ = .ok S /\ (⟨(wholeL (arcP (zpL n m S 0) 0)).toArray⟩ : ByteArray).size <= 10000 /\ ∀ z ∈ zpL n m S 0, ArcOK z := by
 have k := chkL_ok S _ (chkF_ok hc).2
 have hA : ∀ z ∈ zpL n m S 0, ArcOK z := zpL_all n m ArcOK S 0 fun f hf j => zOf_ok n m f j (hS f hf) (nmB_size (k f hf).2)
 have hz : (zpL n m S 0).length = S.length := zpL_len n m S 0
 obtain ⟨l1, l2⟩ := arcP_le (zpL n m S 0) 0 hA
 have hsz : (⟨(wholeL (arcP (zpL n m S 0) 0)).toArray⟩ : ByteArray).size <= 10000 := by
  show (wholeL _).toArray.size <= _
  rw [List.size_toArray]
  unfold wholeL
  rw [List.length_append, indexL_len]
  omega
 obtain ⟨_, r⟩ := readF_put (s := ⟨(wholeL (arcP (zpL n m S 0) 0)).toArray⟩) (P := arcP (zpL n m S 0) 0) rfl (by omega) (arcP_placed _ 0 hA (by omega)) (arcP_names _ _ 0 (by rw [zpL_f]; exact (chkF_ok hc).2)) (by rw [arcP_len]; omega) (arcP_open _ 0 hA)
 rw [arcP_files, zpL_f] at r
 exact ⟨r, hsz, hA⟩
def OwnU (t : TypeId) (w : World) (base : Nat) (v : Value) (L : List Value) : Prop := w.ownsRow base t 1 v L.length L
theorem OwnU.empty (t : TypeId) (w : World) (base : Nat) (hb : base <= w.heap.size) : OwnU t (w.alloc (.cells #[] t)) base (.slice (some ⟨w.heap.size, 0, none⟩) 0 0) [] :=
 ⟨rfl, .inr ⟨w.heap.size, 0, #[], rfl, hb, Blk.new w _ _, Qa _, Nat.zero_le _, rfl, rfl⟩⟩
theorem OwnU.snoc {t : TypeId} {w : World} {base : Nat} {v : Value} {L : List Value} {u : Value} (ho : w.ownsRow base t 1 v (L.length + 1) (L ++ [u])) : OwnU t w base v (L ++ [u]) := by
 unfold OwnU
 rw [List.length_append]
 exact ho
theorem OwnU.view {t : TypeId} {w : World} {base : Nat} {v : Value} {L : List Value} (h : OwnU t w base v L) : ∃ a cap, v = .slice a L.length cap /\ RowU w a L := by
 have hlt := World.ownsRow.lt h
 have hc := fun g hg => World.ownsRow.cells h (g := g) hg
 rcases h.2 with ⟨rfl, h0⟩ | ⟨G, cap, cur, rfl, _⟩
 . exact ⟨none, 0, by rw [h0], fun k hk => by omega⟩
 . refine ⟨_, _, rfl, fun k hk => ⟨G, 0, rfl, (hlt G rfl).2, ?_⟩⟩
   have e0 : ∀ j, (⟨G, 0, none⟩ : Addr).add j = ⟨G, j, none⟩ := fun j => by unfold Addr.add; split <;> simp_all
   have := hc G rfl k L[k] (List.getElem?_eq_getElem hk)
   rw [e0] at this
   rwa [Nat.zero_add]
theorem OwnU.below {t : TypeId} {w w' : World} {base B : Nat} {v : Value} {L : List Value} (h : OwnU t w base v L) (hb : Below B w w') (hB : w.heap.size <= B) : OwnU t w' base v L := by
 have hlt := World.ownsRow.lt h
 refine ⟨h.1, ?_⟩
 rcases h.2 with h2 | ⟨g, cap, cur, rfl, h3, h4, h5⟩
 . exact .inl h2
 . exact .inr ⟨g, cap, cur, rfl, h3, (hb.block g (Qb (hlt g rfl).2 hB)).trans h4, h5⟩
theorem OwnU.kept {t u : TypeId} {w w' : World} {base b2 : Nat} {v v2 : Value} {L L2 : List Value} (h : OwnU t w base v L) (k : OwnU u w b2 v2 L2) (hne : t ≠ u) (hg : w.grownBy w' v2.ownBlock) : OwnU t w' base v L := by
 refine World.ownsRow.kept h hg ?_
 cases hv : v.ownBlock with
 | none => exact .inl rfl
 | some g => exact .inr fun e => own_far h k hne g hv e.symm
theorem info_str : (Try.prog.info? 9).map (fun i => (i.zero, i.size, i.bytes)) = some (some (.string ⟨#[]⟩), 1, 16) := by kernel_rfl
theorem info_int8 : (Try.prog.info? 3).map (fun i => (i.zero, i.size, i.bytes)) = some (some (.int .i64 0), 1, 8) := by kernel_rfl
open Go.ChangeShapes Go.WideShapes Go.ChangeAt Go.RowKit
open Go.ChangeMaps (open_string shut_string)
open Go.Deep (oneCellFields hone_of)
set_option maxRecDepth 100000
section
variable {H : Type} {enc : TypeId × Value -> H} {W : World} {base : Nat} {spare : Nat -> Bool} {held : Bool}
theorem file_struct : ∃ f0 f1 : Field, Try.prog.underlying 44 = some (.struct #[f0, f1]) /\ f0.type = 9 /\ f1.type = 9 /\ oneCellFields Try.prog #[f0, f1] = true := by
 refine ⟨_, _, Try.underlying44, rfl, rfl, by kernel_rfl⟩
theorem open_files {v : Value} {d : DataW H} {p : List MemPlace} {b0 : Nat} {r : Reach} (hv : Value.okWide Try.prog W r b0 38 v) (h : DataW.Trod enc Try.prog W base (fun _ => true) held 38 v d p) :
 ∃ a cap L, v = .slice a (List.length L) cap /\ (∀ f ∈ L, f.1.size <= maxLen /\ f.2.size <= maxLen) /\ FRow W a L := by
 obtain ⟨a, len, cap, rfl⟩ := okWide_slice Try.underlying38 hv
 obtain ⟨fuel, hf⟩ := h
 obtain ⟨f0, f1, hs, t0, t1, hone⟩ := file_struct
 have hce : Try.prog.cellsOf 44 = 2 := by kernel_rfl
 rcases Go.Deep.open_slice Try.underlying38 hf with ⟨hcs, _⟩ | ⟨x, l, c, m, n, D, Pl, hcs, _, hl, hm, hmm, _, hx⟩
 . simp [Value.cells] at hcs
   obtain ⟨rfl, rfl, rfl⟩ := hcs
   exact ⟨none, 0, [], rfl, (fun f hf => by cases hf), fun k hk => by cases hk⟩
 . simp [Value.cells] at hcs
   obtain ⟨rfl, rfl, rfl⟩ := hcs
   simp at hmm
   subst hmm
   have each : ∀ i, i < m -> ∃ q : Fl, (q.1.size <= maxLen /\ q.2.size <= maxLen) /\ W.cell? (x.add (i * 2)) = some (.string q.1) /\ W.cell? (x.add (i * 2 + 1)) = some (.string q.2) := by
    intro i hi
    obtain ⟨cs', h1, h2⟩ := hx i hi
    rw [hce] at h1
    obtain ⟨_, hlen, hcell⟩ := World.cells?_some h1
    obtain ⟨xs, k, _, hxy, _, hxl, hf⟩ := DataW.trod_struct hs h2
    obtain ⟨o0, k0⟩ := hone_of hone 0 f0 rfl
    obtain ⟨o1, k1⟩ := hone_of hone 1 f1 rfl
    match xs, hxl, cs', hlen with
    | [y0, y1], _, [v0, v1], _ =>
     have g0 := hf 0 f0 rfl
     have g1 := hf 1 f1 rfl
     simp [o0, o1, k0, k1] at g0 g1
     rw [t0] at g0
     rw [t1] at g1
     obtain ⟨s0, e0, _, z0⟩ := DataW.trod_string Try.underlying9 g0
     obtain ⟨s1, e1, _, z1⟩ := DataW.trod_string Try.underlying9 g1
     have c0 := hcell 0 (by omega)
     have c1 := hcell 1 (by omega)
     rw [Go.Deep.add_add] at c0 c1
     simp at e0 e1
     subst e0 e1
     exact ⟨(s0, s1), ⟨z0, z1⟩, by simpa using c0, by simpa using c1⟩
   obtain ⟨q, hq⟩ := Go.Deep.choose_lt each
   have hln : ((List.range len).map q).length = len := by simp
   refine ⟨some x, m, (List.range len).map q, by rw [hln], ?_, ?_⟩
   . intro f hf
     rw [List.mem_map] at hf
     obtain ⟨i, hi, rfl⟩ := hf
     rw [List.mem_range] at hi
     exact (hq i (by omega)).1
   . intro k hk
     rw [hln] at hk
     obtain ⟨_, d0, d1⟩ := hq k (by omega)
     obtain ⟨b, off, spot⟩ := x
     have hspot : spot = none := by
      obtain ⟨_, d00, _⟩ := hq 0 (by omega)
      simpa [Addr.add] using World.cell?_spot d00
     subst hspot
     have e : ∀ j, (⟨b, off, none⟩ : Addr).add j = ⟨b, off + j, none⟩ := fun j => by unfold Addr.add; split <;> simp_all
     rw [e] at d0 d1
     refine ⟨b, off, rfl, World.block_lt_of_cell? _ _ d0, ?_, ?_⟩
     . rw [List.getElem_map, List.getElem_range]; exact d0
     . rw [List.getElem_map, List.getElem_range]; exact d1
end
open Go.ChangeShapes Go.WideShapes Go.ChangeAt Go.RowKit
theorem irow_of {w : World} {x : Addr} {len cap : Nat} {zs : List Int} (hl : len <= cap) (hz : zs.length = cap) (hcell : ∀ i, i < zs.length -> w.cell? (x.add i) = some (.int .i64 (zs.getD i 0))) :
 IRow w (some x) len (fun i => zs.getD i 0) := by
 by_cases h0 : len = 0
 . exact .inl h0
 . obtain ⟨b, off, spot⟩ := x
   have hc := hcell 0 (by omega)
   have hspot : spot = none := by simpa [Addr.add] using World.cell?_spot hc
   subst hspot
   refine .inr ⟨b, off, rfl, World.block_lt_of_cell? w ⟨b, off, none⟩ (by simpa [Addr.add] using hc), fun i hi => ?_⟩
   have hci := hcell i (by omega)
   have e : (⟨b, off, none⟩ : Addr).add i = ⟨b, off + i, none⟩ := by unfold Addr.add; split <;> simp_all
   rw [e] at hci
   exact hci
end Go.Proofs.Ythehocmfpoglgaa
