/- Texts joined: Def7 DflP Wk Frame HeadF. Conditions: each theorem says its own. -/
import Derived.WalkKit
import Derived.ProofKit
import Derived.OpenShut
import Derived.ShutString
import Derived.ChangeOld
import Derived.Below
import Derived.SizedLaws
import Derived.Lib.SmallJoins
import Derived.SliceStrings
import Derived.Deep.Slices
import Derived.Test.YthehocmfpoglgaaJgphlfh
import Derived.Test.YthehocmfpoglgaaTokensJ
import Derived.Test.YthehocmfpoglgaaJlijgje
import Derived.Test.YthehocmfpoglgaaJphpdbo
import Derived.Test.YthehocmfpoglgaaRows
import Derived.Test.YthehocmfpoglgaaJkcmgfp
namespace Go.Proofs.Ythehocmfpoglgaa
open Go.RowKit
set_option maxRecDepth 100000
theorem own_toks2 {e : TypeId} {w : World} {base : Nat} {v : Value} {S : List Tok} (h : OwnK e w base v S) : (S = [] /\ v = .slice none 0 0) \/ ∃ g cap, v = .slice (some ⟨g, 0, none⟩) S.length cap /\ S.length <= cap /\ TkRow w (some ⟨g, 0, none⟩) S := by
 obtain ⟨a, cap, h1, h2⟩ := h.view
 rcases h.2 with ⟨h3, h4⟩ | ⟨g, cap2, cur, h3, _, _, h4, _⟩
 . exact .inl ⟨List.eq_nil_of_length_eq_zero h4, h3⟩
 . refine .inr ⟨g, cap2, h3, h4, ?_⟩
   rw [h3] at h1
   injection h1 with e1 _ _
   rw [<- e1] at h2
   exact h2
noncomputable def pkE (fx : Bool) (S : List Tok) : List (Nat × Nat) := if fx = true then fixE S else dynS S
theorem packed_any (fx : Bool) (S : List Tok) (hS : S.length <= 4000) (base : Nat) (v : Value) (ht : ∀ t ∈ S, TokW 286 30 t /\ TokW 288 32 t) (w : World) (h : OwnK 110 w base v S) :
 Calls Try.prog 40 #[v, .bool fx] w fun e w' => e = .returned (.string (encB (pkE fx S))) /\ Below w.heap.size w w' := by
 rcases own_toks2 h with ⟨h1, rfl⟩ | ⟨g, cap, rfl, h2, h3⟩
 . cases fx
   . exact packed_dyn0 S h1 w
   . exact packed_fix0 S h1 w
 . cases fx
   . exact packed_dyn1 S hS g 0 cap h2 (fun t h => (ht t h).1) w h3
   . exact packed_fix S hS g 0 cap h2 (fun t h => (ht t h).2) w h3
noncomputable def bstB (S : List Tok) (u : ByteArray) : Nat -> ByteArray
 | 0 => u
 | j + 1 => if (encB (pkE (decide (j = 0)) S)).size < (bstB S u j).size then encB (pkE (decide (j = 0)) S) else bstB S u j
set_option maxHeartbeats 16000000 in
theorem deflate_any (s : ByteArray) (lv : Nat) (hlv : lv <= 9) (hs : s.size <= 65536) (hn : (tokF s lv s.size 0).length <= 4000) (w : World) :
 Calls Try.prog 15 #[.string s, .int .i64 (lv : Int)] w fun e w' => ∃ u, StoRes s u /\ e = .returned (.tuple #[.string (bstB (tokF s lv s.size 0) u 2), .int .i64 0]) /\ Below w.heap.size w w' := by
 have CT := Qf (fun W => tokens_any s lv hlv hs W)
 have CS := Qf (fun W => stored_any s hs W)
 have hex := tokF_exp s lv s.size 0 (by omega) (Nat.zero_le _)
 have ht := tokW_of hex
 obtain ⟨S, HS⟩ := Qi (tokF s lv s.size 0)
 rw [HS.out] at CT hn ht ⊢
 have CP := Qf (fun (fx : Bool) (base : Nat) (v : Value) (W : World) (h : OwnK 110 W base v S) => packed_any fx S hn base v ht W h)
 clear hex ht hn HS
 go_enter Try.func15, Try.ntmps15
 go_wp2_with fail
 refine (CT.out _).mono ?_
 rintro e w1 ⟨v, rfl, ho, hb1⟩
 have HO1 := Qf ho
 have HB1 := Qf hb1
 clear ho hb1 CT
 go_wp2_with fail
 refine (CS.out _).mono ?_
 rintro e w2 ⟨u, rfl, hu, hb2⟩
 have HO2 := Qf (HO1.out.below hb2 (Qa _))
 have HB2 := Qf (bthen HB1.out hb2)
 have HU := Qf hu
 have hal := (Below.refl w2.heap.size w2).alloc (Qa _) (.cells #[.bool true, .bool false] 4)
 have hbn := Blk.new w2 4 #[.bool true, .bool false]
 have HO3 := Qf (HO2.out.below hal (Qa _))
 have HB3 := Qf (bthen HB2.out hal)
 have HN3 := Qf hbn
 obtain ⟨Bb, HBb⟩ := Qi (w2.heap.size)
 rw [HBb.out] at HN3
 clear hu hb2 hal hbn CS HO1 HB1 HO2 HB2
 go_wp2_with fail
 rw [HBb.out]
 obtain ⟨w3, HW3⟩ := Qi (w2.alloc (.cells #[.bool true, .bool false] 4))
 rw [HW3.out] at HN3 HO3 HB3 ⊢
 clear HW3 HBb
 have Hb0 : Hid (bstB S u 0 = u) := Qf (Eq.refl _)
 go_loopw [8, 25] (fun b_ j_ wr => ∃ (j : Nat) (x : ByteArray), j <= 2 /\ j_ = .int .i64 (j : Int) /\ b_ = .string x /\ Hid (bstB S u j = x) /\ Hid (Blk wr Bb 4 #[.bool true, .bool false]) /\ Hid (OwnK 110 wr w.heap.size v S) /\ Hid (Below w.heap.size w wr)) (fun _ j _ => 2 - (intOf j).toNat)
 case atStart => exact ⟨0, u, by decide, rfl, rfl, Hb0, HN3, HO3, HB3⟩
 case round =>
  clear HN3 HO3 HB3 Hb0
  obtain ⟨j, x, hj, rfl, rfl, HX, HN, HO, HB⟩ := hrel
  by_cases hlt : j < 2
  . have dj : decide ((j : Int) < 2) = true := Qg (by omega)
    have djb : decide (j < 2) = true := Qg (by omega)
    have hjI : (j : Int) < 2 := by omega
    obtain ⟨fx, Hfx⟩ := Qi (decide (j = 0))
    have c0 : wr.cell? ⟨Bb, j, none⟩ = some (.bool fx) := by
     rw [Blk.cell HN.out, <- Hfx.out]
     rcases show j = 0 \/ j = 1 by omega with rfl | rfl <;> rfl
    have CPx := Qf (CP.out fx w.heap.size v wr HO.out)
    obtain ⟨t, Ht⟩ := Qi (encB (pkE fx S))
    rw [Ht.out] at CPx
    have hnx : bstB S u (j + 1) = if t.size < x.size then t else x := by
     show (if (encB (pkE (decide (j = 0)) S)).size < (bstB S u j).size then encB (pkE (decide (j = 0)) S) else bstB S u j) = _
     rw [Hfx.out, Ht.out, HX.out]
    have Hnx := Qf hnx
    clear hnx
    go_wp2_with fail
    refine CPx.out.mono ?_
    rintro e w4 ⟨rfl, hb4⟩
    have HN4 := Qf (HN.out.below hb4 HN.out.lt)
    have HO4 := Qf (HO.out.below hb4 (Qa _))
    have HB4 := Qf (bthen HB.out hb4)
    clear hb4 HN HO HB CPx
    by_cases hsz : t.size < x.size
    . have d1 : decide ((t.size : Int) < (x.size : Int)) = true := Qg (by omega)
      have d1b : decide (t.size < x.size) = true := Qg (by omega)
      have HX2 : Hid (bstB S u (j + 1) = t) := by show _ = _; rw [Hnx.out, if_pos hsz]
      go_wp2_with fail
      go_roundw
      case rel => exact ⟨j + 1, t, by omega, by go_num, rfl, HX2, HN4, HO4, HB4⟩
      case measure => simp [intOf]; omega
    . have d1 : decide ((t.size : Int) < (x.size : Int)) = false := Qh (by omega)
      have d1b : decide (t.size < x.size) = false := Qh (by omega)
      have HX2 : Hid (bstB S u (j + 1) = x) := by show _ = _; rw [Hnx.out, if_neg hsz]
      go_wp2_with fail
      go_roundw
      case rel => exact ⟨j + 1, x, by omega, by go_num, rfl, HX2, HN4, HO4, HB4⟩
      case measure => simp [intOf]; omega
  . have hj2 : Hid (j = 2) := by show _ = _; omega
    have dj : decide ((j : Int) < 2) = false := Qh (by omega)
    have djb : decide (j < 2) = false := Qh (by omega)
    go_wp2_with fail
    go_ret2
    have hX := HX.out
    rw [hj2.out] at hX
    exact ⟨u, HU.out, by rw [hX]; rfl, HB.out⟩
theorem bst_two (S : List Tok) (u : ByteArray) : (bstB S u 2 = u \/ bstB S u 2 = encB (fixE S) \/ bstB S u 2 = encB (dynS S)) /\ (bstB S u 2).size <= u.size /\ (bstB S u 2).size <= (encB (fixE S)).size := by
 have e1 : bstB S u 1 = if (encB (fixE S)).size < u.size then encB (fixE S) else u := rfl
 have e2 : bstB S u 2 = if (encB (dynS S)).size < (bstB S u 1).size then encB (dynS S) else bstB S u 1 := rfl
 have h1 : (bstB S u 1 = u \/ bstB S u 1 = encB (fixE S)) /\ (bstB S u 1).size <= u.size /\ (bstB S u 1).size <= (encB (fixE S)).size := by
  rw [e1]
  split
  . exact ⟨.inr rfl, by omega, Qa _⟩
  . exact ⟨.inl rfl, Qa _, by omega⟩
 obtain ⟨h2, h3, h4⟩ := h1
 rw [e2]
 split
 . exact ⟨.inr (.inr rfl), by omega, by omega⟩
 . refine ⟨?_, h3, h4⟩
   rcases h2 with h | h
   . exact .inl h
   . exact .inr (.inl h)
noncomputable def dflB (s : ByteArray) (lv : Nat) : ByteArray := bstB (tokF s lv s.size 0) (stoS s) 2
theorem deflate_small (s : ByteArray) (lv : Nat) (hlv : lv <= 9) (hs : s.size <= 4000) (w : World) :
 Calls Try.prog 15 #[.string s, .int .i64 (lv : Int)] w fun e w' => e = .returned (.tuple #[.string (dflB s lv), .int .i64 0]) /\ Below w.heap.size w w' := by
 refine (deflate_any s lv hlv (by omega) (by have := tokF_len s lv s.size 0; omega) w).mono ?_
 rintro e w' ⟨u, hu, rfl, hb⟩
 rw [hu.1 (by omega)]
 exact ⟨rfl, hb⟩
theorem encN_cons (a b : Nat) (l : List (Nat × Nat)) : encN ((a, b) :: l) = b + encN l := rfl
theorem dflB_two (s : ByteArray) (lv : Nat) : 2 <= (dflB s lv).size := by
 unfold dflB
 obtain ⟨h, _⟩ := bst_two (tokF s lv s.size 0) (stoS s)
 rcases h with h | h | h
 . rw [h, stoS_size]; omega
 . rw [h, encB_size]
   unfold fixE
   rw [encN_cons, encN_cons, encN_app]
   have e1 : encN [symE (lens fixL) 288 256] = 7 := by decide +kernel
   rw [e1]
   omega
 . rw [h, encB_size]
   unfold dynS dynE headE
   rw [encN_cons, encN_cons, List.cons_append, encN_cons, List.cons_append, encN_cons, List.cons_append, encN_cons]
   omega
def strA : ByteArray := ⟨#[97]⟩
def strHi : ByteArray := ⟨#[104, 105]⟩
theorem nmB_true {s : ByteArray} (h : nmOK s) : nmB s = true := by
 classical
 unfold nmB
 exact decide_eq_true h
theorem nmB_a : nmB strA = true := nmB_true ⟨by decide, by decide, fun i hi => by
 have : i = 0 := by have e : strA.size = 1 := rfl; omega
 subst this
 decide⟩
theorem wake_chk : chkF [(strA, strHi)] = 0 := by
 unfold chkF chkL
 rw [if_neg (by decide), if_neg (by decide), nmB_a]
 have e : strLe strA ⟨#[]⟩ = false := by decide +kernel
 rw [e]
 rfl
theorem wake_write : ∃ s, writeF (fun x => dflB x 6) [(strA, strHi)] = .ok s /\ s.size = 102 /\ readF s = .ok [(strA, strHi)] := by
 have e1 : packL (fun x => dflB x 6) [(strA, strHi)] 0 = [⟨⟨strA, 0, crcOf 0 strHi.data.toList, 2, 2, 0⟩, strHi, strHi⟩] := by
  have h2 := dflB_two strHi 6
  rw [packL, packL]
  unfold packOf
  have hz : strHi.size = 2 := rfl
  dsimp only
  rw [hz, if_neg (by omega)]
  rfl
 have e2 : (wholeL (packL (fun x => dflB x 6) [(strA, strHi)] 0)).length = 102 := by
  rw [e1]
  unfold wholeL
  rw [List.length_append, indexL_len]
  show (archL [_]).length + ((idxH [_]).length + 22) = 102
  unfold archL idxH
  rw [List.flatMap_cons, List.flatMap_cons, List.length_append, List.length_append, partL_len, idxL1_len]
  rfl
 have e3 : writeF (fun x => dflB x 6) [(strA, strHi)] = .ok ⟨(wholeL (packL (fun x => dflB x 6) [(strA, strHi)] 0)).toArray⟩ := by
  unfold writeF
  rw [wake_chk, if_neg (by decide), if_neg (by rw [e2]; decide)]
 obtain ⟨_, h2, _⟩ := write_read e3 (fun f hf => by
  rw [List.mem_singleton] at hf
  subst hf
  intro h
  have h2 := dflB_two strHi 6
  have hz : strHi.size = 2 := rfl
  dsimp only at h
  omega)
 refine ⟨_, e3, ?_, h2⟩
 show (wholeL _).toArray.size = 102
 rw [List.size_toArray, e2]
set_option maxHeartbeats 4000000 in
theorem awake8_any (w : World) : Calls Try.prog 9 #[] w fun e w' => e = .returned (.bool true) /\ Below w.heap.size w w' := by
 obtain ⟨s, h1, h2, h3⟩ := wake_write
 have CW : Hid (∀ W a cap, FRow W a [(strA, strHi)] -> Calls Try.prog 20 #[.slice a 1 cap, .int .i64 6] W fun e w' => e = .returned (.tuple #[.string s, .int .i64 0]) /\ Below W.heap.size W w') := by
  intro W a cap hr
  refine (write_any (fun x => dflB x 6) [(strA, strHi)] a cap 6 (by decide) (by decide) (fun _ f hf W' => ?_) W hr).mono ?_
  . rw [List.mem_singleton] at hf
    subst hf
    exact deflate_small strHi 6 (by decide) (by decide) W'
  . rintro e w' ⟨hb, ⟨k, hk, _, _⟩ | ⟨x, hx, he⟩⟩
    . rw [h1] at hk; cases hk
    . rw [h1] at hx; injection hx with hx; subst hx; exact ⟨he, hb⟩
 have CR : Hid (∀ W, Calls Try.prog 16 #[.string s] W fun e w' => Below W.heap.size W w' /\ ∃ a cap, e = .returned (.tuple #[.slice a 1 cap, .int .i64 0]) /\ FRow w' a [(strA, strHi)]) := by
  intro W
  refine (read_any s (by omega) W).mono ?_
  rintro e w' ⟨hb, ⟨k, hk, _, _⟩ | ⟨l, v, hl, he, hv⟩⟩
  . rw [h3] at hk; cases hk
  . rw [h3] at hl; injection hl with hl; subst hl
    obtain ⟨a, cap, rfl, hr⟩ := hv.view
    exact ⟨hb, a, cap, he, hr⟩
 have hsI : (s.size : Int) = 102 := by omega
 clear h1 h3
 have hr0 : FRow (w.alloc (.cells #[.string strA, .string strHi] 44)) (some ⟨w.heap.size, 0, none⟩) [(strA, strHi)] := fun k hk => by
  have : k = 0 := by simp at hk; exact hk
  subst this
  have hb := Blk.new w 44 #[.string strA, .string strHi]
  exact ⟨_, 0, rfl, hb.lt, hb.cell 0, hb.cell 1⟩
 have HR0 := Qf hr0
 have HB0 := Qf ((Below.refl w.heap.size w).alloc (Qa _) (.cells #[.string strA, .string strHi] 44))
 clear hr0
 go_enter Try.func9, Try.ntmps9
 go_wp2_with fail
 refine (CW.out _ _ _ HR0.out).mono ?_
 rintro e w1 ⟨rfl, hb1⟩
 have HB1 := Qf (bthen HB0.out hb1)
 clear hb1
 go_wp2_with fail
 refine (CR.out _).mono ?_
 rintro e w2 ⟨hb2, a, cap, rfl, hr2⟩
 have HB2 := Qf (bthen HB1.out hb2)
 obtain ⟨b, off, rfl, hbl, c0, c1⟩ := hr2 0 (by decide)
 simp only [Nat.zero_mul, Nat.add_zero] at c0 c1
 have d0 : w2.cell? ⟨b, off, none⟩ = some (.string ⟨#[97]⟩) := c0
 have d1 : w2.cell? ⟨b, off + 1, none⟩ = some (.string ⟨#[104, 105]⟩) := c1
 clear hb2 hr2 c0 c1
 go_wp2_with fail
 go_ret
 exact ⟨rfl, HB2.out⟩
open Go.ChangeShapes Go.WideShapes Go.ChangeAt Go.RowKit
theorem own : ownKnob Try.prog.godebug = none := by kernel_rfl
theorem laidOut : laidOutB Try.prog = true := by kernel_rfl
theorem nat_u32 {a : Int} (h : (Lit.int .u32 a).wf = true) : ∃ n : Nat, a = (n : Int) /\ n < 4294967296 := by
 have h1 : IntKind.u32.min = 0 := rfl
 have h2 : IntKind.u32.max = 4294967295 := rfl
 simp only [Lit.wf, Bool.and_eq_true, decide_eq_true_eq, h1, h2] at h
 exact ⟨a.toNat, by omega, by omega⟩
open Go.ChangeShapes Go.WideShapes Go.ChangeAt Go.RowKit
open Go.ChangeMaps (open_string shut_string)
open Go.Deep (oneCellFields hone_of)
set_option maxRecDepth 100000
section
variable {H : Type} {enc : TypeId × Value -> H} {W : World} {base : Nat} {spare : Nat -> Bool} {held : Bool}
theorem bulk_part {H : Type} {d : DataW H} {l : List (DataW H)} (h : d ∈ l) : Rows.uptoBulk d <= Rows.uptoBulkAll l := by
 induction l with
 | nil => cases h
 | cons x r ih =>
  simp only [Rows.uptoBulkAll]
  cases List.mem_cons.1 h with
  | inl e => subst e; omega
  | inr e => have := ih e; omega
theorem head_struct : ∃ f0 f1 f2 f3 f4 f5 : Field, Try.prog.underlying 26 = some (.struct #[f0, f1, f2, f3, f4, f5]) /\ f0.type = 9 /\ f1.type = 3 /\ f2.type = 24 /\ f3.type = 3 /\ f4.type = 3 /\ f5.type = 3 /\ oneCellFields Try.prog #[f0, f1, f2, f3, f4, f5] = true := by
 refine ⟨_, _, _, _, _, _, Try.underlying26, rfl, rfl, rfl, rfl, rfl, rfl, by kernel_rfl⟩
theorem head_cells {n : Nat} {cs' : List Value} {d : DataW H × List MemPlace} (hlen : cs'.length = 6) (h2 : DataW.trod enc Try.prog W base spare held n 26 cs' = some d) :
 ∃ q : Hd, cs' = q.cells.toList /\ q.crc < 4294967296 /\ q.name.size <= Rows.uptoBulk d.1 /\ q.name.size <= maxLen /\ ((∀ n ∈ d.1.weights Try.prog 26, n <= reachBytes) -> q.name.size <= reachBytes) := by
 obtain ⟨f0, f1, f2, f3, f4, f5, hs, t0, t1, t2, t3, t4, t5, hone⟩ := head_struct
 obtain ⟨xs, k, _, hxy, _, hxl, hf⟩ := DataW.trod_struct hs h2
 obtain ⟨o0, k0⟩ := hone_of hone 0 f0 rfl
 obtain ⟨o1, k1⟩ := hone_of hone 1 f1 rfl
 obtain ⟨o2, k2⟩ := hone_of hone 2 f2 rfl
 obtain ⟨o3, k3⟩ := hone_of hone 3 f3 rfl
 obtain ⟨o4, k4⟩ := hone_of hone 4 f4 rfl
 obtain ⟨o5, k5⟩ := hone_of hone 5 f5 rfl
 match xs, hxl, cs', hlen with
 | [y0, y1, y2, y3, y4, y5], _, [v0, v1, v2, v3, v4, v5], _ =>
  have g0 := hf 0 f0 rfl
  have g1 := hf 1 f1 rfl
  have g2 := hf 2 f2 rfl
  have g3 := hf 3 f3 rfl
  have g4 := hf 4 f4 rfl
  have g5 := hf 5 f5 rfl
  simp [o0, o1, o2, o3, o4, o5, k0, k1, k2, k3, k4, k5] at g0 g1 g2 g3 g4 g5
  rw [t0] at g0
  rw [t1] at g1
  rw [t2] at g2
  rw [t3] at g3
  rw [t4] at g4
  rw [t5] at g5
  obtain ⟨s0, e0, hy0, z0⟩ := DataW.trod_string Try.underlying9 g0
  obtain ⟨s1, e1, _, _⟩ := DataW.trod_int Try.underlying3 g1
  obtain ⟨s2, e2, _, w2⟩ := DataW.trod_int Try.underlying24 g2
  obtain ⟨s3, e3, _, _⟩ := DataW.trod_int Try.underlying3 g3
  obtain ⟨s4, e4, _, _⟩ := DataW.trod_int Try.underlying3 g4
  obtain ⟨s5, e5, _, _⟩ := DataW.trod_int Try.underlying3 g5
  simp at e0 e1 e2 e3 e4 e5
  subst e0 e1 e2 e3 e4 e5
  obtain ⟨c, rfl, hc⟩ := nat_u32 w2
  have hl : s0.data.toList.length = s0.size := by simp
  refine ⟨⟨s0, s1, c, s3, s4, s5⟩, rfl, hc, ?_, z0, fun hw => ?_⟩
  . rw [hxy]
    show s0.size <= Rows.uptoBulk (.agg ([y0, y1, y2, y3, y4, y5].map (·.1)))
    simp only [Rows.uptoBulk, List.map_cons, Rows.uptoBulkAll, hy0]
    omega
  . have h1 := hw s0.data.toList.length (by
     rw [hxy]
     simp only [DataW.weights, hs]
     refine DataW.weights_mem_each (j := 0) (t := f0.type) rfl rfl _ ?_
     show _ ∈ y0.1.weights _ _
     rw [hy0]
     simp [DataW.weights])
    show s0.size <= _
    omega
theorem open_heads {v : Value} {d : DataW H} {p : List MemPlace} {b0 : Nat} {r : Reach} (hv : Value.okWide Try.prog W r b0 22 v) (h : DataW.Trod enc Try.prog W base (fun _ => true) held 22 v d p) :
 ∃ a cap L, v = .slice a (List.length L) cap /\ L.length <= maxLen /\ (∀ h ∈ L, h.crc < 4294967296 /\ h.name.size <= Rows.uptoBulk d) /\ HRow W a L := by
 obtain ⟨a, len, cap, rfl⟩ := okWide_slice Try.underlying22 hv
 obtain ⟨fuel, hf⟩ := h
 have hce : Try.prog.cellsOf 26 = 6 := by kernel_rfl
 rcases Go.Deep.open_slice Try.underlying22 hf with ⟨hcs, _⟩ | ⟨x, l, c, m, n, D, Pl, hcs, _, hl, hm, hmm, hxd, hx⟩
 . simp [Value.cells] at hcs
   obtain ⟨rfl, rfl, rfl⟩ := hcs
   exact ⟨none, 0, [], rfl, Nat.zero_le _, (fun f hf => by cases hf), fun k hk => by cases hk⟩
 . simp [Value.cells] at hcs
   obtain ⟨rfl, rfl, rfl⟩ := hcs
   simp at hmm
   subst hmm
   simp only [Prod.mk.injEq] at hxd
   have hbulk : ∀ i, i < len -> Rows.uptoBulk (D i) <= Rows.uptoBulk d := fun i hi => by
    rw [hxd.1]
    have : D i ∈ (List.range len).map D := List.mem_map.2 ⟨i, List.mem_range.2 hi, rfl⟩
    have h1 := bulk_part this
    simp only [Rows.uptoBulk]
    omega
   have each : ∀ i, i < m -> ∃ q : Hd, (q.crc < 4294967296 /\ q.name.size <= Rows.uptoBulk (D i)) /\ ∀ k u, q.cells[k]? = some u -> W.cell? (x.add (i * 6 + k)) = some u := by
    intro i hi
    obtain ⟨cs', h1, h2⟩ := hx i hi
    rw [hce] at h1
    obtain ⟨_, hlen, hcell⟩ := World.cells?_some h1
    obtain ⟨q, hq, h3, h4, _⟩ := head_cells hlen h2
    subst hq
    refine ⟨q, ⟨h3, h4⟩, fun k u hu => ?_⟩
    have hk : k < 6 := by
     rcases Nat.lt_or_ge k 6 with h | h
     . exact h
     . rw [Array.getElem?_eq_none (by exact h)] at hu; cases hu
    have := hcell k (by exact hk)
    rw [Go.Deep.add_add] at this
    rw [this, Array.getElem?_toList]
    exact hu
   haveI : Inhabited Hd := ⟨⟨⟨#[]⟩, 0, 0, 0, 0, 0⟩⟩
   obtain ⟨q, hq⟩ := Go.Deep.choose_lt each
   have hln : ((List.range len).map q).length = len := by simp
   refine ⟨some x, m, (List.range len).map q, by rw [hln], by rw [hln]; omega, ?_, ?_⟩
   . intro f hf
     rw [List.mem_map] at hf
     obtain ⟨i, hi, rfl⟩ := hf
     rw [List.mem_range] at hi
     exact ⟨(hq i (by omega)).1.1, Qe (hq i (by omega)).1.2 (hbulk i hi)⟩
   . intro k hk
     rw [hln] at hk
     obtain ⟨b, off, spot⟩ := x
     have hspot : spot = none := by
      have d00 := (hq 0 (by omega)).2 0 _ rfl
      simpa [Addr.add] using World.cell?_spot d00
     subst hspot
     have e : ∀ j, (⟨b, off, none⟩ : Addr).add j = ⟨b, off + j, none⟩ := fun j => by unfold Addr.add; split <;> simp_all
     have hk2 := (hq k (by omega)).2
     have d0 := hk2 0 _ rfl
     rw [e] at d0
     refine ⟨b, off, rfl, World.block_lt_of_cell? _ _ d0, fun i u hu => ?_⟩
     rw [List.getElem_map, List.getElem_range] at hu
     have := hk2 i u hu
     rw [e, <- Nat.add_assoc] at this
     exact this
end
end Go.Proofs.Ythehocmfpoglgaa
