/- Texts joined: Def7 DflP DefBad Few RTokK. Conditions: each theorem says its own. -/
import Derived.Test.YtjnglahjngiofaaJglaifh
import Derived.Test.YtjnglahjngiofaaTokensJ
import Derived.Test.YtjnglahjngiofaaJnkeaid
import Derived.Test.YtjnglahjngiofaaJkaegfj
import Derived.Test.YtjnglahjngiofaaLaw5aJ
namespace Go.Proofs.Ytjnglahjngiofaa
open Go.RowKit
set_option maxRecDepth 100000
theorem own_toks2 {e : TypeId} {w : World} {base : Nat} {v : Value} {S : List Tok} (h : OwnK e w base v S) : (S = [] /\ v = .slice none 0 0) \/ ∃ g cap, v = .slice (some ⟨g, 0, none⟩) S.length cap /\ S.length <= cap /\ TkRow w (some ⟨g, 0, none⟩) S := by
 obtain ⟨a, cap, h1, h2⟩ := h.view
 rcases h.2 with ⟨h3, h4⟩ | ⟨g, cap2, cur, h3, _, _, h4, _⟩
 . exact .inl ⟨List.eq_nil_of_length_eq_zero h4, h3⟩
 . refine .inr ⟨g, cap2, h3, h4, ?_⟩
   rw [h3] at h1
   injection h1 with e1 _ _
   rw [<- e1] at h2
   exact h2
noncomputable def pkE (fx : Bool) (S : List Tok) : List (Nat × Nat) := if fx = true then fixE S else dynS S
theorem packed_any (fx : Bool) (S : List Tok) (hS : S.length <= 4000) (base : Nat) (v : Value) (ht : ∀ t ∈ S, TokW 286 30 t /\ TokW 288 32 t) (w : World) (h : OwnK 35 w base v S) :
 Calls Try.prog 61 #[v, .bool fx] w fun e w' => e = .returned (.string (encB (pkE fx S))) /\ Below w.heap.size w w' := by
 rcases own_toks2 h with ⟨h1, rfl⟩ | ⟨g, cap, rfl, h2, h3⟩
 . cases fx
   . exact packed_dyn0 S h1 w
   . exact packed_fix0 S h1 w
 . cases fx
   . exact packed_dyn1 S hS g 0 cap h2 (fun t h => (ht t h).1) w h3
   . exact packed_fix S hS g 0 cap h2 (fun t h => (ht t h).2) w h3
noncomputable def bstB (S : List Tok) (u : ByteArray) : Nat -> ByteArray
 | 0 => u
 | j + 1 => if (encB (pkE (decide (j = 0)) S)).size < (bstB S u j).size then encB (pkE (decide (j = 0)) S) else bstB S u j
set_option maxHeartbeats 16000000 in
theorem deflate_any (s : ByteArray) (lv : Nat) (hlv : lv <= 9) (hs : s.size <= 65536) (hn : (tokF s lv s.size 0).length <= 4000) (w : World) :
 Calls Try.prog 36 #[.string s, .int .i64 (lv : Int)] w fun e w' => ∃ u, StoRes s u /\ e = .returned (.tuple #[.string (bstB (tokF s lv s.size 0) u 2), .int .i64 0]) /\ Below w.heap.size w w' := by
 have CT := Qf (fun W => tokens_any s lv hlv hs W)
 have CS := Qf (fun W => stored_any s hs W)
 have hex := tokF_exp s lv s.size 0 (by omega) (Nat.zero_le _)
 have ht := tokW_of hex
 obtain ⟨S, HS⟩ := Qi (tokF s lv s.size 0)
 rw [HS.out] at CT hn ht ⊢
 have CP := Qf (fun (fx : Bool) (base : Nat) (v : Value) (W : World) (h : OwnK 35 W base v S) => packed_any fx S hn base v ht W h)
 clear hex ht hn HS
 go_enter Try.func36, Try.ntmps36
 go_wp2_with fail
 refine (CT.out _).mono ?_
 rintro e w1 ⟨v, rfl, ho, hb1⟩
 have HO1 := Qf ho
 have HB1 := Qf hb1
 clear ho hb1 CT
 go_wp2_with fail
 refine (CS.out _).mono ?_
 rintro e w2 ⟨u, rfl, hu, hb2⟩
 have HO2 := Qf (HO1.out.below hb2 (Qa _))
 have HB2 := Qf (bthen HB1.out hb2)
 have HU := Qf hu
 have hal := (Below.refl w2.heap.size w2).alloc (Qa _) (.cells #[.bool true, .bool false] 4)
 have hbn := Blk.new w2 4 #[.bool true, .bool false]
 have HO3 := Qf (HO2.out.below hal (Qa _))
 have HB3 := Qf (bthen HB2.out hal)
 have HN3 := Qf hbn
 obtain ⟨Bb, HBb⟩ := Qi (w2.heap.size)
 rw [HBb.out] at HN3
 clear hu hb2 hal hbn CS HO1 HB1 HO2 HB2
 go_wp2_with fail
 rw [HBb.out]
 obtain ⟨w3, HW3⟩ := Qi (w2.alloc (.cells #[.bool true, .bool false] 4))
 rw [HW3.out] at HN3 HO3 HB3 ⊢
 clear HW3 HBb
 have Hb0 : Hid (bstB S u 0 = u) := Qf (Eq.refl _)
 go_loopw [8, 25] (fun b_ j_ wr => ∃ (j : Nat) (x : ByteArray), j <= 2 /\ j_ = .int .i64 (j : Int) /\ b_ = .string x /\ Hid (bstB S u j = x) /\ Hid (Blk wr Bb 4 #[.bool true, .bool false]) /\ Hid (OwnK 35 wr w.heap.size v S) /\ Hid (Below w.heap.size w wr)) (fun _ j _ => 2 - (intOf j).toNat)
 case atStart => exact ⟨0, u, by decide, rfl, rfl, Hb0, HN3, HO3, HB3⟩
 case round =>
  clear HN3 HO3 HB3 Hb0
  obtain ⟨j, x, hj, rfl, rfl, HX, HN, HO, HB⟩ := hrel
  by_cases hlt : j < 2
  . have dj : decide ((j : Int) < 2) = true := Qg (by omega)
    have djb : decide (j < 2) = true := Qg (by omega)
    have hjI : (j : Int) < 2 := by omega
    obtain ⟨fx, Hfx⟩ := Qi (decide (j = 0))
    have c0 : wr.cell? ⟨Bb, j, none⟩ = some (.bool fx) := by
     rw [Blk.cell HN.out, <- Hfx.out]
     rcases show j = 0 \/ j = 1 by omega with rfl | rfl <;> rfl
    have CPx := Qf (CP.out fx w.heap.size v wr HO.out)
    obtain ⟨t, Ht⟩ := Qi (encB (pkE fx S))
    rw [Ht.out] at CPx
    have hnx : bstB S u (j + 1) = if t.size < x.size then t else x := by
     show (if (encB (pkE (decide (j = 0)) S)).size < (bstB S u j).size then encB (pkE (decide (j = 0)) S) else bstB S u j) = _
     rw [Hfx.out, Ht.out, HX.out]
    have Hnx := Qf hnx
    clear hnx
    go_wp2_with fail
    refine CPx.out.mono ?_
    rintro e w4 ⟨rfl, hb4⟩
    have HN4 := Qf (HN.out.below hb4 HN.out.lt)
    have HO4 := Qf (HO.out.below hb4 (Qa _))
    have HB4 := Qf (bthen HB.out hb4)
    clear hb4 HN HO HB CPx
    by_cases hsz : t.size < x.size
    . have d1 : decide ((t.size : Int) < (x.size : Int)) = true := Qg (by omega)
      have d1b : decide (t.size < x.size) = true := Qg (by omega)
      have HX2 : Hid (bstB S u (j + 1) = t) := by show _ = _; rw [Hnx.out, if_pos hsz]
      go_wp2_with fail
      go_roundw
      case rel => exact ⟨j + 1, t, by omega, by go_num, rfl, HX2, HN4, HO4, HB4⟩
      case measure => simp [intOf]; omega
    . have d1 : decide ((t.size : Int) < (x.size : Int)) = false := Qh (by omega)
      have d1b : decide (t.size < x.size) = false := Qh (by omega)
      have HX2 : Hid (bstB S u (j + 1) = x) := by show _ = _; rw [Hnx.out, if_neg hsz]
      go_wp2_with fail
      go_roundw
      case rel => exact ⟨j + 1, x, by omega, by go_num, rfl, HX2, HN4, HO4, HB4⟩
      case measure => simp [intOf]; omega
  . have hj2 : Hid (j = 2) := by show _ = _; omega
    have dj : decide ((j : Int) < 2) = false := Qh (by omega)
    have djb : decide (j < 2) = false := Qh (by omega)
    go_wp2_with fail
    go_ret2
    have hX := HX.out
    rw [hj2.out] at hX
    exact ⟨u, HU.out, by rw [hX]; rfl, HB.out⟩
theorem terr_le {m m' : Int} (h : m <= m') {n : Nat} {t : Tok} (h0 : terr m n t = 0) : terr m' n t = 0 := by
 unfold terr at h0 ⊢
 by_cases h1 : t.l = 0
 . rw [if_pos h1] at h0 ⊢
   by_cases h2 : t.d ≠ 0
   . rw [if_pos h2] at h0; cases h0
   . rw [if_neg h2] at h0 ⊢
     by_cases h3 : m <= (n : Int)
     . rw [if_pos h3] at h0; cases h0
     . rw [if_neg (by omega)]
 . rw [if_neg h1] at h0 ⊢
   by_cases h2 : t.b ≠ 0 \/ t.l < 3 \/ 258 < t.l \/ t.d < 1 \/ 32768 < t.d \/ (n : Int) < t.d
   . rw [if_pos h2] at h0; cases h0
   . rw [if_neg h2] at h0 ⊢
     by_cases h3 : m < (n : Int) + t.l
     . rw [if_pos h3] at h0; cases h0
     . rw [if_neg (by omega)]
theorem texp_le {m m' : Int} (h : m <= m') : ∀ {S : List Tok} {o T : List UInt8}, texp m o S = (T, 0) -> texp m' o S = (T, 0) := by
 intro S
 induction S with
 | nil => intro o T h1; exact h1
 | cons t S ih =>
  intro o T h1
  obtain ⟨h2, h3⟩ := texp_cons h1
  rw [texp_step (terr_le h h2)]
  exact ih h3
theorem bst_two (S : List Tok) (u : ByteArray) : (bstB S u 2 = u \/ bstB S u 2 = encB (fixE S) \/ bstB S u 2 = encB (dynS S)) /\ (bstB S u 2).size <= u.size /\ (bstB S u 2).size <= (encB (fixE S)).size := by
 have e1 : bstB S u 1 = if (encB (fixE S)).size < u.size then encB (fixE S) else u := rfl
 have e2 : bstB S u 2 = if (encB (dynS S)).size < (bstB S u 1).size then encB (dynS S) else bstB S u 1 := rfl
 have h1 : (bstB S u 1 = u \/ bstB S u 1 = encB (fixE S)) /\ (bstB S u 1).size <= u.size /\ (bstB S u 1).size <= (encB (fixE S)).size := by
  rw [e1]
  split
  . exact ⟨.inr rfl, by omega, Qa _⟩
  . exact ⟨.inl rfl, Qa _, by omega⟩
 obtain ⟨h2, h3, h4⟩ := h1
 rw [e2]
 split
 . exact ⟨.inr (.inr rfl), by omega, by omega⟩
 . refine ⟨?_, h3, h4⟩
   rcases h2 with h | h
   . exact .inl h
   . exact .inr (.inl h)
def ReadsAs (d : ByteArray) (s : ByteArray) (most : Nat) : Prop := ∃ bs σ, inflR d most = .ok (bs, σ) /\ joinL [] bs = s.data.toList /\ σ.n < 8 /\ σ.out = s.size
theorem dfl_reads (s u : ByteArray) (lv most : Nat) (hm : s.size <= most) (hu : bstB (tokF s lv s.size 0) u 2 ≠ u \/ (u = stoS s /\ s.size <= 65535)) : ReadsAs (bstB (tokF s lv s.size 0) u 2) s most := by
 have hex : texp (most : Int) [] (tokF s lv s.size 0) = (s.data.toList, 0) := texp_le (by omega) (tokF_exp s lv s.size 0 (by omega) (Nat.zero_le _))
 have ht := fun t h => ((tokW_of hex) t h).1
 have hl : s.data.toList.length = s.size := by simp
 obtain ⟨S, hS⟩ : ∃ S, tokF s lv s.size 0 = S := ⟨_, rfl⟩
 rw [hS] at hex ht hu ⊢
 rcases (bst_two S u).1 with h | h | h
 . rcases hu with h2 | ⟨h2, h3⟩
   . exact absurd h h2
   . rw [h, h2]
     refine ⟨_, _, sto_infl s most h3 hm, ?_, by show 0 < 8; decide, rfl⟩
     show joinB [] ⟨0, s.data.toList, []⟩ = _
     show joinS ([] ++ s.data.toList) [] = _
     rfl
 . rw [h]
   refine ⟨_, _, fix_infl S most _ hex, fix_join S most _ hex, ?_, hl⟩
   show 8 * ((encN (fixE S) + 7) / 8) - encN (fixE S) < 8
   omega
 . rw [h]
   refine ⟨_, _, dyn_ok S most _ ht hex, texp_join most S [] _ hex, ?_, hl⟩
   show 8 * ((encN (dynS S) + 7) / 8) - encN (dynS S) < 8
   omega
noncomputable def dflB (s : ByteArray) (lv : Nat) : ByteArray := bstB (tokF s lv s.size 0) (stoS s) 2
theorem dflB_reads (s : ByteArray) (lv most : Nat) (hs : s.size <= 65535) (hm : s.size <= most) : ReadsAs (dflB s lv) s most := dfl_reads s (stoS s) lv most hm (.inr ⟨rfl, hs⟩)
theorem dflB_size (s : ByteArray) (lv : Nat) : (dflB s lv).size <= s.size + 5 := by
 rw [<- stoS_size]
 exact (bst_two _ _).2.1
theorem deflate_small (s : ByteArray) (lv : Nat) (hlv : lv <= 9) (hs : s.size <= 4000) (w : World) :
 Calls Try.prog 36 #[.string s, .int .i64 (lv : Int)] w fun e w' => e = .returned (.tuple #[.string (dflB s lv), .int .i64 0]) /\ Below w.heap.size w w' := by
 refine (deflate_any s lv hlv (by omega) (by have := tokF_len s lv s.size 0; omega) w).mono ?_
 rintro e w' ⟨u, hu, rfl, hb⟩
 rw [hu.1 (by omega)]
 exact ⟨rfl, hb⟩
theorem tokens_bad7 (s : ByteArray) (lv : Int) (h : lv < 0 \/ 9 < lv) (w : World) : Calls Try.prog 24 #[.string s, .int .i64 lv] w fun e w' => e = .returned (.tuple #[.slice none 0 0, .int .i64 1]) /\ w = w' := by
 by_cases h0 : lv < 0
 . have d0 : decide (lv < 0) = true := by rw [decide_eq_true_eq]; exact h0
   clear h h0
   go_enter Try.func24, Try.ntmps24
   go_wp2_with fail
   go_ret2
   exact ⟨rfl, rfl⟩
 . have d0 : decide (lv < 0) = false := by rw [decide_eq_false_iff_not]; exact h0
   have d1 : decide (9 < lv) = true := Qg (by omega)
   clear h h0
   go_enter Try.func24, Try.ntmps24
   go_wp2_with fail
   go_ret2
   exact ⟨rfl, rfl⟩
theorem deflate_bad (s : ByteArray) (lv : Int) (h : lv < 0 \/ 9 < lv) (w : World) : Calls Try.prog 36 #[.string s, .int .i64 lv] w fun e w' => e = .returned (.tuple #[.string ⟨#[]⟩, .int .i64 1]) /\ w = w' := by
 have CT := Qf (fun W => tokens_bad7 s lv h W)
 clear h
 go_enter Try.func36, Try.ntmps36
 go_wp2_with fail
 refine (CT.out _).mono ?_
 rintro e w1 ⟨rfl, rfl⟩
 go_wp2_with fail
 go_ret2
 exact ⟨rfl, rfl⟩
def few (s : ByteArray) (n : Nat) : ByteArray := if n < s.size then s.extract 0 n else s
theorem few_list (s : ByteArray) (n : Nat) : (few s n).data.toList = s.data.toList.take n := by
 unfold few
 split
 . simp
 . rw [List.take_of_length_le (by simp; omega)]
theorem few_size (s : ByteArray) (n : Nat) : (few s n).size <= n := by
 unfold few
 split
 . simp; omega
 . omega
theorem few_any (s : ByteArray) (n : Nat) (hn : n <= 100000) (_hs : s.size <= maxLen) (w : World) :
 Calls Try.prog 23 #[.string s, .int .i64 (n : Int)] w fun e w' => e = .returned (.string (few s n)) /\ w = w' := by
 by_cases h : n < s.size
 . have e := Qf (show few s n = s.extract 0 n by unfold few; rw [if_pos h])
   go_enter Try.func23, Try.ntmps23
   go_wp2
   go_ret
   exact ⟨by rw [e.out]; rfl, rfl⟩
 . have e := Qf (show few s n = s by unfold few; rw [if_neg h])
   go_enter Try.func23, Try.ntmps23
   go_wp2
   go_ret
   exact ⟨by rw [e.out]; rfl, rfl⟩
theorem bits_m (R P : Nat) (s : ByteArray) (p z most k : Nat) (hk : k <= 16) (hs : s.size <= 100000) (hp : p <= 8 * s.size) (w : World) (hR : RdAt w R P s p z most 0) :
 Calls Try.prog 47 #[.pointer (some ⟨R, 0, none⟩), .int .i64 (k : Int)] w fun r w' => ∃ v : Nat, v < 2 ^ k /\ v < 65536 /\ r = .returned (.int .i64 (v : Int)) /\ Rch R P w w' /\
  ((bitsM k (sg s p z) = .error 6 /\ RdAt w' R P s (p + k) z most 6 /\ (8 * s.size - p = 0 -> v = 0) /\ v < 2 ^ (8 * s.size - p)) \/ (bitsM k (sg s p z) = .ok (v, sg s (p + k) z) /\ p + k <= 8 * s.size /\ RdAt w' R P s (p + k) z most 0)) := by
 refine (bits_any R P s p z most 0 k hk hs (by omega) w hR).mono ?_
 rintro r w' ⟨rfl, hR', hC⟩
 refine ⟨bitsAt s p k, Nat.mod_lt _ (Nat.two_pow_pos k), bitsAt_lt s p k hk, rfl, hC, ?_⟩
 unfold bitsE at hR'
 by_cases h : 8 * s.size < p + k
 . rw [if_pos h] at hR'
   have hlt : bitsAt s p k < 2 ^ (8 * s.size - p) := by
    unfold bitsAt
    have h1 : num s / 2 ^ p < 2 ^ (8 * s.size - p) := by
     have h2 : num s < 2 ^ (8 * s.size) := by
      have := leN_lt s.data.toList
      rw [Nat.pow_mul]
      unfold num
      simpa using this
     rw [Nat.div_lt_iff_lt_mul (Nat.two_pow_pos p), <- Nat.pow_add, show 8 * s.size - p + p = 8 * s.size by omega]
     exact h2
    exact Nat.lt_of_le_of_lt (Nat.mod_le _ _) h1
   refine .inl ⟨bits_sg_short s p z k hp h, hR', fun h0 => ?_, hlt⟩
   rw [h0] at hlt
   have : (2 : Nat) ^ 0 = 1 := rfl
   omega
 . rw [if_neg h] at hR'
   exact .inr ⟨bits_sg s p z k (by omega), by omega, hR'⟩
theorem symbol_m (L : Nat -> Nat) (n : Nat) (hL : ∀ i, i < n -> L i <= 15) (hn : n <= 400) (T g N cap : Nat) (B : Nat -> Nat -> Int) (pv pn : Nat -> Nat) (hG : Grown (bitsF L n) L (InAll L n) B N pv pn)
 (R P : Nat) (s : ByteArray) (p z most : Nat) (hs : s.size <= 100000) (hp : p <= 8 * s.size) (hTP : T ≠ P) (hgP : g ≠ P) (w : World) (hA : TreeAt w T g N cap B) (hR : RdAt w R P s p z most 0) :
 Calls Try.prog 74 #[.pointer (some ⟨R, 0, none⟩), .pointer (some ⟨T, 0, none⟩)] w fun r w' => ∃ (v p' : Nat), r = .returned (.int .i64 (v : Int)) /\ Rch R P w w' /\ p < p' /\ p' <= p + 16 /\
  ((∃ e, e ≠ 0 /\ symM L n (sg s p z) = .error e /\ RdAt w' R P s p' z most e /\ v = 0) \/ (symM L n (sg s p z) = .ok (v, sg s p' z) /\ p' <= 8 * s.size /\ v < n /\ RdAt w' R P s p' z most 0)) := by
 refine (symbol_ok L n (fun i h => hL i h.1) hn T g N cap B pv pn hG R P s p z most hs (by omega) hTP hgP w hA hR).mono ?_
 rintro r w' ⟨sym, err, taken, rfl, hN, ht, hR', hC⟩
 have h1 := hN.1
 have hN2 := hN.rest hp
 have hnr := nextR_of L n hL hN2
 have hsy : symM L n (sg s p z) = if err = 0 then .ok (sym, sg s (p + taken) z) else .error err := by
  unfold symM
  have e1 : (sg s p z).X = num s / 2 ^ p := rfl
  have e2 : (sg s p z).n = 8 * s.size - p := rfl
  rw [e1, e2, hnr]
  by_cases h0 : err = 0
  . rw [if_pos h0, if_pos h0]
    unfold sg
    have e3 : num s / 2 ^ p / 2 ^ taken = num s / 2 ^ (p + taken) := by rw [Nat.div_div_eq_div_mul, <- Nat.pow_add]
    have e4 : 8 * s.size - p - taken = 8 * s.size - (p + taken) := by omega
    simp only [e3, e4]
  . rw [if_neg h0, if_neg h0]
 refine ⟨sym, p + taken, rfl, hC, by omega, by omega, ?_⟩
 by_cases h0 : err = 0
 . subst h0
   rw [if_pos rfl] at hsy
   rcases hN.2.2 with ⟨_, h, _⟩ | ⟨_, _, h, _⟩ | ⟨h2, h3, _⟩
   . cases h
   . cases h
   . exact .inr ⟨hsy, h2, h3.1, hR'⟩
 . rw [if_neg h0] at hsy
   refine .inl ⟨err, h0, hsy, hR', ?_⟩
   rcases hN.2.2 with ⟨_, _, h⟩ | ⟨_, _, _, h⟩ | ⟨_, _, _, _, h⟩
   . exact h
   . exact h
   . exact absurd h h0
section
variable {R P : Nat} {w w' : World}
theorem Rch.then_below {w0 : World} {B : Nat} (h : Rch R P w0 w) (hb : Below B w w') (hB : w0.heap.size <= B) : Rch R P w0 w' :=
 ⟨hb.os.trans h.1, hb.tape.trans h.2.1, hb.output.trans h.2.2.1, Qe h.2.2.2.1 hb.size, fun g hg h1 h2 => (hb.block g (by omega)).trans (h.2.2.2.2 g hg h1 h2)⟩
theorem Rch.cell (h : Rch R P w w') {b off : Nat} (hb : b < w.heap.size) (h1 : b ≠ R) (h2 : b ≠ P) : w'.cell? ⟨b, off, none⟩ = w.cell? ⟨b, off, none⟩ := by
 unfold World.cell?
 rw [h.2.2.2.2 b hb h1 h2]
theorem TreeAt.rch {T g N cap : Nat} {B : Nat -> Nat -> Int} (h : TreeAt w T g N cap B) (hc : Rch R P w w') (h1 : T ≠ R) (h2 : T ≠ P) (h3 : g ≠ R) (h4 : g ≠ P) : TreeAt w' T g N cap B :=
 ⟨hc.blk h.1 h1 h2, Qb h.2.1 hc.2.2.2.1, fun a b ha hb => (hc.cell h.2.1 h3 h4).trans (h.2.2 a b ha hb)⟩
theorem ownsRow_rch {base e size n : Nat} {v : Value} {xs : List Value} (h : w.ownsRow base e size v n xs) (hc : Rch R P w w') (h1 : R < base) (h2 : P < base) : w'.ownsRow base e size v n xs := by
 refine ⟨h.1, ?_⟩
 rcases h.2 with h | ⟨g, cap, cur, a1, a2, a3, a4⟩
 . exact .inl h
 . refine .inr ⟨g, cap, cur, a1, a2, ?_, a4⟩
   have hlt : g < w.heap.size := by
    rcases Nat.lt_or_ge g w.heap.size with h | h
    . exact h
    . rw [Array.getElem?_eq_none h] at a3; cases a3
   exact (hc.2.2.2.2 g hlt (by omega) (by omega)).trans a3
theorem OwnK.rch {base e : Nat} {v : Value} {S : List Tok} (h : OwnK e w base v S) (hc : Rch R P w w') (h1 : R < base) (h2 : P < base) : OwnK e w' base v S := ownsRow_rch h hc h1 h2
theorem IRow.rch {a : Option Addr} {n : Nat} {m : Nat -> Int} (h : IRow w a n m) (hc : Rch R P w w') (h1 : ∀ b off sp, a = some ⟨b, off, sp⟩ -> b ≠ R /\ b ≠ P) : IRow w' a n m := by
 rcases h with h | ⟨b, off, e, hb, hcell⟩
 . exact .inl h
 . obtain ⟨h2, h3⟩ := h1 b off none e
   exact .inr ⟨b, off, e, Qb hb hc.2.2.2.1, fun i hi => (hc.cell hb h2 h3).trans (hcell i hi)⟩
end
theorem size_near_b : ∀ i : Nat, i <= 28 -> 3 <= (sizeS false (i : Int)).1 /\ (sizeS false (i : Int)).1 <= 258 /\ (sizeS false (i : Int)).2 <= 5 := by decide
theorem size_far_b : ∀ i : Nat, i <= 29 -> 1 <= (sizeS true (i : Int)).1 /\ (sizeS true (i : Int)).1 <= 24577 /\ (sizeS true (i : Int)).2 <= 13 := by decide
theorem size_near_0 (i : Int) (h : 28 < i) : sizeS false i = (0, 0) := by unfold sizeS; rw [if_neg (by decide), if_pos (.inr h)]
theorem size_far_0 (i : Int) (h : 29 < i) : sizeS true i = (0, 0) := by unfold sizeS; rw [if_pos rfl, if_pos (.inr h)]
end Go.Proofs.Ytjnglahjngiofaa
