/- Tokens: what they say; rows of them. Conditions: none. -/
import Derived.Test.YtjnglahjngiofaaBase
import Derived.Laws.AppendOwnNone
import Derived.Deep.Cut
namespace Go.Proofs.Ytjnglahjngiofaa
open Go.RowKit
set_option maxRecDepth 100000

structure Tok where
  b : UInt8
  l : Int
  d : Int
instance : Inhabited Tok := ⟨⟨0, 0, 0⟩⟩
def tk (S : List Tok) (i : Nat) : Tok := S.getD i default
theorem tk_get {S : List Tok} {i : Nat} (h : i < S.length) : tk S i = S[i] := by simp [tk, List.getD, h]
theorem drop_tk {S : List Tok} {i : Nat} (h : i < S.length) : S.drop i = tk S i :: S.drop (i + 1) := by rw [tk_get h, List.drop_eq_getElem_cons h]

/-- One byte again, k times. -/
def rep (d : Nat) (o : List UInt8) : Nat → List UInt8
  | 0 => o
  | k + 1 => rep d o k ++ [(rep d o k).getD ((rep d o k).length - d) 0]
theorem rep_len (d : Nat) (o : List UInt8) (k : Nat) : (rep d o k).length = o.length + k := by
  induction k with
  | zero => rfl
  | succ k ih => show (rep d o k ++ [_]).length = _; rw [List.length_append, ih]; rfl
/-- The error at a token behind n bytes. -/
def terr (most : Int) (n : Nat) (t : Tok) : Nat :=
  if t.l = 0 then (if t.d ≠ 0 then 4 else if most ≤ (n : Int) then 2 else 0)
  else if t.b ≠ 0 ∨ t.l < 3 ∨ 258 < t.l ∨ t.d < 1 ∨ 32768 < t.d ∨ (n : Int) < t.d then 4
  else if most < (n : Int) + t.l then 2 else 0
def tout (o : List UInt8) (t : Tok) : List UInt8 := if t.l = 0 then o ++ [t.b] else rep t.d.toNat o t.l.toNat
/-- The text of tokens, the error. -/
def texp (most : Int) (o : List UInt8) : List Tok → List UInt8 × Nat
  | [] => (o, 0)
  | t :: r => if terr most o.length t = 0 then texp most (tout o t) r else ([], terr most o.length t)
theorem texp_step {most : Int} {o : List UInt8} {t : Tok} {r : List Tok} (h : terr most o.length t = 0) : texp most o (t :: r) = texp most (tout o t) r := if_pos h
theorem texp_stop {most : Int} {o : List UInt8} {t : Tok} {r : List Tok} {e : Nat} (h : terr most o.length t = e) (he : e ≠ 0) : texp most o (t :: r) = ([], e) := by
  show (if _ then _ else _) = _
  rw [if_neg (by rw [h]; exact he), h]

/-- The tokens S of type e lie behind a. -/
def TkRow (w : World) (a : Option Addr) (S : List Tok) : Prop :=
  S.length = 0 ∨ ∃ b off, a = some ⟨b, off, none⟩ ∧ b < w.heap.size ∧ ∀ i, i < S.length → w.cell? ⟨b, off + i * 3, none⟩ = some (.int .u8 ((tk S i).b.toNat : Int)) ∧ w.cell? ⟨b, off + i * 3 + 1, none⟩ = some (.int .i64 (tk S i).l) ∧ w.cell? ⟨b, off + i * 3 + 2, none⟩ = some (.int .i64 (tk S i).d)
section
variable {w w' : World} {a : Option Addr} {S : List Tok}
theorem TkRow.get (h : TkRow w a S) (i : Nat) (hi : i < S.length) : ∃ b off, a = some ⟨b, off, none⟩ ∧ b < w.heap.size ∧ w.cell? ⟨b, off + i * 3, none⟩ = some (.int .u8 ((tk S i).b.toNat : Int)) ∧ w.cell? ⟨b, off + i * 3 + 1, none⟩ = some (.int .i64 (tk S i).l) ∧ w.cell? ⟨b, off + i * 3 + 2, none⟩ = some (.int .i64 (tk S i).d) := by
  rcases h with h | ⟨b, off, h1, h2, h3⟩
  · omega
  · exact ⟨b, off, h1, h2, h3 i hi⟩
theorem TkRow.below {B : Nat} (h : TkRow w a S) (hb : Below B w w') (hB : w.heap.size ≤ B) : TkRow w' a S := by
  rcases h with h | ⟨b, off, h1, h2, h3⟩
  · exact .inl h
  · refine .inr ⟨b, off, h1, Nat.lt_of_lt_of_le h2 hb.size, fun i hi => ?_⟩
    obtain ⟨c0, c1, c2⟩ := h3 i hi
    have e : b < B := by omega
    exact ⟨(hb.cell (p := ⟨b, off + i * 3, none⟩) e).trans c0, (hb.cell (p := ⟨b, off + i * 3 + 1, none⟩) e).trans c1, (hb.cell (p := ⟨b, off + i * 3 + 2, none⟩) e).trans c2⟩
end
def kcells3 (S : List Tok) : List Value := S.flatMap fun x => [.int .u8 (x.b.toNat : Int), .int .i64 x.l, .int .i64 x.d]
theorem kcells3_length (S : List Tok) : (kcells3 S).length = S.length * 3 := by
  induction S with
  | nil => rfl
  | cons x r ih =>
    have e : kcells3 (x :: r) = .int .u8 (x.b.toNat : Int) :: .int .i64 x.l :: .int .i64 x.d :: kcells3 r := rfl
    rw [e]
    simp only [List.length_cons, ih]
    omega
theorem kcells3_append (S T : List Tok) : kcells3 (S ++ T) = kcells3 S ++ kcells3 T := by simp [kcells3]
theorem kcells3_at (S : List Tok) (i : Nat) (hi : i < S.length) : (kcells3 S)[i * 3]? = some (.int .u8 ((tk S i).b.toNat : Int)) ∧ (kcells3 S)[i * 3 + 1]? = some (.int .i64 (tk S i).l) ∧ (kcells3 S)[i * 3 + 2]? = some (.int .i64 (tk S i).d) := by
  induction S generalizing i with
  | nil => cases hi
  | cons x r ih =>
    have e : kcells3 (x :: r) = .int .u8 (x.b.toNat : Int) :: .int .i64 x.l :: .int .i64 x.d :: kcells3 r := rfl
    rw [e]
    cases i with
    | zero => exact ⟨rfl, rfl, rfl⟩
    | succ i =>
      rw [List.length_cons] at hi
      have := ih i (by omega)
      rw [show (i + 1) * 3 = i * 3 + 1 + 1 + 1 by omega]
      simp only [List.getElem?_cons_succ]
      exact this
theorem info_tok : (Try.prog.info? 35).map (fun i => (i.zero, i.size, i.bytes)) = some (some (.agg #[.int .u8 0, .int .i64 0, .int .i64 0]), 3, 24) := by kernel_rfl
theorem info_rtok : (Try.prog.info? 36).map (fun i => (i.zero, i.size, i.bytes)) = some (some (.agg #[.int .u8 0, .int .i64 0, .int .i64 0]), 3, 24) := by kernel_rfl
/-- The slice v owns the tokens S, of type e. -/
def OwnK (e : TypeId) (w : World) (base : Nat) (v : Value) (S : List Tok) : Prop := w.ownsRow base e 3 v S.length (kcells3 S)
theorem OwnK.view {e : TypeId} {w : World} {base : Nat} {v : Value} {S : List Tok} (h : OwnK e w base v S) : ∃ a cap, v = .slice a S.length cap ∧ TkRow w a S := by
  have hlt := World.ownsRow.lt h
  have hc := fun g hg => World.ownsRow.cells h (g := g) hg
  rcases h.2 with ⟨rfl, hl⟩ | ⟨g, cap, cur, rfl, h1, h2, h3, h4⟩
  · rw [hl]
    exact ⟨_, _, rfl, .inl hl⟩
  · refine ⟨_, _, rfl, .inr ⟨g, 0, rfl, (hlt g rfl).2, fun i hi => ?_⟩⟩
    obtain ⟨c0, c1, c2⟩ := kcells3_at S i hi
    rw [Nat.zero_add]
    have e0 : ∀ j, (⟨g, 0, none⟩ : Addr).add j = ⟨g, j, none⟩ := fun j => by unfold Addr.add; split <;> simp_all
    refine ⟨?_, ?_, ?_⟩
    · have := hc g rfl (i * 3) _ c0; rwa [e0] at this
    · have := hc g rfl (i * 3 + 1) _ c1; rwa [e0] at this
    · have := hc g rfl (i * 3 + 2) _ c2; rwa [e0] at this
theorem OwnK.below {e : TypeId} {w w' : World} {base B : Nat} {v : Value} {S : List Tok} (h : OwnK e w base v S) (hb : Below B w w') (hB : w.heap.size ≤ B) : OwnK e w' base v S := by
  have hlt := World.ownsRow.lt h
  refine ⟨h.1, ?_⟩
  rcases h.2 with h2 | ⟨g, cap, cur, rfl, h3, h4, h5⟩
  · exact .inl h2
  · exact .inr ⟨g, cap, cur, rfl, h3, (hb.block g (Nat.lt_of_lt_of_le (hlt g rfl).2 hB)).trans h4, h5⟩
theorem OwnB.below {w w' : World} {base B : Nat} {v : Value} {l : List UInt8} (h : OwnB w base v l) (hb : Below B w w') (hB : w.heap.size ≤ B) : OwnB w' base v l := by
  have hlt := World.ownsRow.lt h
  refine ⟨h.1, ?_⟩
  rcases h.2 with h2 | ⟨g, cap, cur, rfl, h3, h4, h5⟩
  · exact .inl h2
  · exact .inr ⟨g, cap, cur, rfl, h3, (hb.block g (Nat.lt_of_lt_of_le (hlt g rfl).2 hB)).trans h4, h5⟩
theorem row_blk {w : World} {b e s n P t : Nat} {v : Value} {x : List Value} {cs : Array Value} (h : w.ownsRow b e s v n x) (hB : Blk w P t cs) (hne : e ≠ t) : v.ownBlock = none ∨ v.ownBlock ≠ some P := by
  rcases h.2 with ⟨rfl, _⟩ | ⟨g, cap, cur, rfl, _, hh, _⟩
  · exact .inl rfl
  · right
    intro e'
    simp only [Value.ownBlock, Option.some.injEq] at e'
    subst e'
    unfold Blk at hB
    rw [hh] at hB
    simp only [Option.some.injEq, Obj.cells.injEq] at hB
    exact hne hB.2.1
theorem OwnB.slice {w : World} {base : Nat} {v : Value} {l : List UInt8} (h : OwnB w base v l) : ∃ a cap, v = .slice a l.length cap := by
  rcases h.2 with ⟨rfl, hl⟩ | ⟨g, cap, cur, rfl, _⟩
  · exact ⟨_, _, by rw [hl]⟩
  · exact ⟨_, _, rfl⟩
/-- What an Expand hands back. -/
def expV (p : List UInt8 × Nat) : Value := .tuple #[.string ⟨p.1.toArray⟩, .int .i64 (p.2 : Int)]

set_option maxHeartbeats 8000000 in
theorem expand_any (S : List Tok) (hS : S.length ≤ 1000000) (a : Option Addr) (cap : Nat) (most : Int) (hm : -9223372036854775808 ≤ most ∧ most ≤ 1000000) (w : World) (hr : TkRow w a S) :
    Calls Try.prog 20 #[.slice a S.length cap, .int .i64 most] w fun e w' => e = .returned (expV (texp most [] S)) ∧ Below w.heap.size w w' := by
  have Hr := Lib.hid hr
  obtain ⟨R, HR⟩ : ∃ R, Hid (texp most [] S = R) := ⟨_, Lib.hid (Eq.refl _)⟩
  obtain ⟨N, HN⟩ : ∃ N, Hid (S.length = N) := ⟨_, Lib.hid (Eq.refl _)⟩
  rw [HR.out]
  rw [HN.out] at hS ⊢
  clear hr
  have HB0 := Lib.hid (Below.refl w.heap.size w)
  have HO0 := Lib.hid (OwnB.nil w w.heap.size)
  go_enter Try.func20, Try.ntmps20
  go_wp2_with fail
  go_loopw [6, 11] (fun vo i wr => ∃ (k : Nat) (o : List UInt8), k ≤ N ∧ i = .int .i64 (k : Int) ∧ (o.length = 0 ∨ (o.length : Int) ≤ most) ∧ Hid (texp most o (S.drop k) = R) ∧ Hid (OwnB wr w.heap.size vo o) ∧ Hid (Below w.heap.size w wr)) (fun _ i _ => N - (intOf i).toNat)
  case atStart => exact ⟨0, [], by omega, rfl, .inl rfl, HR, HO0, HB0⟩
  case round =>
    clear HB0 HO0 HR
    obtain ⟨k, o, hk, rfl, hol, HR, HO, HB⟩ := hrel
    by_cases hlt : k < N
    · have hkl : k < S.length := by rw [HN.out]; exact hlt
      obtain ⟨b, off, rfl, hbl, c0, c1, c2⟩ := (Hr.out.below HB.out (Nat.le_refl _)).get k hkl
      have Hd := Lib.hid (drop_tk hkl)
      obtain ⟨t, Ht⟩ : ∃ t, Hid (tk S k = t) := ⟨_, Lib.hid (Eq.refl _)⟩
      rw [Ht.out] at c0 c1 c2 Hd
      rw [Hd.out] at HR
      obtain ⟨tb, tl, td⟩ := t
      simp only at c0 c1 c2
      have htb : tb.toNat < 256 := UInt8.toNat_lt tb
      obtain ⟨ol, Hol⟩ : ∃ n, Hid (o.length = n) := ⟨_, Lib.hid (Eq.refl _)⟩
      have HE : ∀ e, terr most ol ⟨tb, tl, td⟩ = e → e ≠ 0 → R = ([], e) := fun e h1 h2 => by
        rw [← HR.out]; exact texp_stop (by rw [Hol.out]; exact h1) h2
      have HG : terr most ol ⟨tb, tl, td⟩ = 0 → texp most (tout o ⟨tb, tl, td⟩) (S.drop (k + 1)) = R := fun h => by
        rw [← HR.out]; exact (texp_step (by rw [Hol.out]; exact h)).symm
      have hE := Lib.hid HE
      have hG := Lib.hid HG
      rw [Hol.out] at hol
      clear HE HG
      go_upto_region 5 with (fail)
      have hB4 := Blk.new wr 35 #[.int .u8 (tb.toNat : Int), .int .i64 tl, .int .i64 td]
      have HB4 := Lib.hid (HB.out.alloc HB.out.size (.cells #[.int .u8 (tb.toNat : Int), .int .i64 tl, .int .i64 td] 35))
      have HO4 := Lib.hid (HO.out.below ((Below.refl wr.heap.size wr).alloc (Nat.le_refl _) (.cells #[.int .u8 (tb.toNat : Int), .int .i64 tl, .int .i64 td] 35)) (Nat.le_refl _))
      obtain ⟨g4, Hg4⟩ : ∃ g, Hid (wr.heap.size = g) := ⟨_, Lib.hid (Eq.refl _)⟩
      rw [Hg4.out] at hB4 ⊢
      generalize wr.alloc (.cells #[.int .u8 (tb.toNat : Int), .int .i64 tl, .int .i64 td] 35) = w4 at *
      clear c0 c1 c2 HB HO
      obtain ⟨av, cv, rfl⟩ := HO4.out.slice
      rw [Hol.out] at HO4 ⊢
      have g0 := hB4.cell 0
      have g1 := hB4.cell 1
      have g2 := hB4.cell 2
      simp at g0 g1 g2
      by_cases hl0 : tl = 0
      · subst hl0
        by_cases hd0 : td = 0
        · subst hd0
          by_cases hmo : most ≤ (ol : Int)
          · have dm : decide (most ≤ (ol : Int)) = true := by simpa using hmo
            have HRe : Hid (R = ([], 2)) := hE.out 2 (by unfold terr; simp [hmo]) (by decide)
            go_wp2_with fail
            go_ret2
            exact ⟨by rw [HRe.out]; rfl, HB4.out⟩
          · have dm : decide (most ≤ (ol : Int)) = false := by simpa using hmo
            have HRn := Lib.hid (hG.out (by unfold terr; simp [hmo]))
            have hos := HO4.out
            have hbsw : w.heap.size ≤ _ := HB4.out.size
            have hbsx : w4.heap.size ≤ w4.heap.size := Nat.le_refl _
            go_wp2_with (first
              | (at_builtin; go_must (refine wpList_append_byte _ rfl (.tmp 25) (.tmp 28) rfl w.heap.size (.slice av ol cv) o (tb.toNat : Int) hos rfl rfl rfl ?_ ?_ ?_ hbsw ?_; omega; omega; (rw [Hol.out]; omega); intro v5 w5 hown5 hb5; have HO5 := Lib.hid hown5; have Hb5 := Lib.hid (HB4.out.trans hb5); clear hown5 hb5 hos))
              | fail)
            go_roundw
            case rel =>
              refine ⟨k + 1, o ++ [tb], by omega, by go_num, .inr (by rw [List.length_append, Hol.out]; simp; omega), HRn, ?_, Hb5⟩
              show OwnB _ _ _ _
              have h := HO5.out
              simp only [Int.toNat_natCast, UInt8.ofNat_toNat] at h
              exact h
            case measure => simp [intOf]; omega
        · have dd : (td != 0) = true := by simpa using hd0
          have HRe : Hid (R = ([], 4)) := hE.out 4 (by unfold terr; simp [hd0]) (by decide)
          go_wp2_with fail
          go_ret2
          exact ⟨by rw [HRe.out]; rfl, HB4.out⟩
      · have dl0 : (tl == 0) = false := by simpa using hl0
        by_cases hbad : tb ≠ 0 ∨ tl < 3 ∨ 258 < tl ∨ td < 1 ∨ 32768 < td ∨ (ol : Int) < td
        · have HRe : Hid (R = ([], 4)) := hE.out 4 (by unfold terr; rw [if_neg hl0, if_pos hbad]) (by decide)
          have Hbad := Lib.hid hbad
          clear hbad hE hG
          by_cases h1 : tb.toNat = 0
          · have d1 : ((tb.toNat : Int) != 0) = false := by simp [h1]
            have htb0 : tb = 0 := by apply UInt8.toNat_inj.1; simpa using h1
            by_cases h2 : tl < 3
            · have d2 : decide (tl < 3) = true := by simpa using h2
              clear h1 htb0
              go_wp2_with fail
              go_ret2
              exact ⟨by rw [HRe.out]; rfl, HB4.out⟩
            have d2 : decide (tl < 3) = false := by simpa using h2
            by_cases h3 : 258 < tl
            · have d3 : decide (258 < tl) = true := by simpa using h3
              clear h1 htb0
              go_wp2_with fail
              go_ret2
              exact ⟨by rw [HRe.out]; rfl, HB4.out⟩
            have d3 : decide (258 < tl) = false := by simpa using h3
            by_cases h4 : td < 1
            · have d4 : decide (td < 1) = true := by simpa using h4
              clear h1 htb0
              go_wp2_with fail
              go_ret2
              exact ⟨by rw [HRe.out]; rfl, HB4.out⟩
            have d4 : decide (td < 1) = false := by simpa using h4
            by_cases h5 : 32768 < td
            · have d5 : decide (32768 < td) = true := by simpa using h5
              clear h1 htb0
              go_wp2_with fail
              go_ret2
              exact ⟨by rw [HRe.out]; rfl, HB4.out⟩
            have d5 : decide (32768 < td) = false := by simpa using h5
            have h6 : (ol : Int) < td := by
              rcases Hbad.out with h | h | h | h | h | h
              · exact absurd htb0 h
              · omega
              · omega
              · omega
              · omega
              · exact h
            have d6 : decide ((ol : Int) < td) = true := by simpa using h6
            clear h1 htb0
            go_wp2_with fail
            go_ret2
            exact ⟨by rw [HRe.out]; rfl, HB4.out⟩
          · have d1 : ((tb.toNat : Int) != 0) = true := by rw [bne_iff_ne]; omega
            clear h1
            go_wp2_with fail
            go_ret2
            exact ⟨by rw [HRe.out]; rfl, HB4.out⟩
        · have hgd : tb = 0 ∧ 3 ≤ tl ∧ tl ≤ 258 ∧ 1 ≤ td ∧ td ≤ 32768 ∧ td ≤ (ol : Int) := by
            refine ⟨?_, by omega, by omega, by omega, by omega, by omega⟩
            by_cases e : tb = 0
            · exact e
            · exact absurd (.inl e) hbad
          obtain ⟨rfl, h2, h3, h4, h5, h6⟩ := hgd
          have d1 : (((0 : UInt8).toNat : Int) != 0) = false := rfl
          have d2 : decide (tl < 3) = false := by simp; omega
          have d3 : decide (258 < tl) = false := by simp; omega
          have d4 : decide (td < 1) = false := by simp; omega
          have d5 : decide (32768 < td) = false := by simp; omega
          have d6 : decide ((ol : Int) < td) = false := by simp; omega
          have hol2 : (ol : Int) ≤ most := by rcases hol with h | h <;> omega
          have Hbad := Lib.hid hbad
          clear hbad
          by_cases h7 : most - (ol : Int) < tl
          · have d7 : decide (most - (ol : Int) < tl) = true := by simpa using h7
            have HRe : Hid (R = ([], 2)) := hE.out 2 (by unfold terr; rw [if_neg hl0, if_neg Hbad.out, if_pos (show most < (ol : Int) + tl by omega)]) (by decide)
            clear hE hG
            go_wp2_with fail
            go_ret2
            exact ⟨by rw [HRe.out]; rfl, HB4.out⟩
          · have d7 : decide (most - (ol : Int) < tl) = false := by simpa using h7
            have HRn := hG.out (by unfold terr; rw [if_neg hl0, if_neg Hbad.out, if_neg (show ¬ most < (ol : Int) + tl by omega)])
            obtain ⟨L, rfl⟩ : ∃ L : Nat, tl = (L : Int) := ⟨tl.toNat, by omega⟩
            obtain ⟨D, rfl⟩ : ∃ D : Nat, td = (D : Int) := ⟨td.toNat, by omega⟩
            have hto : tout o ⟨0, (L : Int), (D : Int)⟩ = rep D o L := by unfold tout; rw [if_neg hl0]; rfl
            rw [hto] at HRn
            have HRN := Lib.hid HRn
            have HB4' := Lib.hid hB4
            clear hE hG HRn hto hl0
            go_wp2_with fail
            go_loopw [6, 69] (fun vo i wr => ∃ j : Nat, j ≤ L ∧ i = .int .i64 (j : Int) ∧ Hid (OwnB wr w.heap.size vo (rep D o j)) ∧ Hid (Below w.heap.size w wr) ∧ Hid (Blk wr g4 35 #[.int .u8 ((0 : UInt8).toNat : Int), .int .i64 (L : Int), .int .i64 (D : Int)])) (fun _ i _ => L - (intOf i).toNat)
            case atStart => exact ⟨0, by omega, rfl, HO4, HB4, HB4'⟩
            case round =>
              clear HO4 HB4 HB4' hB4 g0 g1 g2
              obtain ⟨j, hj, rfl, HO, HB, HK⟩ := hrel
              have hrl := rep_len D o j
              rw [Hol.out] at hrl
              by_cases hltj : j < L
              · obtain ⟨g, cg, rfl, _⟩ := HO.out.form (by omega)
                have hc := HO.out.cell (ol + j - D) (by omega)
                obtain ⟨y, Hy⟩ : ∃ y, Hid ((rep D o j)[ol + j - D]'(by omega) = y) := ⟨_, Lib.hid (Eq.refl _)⟩
                have Hsucc : Hid (rep D o (j + 1) = rep D o j ++ [y]) := by
                  show rep D o j ++ [_] = _
                  rw [hrl, ← Hy.out]
                  simp [List.getD, show ol + j - D < (rep D o j).length by omega]
                rw [Hy.out] at hc
                have hyl : y.toNat < 256 := UInt8.toNat_lt y
                obtain ⟨q, Hq⟩ : ∃ q, Hid (ol + j - D = q) := ⟨_, Lib.hid (Eq.refl _)⟩
                have hqi : ((ol + j : Nat) : Int) - (D : Int) = (q : Int) := by have := Hq.out; omega
                have hql : q < ol + j := by have := Hq.out; omega
                rw [Hq.out] at hc
                rw [hrl] at HO ⊢
                have k2 := HK.out.cell 2
                simp at k2
                have hgl := HK.out.lt
                obtain ⟨P, HPl⟩ : ∃ n, Hid (ol + j = n) := ⟨_, Lib.hid (Eq.refl _)⟩
                rw [HPl.out] at hqi hql hrl HO ⊢
                have hPl : P ≤ 1000000 := by have := HPl.out; omega
                have hos2 := HO.out
                unfold OwnB at hos2
                rw [hrl] at hos2
                have hbsw : w.heap.size ≤ _ := HB.out.size
                have HKx := HK
                clear HK
                go_wp2_with (first
                  | (at_builtin; go_must (refine wpList_append_elem _ rfl (.tmp 71) (.tmp 80) rfl Try.underlying47 info_u8 rfl (by decide) w.heap.size (.slice (some ⟨g, 0, none⟩) P cg) P (bcells (rep D o j)) [.int .u8 (y.toNat : Int)] hos2 rfl ?_ rfl rfl rfl ?_ ?_ hbsw ?_; (intro z hz; simp at hz; subst hz; rfl); (unfold maxLen; omega); omega; intro v5 w5 hown5 hg5; have HO5 := Lib.hid hown5; have Hb5 := Lib.hid (HB.out.trans (below_grown hos2 hg5 hbsw)); have HK5 := Lib.hid (HKx.out.grown hg5 (fun e => by rcases row_blk hos2 HKx.out (by decide) with h | h; (rw [h] at e; cases e); exact h e.symm)); clear hown5 hg5 hos2))
                  | fail)
                go_roundw
                case rel =>
                  refine ⟨j + 1, by omega, by go_num, ?_, Hb5, HK5⟩
                  show OwnB _ _ _ _
                  rw [Hsucc.out]
                  unfold OwnB
                  rw [List.length_append, hrl, bcells_append]
                  exact HO5.out
                case measure => simp [intOf]; omega
              · obtain rfl : j = L := by omega
                have k1 := HK.out.cell 1
                simp at k1
                go_wp2_with fail
                go_roundw
                case rel => exact ⟨k + 1, rep D o j, by omega, by go_num, .inr (by rw [rep_len, Hol.out]; omega), HRN, HO, HB⟩
                case measure => simp [intOf]; omega
    · obtain rfl : k = N := by omega
      have hRd : R = (o, 0) := by
        rw [← HR.out, List.drop_of_length_le (by rw [HN.out]; exact Nat.le_refl _)]; rfl
      have hcv := run_string_own _ _ _ _ HO.out
      have HRd := Lib.hid hRd
      clear hRd
      go_wp2_with fail
      go_ret2
      exact ⟨by rw [HRd.out]; rfl, HB.out⟩
end Go.Proofs.Ytjnglahjngiofaa
