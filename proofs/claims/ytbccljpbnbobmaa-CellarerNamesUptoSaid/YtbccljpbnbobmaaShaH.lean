/- digest: Write, Sum on what has been written so far; Sum and Name of a text. Conditions: texts of at most ten thousand bytes. -/
import Derived.Test.YtbccljpbnbobmaaShaS
import Derived.Test.YtbccljpbnbobmaaHex
import Derived.Test.YtbccljpbnbobmaaUnhex
namespace Go.Proofs.Ytbccljpbnbobmaa
open Go.RowKit
set_option maxRecDepth 100000

/-- H has taken l. -/
def HSt (w : World) (H : Nat) (l : List UInt8) : Prop :=
  (l = [] ∧ Blk w H 55 (hcells (fun _ => 0) ⟨#[]⟩ 0 false)) ∨
  ∃ R : ByteArray, R.data.toList = l.drop (64 * (l.length / 64)) ∧ Blk w H 55 (hcells (runG shaK l (l.length / 64)) R l.length true)
/-- SHA-256, as the program reckons it. -/
def shaT (l : List UInt8) : List UInt8 := l ++ padL (l.length - 64 * (l.length / 64)) l.length
def shaL (l : List UInt8) : List UInt8 := outB (runG shaK (shaT l) ((shaT l).length / 64)) 8
theorem shaL_len (l : List UInt8) : (shaL l).length = 32 := outB_len _ 8

theorem runG_front (f : Nat → Nat) (l s : List UInt8) (k : Nat) (hk : 64 * k ≤ l.length) : runG f (l ++ s) k = runG f l k := by
  induction k with
  | zero => rw [runG, runG]
  | succ k ih =>
    rw [runG_succ, runG_succ, ih (by omega)]
    congr 1
    rw [List.drop_append_of_le_length (by omega), List.take_append_of_le_length (by rw [List.length_drop]; omega)]
theorem runG_more (f : Nat → Nat) (t : List UInt8) (k m : Nat) : runG (runG f t k) (t.drop (64 * k)) m = runG f t (k + m) := by
  induction m with
  | zero => rw [runG]; rfl
  | succ m ih =>
    rw [runG_succ, ih, ← Nat.add_assoc, runG_succ, List.drop_drop]
    congr 3
    omega
theorem run_join (f : Nat → Nat) (l s : List UInt8) (R : List UInt8) (hR : R = l.drop (64 * (l.length / 64))) :
    runG (runG f l (l.length / 64)) (R ++ s) ((R ++ s).length / 64) = runG f (l ++ s) ((l ++ s).length / 64) ∧ (R ++ s).drop (64 * ((R ++ s).length / 64)) = (l ++ s).drop (64 * ((l ++ s).length / 64)) := by
  have hk : 64 * (l.length / 64) ≤ l.length := by omega
  have e1 : R ++ s = (l ++ s).drop (64 * (l.length / 64)) := by rw [hR, List.drop_append_of_le_length hk]
  have e2 : (l ++ s).length / 64 = l.length / 64 + (R ++ s).length / 64 := by
    rw [e1, List.length_drop]
    rw [List.length_append]
    omega
  constructor
  · rw [e2, ← runG_more, runG_front f l s _ hk, ← e1]
  · have e3 : (R ++ s).drop (64 * ((R ++ s).length / 64)) = ((l ++ s).drop (64 * (l.length / 64))).drop (64 * ((R ++ s).length / 64)) := by rw [← e1]
    rw [e3, List.drop_drop, e2]
    congr 1
    omega

theorem hst_write (H : Nat) (l : List UInt8) (hl : l.length ≤ 9000) (s : ByteArray) (hs : s.size ≤ 10000) (w : World) (hH : HSt w H l) :
    Calls Try.prog 36 #[.pointer (some ⟨H, 0, none⟩), .string s] w fun e w' => e = .returned (.tuple #[]) ∧ HSt w' H (l ++ s.data.toList) ∧ Onl H w w' := by
  have hss : s.data.toList.length = s.size := by simp
  rcases hH with ⟨rfl, hB⟩ | ⟨R, hR, hB⟩
  · refine (write_new H s hs w hB).mono ?_
    intro e w' h
    unfold endR at h
    obtain ⟨rfl, hO, R, hR, hB⟩ := h
    refine ⟨rfl, .inr ⟨R, ?_, ?_⟩, hO⟩
    · rw [List.nil_append]; exact hR
    · rw [List.nil_append, hss]; exact hB
  · have hRs : R.size ≤ 64 := by
      have e : R.data.toList.length = R.size := by simp
      rw [hR, List.length_drop] at e
      omega
    refine (write_begun H _ (runG_lt shaK l (fun j _ => shaK_lt j) _) R s (by omega) hs l.length (by omega) w hB).mono ?_
    intro e w' h
    unfold endR at h
    obtain ⟨rfl, hO, R', hR', hB'⟩ := h
    obtain ⟨j1, j2⟩ := run_join shaK l s.data.toList R.data.toList hR
    rw [j2] at hR'
    rw [j1] at hB'
    refine ⟨rfl, .inr ⟨R', hR', ?_⟩, hO⟩
    have e : l.length + s.size = (l ++ s.data.toList).length := by rw [List.length_append, hss]
    rw [e] at hB'
    exact hB'
theorem padL_small (R n : Nat) : (padL R n).length ≤ 80 := by
  unfold padL
  rw [List.length_append, List.length_cons, List.length_replicate, be8_len]
  omega
theorem hst_sum (H : Nat) (l : List UInt8) (hl : l.length ≤ 9000) (w : World) (hH : HSt w H l) :
    Calls Try.prog 37 #[.pointer (some ⟨H, 0, none⟩)] w fun e w' => e = .returned (.string ⟨(shaL l).toArray⟩) ∧ Below w.heap.size w w' := by
  rcases hH with ⟨rfl, hB⟩ | ⟨R, hR, hB⟩
  · have h := sum_gen H (fun _ => 0) shaK ⟨#[]⟩ (by decide) 0 (by decide) false (fun W E pad hp hE => by
      have h := write_new E pad (by omega) W hE
      have e : (⟨#[]⟩ : ByteArray).data.toList ++ pad.data.toList = pad.data.toList := rfl
      rw [e, Nat.zero_add]
      exact h) (shaT []) rfl (runG shaK (shaT []) ((shaT []).length / 64)) rfl (fun j hj => runG_lt shaK _ (fun j _ => shaK_lt j) _ j hj) w hB
    exact h
  · have hRs : R.size = l.length - 64 * (l.length / 64) := by
      have e : R.data.toList.length = R.size := by simp
      rw [hR, List.length_drop] at e
      omega
    obtain ⟨j1, j2⟩ := run_join shaK l (padL R.size l.length) R.data.toList hR
    have et : shaT l = l ++ padL R.size l.length := by unfold shaT; rw [hRs]
    have h := sum_gen H _ (runG shaK l (l.length / 64)) R (by omega) l.length (by omega) true (fun W E pad hp hE =>
      write_begun E _ (runG_lt shaK l (fun j _ => shaK_lt j) _) R pad (by omega) (by omega) l.length (by omega) W hE) (R.data.toList ++ padL R.size l.length) rfl (runG shaK (shaT l) ((shaT l).length / 64)) (by rw [j1, et]) (fun j hj => runG_lt shaK _ (fun j _ => shaK_lt j) _ j hj) w hB
    exact h
theorem hst_drew {w : World} {H : Nat} {l : List UInt8} (h : HSt w H l) : HSt w.drew H l := h
theorem HSt.lt {w : World} {H : Nat} {l : List UInt8} (h : HSt w H l) : H < w.heap.size := by
  rcases h with ⟨_, h⟩ | ⟨_, _, h⟩
  · exact h.lt
  · exact h.lt
theorem HSt.same {w w' : World} {H : Nat} {l : List UInt8} (h : HSt w H l) (he : w'.heap[H]? = w.heap[H]?) : HSt w' H l := by
  rcases h with ⟨h1, h2⟩ | ⟨R, h1, h2⟩
  · exact .inl ⟨h1, he.trans h2⟩
  · exact .inr ⟨R, h1, he.trans h2⟩
theorem HSt.below {w w' : World} {H B : Nat} {l : List UInt8} (h : HSt w H l) (hb : Below B w w') (hB : H < B) : HSt w' H l := h.same (hb.block H hB)
theorem HSt.new (w : World) : HSt (w.alloc (.cells (hcells (fun _ => 0) ⟨#[]⟩ 0 false) 55)) w.heap.size [] := .inl ⟨rfl, Blk.new w _ _⟩

theorem sum_any (s : ByteArray) (hs : s.size ≤ 9000) (w : World) : Calls Try.prog 34 #[.string s] w fun e w' => e = .returned (.string ⟨(shaL s.data.toList).toArray⟩) ∧ Below w.heap.size w w' := by
  have hz := zero_hash
  have h0 := HSt.new w
  have hb := (Below.refl w.heap.size w).alloc (Nat.le_refl _) (.cells (hcells (fun _ => 0) ⟨#[]⟩ 0 false) 55)
  have hss : s.data.toList.length = s.size := by simp
  have CW := hst_write w.heap.size [] (by decide) s (by omega) _ h0
  rw [List.nil_append] at CW
  have HCW := Lib.hid CW
  have HB := Lib.hid hb
  clear CW h0 hb
  go_enter Try.func34, Try.ntmps34
  go_wp2_with fail
  refine HCW.out.mono ?_
  rintro e w1 ⟨rfl, hS, hO⟩
  have CS := hst_sum w.heap.size s.data.toList (by omega) w1 hS
  have HCS := Lib.hid CS
  have HB1 := Lib.hid (hO.old HB.out HB.out.size (Nat.le_refl _))
  clear CS hS hO HCW
  go_wp2_with fail
  refine HCS.out.mono ?_
  rintro e w2 ⟨rfl, hb2⟩
  have HB2 := Lib.hid (HB1.out.trans (hb2.mono HB1.out.size))
  clear hb2 HCS
  go_wp2_with fail
  go_ret
  exact ⟨rfl, HB2.out⟩
end Go.Proofs.Ytbccljpbnbobmaa
