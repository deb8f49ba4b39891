/- Rows of tokens among the arguments. Conditions: none. -/
import Derived.Test.YtjnglahjngiofaaLaw5a
import Derived.Test.YtjnglahjngiofaaFrame
import Derived.Lib.SmallJoins
import Derived.Deep.Slices
namespace Go.Proofs.Ytjnglahjngiofaa
open Go.ChangeShapes Go.WideShapes Go.ChangeAt Go.RowKit
open Go.Deep (oneCellFields hone_of)
set_option maxRecDepth 100000

section
variable {H : Type} {enc : TypeId × Value → H} {W : World} {base : Nat} {spare : Nat → Bool} {held : Bool}
theorem tok_struct : ∃ f0 f1 f2 : Field, Try.prog.underlying 35 = some (.struct #[f0, f1, f2]) ∧ f0.type = 5 ∧ f1.type = 3 ∧ f2.type = 3 ∧ oneCellFields Try.prog #[f0, f1, f2] = true := by
  refine ⟨_, _, _, Try.underlying35, rfl, rfl, rfl, by kernel_rfl⟩

theorem open_toks {v : Value} {d : DataW H} {p : List MemPlace} {b0 : Nat} {r : Reach} (hv : Value.okWide Try.prog W r b0 32 v) (h : DataW.Trod enc Try.prog W base (fun _ => true) held 32 v d p) :
    ∃ a len cap S, v = .slice a len cap ∧ S.length = len ∧ len ≤ 9223372036854775807 ∧ TkRow W a S := by
  obtain ⟨a, len, cap, rfl⟩ := okWide_slice Try.underlying32 hv
  obtain ⟨fuel, hf⟩ := h
  obtain ⟨f0, f1, f2, hs, t0, t1, t2, hone⟩ := tok_struct
  have hce : Try.prog.cellsOf 35 = 3 := by kernel_rfl
  rcases Go.Deep.open_slice Try.underlying32 hf with ⟨hcs, _⟩ | ⟨x, l, c, m, n, D, Pl, hcs, _, hl, hm, hmm, _, hx⟩
  · simp [Value.cells] at hcs
    obtain ⟨rfl, rfl, rfl⟩ := hcs
    exact ⟨none, 0, 0, [], rfl, rfl, by omega, .inl rfl⟩
  · simp [Value.cells] at hcs
    obtain ⟨rfl, rfl, rfl⟩ := hcs
    simp at hmm
    subst hmm
    have each : ∀ i, i < m → ∃ q : Tok, W.cell? (x.add (i * 3)) = some (.int .u8 (q.b.toNat : Int)) ∧ W.cell? (x.add (i * 3 + 1)) = some (.int .i64 q.l) ∧ W.cell? (x.add (i * 3 + 2)) = some (.int .i64 q.d) := by
      intro i hi
      obtain ⟨cs', h1, h2⟩ := hx i hi
      rw [hce] at h1
      obtain ⟨_, hlen, hcell⟩ := World.cells?_some h1
      obtain ⟨xs, k, _, hxy, _, hxl, hf⟩ := DataW.trod_struct hs h2
      obtain ⟨o0, k0⟩ := hone_of hone 0 f0 rfl
      obtain ⟨o1, k1⟩ := hone_of hone 1 f1 rfl
      obtain ⟨o2, k2⟩ := hone_of hone 2 f2 rfl
      match xs, hxl, cs', hlen with
      | [y0, y1, y2], _, [v0, v1, v2], _ =>
        have g0 := hf 0 f0 rfl
        have g1 := hf 1 f1 rfl
        have g2 := hf 2 f2 rfl
        simp [o0, o1, o2, k0, k1, k2] at g0 g1 g2
        rw [t0] at g0
        rw [t1] at g1
        rw [t2] at g2
        obtain ⟨s0, e0, _, w0⟩ := DataW.trod_int Try.underlying5 g0
        obtain ⟨s1, e1, _, _⟩ := DataW.trod_int Try.underlying3 g1
        obtain ⟨s2, e2, _, _⟩ := DataW.trod_int Try.underlying3 g2
        have c0 := hcell 0 (by omega)
        have c1 := hcell 1 (by omega)
        have c2 := hcell 2 (by omega)
        rw [Go.Deep.add_add] at c0 c1 c2
        simp at e0 e1 e2
        subst e0 e1 e2
        obtain ⟨b, rfl, hb⟩ := nat_u8 w0
        refine ⟨⟨UInt8.ofNat b, s1, s2⟩, ?_, by simpa using c1, by simpa using c2⟩
        have : (UInt8.ofNat b).toNat = b := by simp; omega
        rw [this]
        simpa using c0
    obtain ⟨q, hq⟩ := Go.Deep.choose_lt each
    refine ⟨some x, len, m, (List.range len).map q, rfl, by simp, by unfold maxLen at hm; omega, ?_⟩
    by_cases h0 : len = 0
    · subst h0; exact .inl rfl
    · obtain ⟨b, off, spot⟩ := x
      obtain ⟨d0, _, _⟩ := hq 0 (by omega)
      have hspot : spot = none := by simpa [Addr.add] using World.cell?_spot d0
      subst hspot
      have e : ∀ j, (⟨b, off, none⟩ : Addr).add j = ⟨b, off + j, none⟩ := fun j => by unfold Addr.add; split <;> simp_all
      refine .inr ⟨b, off, rfl, World.block_lt_of_cell? _ _ d0, fun i hi => ?_⟩
      rw [List.length_map, List.length_range] at hi
      have hsn : tk ((List.range len).map q) i = q i := by rw [tk_get (by simpa using hi)]; simp
      obtain ⟨d0, d1, d2⟩ := hq i (by omega)
      rw [e] at d0 d1 d2
      rw [hsn]
      exact ⟨d0, d1, d2⟩
end
end Go.Proofs.Ytjnglahjngiofaa
