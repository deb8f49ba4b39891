/- Rows of acts among the arguments. Conditions: none. -/
import Derived.Test.YtginjnpboggnbaaAct
import Derived.Test.YtginjnpboggnbaaFrame
import Derived.Lib.SmallJoins
import Derived.Deep.Slices
namespace Go.Proofs.Ytginjnpboggnbaa
open Go.ChangeShapes Go.WideShapes Go.ChangeAt Go.RowKit
open Go.Deep (oneCellFields hone_of)
set_option maxRecDepth 100000

section
variable {H : Type} {enc : TypeId × Value → H} {W : World} {base : Nat} {spare : Nat → Bool} {held : Bool}
theorem act_struct : ∃ f0 f1 f2 f3 : Field, Try.prog.underlying 40 = some (.struct #[f0, f1, f2, f3]) ∧ f0.type = 3 ∧ f1.type = 3 ∧ f2.type = 29 ∧ f3.type = 9 ∧ oneCellFields Try.prog #[f0, f1, f2, f3] = true := by
  refine ⟨_, _, _, _, Try.underlying40, rfl, rfl, rfl, rfl, by kernel_rfl⟩

theorem open_acts {v : Value} {d : DataW H} {p : List MemPlace} {b0 : Nat} {r : Reach} (hv : Value.okWide Try.prog W r b0 33 v) (h : DataW.Trod enc Try.prog W base (fun _ => true) held 33 v d p) :
    ∃ a len cap S, v = .slice a len cap ∧ S.length = len ∧ len ≤ 9223372036854775807 ∧ AcOk S ∧ AcRow W a S := by
  obtain ⟨a, len, cap, rfl⟩ := okWide_slice Try.underlying33 hv
  obtain ⟨fuel, hf⟩ := h
  obtain ⟨f0, f1, f2, f3, hs, t0, t1, t2, t3, hone⟩ := act_struct
  have hce : Try.prog.cellsOf 40 = 4 := by kernel_rfl
  rcases Go.Deep.open_slice Try.underlying33 hf with ⟨hcs, _⟩ | ⟨x, l, c, m, n, D, Pl, hcs, _, hl, hm, hmm, _, hx⟩
  · simp [Value.cells] at hcs
    obtain ⟨rfl, rfl, rfl⟩ := hcs
    exact ⟨none, 0, 0, [], rfl, rfl, by omega, fun i hi => by simp at hi, .inl rfl⟩
  · simp [Value.cells] at hcs
    obtain ⟨rfl, rfl, rfl⟩ := hcs
    simp at hmm
    subst hmm
    have each : ∀ i, i < m → ∃ q : Ac, (W.cell? (x.add (i * 4)) = some (.int .i64 q.kind) ∧ W.cell? (x.add (i * 4 + 1)) = some (.int .i64 q.n) ∧ W.cell? (x.add (i * 4 + 2)) = some (.int .u32 (q.x : Int)) ∧ W.cell? (x.add (i * 4 + 3)) = some (.string q.s)) ∧
        q.x < 4294967296 ∧ q.s.size ≤ maxLen ∧ -9223372036854775808 ≤ q.n ∧ q.n ≤ 9223372036854775807 := by
      intro i hi
      obtain ⟨cs', h1, h2⟩ := hx i hi
      rw [hce] at h1
      obtain ⟨_, hlen, hcell⟩ := World.cells?_some h1
      obtain ⟨xs, k, _, hxy, _, hxl, hf⟩ := DataW.trod_struct hs h2
      obtain ⟨o0, k0⟩ := hone_of hone 0 f0 rfl
      obtain ⟨o1, k1⟩ := hone_of hone 1 f1 rfl
      obtain ⟨o2, k2⟩ := hone_of hone 2 f2 rfl
      obtain ⟨o3, k3⟩ := hone_of hone 3 f3 rfl
      match xs, hxl, cs', hlen with
      | [y0, y1, y2, y3], _, [v0, v1, v2, v3], _ =>
        have g0 := hf 0 f0 rfl
        have g1 := hf 1 f1 rfl
        have g2 := hf 2 f2 rfl
        have g3 := hf 3 f3 rfl
        simp [o0, o1, o2, o3, k0, k1, k2, k3] at g0 g1 g2 g3
        rw [t0] at g0
        rw [t1] at g1
        rw [t2] at g2
        rw [t3] at g3
        obtain ⟨s0, e0, _, _⟩ := DataW.trod_int Try.underlying3 g0
        obtain ⟨s1, e1, _, w1⟩ := DataW.trod_int Try.underlying3 g1
        obtain ⟨s2, e2, _, w2⟩ := DataW.trod_int Try.underlying29 g2
        obtain ⟨s3, e3, _, w3⟩ := DataW.trod_string Try.underlying9 g3
        have c0 := hcell 0 (by omega)
        have c1 := hcell 1 (by omega)
        have c2 := hcell 2 (by omega)
        have c3 := hcell 3 (by omega)
        rw [Go.Deep.add_add] at c0 c1 c2 c3
        simp at e0 e1 e2 e3
        subst e0 e1 e2 e3
        obtain ⟨b, rfl, hb⟩ := nat_u32 w2
        exact ⟨⟨s0, s1, b, s3⟩, ⟨by simpa using c0, by simpa using c1, by simpa using c2, by simpa using c3⟩, hb, w3, bd_i64 w1⟩
    obtain ⟨q, hq⟩ := Go.Deep.choose_lt each
    have hac : ∀ i, i < len → ac ((List.range len).map q) i = q i := fun i hi => by rw [ac_get (by simpa using hi)]; simp
    refine ⟨some x, len, m, (List.range len).map q, rfl, by simp, by unfold maxLen at hm; omega, fun i hi => ?_, ?_⟩
    · rw [List.length_map, List.length_range] at hi
      rw [hac i hi]
      exact (hq i (by omega)).2
    by_cases h0 : len = 0
    · subst h0; exact .inl rfl
    · obtain ⟨b, off, spot⟩ := x
      obtain ⟨⟨d0, _⟩, _⟩ := hq 0 (by omega)
      have hspot : spot = none := by simpa [Addr.add] using World.cell?_spot d0
      subst hspot
      have e : ∀ j, (⟨b, off, none⟩ : Addr).add j = ⟨b, off + j, none⟩ := fun j => by unfold Addr.add; split <;> simp_all
      refine .inr ⟨b, off, rfl, World.block_lt_of_cell? _ _ d0, fun i hi => ?_⟩
      rw [List.length_map, List.length_range] at hi
      obtain ⟨⟨d0, d1, d2, d3⟩, _⟩ := hq i (by omega)
      rw [e] at d0 d1 d2 d3
      rw [hac i hi]
      exact ⟨d0, d1, d2, d3⟩
end
end Go.Proofs.Ytginjnpboggnbaa
