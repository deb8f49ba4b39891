/- Policies and rows of snapshots among the arguments. Conditions: none. -/
import Derived.Test.YtcblcjbflgepoaaLaw21a
import Derived.Test.YtcblcjbflgepoaaFrame
import Derived.Lib.SmallJoins
import Derived.SliceStrings
import Derived.Deep.Slices
namespace Go.Proofs.Ytcblcjbflgepoaa
open Go.ChangeShapes Go.WideShapes Go.ChangeAt Go.RowKit
open Go.ChangeMaps (open_string shut_string)
open Go.Deep (oneCellFields hone_of)
set_option maxRecDepth 100000

theorem i64_le {a : Int} (h : (Lit.int .i64 a).wf = true) : a ≤ 9223372036854775807 := (bd_i64 h).2

section
variable {H : Type} {enc : TypeId × Value → H} {W : World} {base : Nat} {spare : Nat → Bool} {held : Bool}
theorem snap_struct : ∃ f0 f1 f2 : Field, Try.prog.underlying 49 = some (.struct #[f0, f1, f2]) ∧ f0.type = 9 ∧ f1.type = 3 ∧ f2.type = 9 ∧ oneCellFields Try.prog #[f0, f1, f2] = true := by
  refine ⟨_, _, _, Try.underlying49, rfl, rfl, rfl, by kernel_rfl⟩
theorem pol_struct : ∃ f0 f1 f2 f3 f4 : Field, Try.prog.underlying 36 = some (.struct #[f0, f1, f2, f3, f4]) ∧ f0.type = 3 ∧ f1.type = 3 ∧ f2.type = 3 ∧ f3.type = 3 ∧ f4.type = 34 ∧ oneCellFields Try.prog #[f0, f1, f2, f3, f4] = true := by
  refine ⟨_, _, _, _, _, Try.underlying36, rfl, rfl, rfl, rfl, rfl, by kernel_rfl⟩

theorem open_snaps {v : Value} {d : DataW H} {p : List MemPlace} {b0 : Nat} {r : Reach} (hv : Value.okWide Try.prog W r b0 37 v) (h : DataW.Trod enc Try.prog W base (fun _ => true) held 37 v d p) :
    ∃ a len cap S, v = .slice a len cap ∧ S.length = len ∧ len ≤ cap ∧ cap ≤ 9223372036854775807 ∧ (a = none → len = 0 ∧ cap = 0) ∧ SnRow W a S := by
  obtain ⟨a, len, cap, rfl⟩ := okWide_slice Try.underlying37 hv
  obtain ⟨fuel, hf⟩ := h
  obtain ⟨f0, f1, f2, hs, t0, t1, t2, hone⟩ := snap_struct
  have hce : Try.prog.cellsOf 49 = 3 := by kernel_rfl
  rcases Go.Deep.open_slice Try.underlying37 hf with ⟨hcs, _⟩ | ⟨x, l, c, m, n, D, Pl, hcs, _, hl, hm, hmm, _, hx⟩
  · simp [Value.cells] at hcs
    obtain ⟨rfl, rfl, rfl⟩ := hcs
    exact ⟨none, 0, 0, [], rfl, rfl, by omega, by omega, fun _ => ⟨rfl, rfl⟩, .inl rfl⟩
  · simp [Value.cells] at hcs
    obtain ⟨rfl, rfl, rfl⟩ := hcs
    simp at hmm
    subst hmm
    have each : ∀ i, i < m → ∃ q : Snp, W.cell? (x.add (i * 3)) = some (.string q.id) ∧ W.cell? (x.add (i * 3 + 1)) = some (.int .i64 q.time) ∧ W.cell? (x.add (i * 3 + 2)) = some (.string q.tag) := by
      intro i hi
      obtain ⟨cs', h1, h2⟩ := hx i hi
      rw [hce] at h1
      obtain ⟨_, hlen, hcell⟩ := World.cells?_some h1
      obtain ⟨xs, k, _, hxy, _, hxl, hf⟩ := DataW.trod_struct hs h2
      obtain ⟨o0, k0⟩ := hone_of hone 0 f0 rfl
      obtain ⟨o1, k1⟩ := hone_of hone 1 f1 rfl
      obtain ⟨o2, k2⟩ := hone_of hone 2 f2 rfl
      match xs, hxl, cs', hlen with
      | [y0, y1, y2], _, [v0, v1, v2], _ =>
        have g0 := hf 0 f0 rfl
        have g1 := hf 1 f1 rfl
        have g2 := hf 2 f2 rfl
        simp [o0, o1, o2, k0, k1, k2] at g0 g1 g2
        rw [t0] at g0
        rw [t1] at g1
        rw [t2] at g2
        obtain ⟨s0, e0, _, _⟩ := DataW.trod_string Try.underlying9 g0
        obtain ⟨s1, e1, _, _⟩ := DataW.trod_int Try.underlying3 g1
        obtain ⟨s2, e2, _, _⟩ := DataW.trod_string Try.underlying9 g2
        have c0 := hcell 0 (by omega)
        have c1 := hcell 1 (by omega)
        have c2 := hcell 2 (by omega)
        rw [Go.Deep.add_add] at c0 c1 c2
        simp at e0 e1 e2
        subst e0 e1 e2
        exact ⟨⟨s0, s1, s2⟩, by simpa using c0, by simpa using c1, by simpa using c2⟩
    obtain ⟨q, hq⟩ := Go.Deep.choose_lt each
    refine ⟨some x, len, m, (List.range len).map q, rfl, by simp, hl, by unfold maxLen at hm; omega, fun e => (by cases e), ?_⟩
    by_cases h0 : len = 0
    · subst h0; exact .inl rfl
    · obtain ⟨b, off, spot⟩ := x
      obtain ⟨d0, _, _⟩ := hq 0 (by omega)
      have hspot : spot = none := by simpa [Addr.add] using World.cell?_spot d0
      subst hspot
      have e : ∀ j, (⟨b, off, none⟩ : Addr).add j = ⟨b, off + j, none⟩ := fun j => by unfold Addr.add; split <;> simp_all
      refine .inr ⟨b, off, rfl, World.block_lt_of_cell? _ _ d0, fun i hi => ?_⟩
      rw [List.length_map, List.length_range] at hi
      have hsn : sn ((List.range len).map q) i = q i := by rw [sn_get (by simpa using hi)]; simp
      obtain ⟨d0, d1, d2⟩ := hq i (by omega)
      rw [e] at d0 d1 d2
      rw [hsn]
      exact ⟨d0, d1, d2⟩

theorem open_policy {v : Value} {d : DataW H} {p : List MemPlace} {b0 : Nat} {r : Reach} (hv : Value.okWide Try.prog W r b0 36 v) (h : DataW.Trod enc Try.prog W base (fun _ => true) held 36 v d p) :
    ∃ P ta tc, v = .agg (polc P ta tc) ∧ PolFit P ∧ SRow W ta P.n P.m ∧ P.n ≤ tc ∧ tc ≤ 9223372036854775807 ∧ (ta = none → P.n = 0 ∧ tc = 0) ∧ (∀ i, i < P.n → (P.m i).size ≤ maxLen) ∧ ((∀ n ∈ d.weights Try.prog 36, n ≤ reachBytes) → P.n * 16 ≤ 140737488351232) := by
  obtain ⟨f0, f1, f2, f3, f4, hs, t0, t1, t2, t3, t4, hone⟩ := pol_struct
  have hce : Try.prog.cellsOf 36 = 5 := by kernel_rfl
  obtain ⟨cs, rfl, hsz⟩ := okWide_struct hs hv
  obtain ⟨fuel, hf⟩ := h
  obtain ⟨xs, k, _, hxy, _, hxl, hf⟩ := DataW.trod_struct hs hf
  obtain ⟨o0, k0⟩ := hone_of hone 0 f0 rfl
  obtain ⟨o1, k1⟩ := hone_of hone 1 f1 rfl
  obtain ⟨o2, k2⟩ := hone_of hone 2 f2 rfl
  obtain ⟨o3, k3⟩ := hone_of hone 3 f3 rfl
  obtain ⟨o4, k4⟩ := hone_of hone 4 f4 rfl
  have hl5 : cs.toList.length = 5 := by simpa using hsz.trans hce
  obtain ⟨v0, v1, v2, v3, v4, hcs⟩ : ∃ v0 v1 v2 v3 v4, cs = #[v0, v1, v2, v3, v4] := by
    match hh : cs.toList, hl5 with
    | [v0, v1, v2, v3, v4], _ => exact ⟨v0, v1, v2, v3, v4, by cases cs; simpa using hh⟩
  subst hcs
  match xs, hxl with
  | [y0, y1, y2, y3, y4], _ =>
    have g0 := hf 0 f0 rfl
    have g1 := hf 1 f1 rfl
    have g2 := hf 2 f2 rfl
    have g3 := hf 3 f3 rfl
    have g4 := hf 4 f4 rfl
    simp [Value.cells, o0, o1, o2, o3, o4, k0, k1, k2, k3, k4] at g0 g1 g2 g3 g4
    rw [t0] at g0
    rw [t1] at g1
    rw [t2] at g2
    rw [t3] at g3
    rw [t4] at g4
    obtain ⟨s0, e0, _, w0⟩ := DataW.trod_int Try.underlying3 g0
    obtain ⟨s1, e1, _, w1⟩ := DataW.trod_int Try.underlying3 g1
    obtain ⟨s2, e2, _, w2⟩ := DataW.trod_int Try.underlying3 g2
    obtain ⟨s3, e3, _, w3⟩ := DataW.trod_int Try.underlying3 g3
    simp at e0 e1 e2 e3
    subst e0 e1 e2 e3
    rcases open_strings Try.underlying34 Try.underlying9 (by kernel_rfl) g4 with ⟨hcs, _⟩ | ⟨x, l, c, ss, hcs, _, hl, hm, hz, hy4, hcell, hwz⟩
    · simp at hcs
      subst hcs
      exact ⟨⟨s0, s1, s2, s3, 0, fun _ => ByteArray.empty⟩, none, 0, rfl, ⟨Nat.zero_le _, i64_le w0, i64_le w1, i64_le w2, i64_le w3⟩, .inl rfl, Nat.le_refl _, by omega, fun _ => ⟨rfl, rfl⟩, fun i hi => by simp at hi, fun _ => by show 0 * 16 ≤ _; omega⟩
    · simp at hcs
      subst hcs
      unfold maxLen at hm
      simp at hz
      refine ⟨⟨s0, s1, s2, s3, l, fun i => ss.getD i ByteArray.empty⟩, some x, c, rfl, ⟨by show l ≤ _; omega, i64_le w0, i64_le w1, i64_le w2, i64_le w3⟩, srow_of hl hz hcell hwz, hl, by omega, fun e => (by cases e), fun i hi => ?_, fun hw => ?_⟩
      · apply hwz
        show ss.getD i ByteArray.empty ∈ ss
        have : i < l := hi
        rw [List.getD_eq_getElem?_getD, List.getElem?_eq_getElem (by omega)]
        exact List.getElem_mem _
      · have hb : Try.prog.bytesOf 9 = 16 := by kernel_rfl
        have h1 := hw (((strs (H := H) (ss.take l)).length + (strs (H := H) (ss.drop l)).length) * Try.prog.bytesOf 9) (by
          simp only [Prod.mk.injEq] at hxy
          rw [hxy.1, hy4]
          simp only [DataW.weights, hs]
          refine DataW.weights_mem_each (j := 4) (t := f4.type) rfl rfl _ ?_
          rw [t4]
          simp [DataW.weights, Try.underlying34])
        have h2 : (strs (H := H) (ss.take l)).length + (strs (H := H) (ss.drop l)).length = ss.length := by simp [strs]; omega
        rw [h2, hb, hz] at h1
        unfold reachBytes at h1
        show l * 16 ≤ _
        omega
end
end Go.Proofs.Ytcblcjbflgepoaa
