/- bitio's sinks: Count; what else is known of them. Conditions: none. -/
import Derived.Test.YtahgeeklenojjaaSrcK
import Derived.Test.YtahgeeklenojjaaSinkT
namespace Go.Proofs.Ytahgeeklenojjaa
open Go.RowKit
set_option maxRecDepth 100000

theorem SinkAt.lt {w : World} {P V c : Nat} {v : Value} (h : SinkAt w P v V c) : P < w.heap.size := h.1.lt
theorem SinkAt.grown {w w' : World} {P V c : Nat} {v : Value} {row : Option Nat} (h : SinkAt w P v V c) (hg : w.grownBy w' row) (hr : ∀ Q, row = some Q → Q < P) : SinkAt w' P v V c := by
  refine ⟨h.1.grown hg (fun e => by have := hr P e.symm; omega), World.ownsRow.kept h.2.1 hg ?_, h.2.2⟩
  cases hv : v.ownBlock with
  | none => exact .inl rfl
  | some g =>
    refine .inr fun e => ?_
    have h1 := (World.ownsRow.lt h.2.1 g hv).1
    have h2 := hr g e.symm
    omega
theorem SinkAt.row {w : World} {P V c : Nat} {v : Value} (h : SinkAt w P v V c) : ∀ g, v.ownBlock = some g → P < g := fun g e => (World.ownsRow.lt h.2.1 g e).1
theorem SinkAt.form {w : World} {P V c : Nat} {v : Value} (h : SinkAt w P v V c) : ∃ a cap, v = .slice a (c / 8) cap := by
  have hl := bytesN_length V (c / 8)
  rcases h.2.1.2 with ⟨rfl, h0⟩ | ⟨g, cap, cur, rfl, _⟩
  · have : c / 8 = 0 := by
      have : (bytesN V (c / 8)).length = 0 := by simpa using h0
      omega
    rw [this]
    exact ⟨_, _, rfl⟩
  · rw [hl]; exact ⟨_, _, rfl⟩
theorem SinkAt.below2 {w w' : World} {P V c : Nat} {v : Value} (h : SinkAt w P v V c) (hb : Below w.heap.size w w') : SinkAt w' P v V c := by
  refine ⟨h.1.below hb h.1.lt, ?_, h.2.2⟩
  have hlt := World.ownsRow.lt h.2.1
  refine ⟨h.2.1.1, ?_⟩
  rcases h.2.1.2 with h2 | ⟨g, cap, cur, rfl, h3, h4, h5⟩
  · exact .inl h2
  · exact .inr ⟨g, cap, cur, rfl, h3, (hb.block g (hlt g rfl).2).trans h4, h5⟩

theorem sinkCount_any (P : Nat) (v : Value) (V c : Nat) (hc : c ≤ 1000000000) (w : World) (hS : SinkAt w P v V c) :
    Calls Try.prog 10 #[.pointer (some ⟨P, 0, none⟩)] w fun e w' => e = .returned (.int .i64 (c : Int)) ∧ ∃ n, w' = w.drewN n := by
  obtain ⟨a, cap, rfl⟩ := hS.form
  have c0 := hS.1.cell 0
  have c2 := hS.1.cell 2
  simp at c0 c2
  obtain ⟨q, Hq⟩ : ∃ q, Hid (c / 8 = q) := ⟨_, Lib.hid (Eq.refl _)⟩
  obtain ⟨m, Hm⟩ : ∃ m, Hid (c % 8 = m) := ⟨_, Lib.hid (Eq.refl _)⟩
  have e1 : ((c : Int) % 8) = (m : Int) := by have := Hm.out; omega
  have e2 : ((c : Int) / 8) = (q : Int) := by have := Hq.out; omega
  have e3 : (c : Int) = 8 * (q : Int) + (m : Int) := by have := Hq.out; have := Hm.out; omega
  have hql : q ≤ 1000000000 := by have := Hq.out; omega
  have hml : m < 8 := by have := Hm.out; omega
  rw [Hq.out] at c0
  (try rw [e1] at c2)
  rw [e3]
  clear hS hc e1 e2 e3
  go_enter Try.func10, Try.ntmps10
  go_wp2_with fail
  go_quiet (fail)
  all_goals
    go_wp2_with fail
    go_ret
    exact ⟨rfl, _, rfl⟩

end Go.Proofs.Ytahgeeklenojjaa
