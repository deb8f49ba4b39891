/- The chunker: Close, Split. Conditions: at most a hundred thousand bytes. -/
import Derived.Test.YtgjofpefglbjjaaWrite
import Derived.Laws.AppendOwnNone
namespace Go.Proofs.Ytgjofpefglbjjaa
open Go.RowKit
set_option maxRecDepth 100000

theorem k_30 {mn b mx t p : Nat} {ring ot : Nat → Nat} {v : Value} {cl : Bool} : (kcells mn b mx ring t p ot v cl)[30]? = some (.bool cl) := by rw [k_get 30 (by decide)]; rfl
/-- A row of no bytes. -/
theorem own_nil_form {w : World} {base : Nat} {v : Value} (h : OwnB w base v []) : ∃ a cap, v = .slice a 0 cap := by
  rcases h.2 with ⟨rfl, _⟩ | ⟨g, cap, cur, rfl, _⟩
  · exact ⟨_, _, rfl⟩
  · exact ⟨_, _, rfl⟩
theorem own_same {w w' : World} {base : Nat} {v : Value} {l : List UInt8} (h : OwnB w base v l) (P : Nat) {cs : Array Value} (hB : Blk w P 74 cs) (hg : w.grownBy w' (some P)) : OwnB w' base v l := World.ownsRow.kept h hg (row_blk h hB (by decide))

/-- What Close hands back. -/
def ClosePost (P base mn b mx : Nat) (h g : List UInt8) (w : World) (e : Ending) (w' : World) : Prop :=
  (∃ v', KAt w' P base mn b mx h [] v' true) ∧ w.grownBy w' (some P) ∧ ((g = [] ∧ e = .returned (.slice none 0 0)) ∨ (g ≠ [] ∧ ∃ q, w.heap.size ≤ q ∧ e = .returned (.slice (some ⟨q, 0, none⟩) 1 1) ∧ Blk w' q 9 #[.string ⟨g.toArray⟩]))

set_option maxHeartbeats 2000000 in
theorem close_any (P base mn b mx : Nat) (h g : List UInt8) (v : Value) (cl : Bool) (w : World) (hK : KAt w P base mn b mx h g v cl) (hg : g.length ≤ 1000000) :
    Calls Try.prog 42 #[.pointer (some ⟨P, 0, none⟩)] w (ClosePost P base mn b mx h g w) := by
  obtain ⟨ring, t, hB, hR, hO⟩ := hK
  have hc30 : w.cell? ⟨P, 30, none⟩ = some (.bool cl) := by rw [hB.cell, k_30]
  have hf30 := hB.frozen 30
  have hB1 := hB.set_ 30 (.bool true)
  rw [k_closed] at hB1
  have hg1 := only_set (only_refl w (some P)) 30 (.bool true)
  have hO1 := own_same hO P hB hg1
  have HB1 := Lib.hid hB1
  have Hg1 := Lib.hid hg1
  have HO1 := Lib.hid hO1
  have HR := Lib.hid hR
  have hPl := hB.lt
  by_cases hg0 : g = []
  · subst hg0
    obtain ⟨a, cap, rfl⟩ := own_nil_form hO
    clear hB1 hg1 hO1 hR hB hO
    go_enter Try.func42, Try.ntmps42
    go_upto_region 2 with (fail)
    refine gen_code (fun W => W = w.setCell ⟨P, 30, none⟩ (.bool true)) rfl ?_
    rintro W HW
    have hc29 : W.cell? ⟨P, 29, none⟩ = some (.slice a 0 cap) := by rw [HW, HB1.out.cell, k_29]
    have HW2 := Lib.hid HW
    clear HW
    go_wp2_with fail
    go_ret
    rw [HW2.out]
    exact ⟨⟨_, ring, t, HB1.out, HR.out, HO1.out⟩, Hg1.out, .inl ⟨rfl, rfl⟩⟩
  · have hgl : 0 < g.length := List.length_pos_iff.2 hg0
    obtain ⟨gb, cap, rfl, hgb⟩ := hO.form hgl
    have Hg0 := Lib.hid hg0
    clear hB1 hg1 hO1 hR hB hO hg0
    go_enter Try.func42, Try.ntmps42
    go_upto_region 2 with (fail)
    refine gen_code (fun W => W = w.setCell ⟨P, 30, none⟩ (.bool true)) rfl ?_
    rintro W HW
    have hc29 : W.cell? ⟨P, 29, none⟩ = some (.slice (some ⟨gb, 0, none⟩) g.length cap) := by rw [HW, HB1.out.cell, k_29]
    have hf29 : W.frozen? ⟨P, 29, none⟩ = false := by rw [HW]; exact HB1.out.frozen 29
    have hs1 := run_string_own W base _ g (by rw [HW]; exact HO1.out)
    have hne : ((g.length : Int) == 0) = false := by rw [beq_eq_false_iff_ne]; omega
    have HW2 := Lib.hid HW
    clear HW
    go_wp2_with fail
    go_ret
    have hBw : Blk (W.setCell ⟨P, 29, none⟩ (.slice none 0 0)) P 74 (kcells mn b mx ring t (fp h) og (.slice none 0 0) true) := by
      have h := HB1.out.set_ 29 (.slice none 0 0)
      rw [k_begun] at h
      rw [HW2.out]
      exact h
    refine ⟨⟨.slice none 0 0, ring, t, hBw.alloc _, HR.out, World.ownsRow_nil _ _ _ _⟩, ?_, .inr ⟨Hg0.out, W.heap.size, ?_, by simp, ?_⟩⟩
    · rw [HW2.out]
      exact (only_set Hg1.out 29 _).trans (World.grownBy_alloc _ _ _)
    · rw [HW2.out]; simp
    · have := Blk.new (W.setCell ⟨P, 29, none⟩ (.slice none 0 0)) 9 #[.string ⟨g.toArray⟩]
      simpa using this
end Go.Proofs.Ytgjofpefglbjjaa
