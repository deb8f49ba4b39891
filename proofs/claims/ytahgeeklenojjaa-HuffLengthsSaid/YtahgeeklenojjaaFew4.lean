/- The laws' few of layer 4: at most 400 numbers, in memory of the call's own. Conditions: none. -/
import Derived.Test.YtahgeeklenojjaaOwnI
namespace Go.Proofs.Ytahgeeklenojjaa
open Go.RowKit
set_option maxRecDepth 100000

theorem few4_any (a : Option Addr) (len cap : Nat) (m : Nat → Int) (hcap : len ≤ cap) (hlen : cap ≤ 9223372036854775807) (w : World) (hr : IRow w a len m) (hnil : a = none → len = 0 ∧ cap = 0) :
    Calls Try.prog 16 #[.slice a len cap] w fun e w' => ∃ v, e = .returned v ∧ OwnI w' w.heap.size (min len 400) m v ∧ Below w.heap.size w w' := by
  have Hr := Lib.hid hr
  clear hr
  by_cases h : 400 < len
  · go_enter Try.func16, Try.ntmps16
    have hb0 := (Below.refl w.heap.size w).alloc (Nat.le_refl _) (.cells #[] 3)
    have ho0 := World.ownsRow_made (base := w.heap.size) (e := 3) (size := 1) w #[] 0 (Nat.le_refl _) (Nat.zero_le _) rfl
    have hr2 := (Hr.out.below hb0).take 400 (by omega)
    have hbs := hb0.size
    go_wp2_with (at_builtin; go_must (refine wpList_append_irow rfl _ _ rfl w.heap.size _ 0 m ho0 rfl a 400 cap m rfl hr2 ?_ ?_ hbs ?_; (intro e; have := hnil e; omega); omega; intro v' w1 hown1 hg1 hne))
    go_ret
    exact ⟨_, rfl, own_made rfl (by rw [Nat.min_eq_right (by omega)]; exact hown1) hne (by simp), hb0.trans (below_grown ho0 hg1 hbs)⟩
  · go_enter Try.func16, Try.ntmps16
    have hb0 := (Below.refl w.heap.size w).alloc (Nat.le_refl _) (.cells #[] 3)
    have ho0 := World.ownsRow_made (base := w.heap.size) (e := 3) (size := 1) w #[] 0 (Nat.le_refl _) (Nat.zero_le _) rfl
    have hr2 := Hr.out.below hb0
    have hbs := hb0.size
    go_wp2_with (at_builtin; go_must (refine wpList_append_irow rfl _ _ rfl w.heap.size _ 0 m ho0 rfl a len cap m rfl hr2 hnil ?_ hbs ?_; omega; intro v' w1 hown1 hg1 hne))
    go_ret
    exact ⟨_, rfl, own_made rfl (by rw [Nat.min_eq_left (by omega)]; exact hown1) hne (by simp), hb0.trans (below_grown ho0 hg1 hbs)⟩
end Go.Proofs.Ytahgeeklenojjaa
