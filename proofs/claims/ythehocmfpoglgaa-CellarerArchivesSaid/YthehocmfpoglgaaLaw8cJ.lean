/- CellarerArchives at any level. Conditions: names and texts that Go can hold. -/
import Derived.Test.YthehocmfpoglgaaLaw8bJ
namespace Go.Proofs.Ythehocmfpoglgaa
open Go.RowKit
set_option maxRecDepth 100000
theorem arch_any (L : List Fl) (a : Option Addr) (cap : Nat) (lv : Int) (hn : ∀ f ∈ L, f.2.size <= maxLen) (w : World) (hr : FRow w a L) :
 Calls Try.prog 7 #[.slice a L.length cap, .int .i64 lv] w fun e w' => e = .returned (.bool true) /\ Below w.heap.size w w' := by
 by_cases h : lv < 0 \/ 9 < lv
 . have CSt := Qf stored_ab
   have CS := Qf (fun W h => short_any L a cap 20 (by decide) hn W h)
   have CW := Qf (fun a n cap W => write_bad a n cap lv h W)
   have HR0 := Qf hr
   clear h hr hn
   go_enter Try.func7, Try.ntmps7
   go_wp2_with fail
   refine (CSt.out _).mono ?_
   rintro e w0 ⟨rfl, hb0⟩
   have HB0 := Qf hb0
   have hr1 := HR0.out.below hb0 (Qa _)
   have CS1 := Qf (CS.out w0 hr1)
   clear hb0 hr1 CS HR0
   go_wp2_with fail
   refine CS1.out.mono ?_
   rintro e w1 ⟨hb1, v, rfl, hv⟩
   obtain ⟨sa, sc, rfl, _⟩ := hv.view
   have HB1 := Qf (bthen HB0.out hb1)
   clear hb1 hv CS1
   go_wp2_with fail
   refine (CW.out _ _ _ _).mono ?_
   rintro e w2 ⟨rfl, rfl⟩
   go_wp2_with fail
   go_ret
   exact ⟨rfl, HB1.out⟩
 . obtain ⟨n, rfl⟩ : ∃ n : Nat, lv = (n : Int) := ⟨lv.toNat, by omega⟩
   exact arch_ok L a cap n (by omega) hn w hr
end Go.Proofs.Ythehocmfpoglgaa
