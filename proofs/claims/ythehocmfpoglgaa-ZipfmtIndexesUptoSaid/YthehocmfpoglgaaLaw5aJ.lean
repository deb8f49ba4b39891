/- MatchExpands' walk. Conditions: rows that Go can hold. -/
import Derived.Test.YthehocmfpoglgaaTokAJ
namespace Go.Proofs.Ythehocmfpoglgaa
open Go.RowKit
set_option maxRecDepth 100000
theorem OwnK.snoc {e : TypeId} {w : World} {base : Nat} {v : Value} {S : List Tok} {t : Tok} (h : w.ownsRow base e 3 v (S.length + 1) (kcells3 S ++ [.int .u8 (t.b.toNat : Int), .int .i64 t.l, .int .i64 t.d])) : OwnK e w base v (S ++ [t]) := by
 unfold OwnK
 rw [List.length_append, kcells3_append]
 exact h
theorem tok_one (t : Tok) : ∀ u ∈ ([.int .u8 (t.b.toNat : Int), .int .i64 t.l, .int .i64 t.d] : List Value), u.oneCell' = true := by
 intro u hu
 simp only [List.mem_cons, List.not_mem_nil, or_false] at hu
 rcases hu with rfl | rfl | rfl <;> rfl
end Go.Proofs.Ythehocmfpoglgaa
