/- MatchExpands' walk. Conditions: rows that Go can hold. -/
import Derived.Test.YthehocmfpoglgaaGreatTokAJ
namespace Go.Proofs.YthehocmfpoglgaaGreat
open Go.RowKit
set_option maxRecDepth 100000
theorem OwnK.grown {e:TypeId} {w w':World} {base:Nat} {v:Value} {S:List Tok} {row:Option Nat} (h:OwnK e w base v S) (hg:w.grownBy w' row) (hne:v.ownBlock=none\/v.ownBlock ≠ row):OwnK e w' base v S:=World.ownsRow.kept h hg hne
theorem OwnK.snoc {e:TypeId} {w:World} {base:Nat} {v:Value} {S:List Tok} {t:Tok} (h:w.ownsRow base e 3 v (S.length+1) (YU S++[.int .u8 (t.b.toNat:Int),.int .i64 t.l,.int .i64 t.d])):OwnK e w base v (S++[t]):=by
 unfold OwnK;rw[List.length_append,YaP];exact h
theorem J1 (t:Tok):∀u ∈ ([.int .u8 (t.b.toNat:Int),.int .i64 t.l,.int .i64 t.d]:List Value),u.oneCell'=true:=by
 intro u hu;simp only[List.mem_cons,List.not_mem_nil,or_false] at hu;rcases hu with rfl|rfl|rfl<;>rfl
end Go.Proofs.YthehocmfpoglgaaGreat
