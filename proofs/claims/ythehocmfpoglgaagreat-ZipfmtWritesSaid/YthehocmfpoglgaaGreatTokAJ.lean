/- awake of law05: Tokens of two bytes. Conditions: none. -/
import Derived.Test.YthehocmfpoglgaaGreatJikjhbb
import Derived.Carry
namespace Go.Proofs.YthehocmfpoglgaaGreat
open Go.RowKit
set_option maxRecDepth 100000
theorem Yg7 (f:Nat) (s:ByteArray) (m p:Value) (far:Int) (i:Nat) (hi:s.size<i+3) (hi2:i<=1000000) (w:World) (hB:Blk w f 115 #[.string s,m,p,.int .i64 far]) :
 Calls Tryz.prog 56 #[.pointer (some ⟨f,0,none⟩),.int .i64 (i:Int)] w fun e w'=>e=.returned (.tuple #[.int .i64 0,.int .i64 0])/\w=w':=by
 have c0:=hB.cell 0;simp at c0;have d0:decide ((s.size:Int)<(i:Int)+3)=true:=by simp;omega
 clear hB hi;go_enter Tryz.func56,Tryz.ntmps56;go_wp2_with fail;go_ret2;exact⟨rfl,rfl⟩
theorem Ygm (f:Nat) (s:ByteArray) (m p:Value) (far:Int) (i:Nat) (hi:s.size<i+3) (hi2:i<=1000000) (w:World) (hB:Blk w f 115 #[.string s,m,p,.int .i64 far]) :
 Calls Tryz.prog 57 #[.pointer (some ⟨f,0,none⟩),.int .i64 (i:Int)] w fun e w'=>e=.returned (.tuple #[])/\w=w':=by
 have c0:=hB.cell 0;simp at c0;have d0:decide ((s.size:Int)<(i:Int)+3)=true:=by simp;omega
 clear hB hi;go_enter Tryz.func57,Tryz.ntmps57;go_wp2_with fail;refine bodyPost_ret (results_none rfl _ _ _) rfl ?_;exact⟨rfl,rfl⟩
end Go.Proofs.YthehocmfpoglgaaGreat
