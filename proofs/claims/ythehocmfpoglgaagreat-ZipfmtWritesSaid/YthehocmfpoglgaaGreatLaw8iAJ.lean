/- What Write says of at most thirty small files, and what its archive's heads say. Conditions: at most 400 bytes each. -/
import Derived.Test.YthehocmfpoglgaaGreatJonolgd
import Derived.Test.YthehocmfpoglgaaGreatJcephoj
namespace Go.Proofs.YthehocmfpoglgaaGreat
open Go.RowKit
set_option maxRecDepth 100000
def WOK (S:List Fl) (s:ByteArray):Prop:=s.size<=20000/\V9 s=.ok S/\∃H,Yv s=.ok H/\H.length=S.length/\(∀h ∈ H,h.packed<=12500)/\
 ∀j (hj:j<S.length) (hj2:j<H.length),(H[j]).packed<=400/\(((H[j]).method=8/\∃n:Nat,(H[j]).packed=(n:Int)/\n<(S[j]).2.size)\/((H[j]).method=0/\(H[j]).packed=((S[j]).2.size:Int)))
theorem YjB {D:ByteArray->ByteArray} {L:List Fl} (hc:chkF L=0) (hf:∀f ∈ L,f.2.size<=400):(Vd (YS D L 0)).length<=22+604*L.length:=by
 have k3:=Uw L _ (KT hc).2;obtain⟨h1,h2⟩:=Yfs D L 0 fun f hh=>⟨hf f hh,JV (k3 f hh).2⟩;unfold Vd;rw[List.length_append,YZ];omega
theorem YmV {D:ByteArray->ByteArray} {S:List Fl} {s:ByteArray} (h:XE D S=.ok s) (hf:∀f ∈ S,f.2.size<=400) (hl:S.length<=30) (hD:∀f ∈ S,(D f.2).size<f.2.size->Xo (D f.2) f.2.size=some (f.2,(D f.2).size)):WOK S s:=by
 obtain⟨h1,h2,_,_,_⟩:=U0 h hD;obtain⟨z,_⟩:=YaU h hf
 have key:∀j (hj:j<S.length) (hj2:j<((YS D S 0).map Part.h).length),(((YS D S 0).map Part.h)[j]).packed<=400/\(((((YS D S 0).map Part.h)[j]).method=8/\∃n:Nat,(((YS D S 0).map Part.h)[j]).packed=(n:Int)/\n<(S[j]).2.size)\/((((YS D S 0).map Part.h)[j]).method=0/\(((YS D S 0).map Part.h)[j]).packed=((S[j]).2.size:Int))):=by
  intro j hj hj2;obtain⟨n0,d,A⟩:=YjA h hD j hj hj2;have hb:=hf _ (List.getElem_mem hj);rcases A.way with⟨e1,e2,e3⟩|⟨e1,e2⟩
  . exact⟨by rw[A.packed];omega,.inl ⟨e1,d.size,A.packed,e3⟩⟩
  exact⟨by rw[A.packed,e2];omega,.inr ⟨e1,by rw[A.packed,e2]⟩⟩
 have hlen:((YS D S 0).map Part.h).length=S.length:=by rw[List.length_map,Yan]
 refine⟨by omega,h2,_,h1,hlen,?_,key⟩;intro g hg;obtain⟨j,hj,rfl⟩:=List.getElem_of_mem hg;have:=(key j (by omega) hj).1;omega
theorem Yly (S:List Fl) (hf:∀f ∈ S,f.2.size<=400) (hl:S.length<=30) (lv:Int) (a:Option Addr) (cap:Nat) (w:World) (hr:FRow w a S) :
 Calls Tryz.prog 7 #[.slice a S.length cap,.int .i64 lv] w fun r w'=>Below w.heap.size w w'/\∃(s:ByteArray) (er:Nat),r=.returned (.tuple #[.string s,.int .i64 (er:Int)])/\er=(if lv<0\/9<lv then 1 else chkF S)/\(er ≠ 0->s=⟨#[]⟩)/\(er=0->WOK S s):=by
 by_cases hb:lv<0\/9<lv
 . refine(Yg9 a S.length cap lv hb w).mono ?_
   rintro r w' ⟨rfl,rfl⟩;exact⟨Below.refl _ _,_,1,rfl,by rw[if_pos hb],fun _=>rfl,fun h=>by cases h⟩
 obtain⟨k,rfl⟩:∃k:Nat,lv=(k:Int):=⟨lv.toNat,by omega⟩;have hk:k<=9:=by omega
 refine(Ydt S a cap k hk (by omega) hf w hr).mono ?_;rintro r w' ⟨hb1,⟨e,h1,h2,rfl⟩|⟨s,h1,rfl⟩⟩
 . refine⟨hb1,_,e,rfl,?_,fun _=>rfl,fun h=>absurd h h2⟩
   rw[if_neg hb];unfold XE at h1;by_cases c1:chkF S ≠ 0
   . rw[if_pos c1] at h1;injection h1 with h1;exact h1.symm
   rw[if_neg c1] at h1;have c0:chkF S=0:=Classical.byContradiction fun g=>c1 g;have:=YjB (D:=fun x=>dflB x k) c0 hf;rw[if_neg (by omega)] at h1;cases h1
 refine⟨hb1,s,0,rfl,?_,fun h=>absurd rfl h,fun _=>YmV h1 hf hl fun f hh _=>Ynt f.2 k (by have:=hf f hh;omega)⟩;rw[if_neg hb];exact(YaU h1 hf).2.symm
end Go.Proofs.YthehocmfpoglgaaGreat
