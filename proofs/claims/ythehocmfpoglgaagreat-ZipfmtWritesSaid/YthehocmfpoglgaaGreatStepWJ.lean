/- deflate.Steps. Conditions: at most a hundred thousand lengths. -/
import Derived.Test.YthehocmfpoglgaaGreatJfahffd
import Derived.Test.YthehocmfpoglgaaGreatJikjhbb
import Derived.BigQuiet
namespace Go.Proofs.YthehocmfpoglgaaGreat
open Go.RowKit
set_option maxRecDepth 100000
def YN (S:List Stp):List Value:=S.flatMap fun x=>[.int .i64 x.sym,.int .i64 x.more]
theorem YaM (S T:List Stp):YN (S++T)=YN S++YN T:=by simp[YN]
theorem YT:(Tryz.prog.info? 173).map (fun i=>(i.zero,i.size,i.bytes))=some (some (.agg #[.int .i64 0,.int .i64 0]),2,16):=by kernel_rfl
def OwnP (e:TypeId) (w:World) (base:Nat) (v:Value) (S:List Stp):Prop:=w.ownsRow base e 2 v S.length (YN S)
theorem Vt (a b:Int):∀u ∈ ([.int .i64 a,.int .i64 b]:List Value),u.oneCell'=true:=by
 intro u hu;simp only[List.mem_cons,List.not_mem_nil,or_false] at hu;rcases hu with rfl|rfl<;>rfl
theorem OwnP.snoc {e:TypeId} {w:World} {base:Nat} {v:Value} {S:List Stp} {a b:Int} (h:w.ownsRow base e 2 v (S.length+1) (YN S++[.int .i64 a,.int .i64 b])):OwnP e w base v (S++[⟨a,b⟩]):=by
 unfold OwnP;rw[List.length_append,YaM];exact h
theorem K8 (a:Nat) (b:Int) (r:Nat) (hr:(r:Int)=min (a:Int) b) (W:World):Sem.run Tryz.prog (Builtin.min_ #[3,3] 3 #[.int .i64 (a:Int),.int .i64 b]) W=.ok (.int .i64 (r:Int)) W:=by
 have e:(if b<(a:Int) then b else (a:Int))=(r:Int):=by split<;>omega
 show Result.ok (Value.int .i64 (if b<(a:Int) then b else (a:Int))) W=_;rw[e]
set_option maxHeartbeats 8000000 in
theorem YhD (L:List Int) (hL:L.length<=100000) (a:Option Addr) (cap:Nat) (w:World) (hr:IRow w a L.length (ln L)) :
 Calls Tryz.prog 92 #[.slice a L.length cap] w fun e w'=>∃v,e=.returned v/\OwnP 173 w' w.heap.size v (Ye L 0)/\Below w.heap.size w w':=by
 have Hr:=Qf hr;have HO0:Hid (OwnP 173 w w.heap.size (.slice none 0 0) []):=World.ownsRow_nil _ _ _ _;have HB0:=Qf (Below.refl w.heap.size w);obtain⟨N,HN⟩:=Qi (L.length);rw[HN.out] at hL ⊢;clear hr;go_enter Tryz.func92,Tryz.ntmps92;go_wp2_with fail
 go_loopw [3,4] (fun vo i_ wr=>∃(i:Nat) (o:List Stp),i<=N/\o.length<=i/\i_=.int .i64 (i:Int)/\Hid (o++Ye L i=Ye L 0)/\Hid (OwnP 173 wr w.heap.size vo o)/\Hid (Below w.heap.size w wr)) (fun _ i _=>N-(intOf i).toNat)
 case atStart=>exact⟨0,[],by omega,Qa _,rfl,rfl,HO0,HB0⟩
 clear HO0 HB0;obtain⟨i,o,hi,hoi,rfl,HS,HO,HB⟩:=hrel;by_cases hlt:i<N
 . have Hst:=Qf (Xl L i (by rw[HN.out];exact hlt))
   obtain⟨x,Hx⟩:=Qi (ln L i);have hro:=Hr.out.below HB.out;rw[HN.out] at hro;have HRo:=Qf hro;clear hro;go_wp2_with fail
   go_loopw [5] (fun n_ wr2=>∃n nq:Nat,1<=n/\i+n<=N/\n_=.int .i64 (n:Int)/\Hid (wr2=wr.drewN nq)/\Hid (∀j,j<n->ln L (i+j)=x)) (fun n _=>N-(intOf n).toNat)
   case atStart=>exact⟨1,0,by omega,by omega,rfl,rfl,fun j hj=>by
    obtain rfl:j=0:=by omega
    exact Hx.out⟩
   obtain⟨n,nq,hn1,hn2,rfl,HW,HA⟩:=hrel
   have HRw:Hid (IRow wr a N (ln L)):=by
    show IRow _ _ _ _;rw[HW.out];exact HRo.out
   obtain⟨b,off,rfl,_,ci⟩:=HRw.out.get i hlt;rw[Hx.out] at ci;by_cases h1:i+n<N
   . obtain⟨b',off',e,_,cn⟩:=HRw.out.get (i+n) h1
     injection e with e;injection e with e1 e2;subst e1 e2;obtain⟨y,Hy⟩:=Qi (ln L (i+n));rw[Hy.out] at cn;have d1:decide ((i:Int)+(n:Int)<(N:Int))=true:=Qg (by omega);by_cases h2:y=x
     . have hyx:(y==x)=true:=by simpa using h2
       have HA2:Hid (∀j,j<n+1->ln L (i+j)=x):=by
        intro j hj;by_cases e:j=n
        . rw[e,Hy.out];exact h2
        exact HA.out j (by omega)
       clear h2;go_wp2_with fail
       go_quiet (fail)
       all_goals
        go_wp2_with fail;go_roundw
        case rel=>exact⟨n+1,_,by omega,by omega,by go_num,by show _=_;rw[HW.out,World.drewN_drewN],HA2⟩
        simp[intOf];omega
     have hyx:(y==x)=false:=(by simpa using h2);have Hrun:Hid (runN L i=n):=YhH L i n (by rw[HN.out];omega) (fun j hj=>by rw[HA.out j hj,Hx.out]) (.inr (by rw[Hy.out,Hx.out];exact h2))
     -- ARMS A
     have HOi:Hid (OwnP 173 wr w.heap.size u3 o):=by
      show OwnP _ _ _ _ _;rw[HW.out];exact HO.out
     have HBi:Hid (Below w.heap.size w wr):=by
      show Below _ _ _;rw[HW.out];exact Yh HB.out nq
     by_cases hx0:x=0
     . subst hx0
       by_cases h11:11<=n
       . have k11:decide ((11:Int)<=(n:Int))=true:=Qg (by omega)
         have j11:decide (11<=n)=true:=Qg (by omega);obtain⟨r,Hr1⟩:=Qi (min n 138);have hmn:=K8 n 138 r (by have:=Hr1.out;omega)
         have hrl:11<=r/\r<=n:=by have:=Hr1.out;omega
         have HsA:Hid (Yz L i=(⟨18,(r:Int)-11⟩,r)):=by
          show _=_;unfold Yz;rw[Hrun.out,Hx.out,if_pos ⟨rfl,h11⟩,Hr1.out]
         have Hnx:Hid (o++[⟨18,(r:Int)-11⟩]++Ye L (i+r)=Ye L 0):=by
          show _=_;have h:=HS.out;rw[Hst.out,HsA.out] at h
          simpa using h
         have hone:=Vt (18) ((r:Int)-11);have hos:=HOi.out;have hbsw:w.heap.size<=_:=HBi.out.size;go_wp2_with fail
         go_quiet (fail)
         go_wp2_with (first
          |(at_builtin;go_must (refine Ya _ rfl (.tmp 51) (.tmp 55) rfl Tryz.underlying170 YT rfl (by decide) w.heap.size _ o.length (YN o) [.int .i64 (18),.int .i64 ((r:Int)-11)] hos rfl hone rfl rfl rfl ?_ ?_ hbsw ?_;(unfold maxLen;omega);omega;intro v5 w5 hown5 hg5;have HO5:=Qf (OwnP.snoc hown5);have Hb5:=Qf (HBi.out.trans (Yb (w:=wr) hos ⟨hg5.os,hg5.tape,hg5.output,hg5.size,hg5.block⟩ hbsw));clear hown5 hg5 hos))
          |fail)
         go_roundw
         case rel=>exact⟨i+r,o++[⟨18,(r:Int)-11⟩],by omega,by simp;omega,by go_num,Hnx,HO5,Hb5⟩
         simp[intOf];omega
       have k11:decide ((11:Int)<=(n:Int))=false:=Qh (by omega);have j11:decide (11<=n)=false:=Qh (by omega);by_cases h3:3<=n
       . have k3:decide ((3:Int)<=(n:Int))=true:=Qg (by omega)
         have j3:decide (3<=n)=true:=Qg (by omega);obtain⟨r,Hr1⟩:=Qi (min n 10);have hmn:=K8 n 10 r (by have:=Hr1.out;omega)
         have hrl:3<=r/\r<=n:=by have:=Hr1.out;omega
         have HsA:Hid (Yz L i=(⟨17,(r:Int)-3⟩,r)):=by
          show _=_;unfold Yz;rw[Hrun.out,Hx.out,if_neg (fun h=>h11 h.2),if_pos ⟨rfl,h3⟩,Hr1.out]
         have Hnx:Hid (o++[⟨17,(r:Int)-3⟩]++Ye L (i+r)=Ye L 0):=by
          show _=_;have h:=HS.out;rw[Hst.out,HsA.out] at h
          simpa using h
         have hone:=Vt (17) ((r:Int)-3);have hos:=HOi.out;have hbsw:w.heap.size<=_:=HBi.out.size;go_wp2_with fail
         go_quiet (fail)
         go_wp2_with (first
          |(at_builtin;go_must (refine Ya _ rfl (.tmp 69) (.tmp 73) rfl Tryz.underlying170 YT rfl (by decide) w.heap.size _ o.length (YN o) [.int .i64 (17),.int .i64 ((r:Int)-3)] hos rfl hone rfl rfl rfl ?_ ?_ hbsw ?_;(unfold maxLen;omega);omega;intro v5 w5 hown5 hg5;have HO5:=Qf (OwnP.snoc hown5);have Hb5:=Qf (HBi.out.trans (Yb (w:=wr) hos ⟨hg5.os,hg5.tape,hg5.output,hg5.size,hg5.block⟩ hbsw));clear hown5 hg5 hos))
          |fail)
         go_roundw
         case rel=>exact⟨i+r,o++[⟨17,(r:Int)-3⟩],by omega,by simp;omega,by go_num,Hnx,HO5,Hb5⟩
         simp[intOf];omega
       have k3:decide ((3:Int)<=(n:Int))=false:=Qh (by omega);have j3:decide (3<=n)=false:=Qh (by omega);by_cases hi0:i=0
       . have ki:decide ((0:Int)<(i:Int))=false:=Qh (by omega)
         have ji:decide (0<i)=false:=Qh (by omega);have Hi0:=Qf hi0;clear hi0
         have HsA:Hid (Yz L i=(⟨0,0⟩,1)):=by
          show _=_;unfold Yz;rw[Hrun.out,Hx.out,if_neg (fun h=>h11 h.2),if_neg (fun h=>h3 h.2),if_neg (fun h=>h3 h.2.2)]
         have Hnx:Hid (o++[⟨0,0⟩]++Ye L (i+1)=Ye L 0):=by
          show _=_;have h:=HS.out;rw[Hst.out,HsA.out] at h
          simpa using h
         have hone:=Vt (0) (0);have hos:=HOi.out;have hbsw:w.heap.size<=_:=HBi.out.size;go_wp2_with fail
         go_quiet (fail)
         go_wp2_with fail
         go_quiet (fail)
         go_wp2_with (first
          |(at_builtin;go_must (refine Ya _ rfl (.tmp 31) (.tmp 37) rfl Tryz.underlying170 YT rfl (by decide) w.heap.size _ o.length (YN o) [.int .i64 (0),.int .i64 (0)] hos rfl hone rfl rfl rfl ?_ ?_ hbsw ?_;(unfold maxLen;omega);omega;intro v5 w5 hown5 hg5;have HO5:=Qf (OwnP.snoc hown5);have Hb5:=Qf (HBi.out.trans (Yb (w:=wr) hos ⟨hg5.os,hg5.tape,hg5.output,hg5.size,hg5.block⟩ hbsw));clear hown5 hg5 hos))
          |fail)
         go_roundw
         case rel=>exact⟨i+1,o++[⟨0,0⟩],by omega,by simp;omega,by go_num,Hnx,HO5,Hb5⟩
         simp[intOf];omega
       have ki:decide ((0:Int)<(i:Int))=true:=Qg (by omega);have ji:decide (0<i)=true:=Qg (by omega);obtain⟨b9,off9,e9,_,cp⟩:=HRw.out.get (i-1) (by omega);injection e9 with e9;injection e9 with e1 e2;subst e1 e2;obtain⟨z,Hz⟩:=Qi (ln L (i-1));rw[Hz.out] at cp;obtain⟨ip,Hip⟩:=Qi (i-1);rw[Hip.out] at cp
       have hip:(i:Int)-1=(ip:Int):=by have:=Hip.out;omega
       have hipl:(ip:Int)<(N:Int):=by have:=Hip.out;omega
       have hipw:IntKind.i64.wrap ((i:Int)-1)=(ip:Int):=(by rw[hip,IntKind.wrap_i64];omega);by_cases hzx:0=z
       . subst hzx
         have HsA:Hid (Yz L i=(⟨0,0⟩,1)):=by
          show _=_;unfold Yz;rw[Hrun.out,Hx.out,if_neg (fun h=>h11 h.2),if_neg (fun h=>h3 h.2),if_neg (fun h=>h3 h.2.2)]
         have Hnx:Hid (o++[⟨0,0⟩]++Ye L (i+1)=Ye L 0):=by
          show _=_;have h:=HS.out;rw[Hst.out,HsA.out] at h
          simpa using h
         have hone:=Vt (0) (0);have hos:=HOi.out;have hbsw:w.heap.size<=_:=HBi.out.size;go_wp2_with fail
         go_quiet (fail)
         go_wp2_with fail
         go_quiet (fail)
         go_wp2_with (first
          |(at_builtin;go_must (refine Ya _ rfl (.tmp 31) (.tmp 37) rfl Tryz.underlying170 YT rfl (by decide) w.heap.size _ o.length (YN o) [.int .i64 (0),.int .i64 (0)] hos rfl hone rfl rfl rfl ?_ ?_ hbsw ?_;(unfold maxLen;omega);omega;intro v5 w5 hown5 hg5;have HO5:=Qf (OwnP.snoc hown5);have Hb5:=Qf (HBi.out.trans (Yb (w:=wr) hos ⟨hg5.os,hg5.tape,hg5.output,hg5.size,hg5.block⟩ hbsw));clear hown5 hg5 hos))
          |fail)
         go_roundw
         case rel=>exact⟨i+1,o++[⟨0,0⟩],by omega,by simp;omega,by go_num,Hnx,HO5,Hb5⟩
         simp[intOf];omega
       have kz:((0:Int)==z)=false:=by simpa using hzx
       have HsA:Hid (Yz L i=(⟨0,0⟩,1)):=by
        show _=_;unfold Yz;rw[Hrun.out,Hx.out,if_neg (fun h=>h11 h.2),if_neg (fun h=>h3 h.2),if_neg (fun h=>h3 h.2.2)]
       have Hnx:Hid (o++[⟨0,0⟩]++Ye L (i+1)=Ye L 0):=by
        show _=_;have h:=HS.out;rw[Hst.out,HsA.out] at h
        simpa using h
       have hone:=Vt (0) (0);have hos:=HOi.out;have hbsw:w.heap.size<=_:=HBi.out.size;go_wp2_with fail
       go_quiet (fail)
       go_wp2_with fail
       go_quiet (fail)
       go_wp2_with (first
        |(at_builtin;go_must (refine Ya _ rfl (.tmp 31) (.tmp 37) rfl Tryz.underlying170 YT rfl (by decide) w.heap.size _ o.length (YN o) [.int .i64 (0),.int .i64 (0)] hos rfl hone rfl rfl rfl ?_ ?_ hbsw ?_;(unfold maxLen;omega);omega;intro v5 w5 hown5 hg5;have HO5:=Qf (OwnP.snoc hown5);have Hb5:=Qf (HBi.out.trans (Yb (w:=wr) hos ⟨hg5.os,hg5.tape,hg5.output,hg5.size,hg5.block⟩ hbsw));clear hown5 hg5 hos))
        |fail)
       go_roundw
       case rel=>exact⟨i+1,o++[⟨0,0⟩],by omega,by simp;omega,by go_num,Hnx,HO5,Hb5⟩
       simp[intOf];omega
     have x0:(x==0)=false:=(by simpa using hx0);by_cases hi0:i=0
     . have ki:decide ((0:Int)<(i:Int))=false:=Qh (by omega)
       have ji:decide (0<i)=false:=Qh (by omega);have Hi0:=Qf hi0;clear hi0
       have HsA:Hid (Yz L i=(⟨x,0⟩,1)):=by
        show _=_;unfold Yz;rw[Hrun.out,Hx.out,if_neg (fun h=>hx0 h.1),if_neg (fun h=>hx0 h.1),if_neg (fun h=>absurd h.1 (by have:=Hi0.out;omega))]
       have Hnx:Hid (o++[⟨x,0⟩]++Ye L (i+1)=Ye L 0):=by
        show _=_;have h:=HS.out;rw[Hst.out,HsA.out] at h
        simpa using h
       have hone:=Vt (x) (0);have hos:=HOi.out;have hbsw:w.heap.size<=_:=HBi.out.size;go_wp2_with fail
       go_quiet (fail)
       go_wp2_with fail
       go_quiet (fail)
       go_wp2_with (first
        |(at_builtin;go_must (refine Ya _ rfl (.tmp 31) (.tmp 37) rfl Tryz.underlying170 YT rfl (by decide) w.heap.size _ o.length (YN o) [.int .i64 (x),.int .i64 (0)] hos rfl hone rfl rfl rfl ?_ ?_ hbsw ?_;(unfold maxLen;omega);omega;intro v5 w5 hown5 hg5;have HO5:=Qf (OwnP.snoc hown5);have Hb5:=Qf (HBi.out.trans (Yb (w:=wr) hos ⟨hg5.os,hg5.tape,hg5.output,hg5.size,hg5.block⟩ hbsw));clear hown5 hg5 hos))
        |fail)
       go_roundw
       case rel=>exact⟨i+1,o++[⟨x,0⟩],by omega,by simp;omega,by go_num,Hnx,HO5,Hb5⟩
       simp[intOf];omega
     have ki:decide ((0:Int)<(i:Int))=true:=Qg (by omega);have ji:decide (0<i)=true:=Qg (by omega);obtain⟨b9,off9,e9,_,cp⟩:=HRw.out.get (i-1) (by omega);injection e9 with e9;injection e9 with e1 e2;subst e1 e2;obtain⟨z,Hz⟩:=Qi (ln L (i-1));rw[Hz.out] at cp;obtain⟨ip,Hip⟩:=Qi (i-1);rw[Hip.out] at cp
     have hip:(i:Int)-1=(ip:Int):=by have:=Hip.out;omega
     have hipl:(ip:Int)<(N:Int):=by have:=Hip.out;omega
     have hipw:IntKind.i64.wrap ((i:Int)-1)=(ip:Int):=(by rw[hip,IntKind.wrap_i64];omega);by_cases hzx:x=z
     . subst hzx
       by_cases h3:3<=n
       . have k3:decide ((3:Int)<=(n:Int))=true:=Qg (by omega)
         have j3:decide (3<=n)=true:=Qg (by omega);obtain⟨r,Hr1⟩:=Qi (min n 6);have hmn:=K8 n 6 r (by have:=Hr1.out;omega)
         have hrl:3<=r/\r<=n:=by have:=Hr1.out;omega
         have HsA:Hid (Yz L i=(⟨16,(r:Int)-3⟩,r)):=by
          show _=_;unfold Yz;rw[Hrun.out,Hx.out,if_neg (fun h=>hx0 h.1),if_neg (fun h=>hx0 h.1),if_pos ⟨by omega,by rw[Hz.out],h3⟩,Hr1.out]
         have Hnx:Hid (o++[⟨16,(r:Int)-3⟩]++Ye L (i+r)=Ye L 0):=by
          show _=_;have h:=HS.out;rw[Hst.out,HsA.out] at h
          simpa using h
         have hone:=Vt (16) ((r:Int)-3);have hos:=HOi.out;have hbsw:w.heap.size<=_:=HBi.out.size;go_wp2_with fail
         go_quiet (fail)
         go_wp2_with fail
         go_quiet (fail)
         go_wp2_with (first
          |(at_builtin;go_must (refine Ya _ rfl (.tmp 96) (.tmp 100) rfl Tryz.underlying170 YT rfl (by decide) w.heap.size _ o.length (YN o) [.int .i64 (16),.int .i64 ((r:Int)-3)] hos rfl hone rfl rfl rfl ?_ ?_ hbsw ?_;(unfold maxLen;omega);omega;intro v5 w5 hown5 hg5;have HO5:=Qf (OwnP.snoc hown5);have Hb5:=Qf (HBi.out.trans (Yb (w:=wr) hos ⟨hg5.os,hg5.tape,hg5.output,hg5.size,hg5.block⟩ hbsw));clear hown5 hg5 hos))
          |fail)
         go_roundw
         case rel=>exact⟨i+r,o++[⟨16,(r:Int)-3⟩],by omega,by simp;omega,by go_num,Hnx,HO5,Hb5⟩
         simp[intOf];omega
       have k3:decide ((3:Int)<=(n:Int))=false:=Qh (by omega);have j3:decide (3<=n)=false:=Qh (by omega)
       have HsA:Hid (Yz L i=(⟨x,0⟩,1)):=by
        show _=_;unfold Yz;rw[Hrun.out,Hx.out,if_neg (fun h=>hx0 h.1),if_neg (fun h=>hx0 h.1),if_neg (fun h=>h3 h.2.2)]
       have Hnx:Hid (o++[⟨x,0⟩]++Ye L (i+1)=Ye L 0):=by
        show _=_;have h:=HS.out;rw[Hst.out,HsA.out] at h
        simpa using h
       have hone:=Vt (x) (0);have hos:=HOi.out;have hbsw:w.heap.size<=_:=HBi.out.size;go_wp2_with fail
       go_quiet (fail)
       go_wp2_with fail
       go_quiet (fail)
       go_wp2_with (first
        |(at_builtin;go_must (refine Ya _ rfl (.tmp 31) (.tmp 37) rfl Tryz.underlying170 YT rfl (by decide) w.heap.size _ o.length (YN o) [.int .i64 (x),.int .i64 (0)] hos rfl hone rfl rfl rfl ?_ ?_ hbsw ?_;(unfold maxLen;omega);omega;intro v5 w5 hown5 hg5;have HO5:=Qf (OwnP.snoc hown5);have Hb5:=Qf (HBi.out.trans (Yb (w:=wr) hos ⟨hg5.os,hg5.tape,hg5.output,hg5.size,hg5.block⟩ hbsw));clear hown5 hg5 hos))
        |fail)
       go_roundw
       case rel=>exact⟨i+1,o++[⟨x,0⟩],by omega,by simp;omega,by go_num,Hnx,HO5,Hb5⟩
       simp[intOf];omega
     have kz:(x==z)=false:=by simpa using hzx
     have HsA:Hid (Yz L i=(⟨x,0⟩,1)):=by
      show _=_;unfold Yz;rw[Hrun.out,Hx.out,if_neg (fun h=>hx0 h.1),if_neg (fun h=>hx0 h.1),if_neg (fun h=>hzx (by rw[<-Hz.out];exact h.2.1))]
     have Hnx:Hid (o++[⟨x,0⟩]++Ye L (i+1)=Ye L 0):=by
      show _=_;have h:=HS.out;rw[Hst.out,HsA.out] at h
      simpa using h
     have hone:=Vt (x) (0);have hos:=HOi.out;have hbsw:w.heap.size<=_:=HBi.out.size;go_wp2_with fail
     go_quiet (fail)
     go_wp2_with fail
     go_quiet (fail)
     go_wp2_with (first
      |(at_builtin;go_must (refine Ya _ rfl (.tmp 31) (.tmp 37) rfl Tryz.underlying170 YT rfl (by decide) w.heap.size _ o.length (YN o) [.int .i64 (x),.int .i64 (0)] hos rfl hone rfl rfl rfl ?_ ?_ hbsw ?_;(unfold maxLen;omega);omega;intro v5 w5 hown5 hg5;have HO5:=Qf (OwnP.snoc hown5);have Hb5:=Qf (HBi.out.trans (Yb (w:=wr) hos ⟨hg5.os,hg5.tape,hg5.output,hg5.size,hg5.block⟩ hbsw));clear hown5 hg5 hos))
      |fail)
     go_roundw
     case rel=>exact⟨i+1,o++[⟨x,0⟩],by omega,by simp;omega,by go_num,Hnx,HO5,Hb5⟩
     simp[intOf];omega
   have d1:decide ((i:Int)+(n:Int)<(N:Int))=false:=Qh (by omega);have Hrun:Hid (runN L i=n):=YhH L i n (by rw[HN.out];omega) (fun j hj=>by rw[HA.out j hj,Hx.out]) (.inl (by rw[HN.out];omega))
   -- ARMS B
   have HOi:Hid (OwnP 173 wr w.heap.size u3 o):=by
    show OwnP _ _ _ _ _;rw[HW.out];exact HO.out
   have HBi:Hid (Below w.heap.size w wr):=by
    show Below _ _ _;rw[HW.out];exact Yh HB.out nq
   by_cases hx0:x=0
   . subst hx0
     by_cases h11:11<=n
     . have k11:decide ((11:Int)<=(n:Int))=true:=Qg (by omega)
       have j11:decide (11<=n)=true:=Qg (by omega);obtain⟨r,Hr1⟩:=Qi (min n 138);have hmn:=K8 n 138 r (by have:=Hr1.out;omega)
       have hrl:11<=r/\r<=n:=by have:=Hr1.out;omega
       have HsA:Hid (Yz L i=(⟨18,(r:Int)-11⟩,r)):=by
        show _=_;unfold Yz;rw[Hrun.out,Hx.out,if_pos ⟨rfl,h11⟩,Hr1.out]
       have Hnx:Hid (o++[⟨18,(r:Int)-11⟩]++Ye L (i+r)=Ye L 0):=by
        show _=_;have h:=HS.out;rw[Hst.out,HsA.out] at h
        simpa using h
       have hone:=Vt (18) ((r:Int)-11);have hos:=HOi.out;have hbsw:w.heap.size<=_:=HBi.out.size;go_wp2_with fail
       go_quiet (fail)
       go_wp2_with (first
        |(at_builtin;go_must (refine Ya _ rfl (.tmp 51) (.tmp 55) rfl Tryz.underlying170 YT rfl (by decide) w.heap.size _ o.length (YN o) [.int .i64 (18),.int .i64 ((r:Int)-11)] hos rfl hone rfl rfl rfl ?_ ?_ hbsw ?_;(unfold maxLen;omega);omega;intro v5 w5 hown5 hg5;have HO5:=Qf (OwnP.snoc hown5);have Hb5:=Qf (HBi.out.trans (Yb (w:=wr) hos ⟨hg5.os,hg5.tape,hg5.output,hg5.size,hg5.block⟩ hbsw));clear hown5 hg5 hos))
        |fail)
       go_roundw
       case rel=>exact⟨i+r,o++[⟨18,(r:Int)-11⟩],by omega,by simp;omega,by go_num,Hnx,HO5,Hb5⟩
       simp[intOf];omega
     have k11:decide ((11:Int)<=(n:Int))=false:=Qh (by omega);have j11:decide (11<=n)=false:=Qh (by omega);by_cases h3:3<=n
     . have k3:decide ((3:Int)<=(n:Int))=true:=Qg (by omega)
       have j3:decide (3<=n)=true:=Qg (by omega);obtain⟨r,Hr1⟩:=Qi (min n 10);have hmn:=K8 n 10 r (by have:=Hr1.out;omega)
       have hrl:3<=r/\r<=n:=by have:=Hr1.out;omega
       have HsA:Hid (Yz L i=(⟨17,(r:Int)-3⟩,r)):=by
        show _=_;unfold Yz;rw[Hrun.out,Hx.out,if_neg (fun h=>h11 h.2),if_pos ⟨rfl,h3⟩,Hr1.out]
       have Hnx:Hid (o++[⟨17,(r:Int)-3⟩]++Ye L (i+r)=Ye L 0):=by
        show _=_;have h:=HS.out;rw[Hst.out,HsA.out] at h
        simpa using h
       have hone:=Vt (17) ((r:Int)-3);have hos:=HOi.out;have hbsw:w.heap.size<=_:=HBi.out.size;go_wp2_with fail
       go_quiet (fail)
       go_wp2_with (first
        |(at_builtin;go_must (refine Ya _ rfl (.tmp 69) (.tmp 73) rfl Tryz.underlying170 YT rfl (by decide) w.heap.size _ o.length (YN o) [.int .i64 (17),.int .i64 ((r:Int)-3)] hos rfl hone rfl rfl rfl ?_ ?_ hbsw ?_;(unfold maxLen;omega);omega;intro v5 w5 hown5 hg5;have HO5:=Qf (OwnP.snoc hown5);have Hb5:=Qf (HBi.out.trans (Yb (w:=wr) hos ⟨hg5.os,hg5.tape,hg5.output,hg5.size,hg5.block⟩ hbsw));clear hown5 hg5 hos))
        |fail)
       go_roundw
       case rel=>exact⟨i+r,o++[⟨17,(r:Int)-3⟩],by omega,by simp;omega,by go_num,Hnx,HO5,Hb5⟩
       simp[intOf];omega
     have k3:decide ((3:Int)<=(n:Int))=false:=Qh (by omega);have j3:decide (3<=n)=false:=Qh (by omega);by_cases hi0:i=0
     . have ki:decide ((0:Int)<(i:Int))=false:=Qh (by omega)
       have ji:decide (0<i)=false:=Qh (by omega);have Hi0:=Qf hi0;clear hi0
       have HsA:Hid (Yz L i=(⟨0,0⟩,1)):=by
        show _=_;unfold Yz;rw[Hrun.out,Hx.out,if_neg (fun h=>h11 h.2),if_neg (fun h=>h3 h.2),if_neg (fun h=>h3 h.2.2)]
       have Hnx:Hid (o++[⟨0,0⟩]++Ye L (i+1)=Ye L 0):=by
        show _=_;have h:=HS.out;rw[Hst.out,HsA.out] at h
        simpa using h
       have hone:=Vt (0) (0);have hos:=HOi.out;have hbsw:w.heap.size<=_:=HBi.out.size;go_wp2_with fail
       go_quiet (fail)
       go_wp2_with fail
       go_quiet (fail)
       go_wp2_with (first
        |(at_builtin;go_must (refine Ya _ rfl (.tmp 31) (.tmp 37) rfl Tryz.underlying170 YT rfl (by decide) w.heap.size _ o.length (YN o) [.int .i64 (0),.int .i64 (0)] hos rfl hone rfl rfl rfl ?_ ?_ hbsw ?_;(unfold maxLen;omega);omega;intro v5 w5 hown5 hg5;have HO5:=Qf (OwnP.snoc hown5);have Hb5:=Qf (HBi.out.trans (Yb (w:=wr) hos ⟨hg5.os,hg5.tape,hg5.output,hg5.size,hg5.block⟩ hbsw));clear hown5 hg5 hos))
        |fail)
       go_roundw
       case rel=>exact⟨i+1,o++[⟨0,0⟩],by omega,by simp;omega,by go_num,Hnx,HO5,Hb5⟩
       simp[intOf];omega
     have ki:decide ((0:Int)<(i:Int))=true:=Qg (by omega);have ji:decide (0<i)=true:=Qg (by omega);obtain⟨b9,off9,e9,_,cp⟩:=HRw.out.get (i-1) (by omega);injection e9 with e9;injection e9 with e1 e2;subst e1 e2;obtain⟨z,Hz⟩:=Qi (ln L (i-1));rw[Hz.out] at cp;obtain⟨ip,Hip⟩:=Qi (i-1);rw[Hip.out] at cp
     have hip:(i:Int)-1=(ip:Int):=by have:=Hip.out;omega
     have hipl:(ip:Int)<(N:Int):=by have:=Hip.out;omega
     have hipw:IntKind.i64.wrap ((i:Int)-1)=(ip:Int):=(by rw[hip,IntKind.wrap_i64];omega);by_cases hzx:0=z
     . subst hzx
       have HsA:Hid (Yz L i=(⟨0,0⟩,1)):=by
        show _=_;unfold Yz;rw[Hrun.out,Hx.out,if_neg (fun h=>h11 h.2),if_neg (fun h=>h3 h.2),if_neg (fun h=>h3 h.2.2)]
       have Hnx:Hid (o++[⟨0,0⟩]++Ye L (i+1)=Ye L 0):=by
        show _=_;have h:=HS.out;rw[Hst.out,HsA.out] at h
        simpa using h
       have hone:=Vt (0) (0);have hos:=HOi.out;have hbsw:w.heap.size<=_:=HBi.out.size;go_wp2_with fail
       go_quiet (fail)
       go_wp2_with fail
       go_quiet (fail)
       go_wp2_with (first
        |(at_builtin;go_must (refine Ya _ rfl (.tmp 31) (.tmp 37) rfl Tryz.underlying170 YT rfl (by decide) w.heap.size _ o.length (YN o) [.int .i64 (0),.int .i64 (0)] hos rfl hone rfl rfl rfl ?_ ?_ hbsw ?_;(unfold maxLen;omega);omega;intro v5 w5 hown5 hg5;have HO5:=Qf (OwnP.snoc hown5);have Hb5:=Qf (HBi.out.trans (Yb (w:=wr) hos ⟨hg5.os,hg5.tape,hg5.output,hg5.size,hg5.block⟩ hbsw));clear hown5 hg5 hos))
        |fail)
       go_roundw
       case rel=>exact⟨i+1,o++[⟨0,0⟩],by omega,by simp;omega,by go_num,Hnx,HO5,Hb5⟩
       simp[intOf];omega
     have kz:((0:Int)==z)=false:=by simpa using hzx
     have HsA:Hid (Yz L i=(⟨0,0⟩,1)):=by
      show _=_;unfold Yz;rw[Hrun.out,Hx.out,if_neg (fun h=>h11 h.2),if_neg (fun h=>h3 h.2),if_neg (fun h=>h3 h.2.2)]
     have Hnx:Hid (o++[⟨0,0⟩]++Ye L (i+1)=Ye L 0):=by
      show _=_;have h:=HS.out;rw[Hst.out,HsA.out] at h
      simpa using h
     have hone:=Vt (0) (0);have hos:=HOi.out;have hbsw:w.heap.size<=_:=HBi.out.size;go_wp2_with fail
     go_quiet (fail)
     go_wp2_with fail
     go_quiet (fail)
     go_wp2_with (first
      |(at_builtin;go_must (refine Ya _ rfl (.tmp 31) (.tmp 37) rfl Tryz.underlying170 YT rfl (by decide) w.heap.size _ o.length (YN o) [.int .i64 (0),.int .i64 (0)] hos rfl hone rfl rfl rfl ?_ ?_ hbsw ?_;(unfold maxLen;omega);omega;intro v5 w5 hown5 hg5;have HO5:=Qf (OwnP.snoc hown5);have Hb5:=Qf (HBi.out.trans (Yb (w:=wr) hos ⟨hg5.os,hg5.tape,hg5.output,hg5.size,hg5.block⟩ hbsw));clear hown5 hg5 hos))
      |fail)
     go_roundw
     case rel=>exact⟨i+1,o++[⟨0,0⟩],by omega,by simp;omega,by go_num,Hnx,HO5,Hb5⟩
     simp[intOf];omega
   have x0:(x==0)=false:=by simpa using hx0
   by_cases hi0:i=0
   . have ki:decide ((0:Int)<(i:Int))=false:=Qh (by omega)
     have ji:decide (0<i)=false:=Qh (by omega);have Hi0:=Qf hi0;clear hi0
     have HsA:Hid (Yz L i=(⟨x,0⟩,1)):=by
      show _=_;unfold Yz;rw[Hrun.out,Hx.out,if_neg (fun h=>hx0 h.1),if_neg (fun h=>hx0 h.1),if_neg (fun h=>absurd h.1 (by have:=Hi0.out;omega))]
     have Hnx:Hid (o++[⟨x,0⟩]++Ye L (i+1)=Ye L 0):=by
      show _=_;have h:=HS.out;rw[Hst.out,HsA.out] at h
      simpa using h
     have hone:=Vt (x) (0);have hos:=HOi.out;have hbsw:w.heap.size<=_:=HBi.out.size;go_wp2_with fail
     go_quiet (fail)
     go_wp2_with fail
     go_quiet (fail)
     go_wp2_with (first
      |(at_builtin;go_must (refine Ya _ rfl (.tmp 31) (.tmp 37) rfl Tryz.underlying170 YT rfl (by decide) w.heap.size _ o.length (YN o) [.int .i64 (x),.int .i64 (0)] hos rfl hone rfl rfl rfl ?_ ?_ hbsw ?_;(unfold maxLen;omega);omega;intro v5 w5 hown5 hg5;have HO5:=Qf (OwnP.snoc hown5);have Hb5:=Qf (HBi.out.trans (Yb (w:=wr) hos ⟨hg5.os,hg5.tape,hg5.output,hg5.size,hg5.block⟩ hbsw));clear hown5 hg5 hos))
      |fail)
     go_roundw
     case rel=>exact⟨i+1,o++[⟨x,0⟩],by omega,by simp;omega,by go_num,Hnx,HO5,Hb5⟩
     simp[intOf];omega
   have ki:decide ((0:Int)<(i:Int))=true:=Qg (by omega);have ji:decide (0<i)=true:=Qg (by omega);obtain⟨b9,off9,e9,_,cp⟩:=HRw.out.get (i-1) (by omega);injection e9 with e9;injection e9 with e1 e2;subst e1 e2;obtain⟨z,Hz⟩:=Qi (ln L (i-1));rw[Hz.out] at cp;obtain⟨ip,Hip⟩:=Qi (i-1);rw[Hip.out] at cp
   have hip:(i:Int)-1=(ip:Int):=by have:=Hip.out;omega
   have hipl:(ip:Int)<(N:Int):=by have:=Hip.out;omega
   have hipw:IntKind.i64.wrap ((i:Int)-1)=(ip:Int):=by rw[hip,IntKind.wrap_i64];omega
   by_cases hzx:x=z
   . subst hzx
     by_cases h3:3<=n
     . have k3:decide ((3:Int)<=(n:Int))=true:=Qg (by omega)
       have j3:decide (3<=n)=true:=Qg (by omega);obtain⟨r,Hr1⟩:=Qi (min n 6);have hmn:=K8 n 6 r (by have:=Hr1.out;omega)
       have hrl:3<=r/\r<=n:=by have:=Hr1.out;omega
       have HsA:Hid (Yz L i=(⟨16,(r:Int)-3⟩,r)):=by
        show _=_;unfold Yz;rw[Hrun.out,Hx.out,if_neg (fun h=>hx0 h.1),if_neg (fun h=>hx0 h.1),if_pos ⟨by omega,by rw[Hz.out],h3⟩,Hr1.out]
       have Hnx:Hid (o++[⟨16,(r:Int)-3⟩]++Ye L (i+r)=Ye L 0):=by
        show _=_;have h:=HS.out;rw[Hst.out,HsA.out] at h
        simpa using h
       have hone:=Vt (16) ((r:Int)-3);have hos:=HOi.out;have hbsw:w.heap.size<=_:=HBi.out.size;go_wp2_with fail
       go_quiet (fail)
       go_wp2_with fail
       go_quiet (fail)
       go_wp2_with (first
        |(at_builtin;go_must (refine Ya _ rfl (.tmp 96) (.tmp 100) rfl Tryz.underlying170 YT rfl (by decide) w.heap.size _ o.length (YN o) [.int .i64 (16),.int .i64 ((r:Int)-3)] hos rfl hone rfl rfl rfl ?_ ?_ hbsw ?_;(unfold maxLen;omega);omega;intro v5 w5 hown5 hg5;have HO5:=Qf (OwnP.snoc hown5);have Hb5:=Qf (HBi.out.trans (Yb (w:=wr) hos ⟨hg5.os,hg5.tape,hg5.output,hg5.size,hg5.block⟩ hbsw));clear hown5 hg5 hos))
        |fail)
       go_roundw
       case rel=>exact⟨i+r,o++[⟨16,(r:Int)-3⟩],by omega,by simp;omega,by go_num,Hnx,HO5,Hb5⟩
       simp[intOf];omega
     have k3:decide ((3:Int)<=(n:Int))=false:=Qh (by omega);have j3:decide (3<=n)=false:=Qh (by omega)
     have HsA:Hid (Yz L i=(⟨x,0⟩,1)):=by
      show _=_;unfold Yz;rw[Hrun.out,Hx.out,if_neg (fun h=>hx0 h.1),if_neg (fun h=>hx0 h.1),if_neg (fun h=>h3 h.2.2)]
     have Hnx:Hid (o++[⟨x,0⟩]++Ye L (i+1)=Ye L 0):=by
      show _=_;have h:=HS.out;rw[Hst.out,HsA.out] at h
      simpa using h
     have hone:=Vt (x) (0);have hos:=HOi.out;have hbsw:w.heap.size<=_:=HBi.out.size;go_wp2_with fail
     go_quiet (fail)
     go_wp2_with fail
     go_quiet (fail)
     go_wp2_with (first
      |(at_builtin;go_must (refine Ya _ rfl (.tmp 31) (.tmp 37) rfl Tryz.underlying170 YT rfl (by decide) w.heap.size _ o.length (YN o) [.int .i64 (x),.int .i64 (0)] hos rfl hone rfl rfl rfl ?_ ?_ hbsw ?_;(unfold maxLen;omega);omega;intro v5 w5 hown5 hg5;have HO5:=Qf (OwnP.snoc hown5);have Hb5:=Qf (HBi.out.trans (Yb (w:=wr) hos ⟨hg5.os,hg5.tape,hg5.output,hg5.size,hg5.block⟩ hbsw));clear hown5 hg5 hos))
      |fail)
     go_roundw
     case rel=>exact⟨i+1,o++[⟨x,0⟩],by omega,by simp;omega,by go_num,Hnx,HO5,Hb5⟩
     simp[intOf];omega
   have kz:(x==z)=false:=by simpa using hzx
   have HsA:Hid (Yz L i=(⟨x,0⟩,1)):=by
    show _=_;unfold Yz;rw[Hrun.out,Hx.out,if_neg (fun h=>hx0 h.1),if_neg (fun h=>hx0 h.1),if_neg (fun h=>hzx (by rw[<-Hz.out];exact h.2.1))]
   have Hnx:Hid (o++[⟨x,0⟩]++Ye L (i+1)=Ye L 0):=by
    show _=_;have h:=HS.out;rw[Hst.out,HsA.out] at h
    simpa using h
   have hone:=Vt (x) (0);have hos:=HOi.out;have hbsw:w.heap.size<=_:=HBi.out.size;go_wp2_with fail
   go_quiet (fail)
   go_wp2_with fail
   go_quiet (fail)
   go_wp2_with (first
    |(at_builtin;go_must (refine Ya _ rfl (.tmp 31) (.tmp 37) rfl Tryz.underlying170 YT rfl (by decide) w.heap.size _ o.length (YN o) [.int .i64 (x),.int .i64 (0)] hos rfl hone rfl rfl rfl ?_ ?_ hbsw ?_;(unfold maxLen;omega);omega;intro v5 w5 hown5 hg5;have HO5:=Qf (OwnP.snoc hown5);have Hb5:=Qf (HBi.out.trans (Yb (w:=wr) hos ⟨hg5.os,hg5.tape,hg5.output,hg5.size,hg5.block⟩ hbsw));clear hown5 hg5 hos))
    |fail)
   go_roundw
   case rel=>exact⟨i+1,o++[⟨x,0⟩],by omega,by simp;omega,by go_num,Hnx,HO5,Hb5⟩
   simp[intOf];omega
 obtain rfl:i=N:=by omega
 have Hend:Hid (o=Ye L 0):=by
  show _=_;rw[<-HS.out,VE L i (by rw[HN.out];omega),List.append_nil]
 go_wp2_with fail;go_ret;exact⟨_,rfl,by rw[<-Hend.out];exact HO.out,HB.out⟩
end Go.Proofs.YthehocmfpoglgaaGreat
