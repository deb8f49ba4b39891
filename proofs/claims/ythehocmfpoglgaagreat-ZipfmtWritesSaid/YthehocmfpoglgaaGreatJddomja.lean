/- Texts joined: Hds Plant SourceA SrcK Next4 Size Zeros Concat Repeat Fixed InfM InfMono JoinP InfUp InfSim Source2 Rdr Xor16 RSto RStoM InfWays Table Crc. Conditions: each theorem says its own. -/
import Derived.BigQuiet
import Derived.Deep.Cut
import Derived.Deep.RegionHeld3
import Derived.Lib.AppendZeros
import Derived.Laws.CopyOwn
import Derived.Deep.RegionLaw
import Derived.WalkKit
import Derived.Laws.BitsAllLaws
import Derived.Deep.WholeRow
import Derived.Test.YthehocmfpoglgaaGreatJikjhbb
namespace Go.Proofs.YthehocmfpoglgaaGreat
open Go.RowKit
set_option maxRecDepth 100000
def Yjy (w:World) (res:Except Nat (List Hd)) (r:Ending) (w':World):Prop:=
 Below w.heap.size w w'/\((∃e,res=.error e/\r=.returned (.tuple #[.slice none 0 0,.int .i64 (e:Int)]))\/(∃l v,res=.ok l/\r=.returned (.tuple #[v,.int .i64 0])/\OwnH w' w.heap.size v l))
theorem Ylx (s:ByteArray) (i:Nat):atN s i 2<65536:=by
 rw[Ycl s i 2 (by decide)];refine Qb (Yay _) (Qe (Nat.pow_le_pow_right (by decide) (?_:_<=2)) (by decide));rw[List.length_take];omega
theorem Yau (L:List Hd) (h:∀x ∈ L,x.name.size<65536):(idxH L).length<=65600*L.length:=by
 induction L with
 |nil=>exact Qa _
 |cons x r ih=>
  have e:idxH (x::r)=X6 x++idxH r:=rfl;have h1:=h x (List.mem_cons_self ..);have h2:=ih fun y hy=>h y (List.mem_cons_of_mem _ hy);rw[e,List.length_append,VC,List.length_cons];omega
theorem OwnH.below {w w':World} {base B:Nat} {v:Value} {L:List Hd} (h:OwnH w base v L) (hb:Below B w w') (hB:w.heap.size<=B):OwnH w' base v L:=by
 have hlt:=World.ownsRow.lt h;refine⟨h.1,?_⟩;rcases h.2 with h2|⟨g,cap,cur,rfl,h3,h4,h5⟩
 . exact .inl h2
 exact .inr ⟨g,cap,cur,rfl,h3,(hb.block g (Qb (hlt g rfl).2 hB)).trans h4,h5⟩
set_option maxHeartbeats 8000000 in
theorem Ydb (s:ByteArray) (hs:s.size<=140737488351232) (w:World) :
 Calls Tryz.prog 19 #[.string s] w (Yjy w (Yv s)):=by
 have Hb0:=Qf (Below.refl w.heap.size w);have HF:Hid (Yv s=Yv s):=rfl;obtain⟨RES,HRES⟩:=Qi (Yv s);rw[HRES.out];by_cases h1:262144<s.size
 . have d1:decide ((262144:Int)<(s.size:Int))=true:=Qg (by omega)
   have d1b:decide (262144<s.size)=true:=Qg (by omega);have hr:RES=.error 2:=by rw[<-HRES.out];unfold Yv;rw[if_pos h1]
   subst hr;clear HF HRES;go_enter Tryz.func19,Tryz.ntmps19;go_wp2_with fail;go_ret2;exact⟨Hb0.out,.inl ⟨2,rfl,rfl⟩⟩
 have d1:decide ((262144:Int)<(s.size:Int))=false:=Qh (by omega);have d1b:decide (262144<s.size)=false:=Qh (by omega);by_cases h2:s.size<22
 . have d2:decide ((s.size:Int)<22)=true:=Qg (by omega)
   have d2b:decide (s.size<22)=true:=Qg (by omega);have hr:RES=.error 3:=by rw[<-HRES.out];unfold Yv;rw[if_neg h1,if_pos h2]
   subst hr;clear HF HRES;go_enter Tryz.func19,Tryz.ntmps19;go_wp2_with fail;go_ret2;exact⟨Hb0.out,.inl ⟨3,rfl,rfl⟩⟩
 have d2:decide ((s.size:Int)<22)=false:=Qh (by omega);have d2b:decide (s.size<22)=false:=Qh (by omega);obtain⟨e,he⟩:∃e,s.size=e+22:=⟨s.size-22,by omega⟩;have heI:(s.size:Int)-22=(e:Int):=by omega
 have hes:s.size-22=e:=by omega
 have C8:=Qf (fun W=>Yfr s (e+8) 2 (by decide) (by omega) (by omega) W);have C16:=Qf (fun W=>Yfr s (e+16) 4 (by decide) (by omega) (by omega) W);have hc8:((e+8:Nat):Int)=(e:Int)+8:=by omega
 have hc16:((e+16:Nat):Int)=(e:Int)+16:=by omega
 have hn2:((2:Nat):Int)=2:=rfl;have hn4:((4:Nat):Int)=4:=rfl;rw[hc8,hn2] at C8;rw[hc16,hn4] at C16;have HR2:Hid (RES=Yv s):=HRES.out.symm;obtain⟨n,Hn⟩:=Qi (atN s (e+8) 2);obtain⟨fr,Hfr⟩:=Qi (atN s (e+16) 4);have hnlt:=Ylx s (e+8);have hfrlt:=YaL s (e+16) 4 (by decide);rw[Hn.out] at C8 hnlt;rw[Hfr.out] at C16 hfrlt;have HeI:=Qf heI;have HE:=Qf he;clear HF HRES hc8 hc16 hn2 hn4 hes;by_cases h3:e<fr
 . obtain⟨d3,d3b⟩:=Qj (show e<fr by omega)
   have hr:RES=.error 3:=by
    rw[HR2.out];unfold Yv;rw[if_neg h1,if_neg h2,show s.size-22=e by omega,Hfr.out,if_pos h3]
   subst hr;clear HR2 he h3;go_enter Tryz.func19,Tryz.ntmps19;go_wp2_with fail;refine(C8.out _).mono ?_;rintro r w1 ⟨rfl,rfl⟩;go_wp2_with fail;refine(C16.out _).mono ?_;rintro r w1 ⟨rfl,rfl⟩;go_wp2_with fail;go_ret2;exact⟨Hb0.out,.inl ⟨3,rfl,rfl⟩⟩
 obtain⟨d3,d3b⟩:=Ql (show fr<=e by omega);obtain⟨LR,HLR⟩:=Qi (XZ s e n fr []);have HO0:Hid (OwnH w w.heap.size (.slice none 0 0) []):=World.ownsRow_nil _ _ _ _;have hfre:fr<=e:=by omega
 clear he h3;go_enter Tryz.func19,Tryz.ntmps19;go_wp2_with fail;refine(C8.out _).mono ?_;rintro r w1 ⟨rfl,rfl⟩;go_wp2_with fail;refine(C16.out _).mono ?_;rintro r w1 ⟨rfl,rfl⟩;go_wp2_with fail
 go_loopw [7,8] (fun v_ i_ wr=>∃(i:Nat) (out:List Hd),i<=e/\out.length<=n/\i_=.int .i64 (i:Int)/\Hid (XZ s e (n-out.length) i out=LR)/\Hid (OwnH wr w.heap.size v_ out)/\Hid (Below w.heap.size w wr)) (fun _ i _=>e-(intOf i).toNat)
 case atStart=>exact⟨fr,[],hfre,Nat.zero_le _,rfl,HLR,HO0,Hb0⟩
 clear HO0 Hb0;obtain⟨i,out,hie,hon,rfl,HL,HO,HB⟩:=hrel;obtain⟨a,cap,rfl,hrow⟩:=HO.out.view;have HRw:=Qf hrow;clear hrow;obtain⟨k,Hk⟩:=Qi (out.length);rw[Hk.out] at hon HO HL ⊢;by_cases hgo:i<e/\k<n
 . obtain⟨d4,d4b⟩:=Qj (show i<e by omega)
   obtain⟨d5,d5b⟩:=Qj (show k<n by omega);obtain⟨m,hm⟩:∃m,n-k=m+1:=⟨n-k-1,by omega⟩;have hm0:=Qf hm;have hL:=HL.out;rw[hm] at hL
   have hL2:(if e-i<46\/e-(i+46)<atN s (i+28) 2 then none else XZ s e m (i+46+atN s (i+28) 2) (out++[XP s i]))=LR:=by
    rw[<-hL];show _=(if i<e then _ else _);rw[if_pos hgo.1]
   have HL2:=Qf hL2;clear hL hL2 HL;by_cases h46:e-i<46
   . have d6:decide ((e:Int)-(i:Int)<46)=true:=Qg (by omega)
     have hlr:LR=none:=by rw[<-HL2.out,if_pos (.inl h46)]
     have hr:RES=.error 3:=by
      rw[HR2.out];unfold Yv
      have hes:s.size-22=e:=by have:=HE.out;omega
      rw[if_neg h1,if_neg h2,hes,Hfr.out,if_neg (by omega),Hn.out,HLR.out,hlr]
     subst hr;clear HR2 HL2 h46 hlr hgo hm;go_wp2_with fail;go_ret2;exact⟨HB.out,.inl ⟨3,rfl,rfl⟩⟩
   have d6:decide ((e:Int)-(i:Int)<46)=false:=Qh (by omega);have hsz:=HE.out
   have CAt:Hid (∀(c z:Nat),z<=4->c+z<=46->∀W,Calls Tryz.prog 29 #[.string s,.int .i64 ((i:Int)+(c:Int)),.int .i64 (z:Int)] W fun r w'=>r=.returned (.int .i64 (atN s (i+c) z:Int))/\W=w'):=by
    intro c z hz hcz W;have:=Yfr s (i+c) z hz (by omega) (by omega) W
    rwa [show((i+c:Nat):Int)=(i:Int)+(c:Int) by omega] at this
   have A10:=Qf (CAt.out 10 2 (by decide) (by decide));have A16:=Qf (CAt.out 16 4 (by decide) (by decide));have A20:=Qf (CAt.out 20 4 (by decide) (by decide));have A24:=Qf (CAt.out 24 4 (by decide) (by decide));have A42:=Qf (CAt.out 42 4 (by decide) (by decide));have A28:=Qf (CAt.out 28 2 (by decide) (by decide));have l16:=YaL s (i+16) 4 (by decide);have l28:=YaL s (i+28) 2 (by decide);obtain⟨x10,H10⟩:=Qi (atN s (i+10) 2);obtain⟨x16,H16⟩:=Qi (atN s (i+16) 4);obtain⟨x20,H20⟩:=Qi (atN s (i+20) 4);obtain⟨x24,H24⟩:=Qi (atN s (i+24) 4);obtain⟨x42,H42⟩:=Qi (atN s (i+42) 4);obtain⟨x28,H28⟩:=Qi (atN s (i+28) 2);rw[H10.out] at A10;rw[H16.out] at A16 l16;rw[H20.out] at A20;rw[H24.out] at A24;rw[H42.out] at A42;rw[H28.out] at A28 l28 HL2;have hw16:IntKind.u32.wrap (x16:Int)=(x16:Int):=by rw[IntKind.wrap_u32];omega
   have hi46:i+46<=e:=by omega
   clear hsz CAt;go_wp2_with fail;refine(A10.out _).mono ?_;rintro r w1 ⟨rfl,rfl⟩;go_wp2_with fail;refine(A16.out _).mono ?_;rintro r w1 ⟨rfl,rfl⟩;go_wp2_with fail;refine(A20.out _).mono ?_;rintro r w1 ⟨rfl,rfl⟩;go_wp2_with fail;refine(A24.out _).mono ?_;rintro r w1 ⟨rfl,rfl⟩;go_wp2_with fail;refine(A42.out _).mono ?_;rintro r w1 ⟨rfl,rfl⟩;go_wp2_with fail;refine(A28.out _).mono ?_;rintro r w1 ⟨rfl,rfl⟩;have hal:=HB.out.alloc HB.out.size (.cells #[.string ⟨#[]⟩,.int .i64 (x10:Int),.int .u32 (x16:Int),.int .i64 (x20:Int),.int .i64 (x24:Int),.int .i64 (x42:Int)] 49);have HBa:=Qf hal;clear hal A10 A16 A20 A24 A42 A28;by_cases hnm:e-(i+46)<x28
   . have d7:decide ((e:Int)-((i:Int)+46)<(x28:Int))=true:=Qg (by omega)
     have hlr:LR=none:=by rw[<-HL2.out,if_pos (.inr hnm)]
     have hr:RES=.error 3:=by
      rw[HR2.out];unfold Yv
      have hes:s.size-22=e:=by have:=HE.out;omega
      rw[if_neg h1,if_neg h2,hes,Hfr.out,if_neg (by omega),Hn.out,HLR.out,hlr]
     subst hr;clear HR2 HL2 hlr hgo hm hnm;go_wp2_with fail;go_ret2;exact⟨HBa.out,.inl ⟨3,rfl,rfl⟩⟩
   have HL3:Hid (XZ s e m (i+46+x28) (out++[XP s i])=LR):=by
    show _=_;rw[<-HL2.out,if_neg (by omega)]
   obtain⟨i2,Hi2⟩:=Qi (i+46);obtain⟨i3,Hi3⟩:=Qi (i+46+x28);have hq2:=Hi2.out;have hq3:=Hi3.out;obtain⟨nm,Hnm⟩:=Qi (s.extract i2 i3)
   have hhd:XP s i=⟨nm,(x10:Int),x16,(x20:Int),(x24:Int),(x42:Int)⟩:=by
    unfold XP;rw[H28.out,H10.out,H16.out,H20.out,H24.out,H42.out,<-Hnm.out,Hi2.out,<-Hi3.out,Hi2.out]
   rw[hhd,Hi3.out] at HL3;have w2:IntKind.i64.wrap ((i:Int)+46)=(i2:Int):=by rw[IntKind.wrap_i64];omega
   have w3:IntKind.i64.wrap ((i2:Int)+(x28:Int))=(i3:Int):=by rw[IntKind.wrap_i64];omega
   have d7:decide ((e:Int)-(i2:Int)<(x28:Int))=false:=Qh (by omega);have l23:i2<=i3:=by omega
   have l3e:i3<=e:=by omega
   have l3s:i3<=s.size:=by omega
   have l23I:(i2:Int)<=(i3:Int):=by omega
   have l3sI:(i3:Int)<=(s.size:Int):=by omega
   clear HL2 hnm hhd hq2 hq3 hm;go_upto_region 20 with fail;rw[Hnm.out];have hbn:=Blk.new wr 49 #[.string nm,.int .i64 (x10:Int),.int .u32 (x16:Int),.int .i64 (x20:Int),.int .i64 (x24:Int),.int .i64 (x42:Int)];have hal:=Yo (w:=w) HB.out (.cells #[.string nm,.int .i64 (x10:Int),.int .u32 (x16:Int),.int .i64 (x20:Int),.int .i64 (x24:Int),.int .i64 (x42:Int)] 49);have hos:=HO.out.below (Yo (Below.refl wr.heap.size wr) (.cells #[.string nm,.int .i64 (x10:Int),.int .u32 (x16:Int),.int .i64 (x20:Int),.int .i64 (x24:Int),.int .i64 (x42:Int)] 49)) (Qa _);unfold OwnH at hos;rw[Hk.out] at hos;have HBn:=Qf hbn;obtain⟨G,HG⟩:=Qi (wr.heap.size);rw[HG.out] at HBn ⊢;clear hbn;obtain⟨w2,HW2⟩:=Qi (wr.alloc (.cells #[.string nm,.int .i64 (x10:Int),.int .u32 (x16:Int),.int .i64 (x20:Int),.int .i64 (x24:Int),.int .i64 (x42:Int)] 49));rw[HW2.out] at HBn hal hos ⊢;clear HW2;have k0:w2.cell? ⟨G,0,none⟩=some (.string nm):=HBn.out.cell 0;have k1:w2.cell? ⟨G,1,none⟩=some (.int .i64 (x10:Int)):=HBn.out.cell 1;have k2:w2.cell? ⟨G,2,none⟩=some (.int .u32 (x16:Int)):=HBn.out.cell 2;have k3:w2.cell? ⟨G,3,none⟩=some (.int .i64 (x20:Int)):=HBn.out.cell 3;have k4:w2.cell? ⟨G,4,none⟩=some (.int .i64 (x24:Int)):=HBn.out.cell 4;have k5:w2.cell? ⟨G,5,none⟩=some (.int .i64 (x42:Int)):=HBn.out.cell 5;have HBal:=Qf hal;have hbsw:w.heap.size<=w2.heap.size:=hal.size;have hone:∀u ∈ ([.string nm,.int .i64 (x10:Int),.int .u32 (x16:Int),.int .i64 (x20:Int),.int .i64 (x24:Int),.int .i64 (x42:Int)]:List Value),u.oneCell'=true:=Ybq ⟨nm,(x10:Int),x16,(x20:Int),(x24:Int),(x42:Int)⟩;clear hal HBa HO HB
   go_wp2_with (first
    |(at_builtin;go_must (refine Ya _ rfl (.tmp 91) (.tmp 93) rfl Tryz.underlying50 UU rfl (by decide) w.heap.size (.slice a k cap) k (Vf out) [.string nm,.int .i64 (x10:Int),.int .u32 (x16:Int),.int .i64 (x20:Int),.int .i64 (x24:Int),.int .i64 (x42:Int)] hos rfl hone rfl rfl rfl ?_ ?_ hbsw ?_;(unfold maxLen;omega);omega;intro v8 w8 hown8 hg8;have HO8:=Qf hown8;have HB8:=Qf (HBal.out.trans (Yb hos hg8 hbsw));clear hown8 hg8))
    |fail)
   go_roundw
   case rel=>exact⟨i3,out++[⟨nm,(x10:Int),x16,(x20:Int),(x24:Int),(x42:Int)⟩],l3e,(by rw[List.length_append,Hk.out];show k+1<=n;omega),(by go_num),(by show XZ _ _ _ _ _=_;rw[List.length_append,Hk.out];show XZ s e (n-(k+1)) i3 _=LR;rw[show n-(k+1)=m by have:=hm0.out;omega];exact HL3.out),OwnH.snoc (by rw[Hk.out];exact HO8.out),HB8⟩
   have:=Hi2.out;simp[intOf];omega
 -- behind the loop
 have hnot:(decide ((i:Int)<(e:Int))=false/\decide (i<e)=false)\/((decide ((i:Int)<(e:Int))=true/\decide (i<e)=true)/\(decide ((k:Int)<(n:Int))=false/\decide (k<n)=false)):=by
  rcases Nat.lt_or_ge i e with h|h
  . exact .inr ⟨⟨Qg (by omega),Qg (by omega)⟩,⟨Qh (by omega),Qh (by omega)⟩⟩
  exact .inl ⟨Qh (by omega),Qh (by omega)⟩
 have hlr:LR=some out:=by
  rw[<-HL.out];rcases Nat.lt_or_ge k n with h|h
  . obtain⟨m,hm⟩:∃m,n-k=m+1:=⟨n-k-1,by omega⟩
    rw[hm];show(if i<e then _ else _)=_;rw[if_neg (by omega)]
  rw[show n-k=0 by omega];rfl
 have HR3:Hid (RES=if out.length ≠ n\/YJ out (fr:Int) ≠ (s.extract fr s.size).data.toList then .error 3 else if !Vx ⟨#[]⟩ out then .error 4 else if 200<n then .error 2 else .ok out):=by
  show _=_;rw[HR2.out];unfold Yv
  have hes:s.size-22=e:=by have:=HE.out;omega
  rw[if_neg h1,if_neg h2,hes,Hfr.out,if_neg (by omega),Hn.out,HLR.out,hlr]
 have hfit:∀h ∈ out,h.Fit:=Jm s e n fr [] out (fun _ hx=>by cases hx) (by rw[HLR.out,hlr]);have Hnsz:Hid (∀h ∈ out,h.name.size<65536):=fun h hh=>(hfit h hh).2.2.2.2.2;have hmost:=Yau out fun h hh=>(hfit h hh).2.2.2.2.2;have hok:=Hk.out;have CI:=Qf (fun (W:World) (hr:HRow W a out)=>Yc8 out a cap (fr:Int) (by omega) (fun h hh=>(hfit h hh).2.1) (fun h hh=>Nat.le_of_lt (Nat.lt_trans (hfit h hh).2.2.2.2.2 (by decide))) (by omega) W hr);rw[Hk.out] at HR3 CI;have hidx:YJ out (fr:Int)=(⟨(YJ out (fr:Int)).toArray⟩:ByteArray).data.toList:=rfl;rw[hidx] at HR3;obtain⟨IX,HIX⟩:=Qi ((⟨(YJ out (fr:Int)).toArray⟩:ByteArray));rw[HIX.out] at HR3 CI;obtain⟨EX,HEX⟩:=Qi (s.extract fr s.size);rw[HEX.out] at HR3;have hkb:k<=65536:=by omega
 clear HR2 HL HLR hlr hfit hmost hidx HIX hgo
 have l1:(fr:Int)<=(s.size:Int):=by have:=HE.out;omega
 have l1n:fr<=s.size:=by have:=HE.out;omega
 by_cases hkn:k=n
 . obtain⟨y,hy⟩:∃y,(IX.toList==(s.extract fr s.size).toList)=y:=⟨_,rfl⟩
   have HR4:Hid (RES=if y=false then .error 3 else if !Vx ⟨#[]⟩ out then .error 4 else if 200<n then .error 2 else .ok out):=by
    show _=_;rw[HR3.out,<-hy,HEX.out,ByteArray.toList_eq,ByteArray.toList_eq];by_cases hh:IX.data.toList=EX.data.toList
    . have e1:(IX.data.toList==EX.data.toList)=true:=by rw[hh];simp
      rw[if_neg (by
       rintro (g|g);· exact g hkn
       . exact g hh),e1,if_neg (c:=true=false) (by decide)]
    have e1:(IX.data.toList==EX.data.toList)=false:=(by simpa using hh);rw[if_pos (.inr hh),e1,if_pos rfl]
   clear HR3 HEX;subst hkn
   cases y with
   |false=>
    have hr:RES=.error 3:=HR4.out;subst hr;clear HR4;rcases hnot with⟨d4,d4b⟩|⟨⟨d4,d4b⟩,d5,d5b⟩
    all_goals
     go_wp2_with fail
     go_region_held3 (fun _=>True) (trivial)
      (first
       |(go_at_call 28;refine(CI.out _ (HRw.out.below (B:=wr.heap.size) (by(repeat' (first|with_reducible exact Below.refl _ _|with_reducible assumption|with_reducible apply Below.drew|with_reducible apply Yo))) (Qa _))).mono ?_;rintro r w8 ⟨rfl,hb8⟩;have HB8:Below wr.heap.size wr w8:=Yk (by(repeat' (first|with_reducible exact Below.refl _ _|with_reducible assumption|with_reducible apply Below.drew|with_reducible apply Yo))) hb8;clear hb8))
     all_goals
      go_wp2_with fail;go_ret2;exact⟨Yk HB.out (HB8.mono (Qa _)),.inl ⟨3,rfl,rfl⟩⟩
   |true=>
    have HR5:Hid (RES=if !Vx ⟨#[]⟩ (out.drop 0) then .error 4 else if 200<k then .error 2 else .ok out):=HR4.out;clear HR4;rcases hnot with⟨d4,d4b⟩|⟨⟨d4,d4b⟩,d5,d5b⟩
    all_goals
     go_wp2_with fail
     go_region_held3 (fun _=>True) (trivial)
      (first
       |(go_at_call 28;refine(CI.out _ (HRw.out.below (B:=wr.heap.size) (by(repeat' (first|with_reducible exact Below.refl _ _|with_reducible assumption|with_reducible apply Below.drew|with_reducible apply Yo))) (Qa _))).mono ?_;rintro r w8 ⟨rfl,hb8⟩;have HB8:Below wr.heap.size wr w8:=Yk (by(repeat' (first|with_reducible exact Below.refl _ _|with_reducible assumption|with_reducible apply Below.drew|with_reducible apply Yo))) hb8;clear hb8))
     all_goals
      go_wp2_with fail;have HR8:=Qf (HRw.out.below (B:=wr.heap.size) HB8 (Qa _));have HO8:=Qf (HO.out.below (B:=wr.heap.size) HB8 (Qa _));have HBw8:=Qf (Yk HB.out HB8);have HZ:=Qf (Below.refl w8.heap.size w8);clear HO HB HRw HB8
      go_loopw [11,110] (fun l_ j_ wq=>∃(j:Nat) (last:ByteArray),j<=k/\j_=.int .i64 (j:Int)/\l_=.string last/\Hid (RES=if !Vx last (out.drop j) then .error 4 else if 200<k then .error 2 else .ok out)/\Hid (Below w8.heap.size w8 wq)) (fun _ j _=>k-(intOf j).toNat)
      case atStart=>exact⟨0,⟨#[]⟩,Nat.zero_le _,rfl,rfl,HR5,HZ⟩
      clear HR5 HZ;obtain⟨j,last,hj,rfl,rfl,HC,HBl⟩:=hrel;by_cases hlt:j<k
      . obtain⟨dj,djb⟩:=Qj (show j<k by omega)
        have hjI:(j:Int)<(k:Int):=(by omega);have hjL:j<out.length:=(by rw[Hk.out];exact hlt);obtain⟨b,off,rfl,hbl,hcl⟩:=(HR8.out.below HBl.out (Qa _)) j hjL;have hC:=HC.out;rw[List.drop_eq_getElem_cons hjL] at hC;have hsz:=Hnsz.out _ (List.getElem_mem hjL);obtain⟨h,Hh⟩:=Qi (out[j]);rw[Hh.out] at hcl hC hsz;obtain⟨nm,me,cr,pk,sz,pl⟩:=h;unfold Hd.cells at hcl;dsimp only at hcl hsz;have k0:=hcl 0 _ rfl;have k1:=hcl 1 _ rfl;have k2:=hcl 2 _ rfl;have k3:=hcl 3 _ rfl;have k4:=hcl 4 _ rfl;have k5:=hcl 5 _ rfl;simp only[Nat.add_zero] at k0;have HC2:Hid (RES=if (!(if (!nmB nm||Xy nm last)=true then false else Vx nm (out.drop (j+1))))=true then .error 4 else if 200<k then .error 2 else .ok out):=hC;have CN:=Qf (Yb0 nm);obtain⟨nb,Hnb⟩:=Qi (nmB nm);rw[Hnb.out] at CN HC2;obtain⟨x,hx⟩:∃R,Op.bytesLess nm.toList last.toList=R:=⟨_,rfl⟩;obtain⟨y,hy⟩:∃R,(nm.toList==last.toList)=R:=⟨_,rfl⟩;have hxy:Xy nm last=(x||y):=(by unfold Xy;rw[hx,hy]);rw[hxy] at HC2;have hal:=HBl.out.alloc HBl.out.size (.cells #[.string nm,.int .i64 me,.int .u32 (cr:Int),.int .i64 pk,.int .i64 sz,.int .i64 pl] 49);have hbn:=Blk.new wr 49 #[.string nm,.int .i64 me,.int .u32 (cr:Int),.int .i64 pk,.int .i64 sz,.int .i64 pl];have t0:(wr.alloc (.cells #[.string nm,.int .i64 me,.int .u32 (cr:Int),.int .i64 pk,.int .i64 sz,.int .i64 pl] 49)).cell? ⟨wr.heap.size,0,none⟩=some (.string nm):=hbn.cell 0;have HBa:=Qf hal;have HBn:=Qf hbn;clear hC HC hxy hal hbn hjL hbl Hh hcl hsz;go_wp2_with fail;refine(CN.out _).mono ?_;rintro r w3 ⟨hb3,rfl⟩;have HB3:=Qf (Yk HBa.out hb3);have h3:=HBn.out.below hb3 HBn.out.lt;have u0:w3.cell? ⟨wr.heap.size,0,none⟩=some (.string nm):=h3.cell 0;clear hb3 h3 t0 k0 k1 k2 k3 k4 k5
        cases nb with
        |false=>
         have hr:RES=.error 4:=(by rw[HC2.out];rfl);subst hr;clear HC2;go_wp2_with fail;go_ret2;exact⟨Yk HBw8.out HB3.out,.inl ⟨4,rfl,rfl⟩⟩
        |true=>
         have HC4:Hid (RES=if (!(if (x||y)=true then false else Vx nm (out.drop (j+1))))=true then .error 4 else if 200<k then .error 2 else .ok out):=HC2.out;clear HC2;by_cases hv:(x||y)=true
         . have hr:RES=.error 4:=by rw[HC4.out,if_pos hv];rfl
           subst hr;clear HC4;cases x<;>cases y<;>simp at hv
           all_goals
            go_wp2_with fail;go_ret2;exact⟨Yk HBw8.out HB3.out,.inl ⟨4,rfl,rfl⟩⟩
         have hx2:x=false:=(by cases x<;>simp_all);have hy2:y=false:=by cases y<;>simp_all
         have HC5:Hid (RES=if !Vx nm (out.drop (j+1)) then .error 4 else if 200<k then .error 2 else .ok out):=by show _=_;rw[HC4.out,if_neg hv]
         subst hx2 hy2;clear HC4 hv;go_wp2_with fail;go_roundw
         case rel=>exact⟨j+1,nm,by omega,by go_num,rfl,HC5,HB3⟩
         simp[intOf];omega
      obtain rfl:j=k:=(by omega);have dj:decide ((j:Int)<(j:Int))=false:=Qh (by omega);have hC:=HC.out;rw[List.drop_of_length_le (by rw[Hk.out];exact Qa _)] at hC;have HC2:Hid (RES=if 200<j then .error 2 else .ok out):=hC;have HO9:=Qf (HO8.out.below HBl.out (Qa _));clear hC HC;by_cases h200:200<j
      . have d9:decide ((200:Int)<(j:Int))=true:=Qg (by omega)
        have d9b:decide (200<j)=true:=Qg (by omega);have hr:RES=.error 2:=(by rw[HC2.out,if_pos h200]);subst hr;clear HC2;go_wp2_with fail;go_ret2;exact⟨Yk HBw8.out HBl.out,.inl ⟨2,rfl,rfl⟩⟩
      have d9:decide ((200:Int)<(j:Int))=false:=Qh (by omega);have d9b:decide (200<j)=false:=Qh (by omega);have hr:RES=.ok out:=(by rw[HC2.out,if_neg h200]);subst hr;clear HC2;go_wp2_with fail;go_ret2;exact⟨Yk HBw8.out HBl.out,.inr ⟨out,_,rfl,rfl,HO9.out⟩⟩
 have d8:decide ((k:Int)=(n:Int))=false:=Qh (by omega);have d8b:((k:Int)==(n:Int))=false:=by rw[beq_eq_false_iff_ne];omega
 have hr:RES=.error 3:=by rw[HR3.out,if_pos (.inl hkn)]
 subst hr;have hknI:¬(k:Int)=(n:Int):=by omega
 have hknb:(!((k:Int)==(n:Int)))=true:=by rw[d8b];rfl
 have hknc:(!(k==n))=true:=by rw[beq_eq_false_iff_ne.2 hkn];rfl
 clear HR3;rcases hnot with⟨d4,d4b⟩|⟨⟨d4,d4b⟩,d5,d5b⟩
 all_goals
  go_wp2_with fail
  go_quiet (fail)
  all_goals
   go_wp2_with fail;go_ret2;exact⟨Yh HB.out _,.inl ⟨3,rfl,rfl⟩⟩
def badT (k:Nat):Ending:=.returned (.tuple #[.pointer none,.int .i64 (k:Int)])
def XR (L:Nat->Nat) (n:Nat) (s:Nat):Prop:=s<n/\0<L s
def Yjx (w:World) (n:Nat) (m:Nat->Int) (e:Ending) (w':World):Prop:=
 Below w.heap.size w w'/\
 (
  (320<n/\e=badT 2)\/(n<=320/\(∃i,i<n/\¬(0<=m i/\m i<=15))/\e=badT 1)\/
  (n<=320/\(∀i,i<n->0<=m i/\m i<=15)/\¬Fits (parts (lens m) n) (YG (lens m) n)/\e=badT 4)\/
  (n<=320/\(∀i,i<n->0<=m i/\m i<=15)/\Fits (parts (lens m) n) (YG (lens m) n)/\∃(T g N cap:Nat) (B:Nat->Nat->Int) (pv pn:Nat->Nat),e=.returned (.tuple #[.pointer (some ⟨T,0,none⟩),.int .i64 0])/\
   w.heap.size<=T/\w.heap.size<=g/\TreeAt w' T g N cap B/\N<=10000/\Grown (YD (lens m) n) (lens m) (XR (lens m) n) B N pv pn))
theorem Yb8 (L:Nat->Nat) (n σ:Nat) (hσ:σ<n) (h0:0<L σ) (h15:∀i,i<n->L i<=15):∀s,(s<σ/\0<L s)->¬Ext (YD L n) L (YD L n s) (L s) σ:=by
 rintro s ⟨h1,h2⟩ ⟨h3,h4⟩
 have ha:Xa L s σ=true:=by
  unfold Xa;rw[decide_eq_true h2,Bool.true_and];by_cases e:L s<L σ
  . rw[decide_eq_true e];rfl
  rw[decide_eq_true (show L s=L σ by omega),decide_eq_true h1];simp
 have:=Ybu L n s σ (by omega) ha (h15 σ hσ);unfold YD at h4;rw[if_pos h2,if_pos h0] at h4;exact this h4
theorem Ymp (L:Nat->Nat) (k s:Nat) (h0:0<L k):((s<k/\0<L s)\/s=k) ↔ (s<k+1/\0<L s):=by
 constructor
 . rintro (⟨h1,h2⟩|rfl)
   . exact⟨by omega,h2⟩
   exact⟨by omega,h0⟩
 rintro ⟨h1,h2⟩;by_cases e:s=k
 . exact .inr e
 exact .inl ⟨by omega,h2⟩
theorem Ymo (L:Nat->Nat) (k s:Nat) (h0:L k=0):(s<k/\0<L s) ↔ (s<k+1/\0<L s):=by
 constructor
 . rintro ⟨h1,h2⟩
   exact⟨by omega,h2⟩
 rintro ⟨h1,h2⟩;refine⟨?_,h2⟩;by_cases e:s=k
 . subst e;omega
 omega
set_option maxHeartbeats 16000000 in
theorem YhY (a:Option Addr) (n cap:Nat) (m:Nat->Int) (hn:n<=1000000) (w:World) (hr:IRow w a n m) :
 Calls Tryz.prog 114 #[.slice a n cap] w (Yjx w n m):=by
 have CC:=Qf (YaI a n cap m hn w hr);clear hr;go_enter Tryz.func114,Tryz.ntmps114;go_wp2_with fail;refine CC.out.mono ?_;intro e w1 h;obtain⟨hb,⟨h1,rfl⟩|⟨h1,h2,rfl⟩|⟨h1,h2,h3,rfl⟩|⟨h1,h2,h3,v,rfl,gc,rfl,hgc,hB⟩⟩:=h
 . have HB:=Qf hb
   clear hb;unfold bad;go_wp2_with fail;go_ret2;exact⟨HB.out,.inl ⟨h1,rfl⟩⟩
 . have HB:=Qf hb
   have H2:=Qf h2;clear hb h2;unfold bad;go_wp2_with fail;go_ret2;exact⟨HB.out,.inr (.inl ⟨h1,H2.out,rfl⟩)⟩
 . have HB:=Qf hb
   have H2:=Qf h2;have H3:=Qf h3;clear hb h2 h3;unfold bad;go_wp2_with fail;go_ret2;exact⟨HB.out,.inr (.inr (.inl ⟨h1,H2.out,H3.out,rfl⟩))⟩
 have HB:=Qf hb;have H2:=Qf h2;have H3:=Qf h3;have HBc:=Qf hB;obtain⟨L,HL⟩:=Qi (lens m);rw[HL.out] at HBc H3
 have HL15:Hid (∀i,i<n->L i<=15):=fun i hi=>by
  have:=H2.out i hi;rw[<-HL.out];unfold lens;omega
 obtain⟨F,HF⟩:=Qi (YD L n);rw[HF.out] at HBc
 have HFit:Hid (∀i,i<n->0<L i->F i<2^L i):=fun i hi h0=>by
  rw[<-HF.out];unfold YD;rw[if_pos h0];exact Ydl L n i hi h0 (HL15.out i hi) H3.out.1
 have HPF:Hid (∀σ,σ<n->0<L σ->∀s,(s<σ/\0<L s)->¬Ext F L (F s) (L s) σ):=fun σ h1 h2=>by
  have:=Yb8 L n σ h1 h2 HL15.out;rw[HF.out] at this;exact this
 have hmk:=YfY w1;have HPT0:=Qf (PT.start w1);have HG0:Hid (Grown F L (fun s=>s<0/\0<L s) (fun _ _=>0) 1 (fun _=>0) (fun _=>0)):=Grown.none F L _ (fun s h=>by omega);have hgl:=HBc.out.lt;obtain⟨q,Hq⟩:=Qi (w1.heap.size);rw[Hq.out] at hgl;clear hb h2 h3 hB CC;go_wp2_with fail;clear hmk;obtain⟨w2,HW2⟩:=Qi ((w1.alloc (.cells #[.int .i64 0,.int .i64 0] 90)).alloc (.cells #[.slice (some ⟨w1.heap.size,0,none⟩) 1 1] 215));rw[HW2.out] at HPT0 ⊢;rw[Hq.out] at HPT0 ⊢;obtain⟨T,HT⟩:=Qi (q+1);rw[HT.out] at HPT0 ⊢;clear HW2 HT
 go_loopw [25] (fun k_ wr=>∃(k g N cap:Nat) (B:Nat->Nat->Int) (pv pn:Nat->Nat),k<=n/\k_=.int .i64 (k:Int)/\N<=1+15*k/\Hid (PT w1 wr T g N cap B)/\Hid (Grown F L (fun s=>s<k/\0<L s) B N pv pn)) (fun k _=>n-(intOf k).toNat)
 case atStart=>exact⟨0,q,1,1,_,_,_,by omega,rfl,by omega,HPT0,HG0⟩
 clear HPT0 HG0;obtain⟨k,g,N,cap1,B,pv,pn,hk,rfl,hN,HT,HG⟩:=hrel;by_cases hlt:k<n
 . have d1:decide ((k:Int)<(n:Int))=true:=Qg (by omega)
   have hBk:=HBc.out.below HT.out.2.2.1 (by rw[Hq.out];exact hgl);have c0:=hBk.cell (k*2);rw[Uy n F L k (k*2) rfl hlt] at c0;have c1:=hBk.cell (k*2+1);rw[Js n F L k (k*2+1) rfl hlt] at c1;obtain⟨l,Hl⟩:=Qi (L k);obtain⟨f,Hf⟩:=Qi (F k);have hl15:l<=15:=by rw[<-Hl.out];exact HL15.out k hlt
   rw[Hf.out] at c0;rw[Hl.out] at c1;obtain⟨A,HA⟩:=Qi (wr.heap.size);have hba:=(Below.refl wr.heap.size wr).alloc (Qa _) (.cells #[.int .u32 (f:Int),.int .i64 (l:Int)] 163);have HTA:=Qf (HT.out.below hba);have hBA:=Blk.new wr 163 #[.int .u32 (f:Int),.int .i64 (l:Int)];rw[HA.out] at hBA;have HBA:=Qf hBA;clear hBk hba hBA HT;by_cases hl0:l=0
   . subst hl0
     go_wp2_with fail;rw[HA.out];obtain⟨w5,HW5⟩:=Qi (wr.alloc (.cells #[.int .u32 (f:Int),.int .i64 ((0:Nat):Int)] 163));have HW5':Hid (wr.alloc (.cells #[.int .u32 (f:Int),.int .i64 0] 163)=w5):=HW5.out;rw[HW5.out] at HTA HBA;rw[HW5'.out];clear HW5 HW5' c0 c1 HA
     go_loopw [9,10] (fun at_ i_ wr=>i_=.int .i64 (-1)/\Hid (wr=w5)) (fun _ _ _=>0)
     case atStart=>exact⟨rfl,rfl⟩
     obtain⟨rfl,HW⟩:=hrel;have HT6:Hid (PT w1 wr T g N cap1 B):=(by show PT _ _ _ _ _ _ _;rw[HW.out];exact HTA.out);clear HW HTA HBA;go_wp2_with fail;go_roundw
     case rel=>exact⟨k+1,g,N,cap1,B,pv,pn,by omega,by go_num,by omega,HT6,HG.out.congr (fun s=>Ymo L k s Hl.out)⟩
     simp[intOf];omega
   have HM0:=Qf (HG.out.start (σ:=k) (by rw[Hl.out];omega) (HFit.out k hlt (by rw[Hl.out];omega)));have HPFk:=Qf (HPF.out k hlt (by rw[Hl.out];omega));obtain⟨i0,Hi0⟩:=Qi (l-1)
   have hi0:(l:Int)-1=(i0:Int):=by have:=Hi0.out;omega
   clear HG;go_wp2_with fail;rw[HA.out];obtain⟨w5,HW5⟩:=Qi (wr.alloc (.cells #[.int .u32 (f:Int),.int .i64 (l:Int)] 163));rw[HW5.out] at HTA HBA ⊢;clear HW5 c0 c1 HA hi0
   go_loopw [9,10] (fun at_ i_ wr=>∃(d i at' g N cap:Nat) (B:Nat->Nat->Int) (pv pn:Nat->Nat),Hid (d+i+1=l)/\i_=.int .i64 (i:Int)/\at_=.int .i64 (at':Int)/\N<=1+15*k+d/\d<=15/\i<=15/\Hid (PT w1 wr T g N cap B)/\
    Hid (Mid F L (fun s=>s<k/\0<L s) k B N pv pn d at')/\Hid (Blk wr A 163 #[.int .u32 (f:Int),.int .i64 (l:Int)])) (fun _ i _=>(intOf i).toNat)
   case atStart=>exact⟨0,i0,0,g,N,cap1,B,pv,pn,by show _=_;have:=Hi0.out;omega,rfl,rfl,by omega,by omega,by have:=Hi0.out;omega,HTA,HM0,HBA⟩
   clear HTA HM0 HBA hN;obtain⟨d,i,at',g,N,cap1,B,pv,pn,Hd,rfl,rfl,hN,hd15,hi15,HT,HM,HBA⟩:=hrel;have hat:=HM.out.lt;obtain⟨b,Hb⟩:=Qi (nb F L k d);have hb2:b<2:=by rw[<-Hb.out];exact Yme _ _ _ _
   obtain⟨y,Hy⟩:=Qi (f/2^i);have hy:(f:Int)/2^i=(y:Int):=by rw[<-Hy.out];simp
   have hfl:f<4294967296:=by
    have:=HFit.out k hlt (by rw[Hl.out];omega);rw[Hf.out,Hl.out] at this;exact Qb this (Qe (Nat.pow_le_pow_right (by decide) hl15) (by decide))
   have hyl:y<4294967296:=by rw[<-Hy.out];exact Nat.lt_of_le_of_lt (Nat.div_le_self _ _) hfl
   have hand:bits .and .u32 (y:Int) 1=(b:Int):=by
    have h:=u32_and_nat y 1 hyl (by decide);rw[Nat.and_one_is_mod] at h
    have e:y%2=b:=by
     rw[<-Hb.out,<-Hy.out];unfold nb;rw[Hf.out,Hl.out,show l-d-1=i by have:=Hd.out;omega]
    rw[e] at h;exact h
   have mi:min i 32=i:=by omega
   obtain⟨v,Hv⟩:=Qi (B at' b);have cV:=HT.out.cell at' b hat hb2;rw[Hv.out] at cV;have fV:=HT.out.frozen (at'*2+b);have cT:=HT.out.1.cell 0;have cA:=HBA.out.cell 0;simp at cT cA;have hbI:(b:Int)<2:=by omega
   have hatI:(at':Int)<(N:Int):=by omega
   have d2:decide (0<=(i:Int))=true:=Qg (by omega);go_wp2_with fail
   go_quiet (fail)
   have cV2:(wr.drewN nq).cell? ⟨g,at'*2+b,none⟩=some (.int .i64 v):=cV;have fV2:(wr.drewN nq).frozen? ⟨g,at'*2+b,none⟩=false:=fV;have cT2:(wr.drewN nq).cell? ⟨T,0,none⟩=some (.slice (some ⟨g,0,none⟩) N cap1):=cT;have HT2:=Qf (HT.out.below (Yh (Below.refl _ _) nq));have HB2:=Qf (show Blk (wr.drewN nq) A 163 #[.int .u32 (f:Int),.int .i64 (l:Int)] from HBA.out);clear cV fV cT cA HT HBA hand hy mi;obtain⟨w6,HW6⟩:=Qi (wr.drewN nq);rw[HW6.out] at cV2 fV2 cT2 HT2 HB2 ⊢;clear HW6;by_cases hi0:i=0
   . subst hi0
     have hdl:d+1=L k:=by rw[Hl.out];have:=Hd.out;omega
     have HGn:=Qf ((HM.out.leaf hdl).congr (fun s=>Ymp L k s (by rw[Hl.out];have:=Hd.out;omega)));have HT7:=Qf (HT2.out.store at' b (-1-(k:Int)) hat hb2);rw[Hb.out] at HGn;clear hdl HM cT2 HB2 HT2;go_wp2_with fail;go_roundw
     case rel=>exact⟨k+1,g,N,cap1,_,pv,pn,by omega,by go_num,by omega,HT7,HGn⟩
     simp[intOf];omega
   have hdl:d+1<L k:=by rw[Hl.out];have:=Hd.out;omega
   have hi1:(i:Int)-1=((i-1:Nat):Int):=by omega
   have diI:((i:Int)==0)=false:=by simpa using hi0
   obtain⟨i1,Hi1⟩:=Qi (i-1);rw[Hi1.out] at hi1
   have hd1:Hid (d+1+i1+1=l):=by show _=_;have:=Hd.out;have:=Hi1.out;omega
   have hi1l:i1<i:=by have:=Hi1.out;omega
   rcases HM.out.way HPFk.out with hw|⟨j,hw,hj0,hjN,hjp,hjn,hjx⟩
   . have hMf:=HM.out.fresh hdl (by rw[hw])
     rw[Hb.out] at hw hMf;obtain rfl:v=0:=(by rw[<-Hv.out];exact hw);have HMf:=Qf hMf;have HT7:=Qf (HT2.out.store at' b (N:Int) hat hb2)
     have HB7:=Qf (HB2.out.far (p:=⟨g,at'*2+b,none⟩) (by
      rcases KX HT2.out.2.1 HB2.out (by decide) with e|e
      . simp[Value.ownBlock] at e
      exact fun e2=>e (by simp[Value.ownBlock,e2])) (.int .i64 (N:Int)))
     clear hMf hw hdl HM;go_upto_region 17 with(fail);obtain⟨w7,HW7⟩:=Qi (w6.setCell ⟨g,at'*2+b,none⟩ (.int .i64 (N:Int)));rw[HW7.out] at HT7 HB7 ⊢;clear HW7 cV2 fV2 cT2 HT2 HB2;have cT7:=HT7.out.1.cell 0;have fT7:=HT7.out.1.frozen 0;simp at cT7;have hos:=HT7.out.2.1;have hbsw:w1.heap.size<=w7.heap.size:=HT7.out.2.2.1.size;have hBT7:=Qf HT7.out.1;have hgTne:=Qf HT7.out.ne
     go_wp2_with (first
      |(at_builtin;go_must (refine Ya w7 rfl (.tmp 70) (.tmp 72) rfl Tryz.underlying135 Ybj rfl (by decide) w1.heap.size _ N (KF N (setB B at' b (N:Int))) [.int .i64 0,.int .i64 0] hos rfl Ykh rfl rfl rfl ?_ ?_ hbsw ?_;(unfold maxLen;omega);omega;intro v2 w8 hown8 hg8;obtain⟨g2,cap2,rfl,_⟩:=World.ownsRow.form hown8 (Nat.succ_pos _);have hT8:=hBT7.out.grown hg8 (fun e=>hgTne.out (by simp[Value.ownBlock] at e;exact e.symm));have cT8:=hT8.cell 0;have fT8:=hT8.frozen 0;simp at cT8;have HO8:=Qf hown8;have HG8:=Qf hg8;clear hown8 hg8 hT8))
      |fail)
     have HT9:=Qf (HT7.out.more HO8.out HG8.out)
     have HB9:=Qf ((HB7.out.grown HG8.out (fun e=>by
      rcases KX HT7.out.2.1 HB7.out (by decide) with e2|e2
      . simp[Value.ownBlock] at e2
      exact e2 e.symm)).far (p:=⟨T,0,none⟩) (fun e=>by
      have e3:A=T:=e;have h1:=HB7.out;have h2:=HT7.out.1;rw[e3] at h1;unfold Blk at h1 h2;rw[h1] at h2
      simp at h2) (.slice (some ⟨g2,0,none⟩) (N+1) cap2))
     go_roundw
     case rel=>exact⟨d+1,i1,N,g2,N+1,cap2,_,_,_,hd1,by go_num,by go_num,by omega,by have:=hd1.out;omega,by omega,HT9,HMf,HB9⟩
     simp[intOf];omega
   rw[Hb.out] at hw;have HMd:=Qf (HM.out.down hdl (by rw[Hb.out];exact hw) hj0 hjN hjp hjn hjx);obtain rfl:v=(j:Int):=by rw[<-Hv.out];exact hw
   have dj:((j:Int)==0)=false:=by simp;omega
   clear hw hjx hjp hjn hdl HM;go_wp2_with fail;go_roundw
   case rel=>exact⟨d+1,i1,j,g,N,cap1,B,pv,pn,hd1,by go_num,by go_num,by omega,by have:=hd1.out;omega,by omega,HT2,HMd,HB2⟩
   simp[intOf];omega
 obtain rfl:k=n:=by omega
 have d1:decide ((k:Int)<(k:Int))=false:=Qh (by omega);go_wp2_with fail;go_ret2;refine⟨HB.out.trans (HT.out.2.2.1.mono HB.out.size),.inr (.inr (.inr ⟨h1,H2.out,by rw[HL.out];exact H3.out,T,g,N,cap1,B,pv,pn,rfl,Qe HB.out.size HT.out.2.2.2,Qe HB.out.size HT.out.lt.1,HT.out.at,by omega,?_⟩))⟩;rw[HL.out,HF.out];exact HG.out
theorem YhF (s:ByteArray) (w:World):Calls Tryz.prog 71 #[.string s] w fun e w'=>e=.returned (.pointer (some ⟨w.heap.size,0,none⟩))/\SrcAt w' w.heap.size s 0/\Below w.heap.size w w':=by
 have hB:=Blk.new w 176 #[.string s,.int .i64 0];have hb:=(Below.refl w.heap.size w).alloc (Qa _) (.cells #[.string s,.int .i64 0] 176);have HB:=Qf hB;have Hb:=Qf hb;clear hB hb;go_enter Tryz.func71,Tryz.ntmps71;go_wp2_with fail;go_ret;exact⟨rfl,HB.out,Hb.out⟩
theorem Ycy (P:Nat) (s:ByteArray) (p:Nat) (w:World) (hS:SrcAt w P s p) :
 Calls Tryz.prog 77 #[.pointer (some ⟨P,0,none⟩)] w fun e w'=>e=.returned (.int .i64 (p:Int))/\w=w':=by
 have c1:=hS.cell 1;simp at c1;clear hS;go_enter Tryz.func77,Tryz.ntmps77;go_wp2_with fail;go_ret;exact⟨rfl,rfl⟩
theorem Jz (P:Nat) (s:ByteArray) (p:Nat) (hs:s.size<=100000000) (w:World) (hS:SrcAt w P s p) :
 Calls Tryz.prog 95 #[.pointer (some ⟨P,0,none⟩)] w fun e w'=>e=.returned (.bool (decide (8*s.size<p)))/\∃n,w'=w.drewN n:=by
 have c0:=hS.cell 0;have c1:=hS.cell 1;simp at c0 c1;obtain⟨b,Hb⟩:=Qi (decide (8*s.size<p))
 have hd:decide (8*(s.size:Int)<(p:Int))=b:=by
  rw[<-Hb.out];by_cases h:8*s.size<p
  . rw[decide_eq_true h,decide_eq_true (by omega)]
  rw[decide_eq_false h,decide_eq_false (by omega)]
 rw[Hb.out];clear hS;go_enter Tryz.func95,Tryz.ntmps95;go_wp2_with fail
 go_quiet (fail)
 all_goals
  go_wp2_with fail;go_ret
  first
   |exact⟨rfl,_,rfl⟩
   |exact⟨by rw[<-hd];rfl,_,rfl⟩
theorem YhE {w:World} {P p p':Nat} {s:ByteArray} (h:SrcAt w P s p):SrcAt (w.setCell ⟨P,1,none⟩ (.int .i64 (p':Int))) P s p'/\w.grownBy (w.setCell ⟨P,1,none⟩ (.int .i64 (p':Int))) (some P)/\(w.setCell ⟨P,1,none⟩ (.int .i64 (p':Int))).heap.size=w.heap.size:=by
 refine⟨?_,⟨rfl,rfl,rfl,by simp[World.setCell],fun g hg hne=>(heap_setCell_other w _ _ _ (fun e=>hne (by rw[e])))⟩,by simp[World.setCell]⟩;have:=Blk.set_ h 1 (.int .i64 (p':Int));show Blk _ _ _ _
 simpa using this
theorem SrcAt.below {w w':World} {P p B:Nat} {s:ByteArray} (h:SrcAt w P s p) (hb:Below B w w') (hP:P<B):SrcAt w' P s p:=Blk.below h hb hP
theorem SrcAt.lt {w:World} {P p:Nat} {s:ByteArray} (h:SrcAt w P s p):P<w.heap.size:=Blk.lt h
theorem YlL (P:Nat) (s:ByteArray) (p k x p2:Nat) (hk:k<=32) (hx:YI s p k=x) (hp2:p+k=p2) (hs:s.size<=100000000) (hp:p<=1000000000) (w:World) (hS:SrcAt w P s p) :
 Calls Tryz.prog 94 #[.pointer (some ⟨P,0,none⟩),.int .i64 (k:Int)] w fun e w'=>e=.returned (.int .u32 (x:Int))/\SrcAt w' P s p2/\w.grownBy w' (some P)/\w'.heap.size=w.heap.size:=by
 rw[<-hx,<-hp2];exact Yaa P s p k (k:Int) (.inr (.inl ⟨rfl,hk⟩)) hs hp w hS
def NextOut (F L:Nat->Nat) (In:Nat->Prop) (X nbits p sym err taken:Nat):Prop:=
 1<=taken/\(∀m,1<=m->m<taken->p+m<=nbits/\∃s,In s/\Ext F L (rev X m) m s/\m<L s)/\
 (
  (nbits<p+taken/\err=6/\sym=0)\/(p+taken<=nbits/\(∀s,In s->¬Ext F L (rev X taken) taken s)/\err=3/\sym=0)\/
  (p+taken<=nbits/\In sym/\L sym=taken/\F sym=rev X taken/\err=0))
theorem Yid (s:ByteArray) (p d:Nat):YI s (p+d) 1=num s/2^p/2^d%2:=by
 unfold YI;rw[Nat.div_div_eq_div_mul,<-Nat.pow_add]
theorem Yj7 (X d:Nat):rev X (d+1)=2*rev X d+X/2^d%2:=rfl
set_option maxHeartbeats 8000000 in
theorem Yks (F L:Nat->Nat) (In:Nat->Prop) (T g N cap:Nat) (B:Nat->Nat->Int) (pv pn:Nat->Nat) (hG:Grown F L In B N pv pn) (hL:∀s,In s->L s<=15) (hIn:∀s,In s->s<1000)
 (P:Nat) (s:ByteArray) (p:Nat) (hs:s.size<=100000) (hp:p<=1000000) (hPT:T ≠ P) (hPg:g ≠ P) (w:World) (hT:TreeAt w T g N cap B) (hS:SrcAt w P s p) :
 Calls Tryz.prog 115 #[.pointer (some ⟨T,0,none⟩),.pointer (some ⟨P,0,none⟩)] w fun e w'=>
  ∃sym err taken:Nat,e=.returned (.tuple #[.int .i64 (sym:Int),.int .i64 (err:Int)])/\NextOut F L In (num s/2^p) (8*s.size) p sym err taken/\taken<=16/\SrcAt w' P s (p+taken)/\w.grownBy w' (some P)/\w'.heap.size=w.heap.size:=by
 have HG:=Qf hG;have HL:=Qf hL;have HI:=Qf hIn;have HS:=Qf hS;have HT:=Qf hT;have HPT:=Qf hPT;have HPg:=Qf hPg;have Hgr:Hid (w.grownBy w (some P)):=⟨rfl,rfl,rfl,Qa _,fun _ _ _=>rfl⟩;obtain⟨X,HX⟩:=Qi (num s/2^p);rw[HX.out];clear hG hL hIn hS hT hPT hPg;go_enter Tryz.func115,Tryz.ntmps115;go_wp2_with fail
 go_loopw [6] (fun at_ wr=>∃a d:Nat,a<N/\d<=15/\at_=.int .i64 (a:Int)/\Hid (pn a=d)/\Hid (pv a=rev X d)/\Hid (∀m,1<=m->m<d+1->p+m<=8*s.size/\∃σ,In σ/\Ext F L (rev X m) m σ/\m<L σ)/\
  Hid (SrcAt wr P s (p+d))/\Hid (TreeAt wr T g N cap B)/\Hid (w.grownBy wr (some P))/\Hid (wr.heap.size=w.heap.size)) (fun _ wr=>p+16-Ym wr ⟨P,1,none⟩)
 case atStart=>exact⟨0,0,HG.out.pos,by omega,rfl,HG.out.root.2,HG.out.root.1,(fun m h1 h2=>by omega),HS,HT,Hgr,rfl⟩
 clear HS HT Hgr;obtain⟨a,d,ha,hd15,rfl,Hpn,Hpv,Hpre,HS,HT,Hgr,Hsz⟩:=hrel;obtain⟨b,Hb⟩:=Qi (YI s (p+d) 1);have hb2:b<2:=by rw[<-Hb.out,Yid];exact Nat.mod_lt _ (by decide)
 have Hnx:Hid (rev X (d+1)=2*pv a+b):=by
  show _=_;rw[Yj7,<-Hpv.out,<-Hb.out,Yid,HX.out]
 obtain⟨v,Hv⟩:=Qi (B a b);obtain⟨p2,Hp2⟩:=Qi (p+d+1)
 have hp2:p2<=2000000:=by have:=Hp2.out;omega
 have CT:=Qf (fun W h=>YlL P s (p+d) 1 b p2 (by decide) Hb.out Hp2.out (by omega) (by omega) W h);have hSd:Hid (SrcAt wr.drew P s (p+d)):=HS.out;have hTd:Hid (TreeAt wr.drew T g N cap B):=HT.out;have hgd:Hid (w.grownBy wr.drew (some P)):=⟨Hgr.out.os,Hgr.out.tape,Hgr.out.output,Hgr.out.size,Hgr.out.block⟩;have cm:=Yf (n:=p+d) (by simpa using Blk.cell HS.out 1);have Hcm:=Qf cm;have ct:=hTd.out.1.cell 0;have cv:=hTd.out.2.2 a b ha hb2;rw[Hv.out] at cv;simp at ct;have haI:(a:Int)<(N:Int):=by omega
 have hbI:(b:Int)<2:=by omega
 clear HS HT Hgr cm;go_wp2_with fail
 go_region_held3 (fun W=>W.cell? ⟨T,0,none⟩=some (.slice (some ⟨g,0,none⟩) N cap)/\W.cell? ⟨g,a*2+b,none⟩=some (.int .i64 v))
  (first|exact⟨by assumption,by assumption⟩|go_keep)
  (first
   |(go_at_call 94;refine(CT.out _ hSd.out).mono ?_;rintro e w6 ⟨rfl,hS6,hg6,hz6⟩;have hT6:=hTd.out.grown hg6 HPT.out HPg.out;have q1:=hT6.1.cell 0;have q2:=hT6.2.2 a b ha hb2;simp at q1;rw[Hv.out] at q2))
 have HS6:=Qf hS6;have HT6:=Qf hT6;have Hg6:=Qf (Ky hgd.out hg6);have Hz6:Hid (w6.heap.size=w.heap.size):=hz6.trans Hsz.out;obtain⟨S2,HS2⟩:=Qi (decide (8*s.size<p2));have CS:=Jz P s p2 (by omega) w6 HS6.out;rw[HS2.out] at CS;have HCS:=Qf CS;have hc:=HG.out.cells a ha b hb2;have Hc:=Qf hc;have e1:p+(d+1)=p2:=Hp2.out;have Hn:=Hnx.out;rename_i hh;clear hh hS6 hT6 hg6 hz6 CS hc q1 q2 cv ct haI hbI hSd hTd hgd CT Hsz;go_wp2_with fail;refine HCS.out.mono ?_;rintro e w7 ⟨rfl,nq,rfl⟩;have HS7:Hid (SrcAt (w6.drewN nq) P s p2):=HS6.out;have HT7:Hid (TreeAt (w6.drewN nq) T g N cap B):=HT6.out;have Hg7:Hid (w.grownBy (w6.drewN nq) (some P)):=⟨Hg6.out.os,Hg6.out.tape,Hg6.out.output,Hg6.out.size,Hg6.out.block⟩;have Hz7:Hid ((w6.drewN nq).heap.size=w.heap.size):=Hz6.out;have Hn1:=Qf Hn;have He1:=Qf e1;clear HCS HS6 HT6 Hg6 Hz6 Hn e1
 cases S2 with
 |true=>
  have hsh:8*s.size<p2:=by simpa using HS2.out
  go_wp2_with fail;go_ret2;exact⟨0,6,d+1,rfl,⟨by omega,Hpre.out,.inl ⟨by rw[He1.out];exact hsh,rfl,rfl⟩⟩,by omega,by rw[He1.out];exact HS7.out,Hg7.out,Hz7.out⟩
 |false=>
  have hsh:p2<=8*s.size:=by have:=of_decide_eq_false HS2.out;omega
  rcases Hc.out with⟨h1,h2⟩|⟨j,h1,h2,h3,h4,h5,h6⟩|⟨σ,h1,h2,h3,h4⟩
  . obtain rfl:v=0:=by rw[<-Hv.out];exact h1
    have H2:=Qf h2;clear h1 h2;go_wp2_with fail;go_ret2;refine⟨0,3,d+1,rfl,⟨by omega,Hpre.out,.inr (.inl ⟨by rw[He1.out];exact hsh,?_,rfl,rfl⟩)⟩,by omega,by rw[He1.out];exact HS7.out,Hg7.out,Hz7.out⟩;intro σ hσ;have:=H2.out σ hσ;rw[Hpn.out,<-Hn1.out] at this;exact this
  . obtain rfl:v=(j:Int):=by rw[<-Hv.out];exact h1
    have H6:=Qf h6;have H4:=Qf h4;have H5:=Qf h5;have dj:((j:Int)==0)=false:=(by simp;omega);have dj2:decide ((j:Int)<0)=false:=Qh (by omega)
    have hd14:d+1<=15:=by
     obtain⟨σ,h7,h8,h9⟩:=h6;have:=HL.out σ h7;rw[Hpn.out] at h9;omega
    have Hpre2:Hid (∀m,1<=m->m<d+1+1->p+m<=8*s.size/\∃σ,In σ/\Ext F L (rev X m) m σ/\m<L σ):=by
     intro m h7 h8;by_cases e:m=d+1
     . subst e
       refine⟨by rw[He1.out];exact hsh,?_⟩;obtain⟨σ,h9,h10,h11⟩:=H6.out;rw[Hpn.out,<-Hn1.out] at h10;rw[Hpn.out] at h11;exact⟨σ,h9,h10,h11⟩
     exact Hpre.out m h7 (by omega)
    clear h1 h4 h5 h6;go_wp2_with fail;go_roundw
    case rel=>exact⟨j,d+1,h3,hd14,rfl,(by show _=_;rw[H5.out,Hpn.out]),(by show _=_;rw[H4.out];exact Hn1.out.symm),Hpre2,(by show SrcAt _ _ _ _;rw[He1.out];exact HS7.out),HT7,Hg7,Hz7⟩
    have cm:Ym (w6.drewN nq) ⟨P,1,none⟩=p2:=Yf ((Blk.cell HS7.out 1).trans rfl);rw[cm,Hcm.out];have:=Hp2.out;omega
  obtain rfl:v = -1-(σ:Int):=by rw[<-Hv.out];exact h1
  have hσ:=HI.out σ h2;have dj:((-1-(σ:Int))==0)=false:=by simp;omega
  have dj2:decide (-1-(σ:Int)<0)=true:=Qg (by omega);have e2:-1-(-1-(σ:Int))=(σ:Int):=by omega
  have H2:=Qf h2;have H3:=Qf h3;have H4:=Qf h4;clear h1 h2 h3 h4;go_wp2_with fail;go_ret2;exact⟨σ,0,d+1,rfl,⟨by omega,Hpre.out,.inr (.inr ⟨by rw[He1.out];exact hsh,H2.out,by rw[H3.out,Hpn.out],by rw[H4.out];exact Hn1.out.symm,rfl⟩)⟩,by omega,by rw[He1.out];exact HS7.out,Hg7.out,Hz7.out⟩
def Ve (step first:Nat):Nat->Nat × Nat
 |0=>(first,0)
 |k+1=>
  let m:=if 2*step<=k/\k%step=0 then (Ve step first k).2+1 else (Ve step first k).2
  ((Ve step first k).1+2^m,m)
def Vi (step first i:Nat):Nat:=if 2*step<=i/\i%step=0 then (Ve step first i).2+1 else (Ve step first i).2
theorem Yez:∀k,k<=29->(Ve 4 3 k).1<=100000/\(Ve 4 3 k).2<=14/\(Ve 2 1 k).1<=100000/\(Ve 2 1 k).2<=14:=by decide
theorem KZ (step first k:Nat):Ve step first (k+1)=((Ve step first k).1+2^(Vi step first k),Vi step first k):=rfl
def Yl (far:Bool) (i:Int):Nat × Nat:=
 if far then (if i<0\/29<i then (0,0) else ((Ve 2 1 i.toNat).1,Vi 2 1 i.toNat))
 else (if i<0\/28<i then (0,0) else if i=28 then (258,0) else ((Ve 4 3 i.toNat).1,Vi 4 3 i.toNat))
set_option maxHeartbeats 4000000 in
theorem YeC (i:Int) (w:World):Calls Tryz.prog 101 #[.int .i64 i,.bool true] w fun e w'=>e=.returned (.tuple #[.int .i64 ((Yl true i).1:Int),.int .i64 ((Yl true i).2:Int)])/\∃n,w'=w.drewN n:=by
 by_cases h0:i<0
 . have d0:decide (i<0)=true:=by rw[decide_eq_true_eq];exact h0
   have e:Yl true i=(0,0):=by unfold Yl;rw[if_pos rfl,if_pos (.inl h0)]
   rw[e];clear h0;go_enter Tryz.func101,Tryz.ntmps101;go_wp2_with fail;go_ret2;exact⟨rfl,0,rfl⟩
 have d0:decide (i<0)=false:=by rw[decide_eq_false_iff_not];exact h0
 by_cases h1:29<i
 . have d1:decide (29<i)=true:=by rw[decide_eq_true_eq];exact h1
   have e:Yl true i=(0,0):=by unfold Yl;rw[if_pos rfl,if_pos (.inr h1)]
   rw[e];clear h0 h1;go_enter Tryz.func101,Tryz.ntmps101;go_wp2_with fail;go_ret2;exact⟨rfl,0,rfl⟩
 have d1:decide (29<i)=false:=by rw[decide_eq_false_iff_not];exact h1
 obtain⟨n,rfl⟩:∃n:Nat,i=(n:Int):=⟨i.toNat,by omega⟩;have hn:n<=29:=by omega
 have e:Yl true (n:Int)=((Ve 2 1 n).1,Vi 2 1 n):=by unfold Yl;rw[if_pos rfl,if_neg (by omega)];rfl
 have d1b:decide (29<n)=false:=Qh (by omega);rw[e];clear h0 h1 e;obtain⟨R1,HR1⟩:=Qi ((Ve 2 1 n).1);obtain⟨R2,HR2⟩:=Qi (Vi 2 1 n);rw[HR1.out,HR2.out];go_enter Tryz.func101,Tryz.ntmps101;go_wp2_with fail
 go_loopw [9,10,29] (fun b_ m_ k_ wr=>∃k b m:Nat,k<=n/\k_=.int .i64 (k:Int)/\b_=.int .i64 (b:Int)/\m_=.int .i64 (m:Int)/\Hid ((Ve 2 1 k).1=b)/\Hid ((Ve 2 1 k).2=m)/\wr=w) (fun _ _ k _=>n-(intOf k).toNat)
 case atStart=>exact⟨0,1,0,by omega,rfl,rfl,rfl,rfl,rfl,rfl⟩
 obtain⟨k,b,m,hk,rfl,rfl,rfl,Hb,Hm,rfl⟩:=hrel;have hle:=Yez k (by omega);have hbl:b<=100000:=by rw[<-Hb.out];exact hle.2.2.1
 have hml:m<=14:=by rw[<-Hm.out];exact hle.2.2.2
 clear hle;obtain⟨r,Hr⟩:=Qi (k%2)
 have hr:(k:Int).tmod 2=(r:Int):=by rw[Int.tmod_eq_emod_of_nonneg (by omega)];have:=Hr.out;omega
 have hr2:(k:Int)%2=(r:Int):=by have:=Hr.out;omega
 by_cases hlt:k<n
 . have dk:decide ((k:Int)<(n:Int))=true:=Qg (by omega)
   have hms:=Vi 2 1 k;obtain⟨q,Hq⟩:=Qi (Vi 2 1 k)
   have hql:q<=15:=by have:=Hq.out;unfold Vi at this;rw[Hm.out] at this;split at this<;>omega
   have hq64:min q 64=q:=by omega
   obtain⟨p2,Hp2⟩:=Qi (2^q);have hp2:p2<=32768:=by rw[<-Hp2.out];exact Nat.pow_le_pow_right (by decide) hql
   have hpI:(2:Int)^q=(p2:Int):=by rw[<-Hp2.out];simp
   have hw1:IntKind.i64.wrap (p2:Int)=(p2:Int):=IntWalk.i64_in _ (by omega);have hw2:IntKind.i64.wrap ((b:Int)+(p2:Int))=(b:Int)+(p2:Int):=IntWalk.i64_in _ (by omega);have hstep:=KZ 2 1 k;rw[Hb.out,Hq.out,Hp2.out] at hstep
   have Hs1:Hid ((Ve 2 1 (k+1)).1=b+p2):=by show _=_;rw[hstep]
   have Hs2:Hid ((Ve 2 1 (k+1)).2=q):=by show _=_;rw[hstep]
   clear hstep hms;by_cases h4:4<=k
   . have d4:decide ((4:Int)<=(k:Int))=true:=Qg (by omega)
     have d4b:decide (4<=k)=true:=Qg (by omega);by_cases hr0:r=0
     . subst hr0
       have eq:m+1=q:=(by rw[<-Hq.out,<-Hm.out];unfold Vi;rw[if_pos ⟨by omega,Hr.out⟩]);subst eq;go_wp2_with fail;go_roundw
       case rel=>exact⟨k+1,b+p2,m+1,by omega,by go_num,by go_num,by go_num,Hs1,Hs2,(by first|rfl|trivial)⟩
       simp[intOf];omega
     have d0r:((r:Int)==0)=false:=(by simp;omega);have eq:m=q:=(by rw[<-Hq.out,<-Hm.out];unfold Vi;rw[if_neg (fun h=>hr0 (by have:=Hr.out;omega))]);subst eq;go_wp2_with fail;go_roundw
     case rel=>exact⟨k+1,b+p2,m,by omega,by go_num,by go_num,rfl,Hs1,Hs2,(by first|rfl|trivial)⟩
     simp[intOf];omega
   have d4:decide ((4:Int)<=(k:Int))=false:=Qh (by omega);have d4b:decide (4<=k)=false:=Qh (by omega);have eq:m=q:=by rw[<-Hq.out,<-Hm.out];unfold Vi;rw[if_neg (by omega)]
   subst eq;go_wp2_with fail;go_roundw
   case rel=>exact⟨k+1,b+p2,m,by omega,by go_num,by go_num,rfl,Hs1,Hs2,(by first|rfl|trivial)⟩
   simp[intOf];omega
 obtain rfl:k=n:=by omega
 have dk:decide ((k:Int)<(k:Int))=false:=Qh (by omega);have e1:b=R1:=by rw[<-Hb.out,<-HR1.out]
 subst e1;by_cases h4:4<=k
 . have d4:decide ((4:Int)<=(k:Int))=true:=Qg (by omega)
   have d4b:decide (4<=k)=true:=Qg (by omega);by_cases hr0:r=0
   . subst hr0
     have eq:m+1=R2:=(by rw[<-HR2.out,<-Hm.out];unfold Vi;rw[if_pos ⟨by omega,Hr.out⟩]);subst eq;go_wp2_with fail;go_ret2;exact⟨rfl,0,rfl⟩
   have d0r:((r:Int)==0)=false:=by simp;omega
   have eq:m=R2:=by rw[<-HR2.out,<-Hm.out];unfold Vi;rw[if_neg (fun h=>hr0 (by have:=Hr.out;omega))]
   subst eq;go_wp2_with fail;go_ret2;exact⟨rfl,0,rfl⟩
 have d4:decide ((4:Int)<=(k:Int))=false:=Qh (by omega);have d4b:decide (4<=k)=false:=Qh (by omega);have eq:m=R2:=by rw[<-HR2.out,<-Hm.out];unfold Vi;rw[if_neg (by omega)]
 subst eq;go_wp2_with fail;go_ret2;exact⟨rfl,0,rfl⟩
set_option maxHeartbeats 4000000 in
theorem YcA (i:Int) (w:World):Calls Tryz.prog 101 #[.int .i64 i,.bool false] w fun e w'=>e=.returned (.tuple #[.int .i64 ((Yl false i).1:Int),.int .i64 ((Yl false i).2:Int)])/\∃n,w'=w.drewN n:=by
 by_cases h0:i<0
 . have d0:decide (i<0)=true:=by rw[decide_eq_true_eq];exact h0
   have e:Yl false i=(0,0):=by unfold Yl;rw[if_neg (by decide),if_pos (.inl h0)]
   rw[e];clear h0;go_enter Tryz.func101,Tryz.ntmps101;go_wp2_with fail;go_ret2;exact⟨rfl,0,rfl⟩
 have d0:decide (i<0)=false:=by rw[decide_eq_false_iff_not];exact h0
 by_cases h1:28<i
 . have d1:decide (28<i)=true:=by rw[decide_eq_true_eq];exact h1
   have e:Yl false i=(0,0):=by unfold Yl;rw[if_neg (by decide),if_pos (.inr h1)]
   rw[e];clear h0 h1;go_enter Tryz.func101,Tryz.ntmps101;go_wp2_with fail;go_ret2;exact⟨rfl,0,rfl⟩
 have d1:decide (28<i)=false:=by rw[decide_eq_false_iff_not];exact h1
 obtain⟨n,rfl⟩:∃n:Nat,i=(n:Int):=⟨i.toNat,by omega⟩;have hn:n<=28:=by omega
 by_cases h28:n=28
 . have e:Yl false (n:Int)=(258,0):=by subst h28;rfl
   have d28:((n:Int)==28)=true:=by simp;omega
   rw[e];subst h28;clear h0 h1 e;go_enter Tryz.func101,Tryz.ntmps101;go_wp2_with fail;go_ret2;exact⟨rfl,0,rfl⟩
 skip
 have e:Yl false (n:Int)=((Ve 4 3 n).1,Vi 4 3 n):=by unfold Yl;rw[if_neg (by decide),if_neg (by omega),if_neg (by omega)];rfl
 have d28:((n:Int)==28)=false:=by simp;omega
 have d28b:(n==28)=false:=by simp;omega
 have d1b:decide (28<n)=false:=Qh (by omega);rw[e];clear h0 h1 e;obtain⟨R1,HR1⟩:=Qi ((Ve 4 3 n).1);obtain⟨R2,HR2⟩:=Qi (Vi 4 3 n);rw[HR1.out,HR2.out];go_enter Tryz.func101,Tryz.ntmps101;go_wp2_with fail
 go_loopw [9,10,29] (fun b_ m_ k_ wr=>∃k b m:Nat,k<=n/\k_=.int .i64 (k:Int)/\b_=.int .i64 (b:Int)/\m_=.int .i64 (m:Int)/\Hid ((Ve 4 3 k).1=b)/\Hid ((Ve 4 3 k).2=m)/\wr=w) (fun _ _ k _=>n-(intOf k).toNat)
 case atStart=>exact⟨0,3,0,by omega,rfl,rfl,rfl,rfl,rfl,rfl⟩
 obtain⟨k,b,m,hk,rfl,rfl,rfl,Hb,Hm,rfl⟩:=hrel;have hle:=Yez k (by omega);have hbl:b<=100000:=by rw[<-Hb.out];exact hle.1
 have hml:m<=14:=by rw[<-Hm.out];exact hle.2.1
 clear hle;obtain⟨r,Hr⟩:=Qi (k%4)
 have hr:(k:Int).tmod 4=(r:Int):=by rw[Int.tmod_eq_emod_of_nonneg (by omega)];have:=Hr.out;omega
 have hr2:(k:Int)%4=(r:Int):=by have:=Hr.out;omega
 by_cases hlt:k<n
 . have dk:decide ((k:Int)<(n:Int))=true:=Qg (by omega)
   have hms:=Vi 4 3 k;obtain⟨q,Hq⟩:=Qi (Vi 4 3 k)
   have hql:q<=15:=by have:=Hq.out;unfold Vi at this;rw[Hm.out] at this;split at this<;>omega
   have hq64:min q 64=q:=by omega
   obtain⟨p2,Hp2⟩:=Qi (2^q);have hp2:p2<=32768:=by rw[<-Hp2.out];exact Nat.pow_le_pow_right (by decide) hql
   have hpI:(2:Int)^q=(p2:Int):=by rw[<-Hp2.out];simp
   have hw1:IntKind.i64.wrap (p2:Int)=(p2:Int):=IntWalk.i64_in _ (by omega);have hw2:IntKind.i64.wrap ((b:Int)+(p2:Int))=(b:Int)+(p2:Int):=IntWalk.i64_in _ (by omega);have hstep:=KZ 4 3 k;rw[Hb.out,Hq.out,Hp2.out] at hstep
   have Hs1:Hid ((Ve 4 3 (k+1)).1=b+p2):=by show _=_;rw[hstep]
   have Hs2:Hid ((Ve 4 3 (k+1)).2=q):=by show _=_;rw[hstep]
   clear hstep hms;by_cases h4:8<=k
   . have d4:decide ((8:Int)<=(k:Int))=true:=Qg (by omega)
     have d4b:decide (8<=k)=true:=Qg (by omega);by_cases hr0:r=0
     . subst hr0
       have eq:m+1=q:=(by rw[<-Hq.out,<-Hm.out];unfold Vi;rw[if_pos ⟨by omega,Hr.out⟩]);subst eq;go_wp2_with fail;go_roundw
       case rel=>exact⟨k+1,b+p2,m+1,by omega,by go_num,by go_num,by go_num,Hs1,Hs2,(by first|rfl|trivial)⟩
       simp[intOf];omega
     have d0r:((r:Int)==0)=false:=(by simp;omega);have eq:m=q:=(by rw[<-Hq.out,<-Hm.out];unfold Vi;rw[if_neg (fun h=>hr0 (by have:=Hr.out;omega))]);subst eq;go_wp2_with fail;go_roundw
     case rel=>exact⟨k+1,b+p2,m,by omega,by go_num,by go_num,rfl,Hs1,Hs2,(by first|rfl|trivial)⟩
     simp[intOf];omega
   have d4:decide ((8:Int)<=(k:Int))=false:=Qh (by omega);have d4b:decide (8<=k)=false:=Qh (by omega);have eq:m=q:=by rw[<-Hq.out,<-Hm.out];unfold Vi;rw[if_neg (by omega)]
   subst eq;go_wp2_with fail;go_roundw
   case rel=>exact⟨k+1,b+p2,m,by omega,by go_num,by go_num,rfl,Hs1,Hs2,(by first|rfl|trivial)⟩
   simp[intOf];omega
 obtain rfl:k=n:=by omega
 have dk:decide ((k:Int)<(k:Int))=false:=Qh (by omega);have e1:b=R1:=by rw[<-Hb.out,<-HR1.out]
 subst e1;by_cases h4:8<=k
 . have d4:decide ((8:Int)<=(k:Int))=true:=Qg (by omega)
   have d4b:decide (8<=k)=true:=Qg (by omega);by_cases hr0:r=0
   . subst hr0
     have eq:m+1=R2:=(by rw[<-HR2.out,<-Hm.out];unfold Vi;rw[if_pos ⟨by omega,Hr.out⟩]);subst eq;go_wp2_with fail;go_ret2;exact⟨rfl,0,rfl⟩
   have d0r:((r:Int)==0)=false:=by simp;omega
   have eq:m=R2:=by rw[<-HR2.out,<-Hm.out];unfold Vi;rw[if_neg (fun h=>hr0 (by have:=Hr.out;omega))]
   subst eq;go_wp2_with fail;go_ret2;exact⟨rfl,0,rfl⟩
 have d4:decide ((8:Int)<=(k:Int))=false:=Qh (by omega);have d4b:decide (8<=k)=false:=Qh (by omega);have eq:m=R2:=by rw[<-HR2.out,<-Hm.out];unfold Vi;rw[if_neg (by omega)]
 subst eq;go_wp2_with fail;go_ret2;exact⟨rfl,0,rfl⟩
theorem Kr (k:Nat):Builtin.zeroCells #[Value.int .i64 0] k=(List.replicate k (Value.int .i64 0)).toArray:=by
 apply Array.ext
 . simp[Builtin.zeroCells]
 intro i h1 h2;simp[Builtin.zeroCells,Nat.mod_one]
theorem JL (w:World) (base:Nat) (v:Value) (n:Nat) (xs:List Value) (hown:w.ownsRow base 3 1 v n xs) (k:Nat) (h1:1<=k) (h2:n+k<=1000000) (hbase:base<=w.heap.size) (ty:TypeId) :
 ∃v' w',(Builtin.append_ #[113,3] ty #[v,.int .i64 (k:Int)]).run Tryz.prog w=.ok v' w'/\w'.ownsRow base 3 1 v' (n+k) (xs++List.replicate k (.int .i64 0))/\w.grownBy w' v.ownBlock:=by
 obtain⟨i0,hi,hz0,hz1,hz2⟩:=info_parts Y9;have hi':Tryz.prog.info? 3=some i0:=hi;have ht:Tryz.prog.underlying 113=some (.slice 3):=Tryz.underlying113;have htn:Tryz.prog.underlying 3=some (.int .i64):=Tryz.underlying3;have hlen:(xs++List.replicate k (Value.int .i64 0)).length=(n+k)*1:=by rw[List.length_append,hown.1,List.length_replicate];omega
 have grown:∀(old:Nat),old<n+k->∀(row:Option Nat),
  (w.drew.alloc (.cells (xs.toArray++(List.replicate k (Value.int .i64 0)).toArray++Builtin.zeroCells #[Value.int .i64 0] (grownCap w (n+k) old 3-(n+k))) 3)).ownsRow base 3 1
   (.slice (some ⟨w.heap.size,0,none⟩) (n+k) (grownCap w (n+k) old 3)) (n+k) (xs++List.replicate k (.int .i64 0))/\
  w.grownBy (w.drew.alloc (.cells (xs.toArray++(List.replicate k (Value.int .i64 0)).toArray++Builtin.zeroCells #[Value.int .i64 0] (grownCap w (n+k) old 3-(n+k))) 3)) row:=by
  intro old ho row;have hge:=grownCap_ge w (n+k) old 3;have hcm:grownCap w (n+k) old 3<=maxLen:=grownCap_le_maxLen w (n+k) old 3 (by unfold maxLen;omega);refine⟨⟨hlen,.inr ⟨w.heap.size,_,_,rfl,hbase,heap_alloc_new w.drew _,hge,hcm,?_,?_⟩⟩,⟨rfl,rfl,rfl,by simp,fun g hg _=>heap_alloc_old w.drew _ hg⟩⟩
  . have hx:=hown.1
    rw[Array.size_append,Array.size_append,size_zeroCells,List.size_toArray,List.size_toArray,List.length_replicate];show xs.length+k+(grownCap w (n+k) old 3-(n+k))*1=_;omega
  simp only[Array.toList_append,List.append_assoc];rw[<-List.append_assoc,<-hlen];exact List.take_left
 rcases hown.2 with⟨rfl,rfl⟩|⟨g,cap,cur,rfl,hbg,hg,hnc,hcm,hcs,htake⟩
 . have hx:xs=[]:=List.eq_nil_of_length_eq_zero (by simpa using hown.1)
   subst hx;have hr:=Lib.run_append_nil_zeros (P:=Tryz.prog) w 113 3 ty 3 i0 (.int .i64 0) .i64 .i64 ht htn hi' hz0 k (by omega) (by omega) (by omega) (by rw[hz2];omega);have hgr:=grown 0 (by omega) (Value.ownBlock (.slice none 0 0));have ec:(Value.int IntKind.i64 0).cells=#[Value.int .i64 0]:=rfl;rw[ec,Kr k] at hr;simp only[Nat.zero_add,List.nil_append,Array.empty_append] at hgr ⊢;exact⟨_,_,hr,hgr.1,hgr.2⟩
 obtain⟨G,hG⟩:∃G,G=g:=⟨g,rfl⟩;subst hG;have hwk:IntKind.i64.wrap (k:Int)=(k:Int):=IntWalk.i64_in _ (by omega);have hneg:¬((k:Int)<0):=by omega
 have h48i:¬(281474976710656<(k:Int)*8):=by omega
 have hk0:¬(k*1=0):=by omega
 have hk:¬k=0:=by omega
 have ec:(Value.int IntKind.i64 0).cells=#[Value.int .i64 0]:=rfl;by_cases hroom:n+k<=cap
 . have hst:=run_storeCells_at Tryz.prog G (n*1) 3 (List.replicate k (Value.int .i64 0)) 0 cur w hg (by rw[List.length_replicate,hcs];omega) (by intro u hu;rw[List.eq_of_mem_replicate hu];rfl)
   simp only[Nat.add_zero,Nat.mul_one] at hst
   have hr:(Builtin.append_ #[113,3] ty #[.slice (some ⟨G,0,none⟩) n cap,.int .i64 (k:Int)]).run Tryz.prog w=.ok (.slice (some ⟨G,0,none⟩) (n+k) cap) (w.setRow G (cur.toList.take n++List.replicate k (Value.int .i64 0)++cur.toList.drop (n+(List.replicate k (Value.int .i64 0)).length)).toArray):=by
    simp[Builtin.append_,run_underlying ht,run_underlying htn,sizeOf,typeInfo,zeroValue,hi',hz0,hz1,hz2,asInt,asIntOf,hwk,hneg,h48i,hk,hroom,ec,Kr,Addr.add_lit];rw[hst];simp[Result.andThen]
   refine⟨_,_,hr,⟨hlen,.inr ⟨G,cap,_,rfl,hbg,setRow_heap w G cur _ 3 _ hg,hroom,hcm,?_,?_⟩⟩,⟨rfl,rfl,rfl,by simp,fun j _ hj=>setRow_other w G j _ (fun e=>hj (by simp[Value.ownBlock,e]))⟩⟩
   . simp only[List.size_toArray,List.length_append,List.length_take,List.length_drop,Array.length_toList,List.length_replicate]
     omega
   have hx:=hown.1;rw[Nat.mul_one] at htake;rw[htake,<-hlen];exact List.take_left
 have holds:∀j u,xs[j]?=some u->w.cell? ((⟨G,0,none⟩:Addr).add j)=some u:=hown.cells (g:=G) rfl;have hgr:=grown cap (by omega) (Value.ownBlock (.slice (some ⟨G,0,none⟩) n cap));have hfo:=run_firstCells_some (P:=Tryz.prog) w.drew 1 n ⟨G,0,none⟩ n cap xs hown.1 (by simpa using holds);have hfit:=growslice_fits (need:=n+k) (old:=cap) (bytes:=8) (by omega) (by omega);have h48':¬(281474976710656<Builtin.nextslicecap (n+k) cap*8):=by omega
 have h63':¬(9223372036854775807<((n:Int)+(k:Int))):=by omega
 have hr:(Builtin.append_ #[113,3] ty #[.slice (some ⟨G,0,none⟩) n cap,.int .i64 (k:Int)]).run Tryz.prog w=.ok (.slice (some ⟨w.heap.size,0,none⟩) (n+k) (grownCap w (n+k) cap 3)) (w.drew.alloc (.cells (xs.toArray++(List.replicate k (Value.int .i64 0)).toArray++Builtin.zeroCells #[Value.int .i64 0] (grownCap w (n+k) cap 3-(n+k))) 3)):=by
  simp[Builtin.append_,run_underlying ht,run_underlying htn,sizeOf,typeInfo,zeroValue,hi',hz0,hz1,hz2,asInt,asIntOf,hwk,hneg,h48i,hk,hroom,ec,Kr,Builtin.lenOf,h63',h48',Question.forced,hfo,newRow,grownCap]
 exact⟨_,_,hr,hgr.1,hgr.2⟩
theorem Vl {ops:Array Oper} {rest:List Oper} {o:Oper} {a:Act} {Q:Exit->Act->World->Prop} {w:World} (hgd:o.guard=none) (s x:Operand)
 (ho:o.op=.call { callee:=.builtin .append,args:=#[s,x],argTypes:=#[113,3] })
 (base:Nat) (v:Value) (n:Nat) (xs:List Value) (hown:w.ownsRow base 3 1 v n xs) (hs:a.eval s=v) (k:Nat) (hx:a.eval x=.int .i64 (k:Int)) (h1:1<=k) (h2:n+k<=1000000) (hbase:base<=w.heap.size)
 (h:∀v' w',w'.ownsRow base 3 1 v' (n+k) (xs++List.replicate k (.int .i64 0))->w.grownBy w' v.ownBlock->wpList Tryz.prog ops Q rest (a.put o.dst v') w') :
 wpList Tryz.prog ops Q (o::rest) a w:=by
 obtain⟨v',w',hr,h3,h4⟩:=JL w base v n xs hown k h1 h2 hbase o.type;exact Lib.wpList_append_run w hgd s x 113 3 ho v _ hs hx v' w' hr (h v' w' h3 h4)
theorem YkH (n:Nat) (h1:1<=n) (h2:n<=1000) (w:World) :
 Calls Tryz.prog 108 #[.slice none 0 0,.int .i64 (n:Int)] w fun e w'=>∃g cap,e=.returned (.slice (some ⟨g,0,none⟩) 0 cap)/\w'.ownsRow w.heap.size 3 1 (.slice (some ⟨g,0,none⟩) 0 cap) 0 []/\Below w.heap.size w w':=by
 have d0:decide ((n:Int)<0)=false:=Qh (by omega);have d1:decide ((0:Int)<(n:Int))=true:=Qg (by omega);have d1b:decide (0<n)=true:=Qg (by omega);have hw:IntKind.i64.wrap (n:Int)=(n:Int):=IntWalk.i64_in _ (by omega);have hn0:w.ownsRow w.heap.size 3 1 (.slice none 0 0) 0 []:=World.ownsRow_nil w _ _ _;go_enter Tryz.func108,Tryz.ntmps108
 go_wp2_with (at_builtin;go_must (refine Vl rfl (.tmp 20) (.tmp 21) rfl w.heap.size (.slice none 0 0) 0 [] hn0 rfl n rfl h1 ?_ (Qa _) ?_;omega;intro v w1 ho hg;rw[Nat.zero_add] at ho;obtain⟨g,cap,rfl,hgb,_⟩:=World.ownsRow.form ho (by omega);have HO:=Qf ho;have Hg:=Qf hg;clear ho hg hn0))
 go_ret;refine⟨g,cap,rfl,?_,⟨Hg.out.os,Hg.out.tape,Hg.out.output,Hg.out.size,fun j hj=>Hg.out.block j hj (fun e=>by cases e)⟩⟩;rcases HO.out.2 with⟨h,_⟩|⟨g',cap',cur,h,a1,a2,a3,a4,a5,_⟩
 . cases h
 injection h with h3 h4 h5;injection h3 with h3;injection h3 with h3;subst h3 h5;exact⟨rfl,.inr ⟨g,cap,cur,rfl,a1,a2,Nat.zero_le _,a4,a5,rfl⟩⟩
def totN (ns:Nat->Nat):Nat->Nat
 |0=>0
 |j+1=>totN ns j+ns j
theorem YlF (ns:Nat->Nat) (K:Nat) (h:∀j,j<K->ns j<=1000):∀j,j<=K->totN ns j<=1000*j:=by
 intro j
 induction j with
 |zero=>intro _;exact Nat.zero_le _
 |succ j ih=>
  intro hj;have h1:=ih (by omega);have h2:=h j (by omega);show totN ns j+ns j<=_;omega
theorem Yav (n k:Nat) (m m1:Nat->Int) (h:∀i,i<k->m (n+i)=m1 i):Yt n m++Yt k m1=Yt (n+k) m:=by
 apply List.ext_getElem?;intro j;by_cases h1:j<n
 . rw[List.getElem?_append_left (by rw[YV];exact h1),Xp _ _ _ h1,Xp _ _ _ (by omega)]
 rw[List.getElem?_append_right (by rw[YV];omega),YV];by_cases h2:j<n+k
 . rw[Xp _ _ _ (by omega),Xp _ _ _ h2,<-h (j-n) (by omega),show n+(j-n)=j by omega]
 rw[List.getElem?_eq_none (by rw[YV];omega),List.getElem?_eq_none (by rw[YV];omega)]
set_option maxHeartbeats 4000000 in
theorem YgP (K:Nat) (h1:1<=K) (h2:K<=8) (ns gs:Nat->Nat) (vs:Nat->Int) (m:Nat->Int) (hns:∀j,j<K->1<=ns j/\ns j<=1000) (hm:∀j,j<K->∀i,i<ns j->m (totN ns j+i)=vs j) (htot:totN ns K<=1000) (G off cap:Nat) (w:World)
 (hG:G<w.heap.size) (hcell:∀j,j<K->w.cell? ⟨G,off+j,none⟩=some (.slice (some ⟨gs j,0,none⟩) (ns j) (ns j))) (hrow:∀j,j<K->IRow w (some ⟨gs j,0,none⟩) (ns j) (fun _=>vs j)) :
 Calls Tryz.prog 86 #[.slice (some ⟨G,off,none⟩) K cap] w fun e w'=>∃g cap',e=.returned (.slice (some ⟨g,0,none⟩) (totN ns K) cap')/\w'.ownsRow w.heap.size 3 1 (.slice (some ⟨g,0,none⟩) (totN ns K) cap') (totN ns K) (Yt (totN ns K) m)/\Below w.heap.size w w':=by
 have hle:=YlF ns K (fun j hj=>(hns j hj).2)
 have hpos:1<=totN ns K:=by
  have h3:=(hns 0 (by omega)).1
  have:∀j,1<=j->j<=K->1<=totN ns j:=by
   intro j
   induction j with
   |zero=>intro h _;omega
   |succ j ih=>
    intro _ hj;by_cases h0:j=0
    . subst h0;show 1<=0+ns 0;omega
    have:=ih (by omega) (by omega);show 1<=totN ns j+ns j;omega
  exact this K h1 (Qa _)
 have CG:=Qf (fun W=>YkH (totN ns K) hpos htot W);have Hle:=Qf hle;have Hns:=Qf hns;have Hm:=Qf hm;have Hcell:=Qf hcell;have Hrow:=Qf hrow;obtain⟨T,HT⟩:=Qi (totN ns K);rw[HT.out] at CG htot hpos ⊢;obtain⟨B,HBs⟩:=Qi (w.heap.size);rw[HBs.out];clear hle hns hm hcell hrow;go_enter Tryz.func86,Tryz.ntmps86;go_wp2_with fail
 go_loopw [3,11] (fun z_ j_ wr=>∃j z:Nat,j<=K/\z_=.int .i64 (z:Int)/\j_=.int .i64 (j:Int)/\Hid (totN ns j=z)/\wr=w) (fun _ j _=>K-(intOf j).toNat)
 case atStart=>exact⟨0,0,by omega,rfl,rfl,rfl,rfl⟩
 obtain⟨j,z,hj,rfl,rfl,Hz,hwr⟩:=hrel;have hwr2:=hwr.symm;subst hwr2;clear hwr
 have hzl:z<=8000:=by have:=Hle.out j hj;rw[Hz.out] at this;omega
 by_cases hlt:j<K
 . have dk:decide ((j:Int)<(K:Int))=true:=Qg (by omega)
   have hc:=Hcell.out j hlt;have hn:=Hns.out j hlt;obtain⟨N,HN⟩:=Qi (ns j);rw[HN.out] at hn hc;have hw:IntKind.i64.wrap ((z:Int)+(N:Int))=(z:Int)+(N:Int):=IntWalk.i64_in _ (by omega);have dn:decide ((z:Int)+(N:Int)<0)=false:=Qh (by omega)
   have Hz2:Hid (totN ns (j+1)=z+N):=by show totN ns j+ns j=_;rw[Hz.out,HN.out]
   go_wp2_with fail;go_roundw
   case rel=>exact⟨j+1,z+N,by omega,by go_num,by go_num,Hz2,(by first|rfl|trivial)⟩
   simp[intOf];omega
 obtain rfl:j=K:=by omega
 have dk:decide ((j:Int)<(j:Int))=false:=Qh (by omega);obtain rfl:z=T:=by rw[<-Hz.out];exact HT.out
 go_wp2_with fail;refine(CG.out _).mono ?_;rintro e w1 ⟨g,cp,rfl,ho,hb⟩;have ho0:w.ownsRow w.heap.size 3 1 (.slice none 0 0) 0 []:=World.ownsRow_nil _ _ _ _;have HO:=Qf ho;have HB:=Qf hb;rw[HBs.out] at HO HB;have HGB:G<B:=by rw[<-HBs.out];exact hG
 have HO0:Hid (w1.ownsRow B 3 1 (.slice (some ⟨g,0,none⟩) (totN ns 0) cp) (totN ns 0) (Yt (totN ns 0) m)):=HO.out;clear ho hb ho0 HO;go_wp2_with fail
 go_loopw [6,27] (fun v_ j_ ws=>∃(k g cp:Nat),k<=j/\v_=.slice (some ⟨g,0,none⟩) (totN ns k) cp/\j_=.int .i64 (k:Int)/\Hid (ws.ownsRow B 3 1 (.slice (some ⟨g,0,none⟩) (totN ns k) cp) (totN ns k) (Yt (totN ns k) m))/\Hid (Below B w ws)) (fun _ k _=>j-(intOf k).toNat)
 case atStart=>exact⟨0,g,cp,by omega,rfl,rfl,HO0,HB⟩
 clear HO0 HB;obtain⟨k,g2,cp2,hk,rfl,rfl,HO,HB⟩:=hrel;by_cases hlt2:k<j
 . have dk2:decide ((k:Int)<(j:Int))=true:=Qg (by omega)
   have hc:=(HB.out.cell (p:=⟨G,off+k,none⟩) HGB).trans (Hcell.out k hlt2);have hrw:=Hrow.out k hlt2;have hn:=Hns.out k hlt2
   have htk:totN ns (k+1)<=8000:=by have:=Hle.out (k+1) (by omega);omega
   have hjoin:Yt (totN ns k) m++Yt (ns k) (fun _=>vs k)=Yt (totN ns (k+1)) m:=Yav (totN ns k) (ns k) m (fun _=>vs k) (Hm.out k hlt2);obtain⟨N,HN⟩:=Qi (ns k);obtain⟨V,HV⟩:=Qi (vs k);obtain⟨Z,HZ⟩:=Qi (totN ns k);obtain⟨Z2,HZ2⟩:=Qi (totN ns (k+1));have hz2:Z+N=Z2:=by rw[<-HZ2.out,<-HZ.out,<-HN.out];rfl
   have Hz2:=Qf hz2;obtain⟨q,Hq⟩:=Qi (gs k);rw[HN.out] at hn hc hrw hjoin;rw[Hq.out] at hc hrw;rw[HV.out] at hrw hjoin;rw[HZ.out] at HO hjoin ⊢;rw[HZ2.out] at htk hjoin;have hr2:IRow wr (some ⟨q,0,none⟩) N (fun _=>V):=hrw.below (HBs.out ▸ HB.out);have hos:=HO.out
   have hbsz:B<=wr.heap.size:=by have:=HB.out.size;have:=HBs.out;omega
   have Hjoin:=Qf hjoin;clear hrw hz2 hjoin
   go_wp2_with (at_builtin;go_must (refine XU rfl (.tmp 31) (.tmp 32) rfl B _ Z m hos rfl (some ⟨q,0,none⟩) N N (fun _=>V) rfl hr2 ?_ ?_ hbsz ?_;(intro e;cases e);(have:=Hz2.out;omega);intro v5 w5 ho5 hg5 hne5;rw[Hz2.out,Hjoin.out] at ho5;obtain⟨g5,cp5,rfl,_⟩:=World.ownsRow.form ho5 (by have:=Hz2.out;omega);have HO5:=Qf ho5;have HB5:Hid (Below B w w5):=Qf (HB.out.grown hg5 hbsz (fun g e=>(World.ownsRow.lt hos g e).1));clear ho5 hg5 hne5 hos hr2 hc))
   go_roundw
   case rel=>exact⟨k+1,g5,cp5,by omega,by rw[HZ2.out],by go_num,by rw[HZ2.out];exact HO5,HB5⟩
   simp[intOf];omega
 obtain rfl:k=j:=by omega
 have dk2:decide ((k:Int)<(k:Int))=false:=Qh (by omega);rw[HT.out] at HO ⊢;go_wp2_with fail;go_ret;exact⟨g2,cp2,rfl,HO.out,HB.out⟩
theorem mul_one (c:Nat) (hc:c<4294967296) (w:World):Calls Tryz.prog 109 #[.int .u64 1,.int .u64 (c:Int)] w fun e w'=>e=.returned (.tuple #[.int .u64 0,.int .u64 (c:Int)])/\w=w':=by
 have C:=Qf (fun W=>Yin c hc W);have h4:(c:Int)%18446744073709551616=(c:Int):=by omega
 go_enter Tryz.func109,Tryz.ntmps109;go_wp2_with fail;refine(C.out _).mono ?_;rintro e w1 ⟨rfl,rfl⟩;go_wp2_with fail;go_ret2;exact⟨rfl,rfl⟩
def rl (c:Nat) (v:Int) (n:Nat):List Value:=(List.range c).map fun j=>.int .i64 (if j<n then v else 0)
theorem XK (c:Nat) (v:Int) (n:Nat):(rl c v n).length=c:=by simp[rl]
theorem YcI (c:Nat) (v:Int) (n j:Nat) (h:j<c):(rl c v n)[j]?=some (.int .i64 (if j<n then v else 0)):=by simp[rl,h]
theorem YhP (c:Nat) (v:Int) (n q:Nat) (h:n+q<=c):splice (rl c v n) n (List.replicate q (.int .i64 v))=rl c v (n+q):=by
 apply List.ext_getElem?;intro j;unfold splice;by_cases h1:j<n
 . rw[List.getElem?_append_left (by rw[List.length_take,XK];omega),List.getElem?_take_of_lt h1,YcI _ _ _ _ (by omega),YcI _ _ _ _ (by omega),if_pos h1,if_pos (by omega)]
 rw[List.getElem?_append_right (by rw[List.length_take,XK];omega),List.length_take,XK,Nat.min_eq_left (by omega)];by_cases h2:j<n+q
 . rw[List.getElem?_append_left (by rw[List.length_replicate];omega),YcI _ _ _ _ (by omega),if_pos h2,List.getElem?_replicate,if_pos (by omega)]
 rw[List.getElem?_append_right (by rw[List.length_replicate];omega),List.length_replicate,List.getElem?_drop];rw[show n+q+(j-n-q)=j by omega];by_cases h3:j<c
 . rw[YcI _ _ _ _ h3,YcI _ _ _ _ h3,if_neg h1,if_neg h2]
 rw[List.getElem?_eq_none (by rw[XK];omega),List.getElem?_eq_none (by rw[XK];omega)]
theorem Yj0:(Tryz.prog.info? 3).map (·.size)=some 1:=by kernel_rfl
theorem Yi9 (c:Nat) (v:Int) (n q G:Nat) (h:n+q<=c) (dLen dCap sLen sCap:Nat) (hq:Nat.min sLen dLen=q) (b off:Nat) (w W:World) (hG:Blk W G 3 (rl c v n).toArray) (hb:Below w.heap.size w W) (hwG:w.heap.size<=G)
 (hs:∀j,j<q->W.cell? ⟨b,off+j,none⟩=some (.int .i64 v)) :
 ∃W2,(Builtin.copy_ #[113,113] 3 #[.slice (some ⟨G,n,none⟩) dLen dCap,.slice (some ⟨b,off,none⟩) sLen sCap]).run Tryz.prog W=.ok (.int .i64 (q:Int)) W2/\Blk W2 G 3 (rl c v (n+q)).toArray/\Below w.heap.size w W2:=by
 have hrun:=run_copy_row (P:=Tryz.prog) W 113 113 3 3 G n dLen dCap ⟨b,off,none⟩ sLen sCap (rl c v n).toArray 3 (List.replicate q (.int .i64 v)) Tryz.underlying113 Yj0 hG (by rw[List.length_replicate,hq])
  (by
   intro j u hj
   have hjq:j<q:=by
    have:=(List.getElem?_eq_some_iff.1 hj).1
    simpa using this
   have e:(⟨b,off,none⟩:Addr).add j=⟨b,off+j,none⟩:=by unfold Addr.add;split<;>simp_all
   rw[e,hs j hjq];rw[List.getElem?_replicate,if_pos hjq] at hj
   exact hj)
  (by simp[XK];omega) (by intro u hu;rw[List.eq_of_mem_replicate hu];rfl)
 have e:((rl c v n).toArray.toList.take n++List.replicate q (.int .i64 v)++(rl c v n).toArray.toList.drop (n+(List.replicate q (Value.int .i64 v)).length))=rl c v (n+q):=by
  rw[<-YhP c v n q h,List.append_assoc];rfl
 rw[e,List.length_replicate] at hrun;exact⟨_,hrun,setRow_heap W G _ _ 3 _ hG,below_setRow hb hwG _⟩
set_option maxHeartbeats 4000000 in
theorem Ya9 (v:Int) (c:Nat) (h1:1<=c) (h2:c<=1000) (b off cap:Nat) (w:World) (hc:w.cell? ⟨b,off,none⟩=some (.int .i64 v)) :
 Calls Tryz.prog 87 #[.slice (some ⟨b,off,none⟩) 1 cap,.int .i64 (c:Int)] w fun e w'=>e=.returned (.slice (some ⟨w.heap.size,0,none⟩) c c)/\Blk w' w.heap.size 3 (rl c v c).toArray/\Below w.heap.size w w':=by
 have CM:=Qf (fun W=>mul_one c (by omega) W);have d0:decide ((c:Int)<0)=false:=Qh (by omega);have d1:decide ((9223372036854775807:Int)<(c:Int))=false:=Qh (by omega);have d1b:decide (9223372036854775807<c)=false:=Qh (by omega);have h4:(c:Int)%18446744073709551616=(c:Int):=by omega
 have hw:IntKind.i64.wrap (c:Int)=(c:Int):=IntWalk.i64_in _ (by omega);have hmk:=XC (t:=113) (e:=3) Tryz.underlying113 Y9 rfl c (c:Int) rfl (by omega) (by omega) w;have e0:Yg c (fun _=>Value.int .i64 0)=(rl c v 0).toArray:=by unfold Yg rl;congr 1
 rw[e0] at hmk;have hB0:=Blk.new w 3 (rl c v 0).toArray;have hb0:=(Below.refl w.heap.size w).alloc (Qa _) (.cells (rl c v 0).toArray 3)
 have hblt:b<w.heap.size:=by
  rcases Nat.lt_or_ge b w.heap.size with h|h
  . exact h
  unfold World.cell? at hc;simp[Array.getElem?_eq_none h] at hc
 have hc1:(w.alloc (.cells (rl c v 0).toArray 3)).cell? ⟨b,off,none⟩=some (.int .i64 v):=(Below.cell hb0 (p:=⟨b,off,none⟩) hblt).trans hc
 have hsr:∀j,j<1->(w.alloc (.cells (rl c v 0).toArray 3)).cell? ⟨b,off+j,none⟩=some (.int .i64 v):=by
  intro j hj;obtain rfl:j=0:=by omega
  exact hc1
 obtain⟨W2,hcp,hB2,hb2⟩:=Yi9 c v 0 1 w.heap.size (by omega) c c 1 cap (by show min 1 c=1;omega) b off w _ hB0 hb0 (Qa _) hsr;obtain⟨G,HG⟩:=Qi (w.heap.size);rw[HG.out] at hB2 hmk hcp ⊢;rw[Nat.zero_add] at hB2;have HB2:=Qf hB2;have Hb2:=Qf hb2;clear hB0 hb0 hc1 e0 hc hblt hB2 hb2 hsr;go_enter Tryz.func87,Tryz.ntmps87;go_wp2_with fail;refine(CM.out _).mono ?_;rintro e w1 ⟨rfl,rfl⟩;go_wp2_with fail;clear hcp hmk
 go_loopw [8] (fun n_ wr=>∃n:Nat,1<=n/\n<=c/\n_=.int .i64 (n:Int)/\Hid (Blk wr G 3 (rl c v n).toArray)/\Hid (Below w.heap.size w wr)) (fun n _=>c-(intOf n).toNat)
 case atStart=>exact⟨1,by omega,by omega,rfl,HB2,Hb2⟩
 clear HB2 Hb2;obtain⟨n,hn1,hnc,rfl,HB,Hb⟩:=hrel;by_cases hlt:n<c
 . have dk:decide ((n:Int)<(c:Int))=true:=Qg (by omega)
   obtain⟨q,Hq⟩:=Qi (Nat.min n (c-n))
   have hq1:1<=q/\n+q<=c:=by have h:min n (c-n)=q:=Hq.out;omega
   have hqI:IntKind.i64.wrap ((n:Int)+(q:Int))=(n:Int)+(q:Int):=IntWalk.i64_in _ (by omega)
   obtain⟨W3,hcp,hB3,hb3⟩:=Yi9 c v n q G hq1.2 (c-n) (c-n) n c Hq.out G 0 w wr.drew HB.out Hb.out.drew (by rw[HG.out];exact Qa _) (fun j hj=>by
    have h1:=Blk.cell HB.out (0+j)
    have h2:j<n:=by have h:min n (c-n)=q:=Hq.out;omega
    rw[Nat.zero_add,List.getElem?_toArray,YcI c v n j (by omega),if_pos h2] at h1;rw[Nat.zero_add]
    exact h1)
   have HB3:=Qf hB3;have Hb3:=Qf hb3;clear hB3 hb3;go_wp2_with fail
   go_region
   all_goals
    go_wp2_with fail;go_roundw
    case rel=>exact⟨n+q,by omega,by omega,by go_num,HB3,Hb3⟩
    simp[intOf];omega
 obtain rfl:n=c:=by omega
 have dk:decide ((n:Int)<(n:Int))=false:=Qh (by omega);go_wp2_with fail;go_ret;exact⟨rfl,HB.out,by rw[<-HG.out];exact Hb.out⟩
def fixL (i:Nat):Int:=if i<144 then 8 else if i<256 then 9 else if i<280 then 7 else 8
def fixN (j:Nat):Nat:=if j=0 then 144 else if j=1 then 112 else if j=2 then 24 else 8
def fixV (j:Nat):Int:=if j=0 then 8 else if j=1 then 9 else if j=2 then 7 else 8
theorem YiU:∀j,j<4->∀i,i<fixN j->fixL (totN fixN j+i)=fixV j:=by
 intro j hj i hi
 rcases show j=0\/j=1\/j=2\/j=3 by omega with rfl|rfl|rfl|rfl
 . have hi':i<144:=hi
   show fixL (0+i)=8;unfold fixL;rw[if_pos (by omega)]
 . have hi':i<112:=hi
   show fixL (144+i)=9;unfold fixL;rw[if_neg (by omega),if_pos (by omega)]
 . have hi':i<24:=hi
   show fixL (256+i)=7;unfold fixL;rw[if_neg (by omega),if_neg (by omega),if_pos (by omega)]
 have hi':i<8:=hi;show fixL (280+i)=8;unfold fixL;rw[if_neg (by omega),if_neg (by omega),if_neg (by omega)]
theorem Ym3 {w:World} {g c:Nat} {v:Int} (h:Blk w g 3 (rl c v c).toArray):IRow w (some ⟨g,0,none⟩) c (fun _=>v):=by
 refine .inr ⟨g,0,rfl,h.lt,fun i hi=>?_⟩;rw[h.cell (0+i),Nat.zero_add,List.getElem?_toArray,YcI c v c i hi,if_pos hi]
theorem Ke (v:Int) (c:Nat) (h1:1<=c) (h2:c<=1000) (b:Nat) (w:World) (hB:Blk w b 3 #[.int .i64 v]) :
 Calls Tryz.prog 87 #[.slice (some ⟨b,0,none⟩) 1 1,.int .i64 (c:Int)] w fun e w'=>e=.returned (.slice (some ⟨w.heap.size,0,none⟩) c c)/\IRow w' (some ⟨w.heap.size,0,none⟩) c (fun _=>v)/\Below w.heap.size w w':=
 (Ya9 v c h1 h2 b 0 1 w (by rw[hB.cell 0];rfl)).mono fun _ _ ⟨h1,h2,h3⟩=>⟨h1,Ym3 h2,h3⟩
def fixG (a b c d:Nat) (j:Nat):Nat:=if j=0 then a else if j=1 then b else if j=2 then c else d
set_option maxHeartbeats 4000000 in
theorem Xe (w:World):Calls Tryz.prog 62 #[] w fun e w'=>∃g1 c1 g2,e=.returned (.tuple #[.slice (some ⟨g1,0,none⟩) 288 c1,.slice (some ⟨g2,0,none⟩) 32 32])/\IRow w' (some ⟨g1,0,none⟩) 288 fixL/\IRow w' (some ⟨g2,0,none⟩) 32 (fun _=>5)/\w.heap.size<=g1/\w.heap.size<=g2/\Below w.heap.size w w':=by
 go_enter Tryz.func62,Tryz.ntmps62;go_wp2_with fail;refine(Ke 8 144 (by decide) (by decide) _ _ (Blk.new _ _ _)).mono ?_;rintro e w1 ⟨rfl,hR1,hb1⟩;go_wp2_with fail;refine(Ke 9 112 (by decide) (by decide) _ _ (Blk.new _ _ _)).mono ?_;rintro e w2 ⟨rfl,hR2,hb2⟩;go_wp2_with fail;refine(Ke 7 24 (by decide) (by decide) _ _ (Blk.new _ _ _)).mono ?_;rintro e w3 ⟨rfl,hR3,hb3⟩;go_wp2_with fail;refine(Ke 8 8 (by decide) (by decide) _ _ (Blk.new _ _ _)).mono ?_;rintro e w4 ⟨rfl,hR4,hb4⟩;go_wp2_with fail;have b1:=KV hb1;have b2:=KV hb2;have b3:=KV hb3;have b4:=KV hb4;rw[Vm] at hR1 hR2 hR3 hR4;have b5:Below w4.heap.size w4 (w4.alloc (.cells #[.slice (some ⟨w.heap.size+1,0,none⟩) 144 144,.slice (some ⟨w1.heap.size+1,0,none⟩) 112 112,.slice (some ⟨w2.heap.size+1,0,none⟩) 24 24,.slice (some ⟨w3.heap.size+1,0,none⟩) 8 8] 113)):=(Below.refl w4.heap.size w4).alloc (Qa _) _;have hB5:=Blk.new w4 113 #[.slice (some ⟨w.heap.size+1,0,none⟩) 144 144,.slice (some ⟨w1.heap.size+1,0,none⟩) 112 112,.slice (some ⟨w2.heap.size+1,0,none⟩) 24 24,.slice (some ⟨w3.heap.size+1,0,none⟩) 8 8];obtain⟨w5,HW5⟩:=Qi (w4.alloc (.cells #[.slice (some ⟨w.heap.size+1,0,none⟩) 144 144,.slice (some ⟨w1.heap.size+1,0,none⟩) 112 112,.slice (some ⟨w2.heap.size+1,0,none⟩) 24 24,.slice (some ⟨w3.heap.size+1,0,none⟩) 8 8] 113));rw[HW5.out] at b5 hB5 ⊢;have r1:IRow w5 (some ⟨w.heap.size+1,0,none⟩) 144 (fun _=>8):=(((hR1.below b2).below b3).below b4).below b5;have r2:IRow w5 (some ⟨w1.heap.size+1,0,none⟩) 112 (fun _=>9):=((hR2.below b3).below b4).below b5;have r3:IRow w5 (some ⟨w2.heap.size+1,0,none⟩) 24 (fun _=>7):=(hR3.below b4).below b5;have r4:IRow w5 (some ⟨w3.heap.size+1,0,none⟩) 8 (fun _=>8):=hR4.below b5
 have CC:=YgP 4 (by decide) (by decide) fixN (fixG (w.heap.size+1) (w1.heap.size+1) (w2.heap.size+1) (w3.heap.size+1)) fixV fixL (by decide) YiU (by decide) w4.heap.size 0 4 w5 hB5.lt
  (by
   intro j hj;rw[hB5.cell (0+j)]
   rcases show j=0\/j=1\/j=2\/j=3 by omega with rfl|rfl|rfl|rfl<;>rfl)
  (by
   intro j hj
   rcases show j=0\/j=1\/j=2\/j=3 by omega with rfl|rfl|rfl|rfl
   . exact r1
   . exact r2
   . exact r3
   exact r4)
 have et:totN fixN 4=288:=rfl;rw[et] at CC;have B5:Below w.heap.size w w5:=Yk (Yk (Yk (Yk b1 b2) b3) b4) b5;have HB5:=Qf B5;have HCC:=Qf CC;clear r1 r2 r3 r4 hR1 hR2 hR3 hR4 hb1 hb2 hb3 hb4 b1 b2 b3 b4 b5 hB5 B5 CC et HW5;refine HCC.out.mono ?_;rintro e w6 ⟨g1,c1,rfl,ho6,hb6⟩;have hg1:=(World.ownsRow.lt ho6 g1 (by simp[Value.ownBlock])).1;have hg1b:w.heap.size<=g1:=Qe HB5.out.size hg1;have HI6:=Qf (IRow.ofOwn ho6);have HB6:=Qf (Yk HB5.out hb6);clear ho6 hb6 hg1 HCC HB5;go_wp2_with fail;refine(Ke 5 32 (by decide) (by decide) _ _ (Blk.new _ _ _)).mono ?_;rintro e w7 ⟨rfl,hR7,hb7⟩;have b7:=KV hb7;rw[Vm] at hR7;have HB7:=Qf (Yk HB6.out b7);have HI7:=Qf (HI6.out.below b7);have HR7:=Qf hR7;have hg2:w.heap.size<=w6.heap.size+1:=Nat.le_succ_of_le HB6.out.size;clear hb7 b7 hR7 HB6 HI6;go_wp2_with fail;go_ret2;exact⟨g1,c1,w6.heap.size+1,rfl,HI7.out,HR7.out,hg1b,hg2,HB7.out⟩
theorem YcU (w:World):Calls Tryz.prog 93 #[] w fun e w'=>e=.returned (.slice (some ⟨w.heap.size,0,none⟩) 19 19)/\Blk w' w.heap.size 3 #[.int .i64 16,.int .i64 17,.int .i64 18,.int .i64 0,.int .i64 8,.int .i64 7,.int .i64 9,.int .i64 6,.int .i64 10,.int .i64 5,.int .i64 11,.int .i64 4,.int .i64 12,.int .i64 3,.int .i64 13,.int .i64 2,.int .i64 14,.int .i64 1,.int .i64 15]/\Below w.heap.size w w':=by
 have hB:=Blk.new w 3 #[.int .i64 16,.int .i64 17,.int .i64 18,.int .i64 0,.int .i64 8,.int .i64 7,.int .i64 9,.int .i64 6,.int .i64 10,.int .i64 5,.int .i64 11,.int .i64 4,.int .i64 12,.int .i64 3,.int .i64 13,.int .i64 2,.int .i64 14,.int .i64 1,.int .i64 15];have hb:=(Below.refl w.heap.size w).alloc (Qa _) (.cells #[.int .i64 16,.int .i64 17,.int .i64 18,.int .i64 0,.int .i64 8,.int .i64 7,.int .i64 9,.int .i64 6,.int .i64 10,.int .i64 5,.int .i64 11,.int .i64 4,.int .i64 12,.int .i64 3,.int .i64 13,.int .i64 2,.int .i64 14,.int .i64 1,.int .i64 15] 3);have HB:=Qf hB;have Hb:=Qf hb;clear hB hb;go_enter Tryz.func93,Tryz.ntmps93;go_wp2_with fail;go_ret;exact⟨rfl,HB.out,Hb.out⟩
theorem Yff (L:Nat->Nat) (n:Nat) (h15:∀i,i<n->L i<=15) (s t:Nat) (hs:XR L n s) (ht:XR L n t) (h:Ext (YD L n) L (YD L n s) (L s) t):s=t:=by
 rcases Nat.lt_trichotomy s t with hlt|rfl|hgt
 . exact absurd h (Yb8 L n t ht.1 ht.2 h15 s ⟨hlt,hs.2⟩)
 . rfl
 rcases Nat.lt_or_ge (L s) (L t) with hl|hl
 . exfalso
   obtain⟨h1,h2⟩:=h
   have ha:Xa L s t=true:=by
    unfold Xa;rw[decide_eq_true hs.2,decide_eq_true hl];rfl
   have:=Ybu L n s t hs.1 ha (h15 t ht.1);unfold YD at h2;rw[if_pos hs.2,if_pos ht.2] at h2;exact this h2
 exfalso;have he:L s=L t:=Nat.le_antisymm h.1 hl;refine Yb8 L n s hs.1 hs.2 h15 t ⟨hgt,ht.2⟩ ⟨hl,?_⟩;have h2:=h.2;rw[he,Nat.sub_self,Nat.pow_zero,Nat.div_one] at h2 ⊢;exact h2.symm
theorem Ykr (L:Nat->Nat) (n:Nat) (h15:∀i,i<n->L i<=15) {X nb p s e t s' e' t':Nat} (h:NextOut (YD L n) L (XR L n) X nb p s e t) (k:NextOut (YD L n) L (XR L n) X nb p s' e' t'):s=s'/\e=e'/\t=t':=by
 have key:∀{s e t s' e' t':Nat},NextOut (YD L n) L (XR L n) X nb p s e t->NextOut (YD L n) L (XR L n) X nb p s' e' t'->¬t<t':=by
  intro s e t s' e' t' h k hlt;obtain⟨h1,_,h3⟩:=h;obtain⟨_,k2,_⟩:=k;obtain⟨a1,σ,a2,a3,a4⟩:=k2 t h1 hlt;rcases h3 with⟨b1,_⟩|⟨_,b2,_⟩|⟨_,b2,b3,b4,_⟩
  . omega
  . exact b2 σ a2 a3
  have:s=σ:=Yff L n h15 s σ b2 a2 (by rw[b4,b3];exact a3);subst this;omega
 have ht:t=t':=by
  rcases Nat.lt_trichotomy t t' with h1|h1|h1
  . exact absurd h1 (key h k)
  . exact h1
  exact absurd h1 (key k h)
 subst ht;obtain⟨_,_,h3⟩:=h;obtain⟨_,_,k3⟩:=k;rcases h3 with⟨b1,rfl,rfl⟩|⟨b0,b2,rfl,rfl⟩|⟨b0,b2,b3,b4,rfl⟩
 . rcases k3 with⟨c1,rfl,rfl⟩|⟨c0,_⟩|⟨c0,_⟩
   . exact⟨rfl,rfl,rfl⟩
   . omega
   omega
 . rcases k3 with⟨c1,_⟩|⟨_,_,rfl,rfl⟩|⟨c0,c2,c3,c4,_⟩
   . omega
   . exact⟨rfl,rfl,rfl⟩
   exact absurd ⟨Nat.le_of_eq c3.symm,by rw[c3,Nat.sub_self,Nat.pow_zero,Nat.div_one];exact c4⟩ (b2 s' c2)
 rcases k3 with⟨c1,_⟩|⟨c0,c2,_⟩|⟨c0,c2,c3,c4,rfl⟩
 . omega
 . exact absurd ⟨Nat.le_of_eq b3.symm,by rw[b3,Nat.sub_self,Nat.pow_zero,Nat.div_one];exact b4⟩ (c2 s b2)
 refine⟨?_,rfl,rfl⟩;exact Yff L n h15 s s' b2 c2 ⟨by omega,by rw[b3,c3,Nat.sub_self,Nat.pow_zero,Nat.div_one,b4,c4]⟩
structure Sg where
 X:Nat
 n:Nat
 out:Nat
noncomputable def YdV (L:Nat->Nat) (c X n:Nat):Nat × Nat × Nat:=by
 classical
 exact if h:∃r:Nat × Nat × Nat,NextOut (YD L c) L (XR L c) X n 0 r.1 r.2.1 r.2.2 then Classical.choose h else (0,3,1)
theorem YbY (L:Nat->Nat) (c:Nat) (h15:∀i,i<c->L i<=15) {X n s e t:Nat} (h:NextOut (YD L c) L (XR L c) X n 0 s e t):YdV L c X n=(s,e,t):=by
 classical
 unfold YdV;have hex:∃r:Nat × Nat × Nat,NextOut (YD L c) L (XR L c) X n 0 r.1 r.2.1 r.2.2:=⟨(s,e,t),h⟩;rw[dif_pos hex];obtain⟨h1,h2,h3⟩:=Ykr L c h15 (Classical.choose_spec hex) h;rw[<-h1,<-h2,<-h3]
theorem NextOut.rest {F L:Nat->Nat} {In:Nat->Prop} {X nb p s e t:Nat} (h:NextOut F L In X nb p s e t) (hp:p<=nb):NextOut F L In X (nb-p) 0 s e t:=by
 obtain⟨h1,h2,h3⟩:=h;refine⟨h1,fun m a b=>?_,?_⟩
 . obtain⟨c,d⟩:=h2 m a b
   exact⟨by omega,d⟩
 rcases h3 with⟨a,b⟩|⟨a,b⟩|⟨a,b⟩
 . exact .inl ⟨by omega,b⟩
 . exact .inr (.inl ⟨by omega,b⟩)
 exact .inr (.inr ⟨by omega,b⟩)
abbrev Rs (α:Type):=Except Nat (α × Sg)
def Yc {α β:Type} (x:Rs α) (f:α->Sg->Rs β):Rs β:=
 match x with
 |.error e=>.error e
 |.ok (a,σ)=>f a σ
theorem Yj {α β:Type} (a:α) (σ:Sg) (f:α->Sg->Rs β):Yc (.ok (a,σ)) f=f a σ:=rfl
theorem Yhu {α β:Type} (e:Nat) (f:α->Sg->Rs β):Yc (.error e:Rs α) f=.error e:=rfl
def Yy (k:Nat) (σ:Sg):Rs Nat:=if σ.n<k then .error 6 else .ok (σ.X%2^k,⟨σ.X/2^k,σ.n-k,σ.out⟩)
noncomputable def symM (L:Nat->Nat) (c:Nat) (σ:Sg):Rs Nat:=
 if (YdV L c σ.X σ.n).2.1=0 then .ok ((YdV L c σ.X σ.n).1,⟨σ.X/2^(YdV L c σ.X σ.n).2.2,σ.n-(YdV L c σ.X σ.n).2.2,σ.out⟩) else .error (YdV L c σ.X σ.n).2.1
def VY (most k:Nat) (σ:Sg):Rs Unit:=if most<σ.out+k then .error 2 else .ok ((),⟨σ.X,σ.n,σ.out+k⟩)
def VN (ok:Prop) [Decidable ok] (e:Nat) (σ:Sg):Rs Unit:=if ok then .ok ((),σ) else .error e
noncomputable def Y1 (L:Nat->Nat) (c:Nat) (D:Nat->Nat) (d most:Nat) (σ:Sg):Rs (Option Tok):=
 Yc (symM L c σ) fun s σ1=>
  if s=256 then .ok (none,σ1)
  else if s<256 then Yc (VY most 1 σ1) fun _ σ2=>.ok (some ⟨UInt8.ofNat s,0,0⟩,σ2)
  else if 285<s then .error 3
  else Yc (Yy (Yl false ((s:Int)-257)).2 σ1) fun b σ2=>
   Yc (symM D d σ2) fun q σ3=>
    if 29<q then .error 3
    else Yc (Yy (Yl true (q:Int)).2 σ3) fun g σ4=>
     if σ4.out<(Yl true (q:Int)).1+g then .error 3
     else Yc (VY most ((Yl false ((s:Int)-257)).1+b) σ4) fun _ σ5=>.ok (some ⟨0,(((Yl false ((s:Int)-257)).1+b:Nat):Int),(((Yl true (q:Int)).1+g:Nat):Int)⟩,σ5)
noncomputable def tokM (L:Nat->Nat) (c:Nat) (D:Nat->Nat) (d most:Nat):Nat->Sg->List Tok->Rs (List Tok)
 |0,_,_=>.error 0
 |f+1,σ,S=>Yc (Y1 L c D d most σ) fun t σ1=>
  match t with
  |none=>.ok (S,σ1)
  |some t=>tokM L c D d most f σ1 (S++[t])
instance (p s:Nat):Decidable (Fits p s):=by unfold Fits;infer_instance
def fitM (m:Nat->Int) (c:Nat) (σ:Sg):Rs Unit:=VN (Fits (parts (lens m) c) (YG (lens m) c)) 3 σ
noncomputable def Vc (m:Nat->Int) (c:Nat) (md:Nat->Int) (d most:Nat) (σ:Sg):Rs (List Tok):=
 Yc (fitM m c σ) fun _ σ1=>Yc (fitM md d σ1) fun _ σ2=>tokM (lens m) c (lens md) d most (σ2.n+1) σ2 []
def VV (X:Nat):Nat->List UInt8
 |0=>[]
 |k+1=>UInt8.ofNat (X%256)::VV (X/256) k
def Ycb (σ:Sg):Sg:=⟨σ.X/2^(σ.n%8),σ.n-σ.n%8,σ.out⟩
def Vz (most:Nat) (σ:Sg):Rs (List UInt8):=
 Yc (Yy 16 (Ycb σ)) fun a σ1=>Yc (Yy 16 σ1) fun b σ2=>
  if a+b ≠ 65535 then .error 3
  else if σ2.n<8*a then .error 6
  else Yc (VY most a ⟨σ2.X/2^(8*a),σ2.n-8*a,σ2.out⟩) fun _ σ3=>.ok (VV σ2.X a,σ3)
def ordL:List Nat:=[16,17,18,0,8,7,9,6,10,5,11,4,12,3,13,2,14,1,15]
def Vy:List Nat->(Nat->Int)->Sg->Rs (Nat->Int)
 |[],m,σ=>.ok (m,σ)
 |s::r,m,σ=>Yc (Yy 3 σ) fun v σ1=>Vy r (fun i=>if i=s then (v:Int) else m i) σ1
noncomputable def Vv (K:Nat->Nat) (σ:Sg) (l:List Nat):Rs (List Nat):=
 Yc (symM K 19 σ) fun s σ1=>
  if s=16 then (if l=[] then .error 3 else Yc (Yy 2 σ1) fun b σ2=>.ok (l++List.replicate (3+b) (l.getLastD 0),σ2))
  else if s=17 then Yc (Yy 3 σ1) fun b σ2=>.ok (l++List.replicate (3+b) 0,σ2)
  else if s=18 then Yc (Yy 7 σ1) fun b σ2=>.ok (l++List.replicate (11+b) 0,σ2)
  else .ok (l++[s],σ1)
noncomputable def YL (K:Nat->Nat) (need:Nat):Nat->Sg->List Nat->Rs (List Nat)
 |0,_,_=>.error 0
 |f+1,σ,l=>if l.length<need then Yc (Vv K σ l) fun l' σ1=>YL K need f σ1 l' else .ok (l,σ)
noncomputable def dynM (σ:Sg):Rs (List Nat × Nat):=
 Yc (Yy 5 σ) fun a σ1=>Yc (Yy 5 σ1) fun b σ2=>Yc (Yy 4 σ2) fun c σ3=>
  if 286<a+257\/30<b+1 then .error 3
  else Yc (Vy (ordL.take (c+4)) (fun _=>0) σ3) fun m σ4=>Yc (fitM m 19 σ4) fun _ σ5=>
   Yc (YL (lens m) (a+257+(b+1)) (σ5.n+1) σ5 []) fun l σ6=>
    if a+257+(b+1)<l.length\/l.getD 256 0=0 then .error 3 else .ok ((l,a+257),σ6)
def lenF (l:List Nat) (i:Nat):Int:=(l.getD i 0:Nat)
structure Bk where
 kind:Nat
 bytes:List UInt8
 toks:List Tok
noncomputable def Xx (most:Nat) (σ:Sg):Rs (Nat × Bk):=
 Yc (Yy 1 σ) fun last σ1=>Yc (Yy 2 σ1) fun k σ2=>
  if k=0 then Yc (Vz most σ2) fun s σ3=>.ok ((last,⟨0,s,[]⟩),σ3)
  else if k=1 then Yc (Vc fixL 288 (fun _=>5) 32 most σ2) fun S σ3=>.ok ((last,⟨1,[],S⟩),σ3)
  else if k=2 then Yc (dynM σ2) fun l σ3=>Yc (Vc (lenF (l.1.take l.2)) l.2 (lenF (l.1.drop l.2)) (l.1.length-l.2) most σ3) fun S σ4=>.ok ((last,⟨2,[],S⟩),σ4)
  else .error 3
noncomputable def VJ (most:Nat):Nat->Sg->List Bk->Rs (List Bk)
 |0,_,_=>.error 0
 |f+1,σ,out=>Yc (Xx most σ) fun r σ1=>if r.1=0 then VJ most f σ1 (out++[r.2]) else .ok (out++[r.2],σ1)
theorem Yr {α β:Type} {x:Rs α} {f:α->Sg->Rs β} {b:β} {σ':Sg} (h:Yc x f=.ok (b,σ')):∃a σ1,x=.ok (a,σ1)/\f a σ1=.ok (b,σ'):=by
 rcases x with e|⟨a,σ⟩
 . cases h
 exact⟨a,σ,rfl,h⟩
def Mono {α:Type} (x:Rs α) (σ:Sg):Prop:=∀a σ',x=.ok (a,σ')->σ'.n<=σ.n
theorem Mono.err {α:Type} (e:Nat) (σ:Sg):Mono (.error e:Rs α) σ:=fun _ _ h=>by cases h
theorem Mono.ret {α:Type} (a:α) (σ:Sg):Mono (.ok (a,σ):Rs α) σ:=fun _ _ h=>by injection h with h;injection h with _ h;subst h;exact Qa _
theorem Mono.then {α β:Type} {x:Rs α} {f:α->Sg->Rs β} {σ:Sg} (h:Mono x σ) (k:∀a σ1,Mono (f a σ1) σ1):Mono (Yc x f) σ:=fun b σ' e=>by
 obtain⟨a,σ1,h1,h2⟩:=Yr e;exact Qe (k a σ1 b σ' h2) (h a σ1 h1)
theorem Y6 (k:Nat) (σ:Sg):Mono (Yy k σ) σ:=fun a σ' h=>by
 unfold Yy at h;split at h
 . cases h
 injection h with h;injection h with _ h;subst h;exact Nat.sub_le _ _
theorem UH (L:Nat->Nat) (c:Nat) (σ:Sg):Mono (symM L c σ) σ:=fun a σ' h=>by
 unfold symM at h;split at h
 . injection h with h;injection h with _ h;subst h;exact Nat.sub_le _ _
 cases h
theorem Ub (most k:Nat) (σ:Sg):Mono (VY most k σ) σ:=fun a σ' h=>by
 unfold VY at h;split at h
 . cases h
 injection h with h;injection h with _ h;subst h;exact Qa _
theorem Ux (ok:Prop) [Decidable ok] (e:Nat) (σ:Sg):Mono (VN ok e σ) σ:=by
 unfold VN;split
 . exact Mono.ret _ _
 exact Mono.err _ _
theorem Ycq (L:Nat->Nat) (c:Nat) (D:Nat->Nat) (d most:Nat) (σ:Sg):Mono (Y1 L c D d most σ) σ:=by
 unfold Y1;refine(UH L c σ).then fun s σ1=>?_;split
 . exact Mono.ret _ _
 split
 . exact(Ub _ _ _).then fun _ σ2=>Mono.ret _ _
 split
 . exact Mono.err _ _
 refine(Y6 _ _).then fun b σ2=>(UH _ _ _).then fun q σ3=>?_;split
 . exact Mono.err _ _
 refine(Y6 _ _).then fun g σ4=>?_;split
 . exact Mono.err _ _
 exact(Ub _ _ _).then fun _ σ5=>Mono.ret _ _
theorem Yhs (L:Nat->Nat) (c:Nat) (D:Nat->Nat) (d most:Nat):∀(f:Nat) (σ:Sg) (S:List Tok),Mono (tokM L c D d most f σ S) σ:=by
 intro f
 induction f with
 |zero=>intro σ S;exact Mono.err _ _
 |succ f ih=>
  intro σ S;show Mono (Yc _ _) σ;refine(Ycq L c D d most σ).then fun t σ1=>?_
  cases t with
  |none=>exact Mono.ret _ _
  |some t=>exact ih σ1 _
theorem XW (m:Nat->Int) (c:Nat) (md:Nat->Int) (d most:Nat) (σ:Sg):Mono (Vc m c md d most σ) σ:=
 (Ux _ _ _).then fun _ _=>(Ux _ _ _).then fun _ _=>Yhs _ _ _ _ _ _ _ _
theorem KI (most:Nat) (σ:Sg):Mono (Vz most σ) σ:=by
 intro a σ' h;have h0:(Ycb σ).n<=σ.n:=Nat.sub_le _ _;refine Qe ?_ h0
 have hm:Mono (Vz most σ) (Ycb σ):=by
  unfold Vz;refine(Y6 _ _).then fun a σ1=>(Y6 _ _).then fun b σ2=>?_;split
  . exact Mono.err _ _
  split
  . exact Mono.err _ _
  intro a' σ'' h;obtain⟨u,σ3,h1,h2⟩:=Yr h;have h3:=Ub _ _ _ u σ3 h1;injection h2 with h2;injection h2 with _ h2;subst h2;exact Qe h3 (Nat.sub_le _ _)
 exact hm a σ' h
theorem Yea:∀(r:List Nat) (m:Nat->Int) (σ:Sg),Mono (Vy r m σ) σ:=by
 intro r
 induction r with
 |nil=>intro m σ;exact Mono.ret _ _
 |cons s r ih=>intro m σ;exact(Y6 3 σ).then fun v σ1=>ih _ _
theorem YcZ (K:Nat->Nat) (σ:Sg) (l:List Nat):Mono (Vv K σ l) σ:=by
 unfold Vv;refine(UH _ _ _).then fun s σ1=>?_;split
 . split
   . exact Mono.err _ _
   exact(Y6 _ _).then fun _ _=>Mono.ret _ _
 split
 . exact(Y6 _ _).then fun _ _=>Mono.ret _ _
 split
 . exact(Y6 _ _).then fun _ _=>Mono.ret _ _
 exact Mono.ret _ _
theorem Yc1 (K:Nat->Nat) (need:Nat):∀(f:Nat) (σ:Sg) (l:List Nat),Mono (YL K need f σ l) σ:=by
 intro f
 induction f with
 |zero=>intro σ l;exact Mono.err _ _
 |succ f ih=>
  intro σ l;show Mono (if _ then _ else _) σ;split
  . exact(YcZ _ _ _).then fun l' σ1=>ih σ1 l'
  exact Mono.ret _ _
theorem Yi4 (σ:Sg):Mono (dynM σ) σ:=by
 unfold dynM;refine(Y6 _ _).then fun a σ1=>(Y6 _ _).then fun b σ2=>(Y6 _ _).then fun c σ3=>?_;split
 . exact Mono.err _ _
 refine(Yea _ _ _).then fun m σ4=>(Ux _ _ _).then fun _ σ5=>(Yc1 _ _ _ _ _).then fun l σ6=>?_;split
 . exact Mono.err _ _
 exact Mono.ret _ _
def tlen (t:Tok):Nat:=if t.l=0 then 1 else t.l.toNat
theorem YbD (o:List UInt8) (t:Tok):(tout o t).length=o.length+tlen t:=by
 unfold tout tlen;split
 . rw[List.length_append];rfl
 exact YhQ _ _ _
def UT (o:List UInt8) (S:List Tok):List UInt8:=S.foldl tout o
def YiH (o:List UInt8) (b:Bk):List UInt8:=UT (o++b.bytes) b.toks
def X5 (o:List UInt8) (bs:List Bk):List UInt8:=bs.foldl YiH o
def Vh (S:List Tok):Nat:=(S.map tlen).sum
def blen (b:Bk):Nat:=b.bytes.length+Vh b.toks
def X8 (bs:List Bk):Nat:=(bs.map blen).sum
theorem KP (S:List Tok):∀o,(UT o S).length=o.length+Vh S:=by
 induction S with
 |nil=>intro o;rfl
 |cons t r ih=>
  intro o;show(UT (tout o t) r).length=_;rw[ih,YbD];show _=o.length+(tlen t+Vh r);omega
theorem YiG (o:List UInt8) (b:Bk):(YiH o b).length=o.length+blen b:=by
 unfold YiH blen;rw[KP,List.length_append];omega
theorem YiF (bs:List Bk):∀o,(X5 o bs).length=o.length+X8 bs:=by
 induction bs with
 |nil=>intro o;rfl
 |cons b r ih=>
  intro o;show(X5 (YiH o b) r).length=_;rw[ih,YiG];show _=o.length+(blen b+X8 r);omega
def YjL (n:Nat) (t:Tok):Prop:=t.l=0\/(0<t.l/\t.l<=300/\1<=t.d/\t.d<=(n:Int))
def Xk:Nat->List Tok->Prop
 |_,[]=>True
 |n,t::r=>YjL n t/\Xk (n+tlen t) r
def Uq:Nat->List Bk->Prop
 |_,[]=>True
 |n,b::r=>Xk (n+b.bytes.length) b.toks/\Uq (n+blen b) r
theorem Vb {k:Nat} {σ σ':Sg} {a:Nat} (h:Yy k σ=.ok (a,σ')):σ'.out=σ.out/\a<2^k:=by
 unfold Yy at h;split at h
 . cases h
 injection h with h;injection h with h1 h;subst h;subst h1;exact⟨rfl,Nat.mod_lt _ (Nat.two_pow_pos k)⟩
theorem JR {L:Nat->Nat} {c:Nat} {σ σ':Sg} {a:Nat} (h:symM L c σ=.ok (a,σ')):σ'.out=σ.out:=by
 unfold symM at h;split at h
 . injection h with h;injection h with _ h;subst h;rfl
 cases h
theorem UV {most k:Nat} {σ σ':Sg} {a:Unit} (h:VY most k σ=.ok (a,σ')):σ'.out=σ.out+k/\σ'.out<=most:=by
 unfold VY at h;split at h
 . cases h
 injection h with h;injection h with _ h;subst h;exact⟨rfl,by show σ.out+k<=most;omega⟩
theorem Jr {ok:Prop} [Decidable ok] {e:Nat} {σ σ':Sg} {a:Unit} (h:VN ok e σ=.ok (a,σ')):σ'=σ/\ok:=by
 unfold VN at h;split at h
 . injection h with h;injection h with _ h;exact⟨h.symm,by assumption⟩
 cases h
theorem Ybg (s:Nat) (h1:¬s<256) (h0:s ≠ 256) (h2:¬285<s):3<=(Yl false ((s:Int)-257)).1/\(Yl false ((s:Int)-257)).1<=258/\(Yl false ((s:Int)-257)).2<=5:=by
 have e:(s:Int)-257=((s-257:Nat):Int):=by omega
 rw[e];have key:∀i:Nat,i<=28->3<=(Yl false (i:Int)).1/\(Yl false (i:Int)).1<=258/\(Yl false (i:Int)).2<=5:=by decide
 exact key _ (by omega)
theorem Ydf (q:Nat) (h:¬29<q):1<=(Yl true (q:Int)).1:=by
 have key:∀i:Nat,i<=29->1<=(Yl true (i:Int)).1:=by decide
 exact key q (by omega)
theorem YfE {L:Nat->Nat} {c:Nat} {D:Nat->Nat} {d most:Nat} {σ σ':Sg} {r:Option Tok} (h:Y1 L c D d most σ=.ok (r,σ')) (hm:σ.out<=most) :
 σ'.out<=most/\((r=none/\σ'.out=σ.out)\/∃t,r=some t/\YjL σ.out t/\σ'.out=σ.out+tlen t):=by
 unfold Y1 at h;obtain⟨s,σ1,h1,h⟩:=Yr h;have o1:=JR h1;by_cases h256:s=256
 . rw[if_pos h256] at h
   injection h with h;injection h with h2 h;subst h;subst h2;exact⟨by omega,.inl ⟨rfl,o1⟩⟩
 rw[if_neg h256] at h;by_cases hlt:s<256
 . rw[if_pos hlt] at h
   obtain⟨u,σ2,h2,h⟩:=Yr h;have o2:=UV h2;injection h with h;injection h with h3 h;subst h;subst h3;exact⟨o2.2,.inr ⟨_,rfl,.inl rfl,by rw[o2.1,o1];rfl⟩⟩
 rw[if_neg hlt] at h;by_cases h285:285<s
 . rw[if_pos h285] at h;cases h
 rw[if_neg h285] at h;obtain⟨hb3,hb258,hm5⟩:=Ybg s hlt h256 h285;obtain⟨b,σ2,h2,h⟩:=Yr h;have o2:=Vb h2;obtain⟨q,σ3,h3,h⟩:=Yr h;have o3:=JR h3;by_cases h29:29<q
 . rw[if_pos h29] at h;cases h
 rw[if_neg h29] at h;obtain⟨g,σ4,h4,h⟩:=Yr h;have o4:=Vb h4;have hfb:=Ydf q h29;have hb32:b<32:=Qb o2.2 (Qe (Nat.pow_le_pow_right (by decide) hm5) (by decide));by_cases hd:σ4.out<(Yl true (q:Int)).1+g
 . rw[if_pos hd] at h;cases h
 rw[if_neg hd] at h;obtain⟨u,σ5,h5,h⟩:=Yr h;have o5:=UV h5;injection h with h;injection h with h6 h;subst h;subst h6;have hpos:¬((((Yl false ((s:Int)-257)).1+b:Nat):Int)=0):=by omega
 refine⟨o5.2,.inr ⟨_,rfl,.inr ⟨?_,?_,?_,?_⟩,?_⟩⟩
 . show(0:Int)<(((Yl false ((s:Int)-257)).1+b:Nat):Int);omega
 . show(((Yl false ((s:Int)-257)).1+b:Nat):Int)<=300;omega
 . show(1:Int)<=(((Yl true (q:Int)).1+g:Nat):Int);omega
 . show(((Yl true (q:Int)).1+g:Nat):Int)<=(σ.out:Int);omega
 rw[o5.1];unfold tlen;rw[if_neg hpos];show σ4.out+_=σ.out+(((Yl false ((s:Int)-257)).1+b:Nat):Int).toNat;rw[Int.toNat_natCast];omega
theorem YlH {L:Nat->Nat} {c:Nat} {D:Nat->Nat} {d most:Nat}:∀(f:Nat) {σ σ':Sg} {S S':List Tok},tokM L c D d most f σ S=.ok (S',σ')->σ.out<=most->∃T,S'=S++T/\Xk σ.out T/\σ'.out=σ.out+Vh T/\σ'.out<=most:=by
 intro f
 induction f with
 |zero=>intro σ σ' S S' h;cases h
 |succ f ih=>
  intro σ σ' S S' h hm;obtain⟨r,σ1,h1,h⟩:=Yr (x:=Y1 L c D d most σ) h;obtain⟨hm1,⟨rfl,ho⟩|⟨t,rfl,hok,ho⟩⟩:=YfE h1 hm
  . injection h with h;injection h with h2 h;subst h;subst h2
    exact⟨[],by simp,trivial,by rw[ho];rfl,hm1⟩
  obtain⟨T,hS,hT,ho2,hm2⟩:=ih h hm1;refine⟨t::T,by rw[hS];simp,⟨hok,by rw[<-ho];exact hT⟩,?_,hm2⟩;rw[ho2,ho];show _=σ.out+(tlen t+Vh T);omega
theorem YaX {m:Nat->Int} {c:Nat} {md:Nat->Int} {d most:Nat} {σ σ':Sg} {S:List Tok} (h:Vc m c md d most σ=.ok (S,σ')) (hm:σ.out<=most):Xk σ.out S/\σ'.out=σ.out+Vh S/\σ'.out<=most:=by
 obtain⟨_,σ1,h1,k1⟩:=Yr (x:=fitM m c σ) h;obtain⟨_,σ2,h2,k2⟩:=Yr k1;obtain⟨e1,_⟩:=Jr h1;obtain⟨e2,_⟩:=Jr h2;rw[e2,e1] at k2;obtain⟨T,hS,a,b,c⟩:=YlH _ k2 hm;rw[List.nil_append] at hS;subst hS;exact⟨a,b,c⟩
theorem YgZ (k:Nat):∀X,(VV X k).length=k:=by
 induction k with
 |zero=>intro X;rfl
 |succ k ih=>intro X;show(VV (X/256) k).length+1=k+1;rw[ih]
theorem Ya1 {most:Nat} {σ σ':Sg} {l:List UInt8} (h:Vz most σ=.ok (l,σ')):σ'.out=σ.out+l.length/\σ'.out<=most:=by
 unfold Vz at h;obtain⟨a,σ1,h1,h⟩:=Yr h;obtain⟨b,σ2,h2,h⟩:=Yr h;have o1:=(Vb h1).1;have o2:=(Vb h2).1;have o0:(Ycb σ).out=σ.out:=rfl;split at h
 . cases h
 split at h
 . cases h
 obtain⟨u,σ3,h3,h⟩:=Yr h;have o3:=UV h3;injection h with h;injection h with h4 h;subst h;subst h4;refine⟨?_,o3.2⟩;rw[YgZ,o3.1];show σ2.out+a=_;omega
theorem YgB:∀(r:List Nat) {m m':Nat->Int} {σ σ':Sg},Vy r m σ=.ok (m',σ')->σ'.out=σ.out:=by
 intro r
 induction r with
 |nil=>intro m m' σ σ' h;injection h with h;injection h with _ h;subst h;rfl
 |cons s r ih=>
  intro m m' σ σ' h;obtain⟨v,σ1,h1,h⟩:=Yr (x:=Yy 3 σ) h;rw[ih h,(Vb h1).1]
theorem YdX {K:Nat->Nat} {σ σ':Sg} {l l':List Nat} (h:Vv K σ l=.ok (l',σ')):σ'.out=σ.out:=by
 unfold Vv at h;obtain⟨s,σ1,h1,h⟩:=Yr h;have o1:=JR h1;split at h
 . split at h
   . cases h
   obtain⟨b,σ2,h2,h⟩:=Yr h;injection h with h;injection h with _ h;subst h;rw[(Vb h2).1,o1]
 split at h
 . obtain⟨b,σ2,h2,h⟩:=Yr h
   injection h with h;injection h with _ h;subst h;rw[(Vb h2).1,o1]
 split at h
 . obtain⟨b,σ2,h2,h⟩:=Yr h
   injection h with h;injection h with _ h;subst h;rw[(Vb h2).1,o1]
 injection h with h;injection h with _ h;subst h;exact o1
theorem YdY {K:Nat->Nat} {need:Nat}:∀(f:Nat) {σ σ':Sg} {l l':List Nat},YL K need f σ l=.ok (l',σ')->σ'.out=σ.out:=by
 intro f
 induction f with
 |zero=>intro σ σ' l l' h;cases h
 |succ f ih=>
  intro σ σ' l l' h;have h':(if l.length<need then Yc (Vv K σ l) fun l' σ1=>YL K need f σ1 l' else .ok (l,σ))=.ok (l',σ'):=h;split at h'
  . obtain⟨a,σ1,h1,h2⟩:=Yr h'
    rw[ih h2,YdX h1]
  injection h' with h';injection h' with _ h';subst h';rfl
theorem YkR {σ σ':Sg} {r:List Nat × Nat} (h:dynM σ=.ok (r,σ')):σ'.out=σ.out:=by
 unfold dynM at h;obtain⟨a,σ1,h1,h⟩:=Yr h;obtain⟨b,σ2,h2,h⟩:=Yr h;obtain⟨c,σ3,h3,h⟩:=Yr h;split at h
 . cases h
 obtain⟨m,σ4,h4,h⟩:=Yr h;obtain⟨_,σ5,h5,h⟩:=Yr h;obtain⟨l,σ6,h6,h⟩:=Yr h;obtain⟨e5,_⟩:=Jr h5;split at h
 . cases h
 injection h with h;injection h with _ h;subst h;rw[YdY _ h6,e5,YgB _ h4,(Vb h3).1,(Vb h2).1,(Vb h1).1]
theorem Yjm {most:Nat} {σ σ':Sg} {r:Nat × Bk} (h:Xx most σ=.ok (r,σ')) (hm:σ.out<=most):Xk (σ.out+r.2.bytes.length) r.2.toks/\σ'.out=σ.out+blen r.2/\σ'.out<=most:=by
 unfold Xx at h;obtain⟨a,σ1,h1,h⟩:=Yr h;obtain⟨b,σ2,h2,h⟩:=Yr h;have o:σ2.out=σ.out:=by rw[(Vb h2).1,(Vb h1).1]
 split at h
 . obtain⟨l,σ3,h3,h⟩:=Yr h
   have o3:=Ya1 h3;injection h with h;injection h with h4 h;subst h;subst h4;refine⟨trivial,?_,o3.2⟩;show _=σ.out+(l.length+0);omega
 split at h
 . obtain⟨S,σ3,h3,h⟩:=Yr h
   obtain⟨a1,a2,a3⟩:=YaX h3 (by omega);injection h with h;injection h with h4 h;subst h;subst h4;refine⟨by rw[o] at a1;exact a1,?_,a3⟩;show _=σ.out+(0+Vh S);omega
 split at h
 . obtain⟨l,σ3,h3,h⟩:=Yr h
   obtain⟨S,σ4,h4,h⟩:=Yr h;have o3:=YkR h3;obtain⟨a1,a2,a3⟩:=YaX h4 (by omega);injection h with h;injection h with h5 h;subst h;subst h5;refine⟨by rw[o3,o] at a1;exact a1,?_,a3⟩;show _=σ.out+(0+Vh S);omega
 cases h
theorem Yg4 {most:Nat}:∀(f:Nat) {σ σ':Sg} {bs bs':List Bk},VJ most f σ bs=.ok (bs',σ')->σ.out<=most->∃c,bs'=bs++c/\Uq σ.out c/\σ'.out=σ.out+X8 c/\σ'.out<=most:=by
 intro f
 induction f with
 |zero=>intro σ σ' bs bs' h;cases h
 |succ f ih=>
  intro σ σ' bs bs' h hm;obtain⟨r,σ1,h1,h⟩:=Yr (x:=Xx most σ) h;obtain⟨a1,a2,a3⟩:=Yjm h1 hm;split at h
  . obtain⟨c,b1,b2,b3,b4⟩:=ih h a3
    refine⟨r.2::c,by rw[b1];simp,⟨a1,by rw[<-a2];exact b2⟩,?_,b4⟩;rw[b3,a2];show _=σ.out+(blen r.2+X8 c);omega
  injection h with h;injection h with h2 h;subst h;subst h2;refine⟨[r.2],rfl,⟨a1,trivial⟩,?_,a3⟩;rw[a2];show _=σ.out+(blen r.2+0);rfl
def Up {α:Type} (x:Rs α) (σ:Sg):Prop:=∀a σ',x=.ok (a,σ')->σ'.n<=σ.n/\σ.out<=σ'.out
theorem Up.err {α:Type} (e:Nat) (σ:Sg):Up (.error e:Rs α) σ:=fun _ _ h=>by cases h
theorem Up.ret {α:Type} (a:α) (σ:Sg):Up (.ok (a,σ):Rs α) σ:=fun _ _ h=>by injection h with h;injection h with _ h;subst h;exact⟨Qa _,Qa _⟩
theorem Up.then {α β:Type} {x:Rs α} {f:α->Sg->Rs β} {σ:Sg} (h:Up x σ) (k:∀a σ1,Up (f a σ1) σ1):Up (Yc x f) σ:=fun b σ' e=>by
 obtain⟨a,σ1,h1,h2⟩:=Yr e;exact⟨Qe (k a σ1 b σ' h2).1 (h a σ1 h1).1,Qe (h a σ1 h1).2 (k a σ1 b σ' h2).2⟩
theorem Xj (k:Nat) (σ:Sg):Up (Yy k σ) σ:=fun a σ' h=>⟨Y6 k σ a σ' h,Nat.le_of_eq (Vb h).1.symm⟩
theorem YdC (L:Nat->Nat) (c:Nat) (σ:Sg):Up (symM L c σ) σ:=fun a σ' h=>⟨UH L c σ a σ' h,Nat.le_of_eq (JR h).symm⟩
theorem Yfb (most k:Nat) (σ:Sg):Up (VY most k σ) σ:=fun a σ' h=>⟨Ub most k σ a σ' h,by rw[(UV h).1];exact Nat.le_add_right _ _⟩
theorem YaK (ok:Prop) [Decidable ok] (e:Nat) (σ:Sg):Up (VN ok e σ) σ:=by
 unfold VN;split
 . exact Up.ret _ _
 exact Up.err _ _
theorem YfD (L:Nat->Nat) (c:Nat) (D:Nat->Nat) (d most:Nat) (σ:Sg):Up (Y1 L c D d most σ) σ:=by
 unfold Y1;refine(YdC L c σ).then fun s σ1=>?_;split
 . exact Up.ret _ _
 split
 . exact(Yfb _ _ _).then fun _ σ2=>Up.ret _ _
 split
 . exact Up.err _ _
 refine(Xj _ _).then fun b σ2=>(YdC _ _ _).then fun q σ3=>?_;split
 . exact Up.err _ _
 refine(Xj _ _).then fun g σ4=>?_;split
 . exact Up.err _ _
 exact(Yfb _ _ _).then fun _ σ5=>Up.ret _ _
theorem YlG (L:Nat->Nat) (c:Nat) (D:Nat->Nat) (d most:Nat):∀(f:Nat) (σ:Sg) (S:List Tok),Up (tokM L c D d most f σ S) σ:=by
 intro f
 induction f with
 |zero=>intro σ S;exact Up.err _ _
 |succ f ih=>
  intro σ S;show Up (Yc _ _) σ;refine(YfD L c D d most σ).then fun t σ1=>?_
  cases t with
  |none=>exact Up.ret _ _
  |some t=>exact ih σ1 _
theorem YaW (m:Nat->Int) (c:Nat) (md:Nat->Int) (d most:Nat) (σ:Sg):Up (Vc m c md d most σ) σ:=
 (YaK _ _ _).then fun _ _=>(YaK _ _ _).then fun _ _=>YlG _ _ _ _ _ _ _ _
theorem YfP (most:Nat) (σ:Sg):Up (Vz most σ) σ:=fun l σ' h=>⟨KI most σ l σ' h,by rw[(Ya1 h).1];exact Nat.le_add_right _ _⟩
theorem YiW:∀(r:List Nat) (m:Nat->Int) (σ:Sg),Up (Vy r m σ) σ:=by
 intro r
 induction r with
 |nil=>intro m σ;exact Up.ret _ _
 |cons s r ih=>intro m σ;exact(Xj 3 σ).then fun v σ1=>ih _ _
theorem Ygn (K:Nat->Nat) (σ:Sg) (l:List Nat):Up (Vv K σ l) σ:=by
 unfold Vv;refine(YdC _ _ _).then fun s σ1=>?_;split
 . split
   . exact Up.err _ _
   exact(Xj _ _).then fun _ _=>Up.ret _ _
 split
 . exact(Xj _ _).then fun _ _=>Up.ret _ _
 split
 . exact(Xj _ _).then fun _ _=>Up.ret _ _
 exact Up.ret _ _
theorem Ygo (K:Nat->Nat) (need:Nat):∀(f:Nat) (σ:Sg) (l:List Nat),Up (YL K need f σ l) σ:=by
 intro f
 induction f with
 |zero=>intro σ l;exact Up.err _ _
 |succ f ih=>
  intro σ l;show Up (if _ then _ else _) σ;split
  . exact(Ygn _ _ _).then fun l' σ1=>ih σ1 l'
  exact Up.ret _ _
theorem YmI (σ:Sg):Up (dynM σ) σ:=by
 unfold dynM;refine(Xj _ _).then fun a σ1=>(Xj _ _).then fun b σ2=>(Xj _ _).then fun c σ3=>?_;split
 . exact Up.err _ _
 refine(YiW _ _ _).then fun m σ4=>(YaK _ _ _).then fun _ σ5=>(Ygo _ _ _ _ _).then fun l σ6=>?_;split
 . exact Up.err _ _
 exact Up.ret _ _
section
variable {φ:Sg->Sg} {good:Sg->Prop} {e:Nat}
end
def JK (k:Nat) (σ:Sg):Rs (List UInt8):=if σ.n<8*k then .error 6 else .ok (VV σ.X k,⟨σ.X/2^(8*k),σ.n-8*k,σ.out⟩)
theorem Ycv (most:Nat) (σ:Sg):Vz most σ=Yc (Yy 16 (Ycb σ)) fun a σ1=>Yc (Yy 16 σ1) fun b σ2=>if a+b ≠ 65535 then .error 3 else Yc (JK a σ2) fun l σ3=>Yc (VY most a σ3) fun _ σ4=>.ok (l,σ4):=by
 unfold Vz
 congr 1
 funext a σ1
 congr 1
 funext b σ2;split
 . rfl
 unfold JK;split<;>rfl
theorem Jg (m:Nat->Int) (c:Nat) (h:∀i,m i<=15):∀i,i<c->lens m i<=15:=fun i _=>by
 unfold lens;have:=h i;omega
theorem YiA (l:List Nat) (h:∀y ∈ l,y<=15) (i:Nat):lenF l i<=15:=by
 unfold lenF;rcases Nat.lt_or_ge i l.length with hi|hi
 . have e:l.getD i 0=l[i]:=by simp[List.getD,hi]
   rw[e];have:=h _ (List.getElem_mem hi);omega
 have e:l.getD i 0=0:=by simp[List.getD,hi]
 rw[e];decide
section
variable {φ:Sg->Sg} {good:Sg->Prop} {e most most':Nat}
theorem Yd8 (i:Nat):fixL i<=15:=by
 unfold fixL;split
 . decide
 split
 . decide
 split<;>decide
theorem Yg6 {k:Nat} {σ σ':Sg} {a:Nat} (h:Yy (k+1) σ=.ok (a,σ')):σ'.n<σ.n:=by
 unfold Yy at h;split at h
 . cases h
 injection h with h;injection h with _ h;subst h;show σ.n-(k+1)<σ.n;omega
theorem Yem {most:Nat} {σ σ':Sg} {r:Nat × Bk} (h:Xx most σ=.ok (r,σ')):σ'.n<σ.n:=by
 unfold Xx at h;obtain⟨last,σ1,h1,h2⟩:=Yr h;refine Nat.lt_of_le_of_lt ?_ (Yg6 h1)
 refine(?_:Up _ σ1) r σ' h2 |>.1
 clear h h2;refine(Xj _ _).then fun k σ2=>?_;split
 . exact(YfP _ _).then fun _ _=>Up.ret _ _
 split
 . exact(YaW _ _ _ _ _ _).then fun _ _=>Up.ret _ _
 split
 . exact(YmI _).then fun _ _=>(YaW _ _ _ _ _ _).then fun _ _=>Up.ret _ _
 exact Up.err _ _
end
theorem Yab (P:Nat) (s:ByteArray) (p:Nat) (hp:p<=1000000000) (w:World) (hS:SrcAt w P s p) :
 Calls Tryz.prog 96 #[.pointer (some ⟨P,0,none⟩)] w fun e w'=>e=.returned (.tuple #[])/\SrcAt w' P s ((p+7)/8*8)/\w.grownBy w' (some P)/\w'.heap.size=w.heap.size:=by
 have c1:=hS.cell 1;have cf:=hS.frozen 1;simp at c1;obtain⟨q,Hq⟩:=Qi ((p+7)/8)
 have e1:((p:Int)+7)/8=(q:Int):=by have:=Hq.out;omega
 have e2:((p:Int)+7).tdiv 8=(q:Int):=by rw[Int.tdiv_eq_ediv_of_nonneg (by omega)];exact e1
 have hql:q<=1000000000:=by have:=Hq.out;omega
 have H:=Qf (YhE (p':=q*8) hS);have e3:((q*8:Nat):Int)=(q:Int)*8:=by omega
 rw[Hq.out];simp only[e3] at H;clear hS;go_enter Tryz.func96,Tryz.ntmps96;go_wp2_with fail
 (try simp only[Exit.inBlock,Exit.then]);refine bodyPost_end (results_none rfl _ _ _) rfl ?_
 exact⟨rfl,H.out⟩
def Yfz (B N:Int) (k:Nat):Prop:=(N<0/\k=0)\/(N=(k:Int)/\N<=B)\/(B<N/\(k:Int)=B)
theorem YgT (B N:Int) (k:Nat) (hB:0<=B) (hN:Yfz B N k):∃M:Int,(∀W,Sem.run Tryz.prog (Builtin.min_ #[3,3] 3 #[.int .i64 N,.int .i64 B]) W=.ok (.int .i64 M) W)/\∀W,Sem.run Tryz.prog (Builtin.max_ #[3,3] 3 #[.int .i64 0,.int .i64 M]) W=.ok (.int .i64 (k:Int)) W:=by
 refine⟨if B<N then B else N,fun W=>rfl,fun W=>?_⟩
 have e:(if (if B<N then B else N)>0 then (if B<N then B else N) else 0)=(k:Int):=by
  unfold Yfz at hN;split<;>split<;>omega
 show Result.ok (Value.int .i64 (if (if B<N then B else N)>0 then (if B<N then B else N) else 0)) W=_;rw[e]
theorem Yis (a b:Nat) (W:World):Sem.run Tryz.prog (Builtin.min_ #[3,3] 3 #[.int .i64 (a:Int),.int .i64 (b:Int)]) W=.ok (.int .i64 ((min a b:Nat):Int)) W:=by
 have e:(if (b:Int)<(a:Int) then (b:Int) else (a:Int))=((min a b:Nat):Int):=by split<;>omega
 show Result.ok (Value.int .i64 (if (b:Int)<(a:Int) then (b:Int) else (a:Int))) W=_;rw[e]
set_option maxHeartbeats 2000000 in
theorem YdF (P:Nat) (s:ByteArray) (p k:Nat) (N:Int) (hN:Yfz 65536 N k) (hs:s.size<=100000000) (hp:p<=1000000000) (w:World) (hS:SrcAt w P s p) :
 Calls Tryz.prog 97 #[.pointer (some ⟨P,0,none⟩),.int .i64 N] w fun e w'=>e=.returned (.string (s.extract (min ((p+7)/8) s.size) (min (min ((p+7)/8) s.size+k) s.size)))/\
  SrcAt w' P s ((p+7)/8*8+8*k)/\w.grownBy w' (some P)/\w'.heap.size=w.heap.size:=by
 have hk:k<=65536:=by unfold Yfz at hN;omega
 obtain⟨M1,hmin,hmax⟩:=YgT 65536 N k (by omega) hN;have CE:=Qf (Yab P s p hp w hS);obtain⟨q,Hq⟩:=Qi ((p+7)/8)
 have hql:q<=1000000000:=by have:=Hq.out;omega
 rw[Hq.out] at CE ⊢;obtain⟨f,Hf⟩:=Qi (min q s.size);obtain⟨t,Ht⟩:=Qi (min (f+k) s.size);rw[Hf.out,Ht.out]
 have hfl:f<=s.size:=by have:=Hf.out;omega
 have hft:f<=t:=by have:=Ht.out;omega
 have htl:t<=s.size:=by have:=Ht.out;omega
 have hm1:=Yis q s.size;have hm2:=Yis (f+k) s.size;rw[Hf.out] at hm1;rw[Ht.out] at hm2;have e3:((f+k:Nat):Int)=(f:Int)+(k:Int):=by omega
 rw[e3] at hm2;have e1:((q:Int)*8)/8=(q:Int):=by omega
 have e2:((q:Int)*8).tdiv 8=(q:Int):=by rw[Int.tdiv_eq_ediv_of_nonneg (by omega)];exact e1
 clear hS hN;go_enter Tryz.func97,Tryz.ntmps97;go_wp2_with fail;refine CE.out.mono ?_;rintro e w1 ⟨rfl,hS1,hg1,hz1⟩;have c0:=hS1.cell 0;have c1:=hS1.cell 1;have cf:=hS1.frozen 1;simp at c0 c1;have e4:((q*8:Nat):Int)=(q:Int)*8:=by omega
 (try rw[e4] at c1)
 have HS1:=Qf hS1;clear hS1;go_wp2_with fail
 go_quiet (fail)
 go_wp2_with fail;have H5:=YhE (p':=q*8+8*k) (show SrcAt (w1.drewN nq) P s (q*8) from HS1.out);have e5:((q*8+8*k:Nat):Int)=(q:Int)*8+8*(k:Int):=by omega
 rw[e5] at H5;have d0:=H5.1.cell 0;simp at d0;have H5h:=Qf H5;have Hg1:=Qf hg1;have Hz1:=Qf hz1;have hsz:((w1.drewN nq).setCell ⟨P,1,none⟩ (.int .i64 ((q:Int)*8+8*(k:Int)))).heap.size=w.heap.size:=H5.2.2.trans hz1
 have hgr:w.grownBy ((w1.drewN nq).setCell ⟨P,1,none⟩ (.int .i64 ((q:Int)*8+8*(k:Int)))) (some P):=
  Ky hg1 ⟨H5.2.1.os,H5.2.1.tape,H5.2.1.output,H5.2.1.size,H5.2.1.block⟩
 have Hsz:=Qf hsz;have Hgr:=Qf hgr;have HS5:=Qf H5.1;clear H5 H5h hsz hgr hg1 hz1 Hg1 Hz1 c0 c1 cf HS1 hmin hmax hm1;generalize (w1.drewN nq).setCell ⟨P,1,none⟩ (.int .i64 ((q:Int)*8+8*(k:Int)))=w5 at *
 go_quiet (fail)
 go_wp2_with fail;go_ret;exact⟨rfl,HS5.out,⟨Hgr.out.os,Hgr.out.tape,Hgr.out.output,Hgr.out.size,Hgr.out.block⟩,Hsz.out⟩
def RdAt (w:World) (R P:Nat) (s:ByteArray) (p z most e:Nat):Prop:=
 Blk w R 141 #[.pointer (some ⟨P,0,none⟩),.int .i64 (z:Int),.int .i64 (most:Int),.int .i64 (e:Int)]/\SrcAt w P s p/\R ≠ P
def Rch (R P:Nat) (w w':World):Prop:=
 w'.os=w.os/\w'.tape=w.tape/\w'.output=w.output/\w.heap.size<=w'.heap.size/\∀g,g<w.heap.size->g ≠ R->g ≠ P->w'.heap[g]?=w.heap[g]?
section
variable {R P:Nat} {w w1 w2:World}
theorem Rch.refl (w:World):Rch R P w w:=⟨rfl,rfl,rfl,Qa _,fun _ _ _ _=>rfl⟩
theorem Rch.trans (h:Rch R P w w1) (k:Rch R P w1 w2):Rch R P w w2:=
 ⟨k.1.trans h.1,k.2.1.trans h.2.1,k.2.2.1.trans h.2.2.1,Qe h.2.2.2.1 k.2.2.2.1,fun g hg h1 h2=>(k.2.2.2.2 g (Qb hg h.2.2.2.1) h1 h2).trans (h.2.2.2.2 g hg h1 h2)⟩
theorem Rch.row (h:w.grownBy w1 (some P)):Rch R P w w1:=⟨h.os,h.tape,h.output,h.size,fun g hg _ h2=>h.block g hg (fun e=>h2 (by injection e))⟩
theorem Rch.drewN (n:Nat):Rch R P w (w.drewN n):=⟨rfl,rfl,rfl,Qa _,fun _ _ _ _=>rfl⟩
theorem Rch.set_ (i:Nat) (v:Value):Rch R P w (w.setCell ⟨R,i,none⟩ v):=⟨rfl,rfl,rfl,by simp[World.setCell],fun g _ h1 _=>heap_setCell_other w _ _ _ (fun e=>h1 (by rw[e]))⟩
theorem Rch.old (h:Rch R P w w1) {B:Nat} {w0:World} (hb:Below B w0 w) (h1:B<=w.heap.size) (hR:B<=R) (hP:B<=P):Below B w0 w1:=
 ⟨h.1.trans hb.os,h.2.1.trans hb.tape,h.2.2.1.trans hb.output,Qe hb.size h.2.2.2.1,fun g hg=>(h.2.2.2.2 g (by omega) (by omega) (by omega)).trans (hb.block g hg)⟩
theorem Rch.below {B:Nat} (h:Below B w w1) (hB:w.heap.size<=B):Rch R P w w1:=⟨h.os,h.tape,h.output,h.size,fun g hg _ _=>h.block g (by omega)⟩
theorem Rch.blk (h:Rch R P w w1) {g t:Nat} {cs:Array Value} (hb:Blk w g t cs) (h1:g ≠ R) (h2:g ≠ P):Blk w1 g t cs:=(h.2.2.2.2 g hb.lt h1 h2).trans hb
end
section
variable {w w1:World} {R P p z most e:Nat} {s:ByteArray}
theorem RdAt.drewN (h:RdAt w R P s p z most e) (n:Nat):RdAt (w.drewN n) R P s p z most e:=h
theorem RdAt.below {B:Nat} (h:RdAt w R P s p z most e) (hb:Below B w w1) (hR:R<B) (hP:P<B):RdAt w1 R P s p z most e:=⟨h.1.below hb hR,h.2.1.below hb hP,h.2.2⟩
theorem RdAt.keep (h:RdAt w R P s p z most e) (hb:Below w.heap.size w w1):RdAt w1 R P s p z most e:=h.below hb h.1.lt h.2.1.lt
theorem RdAt.read (h:RdAt w R P s p z most e) {p':Nat} (hS:SrcAt w1 P s p') (hg:w.grownBy w1 (some P)):RdAt w1 R P s p' z most e:=⟨h.1.grown hg (fun e=>h.2.2 (by injection e)),hS,h.2.2⟩
theorem RdAt.err (h:RdAt w R P s p z most e) (x:Nat):RdAt (w.setCell ⟨R,3,none⟩ (.int .i64 (x:Int))) R P s p z most x:=by
 refine⟨?_,Blk.far h.2.1 (Ne.symm h.2.2) _,h.2.2⟩;have:=h.1.set_ 3 (.int .i64 (x:Int))
 simpa using this
theorem RdAt.size (h:RdAt w R P s p z most e) (x:Nat):RdAt (w.setCell ⟨R,1,none⟩ (.int .i64 (x:Int))) R P s p x most e:=by
 refine⟨?_,Blk.far h.2.1 (Ne.symm h.2.2) _,h.2.2⟩;have:=h.1.set_ 1 (.int .i64 (x:Int))
 simpa using this
end
def Yu (e x:Nat):Nat:=if e=0 then x else e
theorem Vo (R P:Nat) (s:ByteArray) (p z most e x:Nat) (w:World) (hR:RdAt w R P s p z most e) :
 Calls Tryz.prog 76 #[.pointer (some ⟨R,0,none⟩),.int .i64 (x:Int)] w fun r w'=>r=.returned (.tuple #[])/\RdAt w' R P s p z most (Yu e x)/\Rch R P w w':=by
 have c3:=hR.1.cell 3;have f3:=hR.1.frozen 3;simp at c3;unfold Yu;by_cases h0:e=0
 . have d0:((e:Int)==0)=true:=by simp;omega
   have HR:=Qf (hR.err x);have HC:Hid (Rch R P w (w.setCell ⟨R,3,none⟩ (.int .i64 (x:Int)))):=Rch.set_ 3 _;rw[if_pos h0];clear hR h0;go_enter Tryz.func76,Tryz.ntmps76;go_wp2_with fail
   (try simp only[Exit.inBlock,Exit.then]);refine bodyPost_end (results_none rfl _ _ _) rfl ?_
   exact⟨rfl,HR.out,HC.out⟩
 have d0:((e:Int)==0)=false:=by simp;omega
 have HR:=Qf hR;rw[if_neg h0];clear hR h0;go_enter Tryz.func76,Tryz.ntmps76;go_wp2_with fail
 (try simp only[Exit.inBlock,Exit.then]);refine bodyPost_end (results_none rfl _ _ _) rfl ?_
 exact⟨rfl,HR.out,Rch.refl _⟩
theorem Kq (s:ByteArray) (p k:Nat) (hk:k<=16):YI s p k<65536:=by
 unfold YI;have h1:num s/2^p%2^k<2^k:=Nat.mod_lt _ (Nat.two_pow_pos k);have h2:2^k<=2^16:=Nat.pow_le_pow_right (by decide) hk;have h3:(2:Nat)^16=65536:=by decide
 omega
def Y5 (s:ByteArray) (p k e:Nat):Nat:=if 8*s.size<p+k then Yu e 6 else e
theorem VP (R P:Nat) (s:ByteArray) (p z most e k:Nat) (hk:k<=16) (hs:s.size<=100000) (hp:p<=1000000) (w:World) (hR:RdAt w R P s p z most e) :
 Calls Tryz.prog 72 #[.pointer (some ⟨R,0,none⟩),.int .i64 (k:Int)] w fun r w'=>r=.returned (.int .i64 (YI s p k:Int))/\RdAt w' R P s (p+k) z most (Y5 s p k e)/\Rch R P w w':=by
 have c0:=hR.1.cell 0;simp at c0;have CT:=Qf (Yaa P s p k (k:Int) (.inr (.inl ⟨rfl,by omega⟩)) (by omega) (by omega) w hR.2.1);have hlt:=Kq s p k hk;obtain⟨v,Hv⟩:=Qi (YI s p k);rw[Hv.out] at CT hlt ⊢;have hw:IntKind.i64.wrap (v:Int)=(v:Int):=IntWalk.i64_in _ (by omega);have HR:=Qf hR;obtain⟨E,HE⟩:=Qi (Y5 s p k e);rw[HE.out];clear hR;go_enter Tryz.func72,Tryz.ntmps72;go_wp2_with fail;refine CT.out.mono ?_;rintro r w1 ⟨rfl,hS1,hg1,_⟩;have HR1:=Qf (HR.out.read hS1 hg1);have HC1:Hid (Rch R P w w1):=Rch.row hg1;have c1:=HR1.out.1.cell 0;simp at c1;have CS:=Jz P s (p+k) (by omega) w1 HR1.out.2.1;obtain⟨b,Hb⟩:=Qi (decide (8*s.size<p+k));rw[Hb.out] at CS;have HCS:=Qf CS;clear CS hS1 hg1 c0;go_wp2_with fail;refine HCS.out.mono ?_;rintro r w2 ⟨rfl,n,rfl⟩;have HR2:=Qf (HR1.out.drewN n);have HC2:Hid (Rch R P w (w1.drewN n)):=HC1.out.trans (Rch.drewN n);clear HCS HR1 HC1 c1
 cases b with
 |true=>
  have hb:8*s.size<p+k:=by simpa using Hb.out
  have CF:=Qf (Vo R P s (p+k) z most e 6 (w1.drewN n) HR2.out);have eE:Yu e 6=E:=by rw[<-HE.out];unfold Y5;rw[if_pos hb]
  rw[eE] at CF;go_wp2_with fail;refine CF.out.mono ?_;rintro r w3 ⟨rfl,hR3,hC3⟩;have HR3:=Qf hR3;have HC3:=Qf (HC2.out.trans hC3);clear hR3 hC3 CF;go_wp2_with fail;go_ret;exact⟨rfl,HR3.out,HC3.out⟩
 |false=>
  have hb:¬8*s.size<p+k:=by simpa using Hb.out
  have eE:E=e:=by rw[<-HE.out];unfold Y5;rw[if_neg hb]
  go_wp2_with fail;go_ret;exact⟨rfl,by rw[eE];exact HR2.out,HC2.out⟩
def growE (most z e:Nat):Nat:=if most<z then Yu e 2 else e
theorem Xz (R P:Nat) (s:ByteArray) (p z most e k:Nat) (hz:z<=1000000000000) (_hm:most<=1000000) (hk:k<=1000000) (w:World) (hR:RdAt w R P s p z most e) :
 Calls Tryz.prog 98 #[.pointer (some ⟨R,0,none⟩),.int .i64 (k:Int)] w fun r w'=>r=.returned (.tuple #[])/\RdAt w' R P s p (z+k) most (growE most (z+k) e)/\Rch R P w w':=by
 have c1:=hR.1.cell 1;have f1:=hR.1.frozen 1;simp at c1;obtain⟨z2,Hz2⟩:=Qi (z+k)
 have e2:(z:Int)+(k:Int)=(z2:Int):=by have:=Hz2.out;omega
 have hz2:z2<=2000000000000:=by have:=Hz2.out;omega
 have hw:IntKind.i64.wrap ((z:Int)+(k:Int))=(z2:Int):=by rw[e2];exact IntWalk.i64_in _ (by omega)
 have HR2:=Qf (hR.size z2);have HC:Hid (Rch R P w (w.setCell ⟨R,1,none⟩ (.int .i64 (z2:Int)))):=Rch.set_ 1 _;rw[Hz2.out];obtain⟨E,HE⟩:=Qi (growE most z2 e);rw[HE.out];clear hR;go_enter Tryz.func98,Tryz.ntmps98;go_wp2_with fail;obtain⟨w1,HW1⟩:=Qi (w.setCell ⟨R,1,none⟩ (.int .i64 (z2:Int)));rw[HW1.out] at HR2 HC ⊢;have g1:=HR2.out.1.cell 1;have g2:=HR2.out.1.cell 2;simp at g1 g2;clear HW1 c1 f1 hw e2;obtain⟨b,Hb⟩:=Qi (decide (most<z2))
 have hb1:decide ((most:Int)<(z2:Int))=b:=by
  rw[<-Hb.out];by_cases h:most<z2
  . rw[decide_eq_true h,decide_eq_true (by omega)]
  rw[decide_eq_false h,decide_eq_false (by omega)]
 cases b with
 |true=>
  have hlt:most<z2:=by simpa using Hb.out
  have eE:Yu e 2=E:=by rw[<-HE.out];unfold growE;rw[if_pos hlt]
  go_wp2_with fail
  go_quiet (fail)
  have CF:=Qf (fun W hR=>Vo R P s p z2 most e 2 W hR);rw[eE] at CF;go_wp2_with fail;refine(CF.out _ (HR2.out.drewN _)).mono ?_;rintro r w3 ⟨rfl,hR3,hC3⟩;have HR3:=Qf hR3;have HC3:=Qf (HC.out.trans ((Rch.drewN _).trans hC3));clear hR3 hC3 CF;go_wp2_with fail
  (try simp only[Exit.inBlock,Exit.then]);refine bodyPost_end (results_none rfl _ _ _) rfl ?_
  exact⟨rfl,HR3.out,HC3.out⟩
 |false=>
  have hlt:¬most<z2:=by simpa using Hb.out
  have eE:E=e:=by rw[<-HE.out];unfold growE;rw[if_neg hlt]
  go_wp2_with fail
  go_quiet (fail)
  go_wp2_with fail
  (try simp only[Exit.inBlock,Exit.then]);refine bodyPost_end (results_none rfl _ _ _) rfl ?_
  exact⟨rfl,by rw[eE];exact HR2.out,HC.out.trans (Rch.drewN _)⟩
theorem YfK (R P:Nat) (s:ByteArray) (p z most e:Nat) (he:e ≠ 0) (t:Value) (w:World) (hR:RdAt w R P s p z most e) :
 Calls Tryz.prog 100 #[.pointer (some ⟨R,0,none⟩),t] w fun r w'=>r=.returned (.int .i64 0)/\RdAt w' R P s p z most e/\Rch R P w w':=by
 have c3:=hR.1.cell 3;simp at c3;have d0:((e:Int)!=0)=true:=by simp;omega
 have HR:=Qf hR;clear hR;go_enter Tryz.func100,Tryz.ntmps100;go_wp2_with fail;go_ret;exact⟨rfl,HR.out,Rch.refl _⟩
theorem Yhw (L:Nat->Nat) (n:Nat) (hL:∀s,XR L n s->L s<=15) (hn:n<=400) (T g N cap:Nat) (B:Nat->Nat->Int) (pv pn:Nat->Nat) (hG:Grown (YD L n) L (XR L n) B N pv pn)
 (R P:Nat) (s:ByteArray) (p z most:Nat) (hs:s.size<=100000) (hp:p<=1000000) (hTP:T ≠ P) (hgP:g ≠ P) (w:World) (hA:TreeAt w T g N cap B) (hR:RdAt w R P s p z most 0) :
 Calls Tryz.prog 100 #[.pointer (some ⟨R,0,none⟩),.pointer (some ⟨T,0,none⟩)] w fun r w'=>∃sym err taken:Nat,r=.returned (.int .i64 (sym:Int))/\
  NextOut (YD L n) L (XR L n) (num s/2^p) (8*s.size) p sym err taken/\taken<=16/\RdAt w' R P s (p+taken) z most err/\Rch R P w w':=by
 have CN:=Qf (Yks (YD L n) L (XR L n) T g N cap B pv pn hG hL (fun s h=>by have:=h.1;omega) P s p hs hp hTP hgP w hA hR.2.1);have c0:=hR.1.cell 0;have c3:=hR.1.cell 3;simp at c0 c3;have HR:=Qf hR;clear hR hA hG;go_enter Tryz.func100,Tryz.ntmps100;go_wp2_with fail;refine CN.out.mono ?_;rintro r w1 ⟨sym,err,taken,rfl,hN,ht,hS1,hg1,_⟩;have HN:=Qf hN;have HR1:=Qf (HR.out.read hS1 hg1);have HC1:Hid (Rch R P w w1):=Rch.row hg1;have CF:=Qf (Vo R P s (p+taken) z most 0 err w1 HR1.out);clear hN hS1 hg1 c0 c3 CN;go_wp2_with fail;refine CF.out.mono ?_;rintro r w2 ⟨rfl,hR2,hC2⟩;have HR2:=Qf hR2;have HC2:=Qf (HC1.out.trans hC2);clear hR2 hC2 CF;go_wp2_with fail;go_ret;exact⟨sym,err,taken,rfl,HN.out,ht,HR2.out,HC2.out⟩
theorem UM (R P:Nat) (s:ByteArray) (p z most e:Nat) (he:e ≠ 0) (v:Value) (w:World) (hR:RdAt w R P s p z most e) :
 Calls Tryz.prog 99 #[.pointer (some ⟨R,0,none⟩),v] w fun r w'=>r=.returned (.pointer none)/\RdAt w' R P s p z most e/\Rch R P w w':=by
 have c3:=hR.1.cell 3;simp at c3;have d0:((e:Int)!=0)=true:=by simp;omega
 have HR:=Qf hR;clear hR;go_enter Tryz.func99,Tryz.ntmps99;go_wp2_with fail;go_ret;exact⟨rfl,HR.out,Rch.refl _⟩
theorem Yag (a:Option Addr) (n cap:Nat) (m:Nat->Int) (hn:n<=320) (hm:∀i,i<n->0<=m i/\m i<=15) (R P:Nat) (s:ByteArray) (p z most:Nat) (w:World) (hr:IRow w a n m) (hR:RdAt w R P s p z most 0) :
 Calls Tryz.prog 99 #[.pointer (some ⟨R,0,none⟩),.slice a n cap] w fun r w'=>Rch R P w w'/\
  (
   (¬Fits (parts (lens m) n) (YG (lens m) n)/\r=.returned (.pointer none)/\RdAt w' R P s p z most 3)\/
   (Fits (parts (lens m) n) (YG (lens m) n)/\∃(T g N cap:Nat) (B:Nat->Nat->Int) (pv pn:Nat->Nat),r=.returned (.pointer (some ⟨T,0,none⟩))/\w.heap.size<=T/\w.heap.size<=g/\TreeAt w' T g N cap B/\
    Grown (YD (lens m) n) (lens m) (XR (lens m) n) B N pv pn/\RdAt w' R P s p z most 0)):=by
 have CP:=Qf (YhY a n cap m (by omega) w hr);have c3:=hR.1.cell 3;simp at c3;have HR:=Qf hR;have Hm:=Qf hm;clear hR hr hm;go_enter Tryz.func99,Tryz.ntmps99;go_wp2_with fail;refine CP.out.mono ?_;intro r w1 h;obtain⟨hb,⟨h1,rfl⟩|⟨h1,⟨i,h2,h3⟩,rfl⟩|⟨h1,h2,h3,rfl⟩|⟨h1,h2,h3,T,g,N,cp,B,pv,pn,rfl,hT,hg,hA,hN,hG⟩⟩:=h
 . omega
 . exact absurd (Hm.out i h2) h3
 . have HR1:=Qf (HR.out.keep hb)
   have HC1:Hid (Rch R P w w1):=Rch.below hb (Qa _);have H3:=Qf h3;have CF:=Qf (Vo R P s p z most 0 3 w1 HR1.out);clear hb h1 h2 h3 CP c3;unfold badT;go_wp2_with fail;refine CF.out.mono ?_;rintro r w2 ⟨rfl,hR2,hC2⟩;have HR2:=Qf hR2;have HC2:=Qf (HC1.out.trans hC2);clear hR2 hC2 CF;go_wp2_with fail;go_ret;exact⟨HC2.out,.inl ⟨H3.out,rfl,HR2.out⟩⟩
 have HR1:=Qf (HR.out.keep hb);have HC1:Hid (Rch R P w w1):=Rch.below hb (Qa _);have H3:=Qf h3;have HA:=Qf hA;have HG:=Qf hG;clear hb h1 h2 h3 CP c3 hA hG;go_wp2_with fail;go_ret;exact⟨HC1.out,.inr ⟨H3.out,T,g,N,cp,B,pv,pn,rfl,hT,hg,HA.out,HG.out,HR1.out⟩⟩
theorem YbB (b:Nat) (hb:b<65536):65535 ^^^ b=65535-b:=by
 apply Nat.eq_of_testBit_eq;intro i;rw[Nat.testBit_xor,show(65535:Nat)-b=2^16-(b+1) by omega,Nat.testBit_two_pow_sub_succ (by omega),show(65535:Nat)=2^16-1 by decide,Nat.testBit_two_pow_sub_one];by_cases h:i<16
 . simp[h]
 have:b.testBit i=false:=Nat.testBit_lt_two_pow (Qb hb (by rw[show(65536:Nat)=2^16 by decide];exact Nat.pow_le_pow_right (by decide) (by omega)));simp[h,this]
theorem YnA (a b:Nat) (_ha:a<65536) (hb:b<65536):a ^^^ b=65535 ↔ a+b=65535:=by
 constructor
 . intro h
   have e:a=65535 ^^^ b:=by rw[<-h,Nat.xor_assoc,Nat.xor_self,Nat.xor_zero]
   rw[YbB b hb] at e;omega
 intro h;have e:a=65535-b:=by omega
 rw[e,<-YbB b hb,Nat.xor_assoc,Nat.xor_self,Nat.xor_zero]
theorem Yda (a b:Nat) (ha:a<65536) (hb:b<65536):bits .xor .i64 (a:Int) (b:Int)=((a ^^^ b:Nat):Int):=by
 have h:=Nat.xor_lt_two_pow (n:=16) (x:=a) (y:=b) (by simpa using ha) (by simpa using hb);have h2:(2:Nat)^16=65536:=by decide
 show IntKind.i64.wrap ((BitVec.ofInt 64 (a:Int) ^^^ BitVec.ofInt 64 (b:Int)).toNat:Int)=_;rw[BitVec.toNat_xor,ofInt_u64 a (by omega),ofInt_u64 b (by omega),IntKind.wrap_i64];omega
def stoF (s:ByteArray) (p:Nat):Nat:=min ((p+7)/8) s.size
def stoT (s:ByteArray) (p k:Nat):Nat:=min (stoF s p+k) s.size
set_option maxHeartbeats 8000000 in
theorem Ya0 (R P:Nat) (s:ByteArray) (p z most e p0 v1 e1 v2 e2 e3:Nat) (hs:s.size<=100000) (hp:p<=900000) (hz:z<=1000000) (hm:most<=1000000)
 (hp0:(p+7)/8*8=p0) (hv1:YI s p0 16=v1) (he1:Y5 s p0 16 e=e1) (hv2:YI s (p0+16) 16=v2) (he2:Y5 s (p0+16) 16 e1=e2) (he3:(if v1 ^^^ v2=65535 then e2 else Yu e2 3)=e3)
 (w:World) (hR:RdAt w R P s p z most e) :
 Calls Tryz.prog 73 #[.pointer (some ⟨R,0,none⟩)] w fun r w'=>Rch R P w w'/\
  (
   (e3 ≠ 0/\r=.returned (.string ⟨#[]⟩)/\RdAt w' R P s (p0+16+16) z most e3)\/
   (e3=0/\r=.returned (.string (s.extract (stoF s (p0+16+16)) (stoT s (p0+16+16) v1)))/\RdAt w' R P s ((p0+16+16+7)/8*8+8*v1) (z+v1) most (growE most (z+v1) (if stoT s (p0+16+16) v1-stoF s (p0+16+16)<v1 then 6 else 0)))):=by
 have hp0l:p0<=900007:=by omega
 have hv1l:v1<65536:=by rw[<-hv1];exact Kq s p0 16 (by decide)
 have hv2l:v2<65536:=by rw[<-hv2];exact Kq s (p0+16) 16 (by decide)
 have hx:=Yda v1 v2 hv1l hv2l;obtain⟨x,Hx⟩:=Qi (v1 ^^^ v2);rw[Hx.out] at hx he3;have c0:=hR.1.cell 0;simp at c0;have CE:=Yab P s p (by omega) w hR.2.1;rw[hp0] at CE;have HCE:=Qf CE;have CB1:=fun W hR=>VP R P s p0 z most e 16 (by decide) hs (by omega) W hR;rw[hv1,he1] at CB1;have CB2:=fun W hR=>VP R P s (p0+16) z most e1 16 (by decide) hs (by omega) W hR;rw[hv2,he2] at CB2;have H1:=Qf CB1;have H2:=Qf CB2;have HR:=Qf hR;have He3:=Qf he3;obtain⟨f,Hf⟩:=Qi (stoF s (p0+16+16));obtain⟨t,Ht⟩:=Qi (stoT s (p0+16+16) v1);obtain⟨p3,Hp3⟩:=Qi (p0+16+16)
 have hp3:p3<=900039:=by have:=Hp3.out;omega
 have HT:Hid (∀W,RdAt W R P s p3 z most 0->Calls Tryz.prog 97 #[.pointer (some ⟨P,0,none⟩),.int .i64 (v1:Int)] W fun r w'=>r=.returned (.string (s.extract f t))/\RdAt w' R P s ((p3+7)/8*8+8*v1) z most 0/\Rch R P W w'):=by
  intro W hW;have C:=YdF P s p3 v1 (v1:Int) (.inr (.inl ⟨rfl,by omega⟩)) (by omega) (by omega) W hW.2.1;have ef:min ((p3+7)/8) s.size=f:=by rw[<-Hf.out,Hp3.out];rfl
  have et:min (f+v1) s.size=t:=by rw[<-Ht.out,Hp3.out];unfold stoT;rw[show stoF s p3=f by rw[<-Hf.out,Hp3.out]]
  rw[ef,et] at C;exact C.mono fun r w' ⟨a1,a2,a3,_⟩=>⟨a1,hW.read a2 a3,Rch.row a3⟩
 have htf:t-f<=v1/\(s.extract f t).size=t-f:=by
  have ef:min ((p3+7)/8) s.size=f:=by rw[<-Hf.out,Hp3.out];rfl
  have et:min (f+v1) s.size=t:=by rw[<-Ht.out,Hp3.out];unfold stoT;rw[show stoF s p3=f by rw[<-Hf.out,Hp3.out]]
  rw[ByteArray.size_extract];omega
 obtain⟨tx,Htx⟩:=Qi (s.extract f t);obtain⟨nf,Hnf⟩:=Qi (t-f);rw[Htx.out] at htf HT;rw[Hnf.out] at htf;obtain⟨hnf,hsz⟩:=htf;obtain⟨E5,HE5⟩:=Qi (growE most (z+v1) (if nf<v1 then 6 else 0));obtain⟨p5,Hp5⟩:=Qi ((p3+7)/8*8+8*v1);rw[Hp5.out] at HT;rw[Hf.out,Ht.out,Hp3.out,Htx.out,Hnf.out,HE5.out,Hp5.out];rw[Hp3.out] at H2;clear CE CB1 CB2 hR he3 hv1 hv2 he1 he2 hp0;go_enter Tryz.func73,Tryz.ntmps73;go_wp2_with fail;refine HCE.out.mono ?_;rintro r w1 ⟨rfl,hS1,hg1,_⟩;have HR1:=Qf (HR.out.read hS1 hg1);have HC1:Hid (Rch R P w w1):=Rch.row hg1;clear hS1 hg1 c0;go_wp2_with fail;refine(H1.out _ HR1.out).mono ?_;rintro r w2 ⟨rfl,hR2,hC2⟩;have HR2:=Qf hR2;have HC2:=Qf (HC1.out.trans hC2);clear hR2 hC2 HR1 HC1;go_wp2_with fail;refine(H2.out _ HR2.out).mono ?_;rintro r w3 ⟨rfl,hR3,hC3⟩;have HR3:=Qf hR3;have HC3:=Qf (HC2.out.trans hC3);clear hR3 hC3 HR2 HC2;by_cases hX:x=65535
 . have dx:((x:Int)!=65535)=false:=by simp;omega
   have e3e:e2=e3:=by have:=He3.out;rwa [if_pos hX] at this
   subst e3e;have c3:=HR3.out.1.cell 3;have c0:=HR3.out.1.cell 0;simp at c3 c0;by_cases h0:e2=0
   . subst h0
     have dt:decide ((nf:Int)<(v1:Int))=decide (nf<v1):=by
      by_cases h:nf<v1
      . rw[decide_eq_true h,decide_eq_true (by omega)]
      rw[decide_eq_false h,decide_eq_false (by omega)]
     go_wp2_with fail;refine(HT.out _ HR3.out).mono ?_;rintro r w4 ⟨rfl,hR4,hC4⟩;have HR4:=Qf hR4;have HC4:=Qf (HC3.out.trans hC4);clear hR4 hC4 HR3 HC3 c3 c0;by_cases hl:nf<v1
     . obtain⟨dl,dl2⟩:=Qj (show nf<v1 by omega)
       have E5e:growE most (z+v1) 6=E5:=by have:=HE5.out;rwa [if_pos hl] at this
       clear dt;go_wp2_with fail;refine(Vo R P s p5 z most 0 6 w4 HR4.out).mono ?_;rintro r w5 ⟨rfl,hR5,hC5⟩;have HR5:Hid (RdAt w5 R P s p5 z most 6):=hR5;have HC5:=Qf (HC4.out.trans hC5);clear hR5 hC5 HR4 HC4;go_wp2_with fail;refine(Xz R P s p5 z most 6 v1 (by omega) hm (by omega) w5 HR5.out).mono ?_;rintro r w6 ⟨rfl,hR6,hC6⟩;rw[E5e] at hR6;have HR6:=Qf hR6;have HC6:=Qf (HC5.out.trans hC6);clear hR6 hC6 HR5 HC5;go_wp2_with fail;go_ret
       first|exact⟨HC6.out,.inr ⟨rfl,rfl,HR6.out⟩⟩|exact⟨HC6.out,rfl,HR6.out⟩
     obtain⟨dl,dl2⟩:=Ql (show v1<=nf by omega)
     have E5e:growE most (z+v1) 0=E5:=by have:=HE5.out;rwa [if_neg hl] at this
     clear dt;go_wp2_with fail;refine(Xz R P s p5 z most 0 v1 (by omega) hm (by omega) w4 HR4.out).mono ?_;rintro r w6 ⟨rfl,hR6,hC6⟩;rw[E5e] at hR6;have HR6:=Qf hR6;have HC6:=Qf (HC4.out.trans hC6);clear hR6 hC6 HR4 HC4;go_wp2_with fail;go_ret
     first|exact⟨HC6.out,.inr ⟨rfl,rfl,HR6.out⟩⟩|exact⟨HC6.out,rfl,HR6.out⟩
   have d0:((e2:Int)!=0)=true:=by simp;omega
   go_wp2_with fail;go_ret;exact⟨HC3.out,.inl ⟨h0,rfl,HR3.out⟩⟩
 have dx:((x:Int)!=65535)=true:=by simp;omega
 have e3e:Yu e2 3=e3:=by have:=He3.out;rwa [if_neg hX] at this
 have h0:e3 ≠ 0:=by rw[<-e3e];unfold Yu;split<;>omega
 have d0:((e3:Int)!=0)=true:=by simp;omega
 go_wp2_with fail;refine(Vo R P s p3 z most e2 3 w3 HR3.out).mono ?_;rintro r w4 ⟨rfl,hR4,hC4⟩;rw[e3e] at hR4;have c3:=hR4.1.cell 3;simp at c3;have HR4:=Qf hR4;have HC4:=Qf (HC3.out.trans hC4);clear hR4 hC4 HR3 HC3;go_wp2_with fail;go_ret;exact⟨HC4.out,.inl ⟨h0,rfl,HR4.out⟩⟩
def sg (s:ByteArray) (p z:Nat):Sg:=⟨num s/2^p,8*s.size-p,z⟩
theorem Ycj (s:ByteArray) (p z k:Nat) (hp:p+k<=8*s.size):Yy k (sg s p z)=.ok (YI s p k,sg s (p+k) z):=by
 unfold Yy sg;have h:¬8*s.size-p<k:=by omega
 rw[if_neg h];unfold YI;have e1:num s/2^p/2^k=num s/2^(p+k):=by rw[Nat.div_div_eq_div_mul,<-Nat.pow_add]
 have e2:8*s.size-p-k=8*s.size-(p+k):=by omega
 rw[e1,e2]
theorem XA (s:ByteArray) (p z k:Nat) (hp:p<=8*s.size) (hk:8*s.size<p+k):Yy k (sg s p z)=.error 6:=by
 unfold Yy sg;have h:8*s.size-p<k:=by omega
 rw[if_pos h]
theorem YiY (s:ByteArray) (p z:Nat) (hp:p<=8*s.size):Ycb (sg s p z)=sg s ((p+7)/8*8) z/\(p+7)/8*8<=8*s.size:=by
 refine⟨?_,by omega⟩;unfold Ycb sg;have e0:(8*s.size-p)%8=(p+7)/8*8-p:=by omega
 have e1:num s/2^p/2^((p+7)/8*8-p)=num s/2^((p+7)/8*8):=by
  rw[Nat.div_div_eq_div_mul,<-Nat.pow_add,show p+((p+7)/8*8-p)=(p+7)/8*8 by omega]
 have e2:8*s.size-p-((p+7)/8*8-p)=8*s.size-(p+7)/8*8:=by omega
 simp only[e0];rw[e1,e2]
theorem Yjg (s:ByteArray) (k:Nat):∀q,q+k<=s.size->VV (num s/2^(8*q)) k=((s.data.toList).drop q).take k:=by
 induction k with
 |zero=>intro q _;rfl
 |succ k ih=>
  intro q hq;have hlt:q<s.size:=by omega
  have h1:=YbW s q hlt
  have e1:num s/2^(8*q)%256=(s[q]).toNat:=by
   rw[Nat.pow_mul,show(2:Nat)^8=256 by decide];exact h1
  have e2:num s/2^(8*q)/256=num s/2^(8*(q+1)):=by
   rw[Nat.div_div_eq_div_mul,show(256:Nat)=2^8 by decide,<-Nat.pow_add]
   congr 2
  show UInt8.ofNat (num s/2^(8*q)%256)::VV (num s/2^(8*q)/256) k=_;have hd:=List.drop_eq_getElem_cons (l:=s.data.toList) (i:=q) (by simpa using hlt);rw[e1,e2,ih (q+1) (by omega),hd,List.take_succ_cons]
  congr 1
  simp;rfl
theorem Ydh (s:ByteArray) (a b:Nat):s.extract a b=⟨(((s.data.toList).drop a).take (b-a)).toArray⟩:=by
 apply ByteArray.ext;rw[ByteArray.data_extract];apply Array.ext';rw[Array.toList_extract,List.extract_eq_take_drop]
theorem YfN (R P:Nat) (s:ByteArray) (p z most e:Nat) (he:e ≠ 0) (hs:s.size<=100000) (hp:p<=900000) (hz:z<=1000000) (hm:most<=1000000) (w:World) (hR:RdAt w R P s p z most e) :
 Calls Tryz.prog 73 #[.pointer (some ⟨R,0,none⟩)] w fun r w'=>Rch R P w w'/\(∃t,r=.returned (.string t))/\∃p',RdAt w' R P s p' z most e:=by
 have h1:∀a k,Y5 s a k e=e:=fun a k=>by unfold Y5 Yu;split<;>first|rfl|rw[if_neg he]
 refine(Ya0 R P s p z most e _ _ _ _ _ _ hs hp hz hm rfl rfl rfl rfl rfl rfl w hR).mono ?_;rintro r w' ⟨hc,hh⟩;simp only[h1] at hh
 have h2:∀a:Nat,(if a=65535 then e else Yu e 3)=e:=fun a=>by split<;>simp[Yu,he]
 simp only[h2] at hh;rcases hh with⟨_,a2,a3⟩|⟨a1,_⟩
 . exact⟨hc,⟨_,a2⟩,_,a3⟩
 exact absurd a1 he
def Yk9 (w':World) (R P:Nat) (s:ByteArray) (most:Nat) {α:Type} (res:Rs α) (val:α->Prop):Prop:=
 (∃e p z,res=.error e/\e ≠ 0/\RdAt w' R P s p z most e)\/(∃a p z,res=.ok (a,sg s p z)/\p<=8*s.size/\z<=most/\RdAt w' R P s p z most 0/\val a)
theorem YjT (R P:Nat) (s:ByteArray) (p z most:Nat) (hs:s.size<=100000) (hp:p<=8*s.size) (hz:z<=most) (hm:most<=1000000) (w:World) (hR:RdAt w R P s p z most 0) :
 Calls Tryz.prog 73 #[.pointer (some ⟨R,0,none⟩)] w fun r w'=>Rch R P w w'/\(∃t,r=.returned (.string t))/\Yk9 w' R P s most (Vz most (sg s p z)) (fun l=>r=.returned (.string ⟨l.toArray⟩)):=by
 refine(Ya0 R P s p z most 0 _ _ _ _ _ _ hs (by omega) (by omega) hm rfl rfl rfl rfl rfl rfl w hR).mono ?_;rintro r w' ⟨hc,hh⟩;obtain⟨he,hp0⟩:=YiY s p z hp;obtain⟨p0,Hp0⟩:∃p0,(p+7)/8*8=p0:=⟨_,rfl⟩;have hp8:p0%8=0:=by omega
 simp only[Hp0] at hh he hp0;unfold Vz;rw[he];by_cases h1:8*s.size<p0+16
 . rw[XA s p0 z 16 hp0 h1]
   have e1:Y5 s p0 16 0=6:=by unfold Y5;rw[if_pos h1];rfl
   have e2:Y5 s (p0+16) 16 6=6:=by unfold Y5 Yu;split<;>rfl
   simp only[e1,e2] at hh
   have h2:∀a:Nat,(if a=65535 then 6 else Yu 6 3)=6:=fun a=>by split<;>rfl
   simp only[h2] at hh;rcases hh with⟨_,a2,a3⟩|⟨a1,_⟩
   . exact⟨hc,⟨_,a2⟩,.inl ⟨6,_,_,rfl,by decide,a3⟩⟩
   exact absurd a1 (by decide)
 rw[Ycj s p0 z 16 (by omega),Yj];have e1:Y5 s p0 16 0=0:=by unfold Y5;rw[if_neg h1]
 simp only[e1] at hh;by_cases h2:8*s.size<p0+16+16
 . rw[XA s (p0+16) z 16 (by omega) h2]
   have e2:Y5 s (p0+16) 16 0=6:=by unfold Y5;rw[if_pos h2];rfl
   simp only[e2] at hh
   have h3:∀a:Nat,(if a=65535 then 6 else Yu 6 3)=6:=fun a=>by split<;>rfl
   simp only[h3] at hh;rcases hh with⟨_,a2,a3⟩|⟨a1,_⟩
   . exact⟨hc,⟨_,a2⟩,.inl ⟨6,_,_,rfl,by decide,a3⟩⟩
   exact absurd a1 (by decide)
 rw[Ycj s (p0+16) z 16 (by omega),Yj];have e2:Y5 s (p0+16) 16 0=0:=by unfold Y5;rw[if_neg h2]
 simp only[e2] at hh;have hv1l:=Kq s p0 16 (by decide);have hv2l:=Kq s (p0+16) 16 (by decide);obtain⟨v1,Hv1⟩:∃v,YI s p0 16=v:=⟨_,rfl⟩;obtain⟨v2,Hv2⟩:∃v,YI s (p0+16) 16=v:=⟨_,rfl⟩;simp only[Hv1,Hv2] at hh hv1l hv2l ⊢;have hx:=YnA v1 v2 hv1l hv2l;by_cases h3:v1 ^^^ v2=65535
 . have h3b:¬(v1+v2 ≠ 65535):=fun h=>h (hx.1 h3)
   rw[if_neg h3b];rw[if_pos h3] at hh;rcases hh with⟨a1,_⟩|⟨_,a2,a3⟩
   . exact absurd rfl a1
   refine⟨hc,⟨_,a2⟩,?_⟩;have ep:(p0+16+16+7)/8*8=p0+16+16:=by omega
   obtain⟨q,hq⟩:∃q,p0+16+16=8*q:=⟨(p0+16+16)/8,by omega⟩;have hqs:q<=s.size:=by omega
   rw[hq] at a2 a3 ep h2 ⊢;rw[ep] at a3;have ef:stoF s (8*q)=q:=by unfold stoF;omega
   have et:stoT s (8*q) v1=min (q+v1) s.size:=by unfold stoT;rw[ef]
   rw[ef,et] at a2 a3;by_cases h4:s.size<q+v1
   . have h5:(sg s (8*q) z).n<8*v1:=by show 8*s.size-8*q<8*v1;omega
     rw[if_pos h5];have e3:min (q+v1) s.size-q<v1:=(by omega);rw[if_pos e3] at a3;have e4:growE most (z+v1) 6=6:=(by unfold growE Yu;split<;>rfl);rw[e4] at a3;exact .inl ⟨6,_,_,rfl,by decide,a3⟩
   have h5:¬(sg s (8*q) z).n<8*v1:=by show ¬8*s.size-8*q<8*v1;omega
   rw[if_neg h5];have e3:¬min (q+v1) s.size-q<v1:=by omega
   rw[if_neg e3] at a3;unfold VY;have e5:(sg s (8*q) z).out=z:=rfl;simp only[e5];by_cases h6:most<z+v1
   . rw[if_pos h6,Yhu]
     have e4:growE most (z+v1) 0=2:=(by unfold growE;rw[if_pos h6];rfl);rw[e4] at a3;exact .inl ⟨2,_,_,rfl,by decide,a3⟩
   rw[if_neg h6,Yj];have e4:growE most (z+v1) 0=0:=by unfold growE;rw[if_neg h6]
   rw[e4] at a3;refine .inr ⟨VV (sg s (8*q) z).X v1,8*q+8*v1,z+v1,?_,by omega,by omega,a3,?_⟩
   . have e7:(sg s (8*q) z).X=num s/2^(8*q):=rfl
     have e8:(sg s (8*q) z).n=8*s.size-8*q:=rfl;unfold sg
     congr 2
     . simp only[Sg.mk.injEq]
       refine⟨?_,by omega,trivial⟩;rw[Nat.div_div_eq_div_mul,<-Nat.pow_add]
   have e7:(sg s (8*q) z).X=num s/2^(8*q):=rfl;rw[a2,Ydh,e7,Yjg s v1 q (by omega),show min (q+v1) s.size-q=v1 by omega]
 have h3b:v1+v2 ≠ 65535:=fun h=>h3 (hx.2 h);rw[if_pos h3b];rw[if_neg h3] at hh;rcases hh with⟨_,a2,a3⟩|⟨a1,_⟩
 . exact⟨hc,⟨_,a2⟩,.inl ⟨3,_,_,rfl,by decide,a3⟩⟩
 exact absurd a1 (by decide)
theorem Yhx {L:Nat->Nat} {c:Nat} (h15:∀i,i<c->L i<=15) {σ:Sg} {a t:Nat} (h:NextOut (YD L c) L (XR L c) σ.X σ.n 0 a 0 t):symM L c σ=.ok (a,⟨σ.X/2^t,σ.n-t,σ.out⟩):=by
 unfold symM;rw[YbY L c h15 h];rfl
theorem YfL {L:Nat->Nat} {c:Nat} (h15:∀i,i<c->L i<=15) {σ:Sg} {a e t:Nat} (he:e ≠ 0) (h:NextOut (YD L c) L (XR L c) σ.X σ.n 0 a e t):symM L c σ=.error e:=by
 unfold symM;rw[YbY L c h15 h,if_neg he]
theorem YgY (k:Nat):∀X r,8*k<=r->VV (X%2^r) k=VV X k:=by
 induction k with
 |zero=>intro X r _;rfl
 |succ k ih=>
  intro X r hr;obtain⟨q,rfl⟩:∃q,r=8+q:=⟨r-8,by omega⟩
  have e1:X%2^(8+q)%256=X%256:=by
   rw[Nat.pow_add];exact Nat.mod_mod_of_dvd _ ⟨2^q,rfl⟩
  have e2:X%2^(8+q)/256=X/256%2^q:=by
   rw[Nat.pow_add,show(2:Nat)^8=256 by decide,Nat.mod_mul_right_div_self]
  show UInt8.ofNat (X%2^(8+q)%256)::VV (X%2^(8+q)/256) k=UInt8.ofNat (X%256)::VV (X/256) k;rw[e1,e2,ih _ _ (by omega)]
noncomputable def Kl (u:ByteArray) (most:Nat):Rs (List Bk):=VJ most (8*u.size+1) (sg u 0 0) []
theorem Yb6 {u:ByteArray} {most:Nat} {bs:List Bk} {σ:Sg} (h:Kl u most=.ok (bs,σ)):Uq 0 bs/\σ.out=X8 bs/\σ.out<=most/\(X5 [] bs).length=σ.out:=by
 obtain⟨c,h1,h2,h3,h4⟩:=Yg4 _ h (Nat.zero_le _);rw[List.nil_append] at h1;subst h1;have h5:σ.out=X8 bs:=by rw[h3];exact Nat.zero_add _
 exact⟨h2,h5,h4,by rw[YiF,h5];exact Nat.zero_add _⟩
theorem KC {most:Nat}:∀(f:Nat) {σ σ':Sg} {bs bs':List Bk},VJ most f σ bs=.ok (bs',σ')->bs'.length+σ'.n<=bs.length+σ.n:=by
 intro f
 induction f with
 |zero=>intro σ σ' bs bs' h;cases h
 |succ f ih=>
  intro σ σ' bs bs' h;obtain⟨r,σ1,h1,h⟩:=Yr (x:=Xx most σ) h;have hl:=Yem h1;split at h
  . have:=ih h
    rw[List.length_append] at this;have e:[r.2].length=1:=rfl;omega
  injection h with h;injection h with h2 h;subst h;subst h2;rw[List.length_append];have e:[r.2].length=1:=rfl;omega
theorem YfB (S:List Tok):∀n,Xk n S->S.length<=Vh S:=by
 induction S with
 |nil=>intro n _;exact Qa _
 |cons t r ih=>
  intro n h;have h1:=ih _ h.2
  have h2:1<=tlen t:=by
   unfold tlen;split
   . exact Qa _
   rcases h.1 with h|⟨h,_⟩
   . contradiction
   omega
  show r.length+1<=tlen t+Vh r;omega
theorem Ybw (bs:List Bk):∀n,Uq n bs->∀b ∈ bs,b.toks.length<=X8 bs:=by
 induction bs with
 |nil=>intro n _ b hb;cases hb
 |cons x r ih=>
  intro n h b hb;show _<=(x.bytes.length+Vh x.toks)+X8 r;rcases List.mem_cons.1 hb with rfl|hb
  . have:=YfB _ _ h.1
    omega
  have:=ih _ h.2 b hb;omega
def half (c:Nat):Nat:=if c%2=1 then c/2 ^^^ 0xedb88320 else c/2
def ent (b:Nat):Nat:=half (half (half (half (half (half (half (half b)))))))
def Yx (f:Nat->Nat):Array Value:=((List.range 256).map fun i=>.int .u32 (f i:Int)).toArray
theorem Vr (f:Nat->Nat) (j:Nat) (hj:j<256):(Yx f)[j]?=some (.int .u32 (f j:Int)):=by
 simp[Yx,hj]
theorem Us (f:Nat->Nat) (j v:Nat):(Yx f).setIfInBounds j (.int .u32 (v:Int))=Yx (fun i=>if i=j then v else f i):=by
 apply Array.ext_getElem?;intro i;rw[Array.getElem?_setIfInBounds];by_cases hi:i<256
 . rw[Vr _ i hi,Vr _ i hi]
   by_cases e:j=i
   . subst e;simp[Yx,hi]
   have e':¬i=j:=fun h=>e h.symm;simp[e,e']
 have h1:∀g,(Yx g)[i]?=none:=fun g=>by simp[Yx,hi]
 rw[h1,h1];by_cases e:j=i
 . subst e;simp[Yx,hi]
 simp[e]
theorem Ylc (w:World):(zeroValue 108).run Tryz.prog w=.ok (.agg (Yx fun _=>0)) w:=by kernel_rfl
def pw:Nat->Nat
 |0=>0
 |m+1=>2^m
def low (i:Nat) (j:Nat):Nat:=if (j=128\/j=64\/j=32\/j=16\/j=8\/j=4\/j=2\/j=1)/\i<j then ent j else 0
theorem YkG (x:Nat) (hx:x<4294967296):bits .xor .u32 ((x:Int)/2) ((x:Int)%2*3988292384)=((half x:Nat):Int):=by
 have h1:(x:Int)%2*3988292384=((x%2*3988292384:Nat):Int):=by omega
 have h2:(x:Int)/2=((x/2:Nat):Int):=by omega
 rw[h1,h2,u32_xor_nat _ _ (by omega) (by omega)];unfold half;split
 . rename_i h;rw[h]
 rename_i h;have:x%2=0:=by omega
 rw[this];simp
set_option maxRecDepth 100000
theorem Ydi:∀b,b<256->ent b<4294967296:=by decide +kernel
theorem YkO:∀m,m<7->half (ent (pw (m+2)))=ent (pw (m+1)):=by decide +kernel
theorem Yky (m:Nat) (h:m<7):low (pw (m+1)) (pw (m+2))=ent (pw (m+2)):=by
 match m,h with
 |0,_=>rfl
 |1,_=>rfl
 |2,_=>rfl
 |3,_=>rfl
 |4,_=>rfl
 |5,_=>rfl
 |6,_=>rfl
theorem JG (p q i:Nat) (hq:q=128\/q=64\/q=32\/q=16\/q=8\/q=4\/q=2\/q=1) (hp:∀j,(j=128\/j=64\/j=32\/j=16\/j=8\/j=4\/j=2\/j=1)->(p<j ↔ q<j\/j=q)) :
 (if i=q then ent q else low q i)=low p i:=by
 unfold low;by_cases h:i=q
 . subst h
   rw[if_pos rfl,if_pos ⟨hq,(hp i hq).2 (.inr rfl)⟩]
 rw[if_neg h];by_cases h2:i=128\/i=64\/i=32\/i=16\/i=8\/i=4\/i=2\/i=1
 . by_cases h3:q<i
   . rw[if_pos ⟨h2,h3⟩,if_pos ⟨h2,(hp i h2).2 (.inl h3)⟩]
   rw[if_neg (fun h4=>h3 h4.2),if_neg (fun h4=>by have:=(hp i h2).1 h4.2;omega)]
 rw[if_neg (fun h4=>h2 h4.1),if_neg (fun h4=>h2 h4.1)]
theorem Yiv (m:Nat) (h:m<8):(fun i=>if i=pw (m+1) then ent (pw (m+1)) else low (pw (m+1)) i)=low (pw m):=by
 funext i
 match m,h with
 |0,_=>exact JG _ _ i (by decide) (by intro j hj;simp only[pw];omega)
 |1,_=>exact JG _ _ i (by decide) (by intro j hj;simp only[pw];omega)
 |2,_=>exact JG _ _ i (by decide) (by intro j hj;simp only[pw];omega)
 |3,_=>exact JG _ _ i (by decide) (by intro j hj;simp only[pw];omega)
 |4,_=>exact JG _ _ i (by decide) (by intro j hj;simp only[pw];omega)
 |5,_=>exact JG _ _ i (by decide) (by intro j hj;simp only[pw];omega)
 |6,_=>exact JG _ _ i (by decide) (by intro j hj;simp only[pw];omega)
 |7,_=>exact JG _ _ i (by decide) (by intro j hj;simp only[pw];omega)
theorem Ykx:(fun i=>low 128 i)=fun _=>0:=by
 funext i;unfold low;rw[if_neg (by omega)]
theorem Ym7 (m:Nat):pw (m+2)=2*pw (m+1):=by simp only[pw,Nat.pow_succ];omega
theorem Yl0 (m:Nat):pw (m+1)/2=pw m:=by
 match m with
 |0=>rfl
 |m+1=>simp only[pw,Nat.pow_succ];omega
theorem YeN (m:Nat):1<=pw (m+1)/\pw (m+1)<=2^m:=⟨Nat.pow_pos (by decide),Qa _⟩
theorem Ykw (m:Nat) (h:m<7):∃x:Nat,x<4294967296/\half x=ent (pw (m+1))/\(Yx (low (pw (m+1))))[2*pw (m+1)]?=some (.int .u32 (x:Int)):=by
 have h1:pw (m+2)<256:=by
  have:=(YeN (m+1)).2;have e2:pw (m+2)=pw (m+1+1):=rfl;have h3:2^(m+1)<=2^7:=Nat.pow_le_pow_right (by decide) (by omega);have h4:(2:Nat)^7=128:=by decide
  omega
 refine⟨ent (pw (m+2)),Ydi _ h1,YkO m h,?_⟩;rw[<-Ym7,Vr _ _ h1,Yky m h]
def lb (k:Nat):Nat:=if k=0 then 0 else k&&& (256-k)
theorem Ynl:∀k:Nat,k<256->bits .and .i64 (k:Int) (-(k:Int))=((lb k:Nat):Int):=by decide +kernel
theorem Ynk (k:Nat):lb k<=k:=by
 unfold lb;split
 . exact Nat.zero_le _
 exact Nat.and_le_left
def upto (k:Nat) (j:Nat):Nat:=if j<k then ent j else low 0 j
theorem Yhe:∀k,k<256->lb k=k->low 0 k=ent k:=by decide +kernel
theorem YjE:∀k,k<256->lb k ≠ k->upto k (lb k) ^^^ upto k (k-lb k)=ent k:=by decide +kernel
theorem Yhf (k j:Nat) (hj:j<256):upto k j<4294967296:=by
 unfold upto low;split
 . exact Ydi j hj
 split
 . exact Ydi j hj
 decide
theorem Yco (k:Nat) (h:k<256) (hl:lb k ≠ k):bits .xor .u32 (upto k (lb k):Int) (upto k (k-lb k):Int)=(ent k:Int):=by
 have:=Ynk k;rw[u32_xor_nat _ _ (Yhf _ _ (by omega)) (Yhf _ _ (by omega)),YjE k h hl]
theorem Yet (k:Nat):(fun i=>if i=k then ent k else upto k i)=upto (k+1):=by
 funext i;unfold upto;by_cases h:i=k
 . subst h;simp
 rw[if_neg h];by_cases h2:i<k
 . rw[if_pos h2,if_pos (by omega)]
 rw[if_neg h2,if_neg (by omega)]
theorem Yhd (k:Nat) (h:k<256) (hl:lb k=k):upto k=upto (k+1):=by
 rw[<-Yet];funext i;by_cases h2:i=k
 . subst h2
   rw[if_pos rfl,<-Yhe i h hl];unfold upto;rw[if_neg (by omega)]
 rw[if_neg h2]
theorem YbF (f g:Nat->Nat) (h:∀i,i<256->f i=g i):Yx f=Yx g:=by
 apply Array.ext_getElem?;intro i;by_cases hi:i<256
 . rw[Vr _ i hi,Vr _ i hi,h i hi]
 have h1:∀g,(Yx g)[i]?=none:=fun g=>by simp[Yx,hi]
 rw[h1,h1]
theorem YjF:Yx (upto 256)=Yx ent:=by
 refine YbF _ _ fun i hi=>?_;show(if i<256 then ent i else low 0 i)=ent i;rw[if_pos hi]
theorem VQ (f:Nat->Nat):(Yx f).size=256:=by simp[Yx]
theorem J4 (f:Nat->Nat):(Yx f).all (·.oneCell')=true:=by
 rw[Array.all_eq_true_iff_forall_mem];intro v hv;simp only[Yx,List.mem_toArray,List.mem_map] at hv;obtain⟨i,_,rfl⟩:=hv;rfl
theorem Ylp (f:Nat->Nat):(Tryz.prog.info? 108).map (·.size)=some (Yx f).size:=by
 rw[VQ];kernel_rfl
theorem Yhc:low 0=upto 0:=by
 funext i;unfold upto;rw[if_neg (by omega)]
set_option maxHeartbeats 2000000 in
theorem YgJ (w:World) :
 Calls Tryz.prog 55 #[] w fun e w'=>e=.returned (.agg (Yx ent))/\Below w.heap.size w w':=by
 have hz:=Ylc;go_enter Tryz.func55,Tryz.ntmps55;go_wp2_with fail
 go_loopw [2,3] (fun i x wr=>∃m:Nat,m<=8/\i=.int .i64 (pw m:Int)/\Blk wr (w.heap.size+1) 108 (Yx (low (pw m)))/\Blk wr w.heap.size 108 (Yx fun _=>0)/\Below w.heap.size w wr)
  (fun i _ _=>(intOf i).toNat)
 case atStart=>
  refine⟨8,by omega,rfl,?_,(Blk.new _ _ _).alloc _,((Below.refl _ _).alloc (Qa _) _).alloc (by simp) _⟩;have:=Blk.new (w.alloc (.cells (Yx fun _=>0) 108)) 108 (Yx fun _=>0);simp only[World.size_alloc] at this;show Blk _ _ _ (Yx fun i=>low 128 i);rw[Ykx];exact this
 obtain⟨m,hm,rfl,hT,hR,hb⟩:=hrel;clear hz;rcases m with _|m
 . have e:pw 0=0:=rfl
   rw[e] at hT;rw[e];clear e;have hb0:=hb;go_wp2_with fail;clear hb
   go_loopw [4,5,27] (fun _ _ i wq=>∃k:Nat,k<=256/\i=.int .i64 (k:Int)/\Blk wq (w.heap.size+1) 108 (Yx (upto k))/\Blk wq w.heap.size 108 (Yx fun _=>0)/\Below w.heap.size w wq)
    (fun _ _ i _=>256-(intOf i).toNat)
   case atStart=>exact⟨0,by omega,rfl,by rw[<-Yhc];exact hT,hR,hb0⟩
   clear hT hR hb0;obtain⟨k,hk,rfl,hT,hR,hb⟩:=hrel;by_cases hlt:k<256
   . have hand:=Ynl k hlt
     have hlk:=Ynk k;by_cases hp:lb k=k
     . have hpb:((lb k:Int)==(k:Int))=true:=by simp;omega
       have hpn:((lb k:Int)!=(k:Int))=false:=(by simp;omega);have Hk:=Qf (Yhd k hlt hp);go_wp2_with fail;go_roundw
       case rel=>exact⟨k+1,by omega,by go_num,by rw[<-Hk.out];exact hT,hR,hb⟩
       simp[intOf];omega
     have hpn:((lb k:Int)!=(k:Int))=true:=(by simp;omega);have hc1:=hT.cell (lb k);have hc2:=hT.cell (k-lb k);rw[Vr _ _ (by omega)] at hc1 hc2;have hf:=hT.frozen k;have hc3:=hT.cell k;rw[Vr _ _ (by omega)] at hc3;have hx:=Yco k hlt hp;go_wp2_with fail
     go_region
     all_goals go_wp2_with fail
     go_roundw
     case rel=>
      have hst:=hT.set_ k (.int .u32 (ent k:Int));rw[Us,Yet] at hst;exact⟨k+1,by omega,by go_num,hst,hR.far (p:=⟨w.heap.size+1,k,none⟩) (by simp) _,(hb.setCell (p:=⟨w.heap.size+1,k,none⟩) (by simp) _).drew⟩
     simp[intOf];omega
   obtain rfl:k=256:=by omega
   rw[YjF] at hT;have hT2:wr.heap[w.heap.size+1]?=some (.cells (Yx ent) 108 (0,0)):=hT;have hR2:wr.heap[w.heap.size]?=some (.cells (Yx fun _=>0) 108 (0,0)):=hR;have hi:=Ylp ent;have hsz:(Yx fun _=>0).size=(Yx ent).size:=by rw[VQ,VQ]
   have h1c:=J4 ent
   go_wp2_with (first
    |(with_reducible refine wpList_load_row rfl 108 _ rfl (w.heap.size+1) rfl 108 (Yx ent) (0,0) _ hT2 Tryz.underlying108 rfl hi ?_)
    |(with_reducible refine wpList_store_row rfl 108 _ _ rfl w.heap.size (Yx ent) rfl rfl 108 (Yx fun _=>0) hR2 hi hsz h1c ?_))
   exact bodyPost_ret (v:=.agg (Yx ent)) (results_cell_row rfl _ _ w.heap.size 108 (Yx ent) (0,0) _ rfl (setRow_heap _ _ _ _ _ _ hR2) Tryz.underlying108 rfl hi) rfl
    ⟨rfl,below_setRow hb (Qa _) _⟩
 by_cases h7:m=7
 . subst h7
   have Hs:=Qf (Yiv 7 (by omega));have e:pw (7+1)=128:=rfl;rw[e] at hT Hs;rw[e];clear e;have hst:=hT.set_ 128 (.int .u32 ((3988292384:Nat):Int));rw[Us] at hst;have hrs:=hR.far (p:=⟨w.heap.size+1,128,none⟩) (by simp) (.int .u32 ((3988292384:Nat):Int));have hbs:=hb.setCell (p:=⟨w.heap.size+1,128,none⟩) (by simp) (.int .u32 ((3988292384:Nat):Int));have hf:=hT.frozen 128;have hc:=hT.cell 128;rw[Vr _ _ (by omega)] at hc;go_wp2_with fail;go_roundw
   case rel=>
    refine⟨7,by omega,rfl,?_,hrs,hbs⟩;rw[<-Hs.out];exact hst
   simp[intOf]
 obtain⟨x,hxl,hxe,hc⟩:=Ykw m (by omega);have Hp2:=Qf (Yl0 m);have Hs:=Qf (Yiv m (by omega))
 have hp3:1<=pw (m+1)/\pw (m+1)<=64:=by
  have h1:=YeN m;have h3:2^m<=2^6:=Nat.pow_le_pow_right (by decide) (by omega);have h4:(2:Nat)^6=64:=by decide
  omega
 have hh:=YkG x hxl;rw[hxe] at hh;rw[<-hT.cell] at hc;generalize pw (m+1)=i at *;have hi0:(0:Int)<=2*(i:Int):=by omega
 have hi1:2*(i:Int)<256:=by omega
 have hf:=hT.frozen i;have hci:=hT.cell i;rw[Vr _ _ (by omega)] at hci;clear hxe;go_wp2_with fail
 go_quiet (fail)
 go_wp2_with fail;rename_i nq;have hst:=(hT.drewN nq).set_ i (.int .u32 (ent i:Int));rw[Us] at hst;go_roundw
 case rel=>
  refine⟨m,by omega,by rw[<-Hp2.out];rfl,?_,(hR.drewN nq).far (p:=⟨w.heap.size+1,i,none⟩) (by simp) _,(Yh hb nq).setCell (p:=⟨w.heap.size+1,i,none⟩) (by simp) _⟩;rw[<-Hs.out];exact hst
 simp[intOf];omega
def Uv (c:Nat) (b:UInt8):Nat:=ent ((c%256) ^^^ b.toNat) ^^^ (c/256)
def crcL (c:Nat) (l:List UInt8):Nat:=l.foldl Uv c
def VH (c:Nat) (l:List UInt8):Nat:=4294967295-crcL (4294967295-c) l
theorem YaT (a b:Nat) (ha:a<256) (hb:b<256):a ^^^ b<256:=Nat.xor_lt_two_pow (n:=8) ha hb
theorem YgK (c:Nat) (b:UInt8) (hc:c<4294967296):Uv c b<4294967296:=
 Nat.xor_lt_two_pow (n:=32) (Ydi _ (YaT _ _ (by omega) b.toNat_lt)) (by omega)
theorem Yi7 (l:List UInt8):∀c,c<4294967296->crcL c l<4294967296:=by
 induction l with
 |nil=>intro c hc;exact hc
 |cons b r ih=>intro c hc;exact ih _ (YgK c b hc)
theorem Un (c:Nat) (l:List UInt8) (k:Nat) (hk:k<l.length):crcL c (l.take (k+1))=Uv (crcL c (l.take k)) l[k]:=by
 unfold crcL;rw[List.take_succ_eq_append_getElem hk,List.foldl_append];rfl
theorem Yif (c:Nat) (hc:c<4294967296):4294967295 ^^^ c=4294967295-c:=by
 have h1:(4294967295:Nat)=2^32-1:=by decide
 have h2:4294967295-c=2^32-(c+1):=by omega
 rw[h2,h1];apply Nat.eq_of_testBit_eq;intro i;rw[Nat.testBit_xor,Nat.testBit_two_pow_sub_one,Nat.testBit_two_pow_sub_succ (by omega)];by_cases hi:i<32
 . simp[hi]
 simp[hi];exact Nat.testBit_lt_two_pow (Qb (show c<2^32 by omega) (Nat.pow_le_pow_right (by decide) (by omega)))
theorem Yig (c:Nat) (hc:c<4294967296):bits .xor .u32 IntKind.u32.max (c:Int)=((4294967295-c:Nat):Int):=by
 have:=u32_xor_nat 4294967295 c (by decide) hc;rw[Yif c hc] at this;exact this
theorem YmL (c:Nat) (hc:c<4294967296) (s:ByteArray) (w:World) (hs:s.size<=maxLen) :
 Calls Tryz.prog 38 #[.int .u32 (c:Int),.string s] w fun e w'=>e=.returned (.int .u32 (VH c s.data.toList:Int))/\Below w.heap.size w w':=by
 unfold maxLen at hs;have hz:=Ylc;have hsc:=fun W=>run_storeCells_new (P:=Tryz.prog) W 108 (Yx fun _=>0) (Yx ent) (Ylp ent) (by rw[VQ,VQ]) (J4 _);have hsz:=VQ ent;have hsg:IntKind.u32.signed=false:=rfl;have hno:=Yig c hc;have hno2:=Yig _ (Yi7 s.data.toList (4294967295-c) (by omega));go_enter Tryz.func38,Tryz.ntmps38
 go_wp2_with (go_at_call 55;refine(YgJ _).mono ?_;rintro e w1 ⟨rfl,hb1⟩)
 go_loop [0,6,12] (fun c' _ i=>∃k:Nat,k<=s.size/\i=.int .i64 (k:Int)/\c'=.int .u32 (crcL (4294967295-c) (s.data.toList.take k):Int))
  (fun _ _ i=>s.size-(intOf i).toNat)
 case atStart=>exact⟨0,Nat.zero_le _,rfl,rfl⟩
 clear hz hsc;obtain⟨k,hk,rfl,rfl⟩:=hrel;have hB:=Blk.new w1 108 (Yx ent);have hlt1:=Yi7 (s.data.toList.take k) (4294967295-c) (by omega);by_cases hlt:k<s.size
 . have Ht:=Qf (Un (4294967295-c) s.data.toList k (by simpa using hlt))
   generalize crcL (4294967295-c) (s.data.toList.take k)=q at *;have hcb:=s[k].toNat_lt;obtain⟨j,hj⟩:∃j,j=q%256 ^^^ s[k].toNat:=⟨_,rfl⟩;have hjl:j<256:=by rw[hj];exact YaT (q%256) s[k].toNat (by omega) hcb
   have hx:bits .xor .u8 ((q:Int)%256) (s[k].toNat:Int)=(j:Int):=by rw[hj];exact u8_xor_nat (q%256) s[k].toNat (by omega) hcb
   have hc1:=hB.cell j;rw[Vr _ _ hjl] at hc1
   have hx2:bits .xor .u32 (ent j:Int) ((q:Int)/256)=((Uv q s[k]:Nat):Int):=by
    unfold Uv;rw[<-hj];exact u32_xor_nat (ent j) (q/256) (Ydi _ hjl) (by omega)
   have Hj:=Qf hj;clear hj
   go_wp2
   go_round
   case rel=>exact⟨k+1,by omega,by go_num,by rw[Ht.out];rfl⟩
   simp[intOf];omega
 obtain rfl:k=s.size:=by omega
 have e:s.data.toList.take s.size=s.data.toList:=List.take_of_length_le (by simp);rw[e]
 go_wp2
 go_ret;exact⟨rfl,hb1.alloc hb1.size _⟩
theorem YaG (s:ByteArray) (w:World) (hs:s.size<=maxLen) :
 Calls Tryz.prog 22 #[.string s] w fun e w'=>e=.returned (.int .u32 (VH 0 s.data.toList:Int))/\Below w.heap.size w w':=by
 go_enter Tryz.func22,Tryz.ntmps22
 go_wp2_with (go_at_call 38;refine(YmL 0 (by decide) s _ hs).mono ?_;rintro e w1 ⟨rfl,hb1⟩)
 go_ret;exact⟨rfl,hb1⟩
end Go.Proofs.YthehocmfpoglgaaGreat
