/- match's finder: best. Conditions: texts of at most a hundred thousand bytes. -/
import Derived.Test.YthehocmfpoglgaaGreatJpjgiil
import Derived.Test.YthehocmfpoglgaaGreatTokAJ
import Derived.BigQuiet
namespace Go.Proofs.YthehocmfpoglgaaGreat
open Go.RowKit
open Go.RowKit Go.Maps Go.WideMaps
set_option maxRecDepth 100000
theorem Ye6 {a:Int} (h0:0<=a) (h1:a<=1000000):(Lit.int .i64 a).wf=true:=by
 have h1:IntKind.i64.min = -9223372036854775808:=rfl;have h2:IntKind.i64.max=9223372036854775807:=rfl;simp only[Lit.wf,Bool.and_eq_true,decide_eq_true_eq,h1,h2];omega
theorem Ye5:Keyed Tryz.prog 9:=string_keyed Tryz.underlying9
def FIN (w:World) (f mb pg:Nat) (s:ByteArray) (far q:Nat):Prop:=
 Blk w f 115 #[.string s,.map (some mb),.slice (some ⟨pg,0,none⟩) s.size s.size,.int .i64 (far:Int)]/\Blk w pg 3 (Yg s.size (pvc s q))/\
  w.ownsMap Tryz.prog 9 (plainElem Tryz.prog 3) mb q (dm s q)
theorem YbA (w:World):(zeroValue 3).run Tryz.prog w=.ok (.int .i64 0) w:=by kernel_rfl
theorem YeZ {w:World} {f mb pg far q:Nat} {s:ByteArray} (h:FIN w f mb pg s far q) (i:Nat) (_hs:s.size<=100000) :
 (VB s i q=none->∀n,(Instr.lookup 112 (.map (some mb)) (.string (s.extract i (i+3))) true).run Tryz.prog (w.drewN n)=.ok (.tuple #[.int .i64 0,.bool false]) (w.drewN n))/\
 (∀j,VB s i q=some j->∀n,(Instr.lookup 112 (.map (some mb)) (.string (s.extract i (i+3))) true).run Tryz.prog (w.drewN n)=.ok (.tuple #[.int .i64 (j:Int),.bool true]) (w.drewN n)):=by
 have hk:keyOf Tryz.prog 9 (.string (s.extract i (i+3)))=some (.string (k3 s i)):=keyOf_string_mk Tryz.underlying9 (by rw[ByteArray.size_extract];unfold maxLen;omega);have hown:∀n,(w.drewN n).ownsMap Tryz.prog 9 (plainElem Tryz.prog 3) mb q (dm s q):=fun n=>h.2.2;constructor
 . intro hn n
   obtain⟨v,ps,hr,hv⟩:=(hown n).look_ok Ye5 Tryz.underlying112 (YbA (w.drewN n)) (plainElem_int Tryz.underlying3 (Ye6 (a:=0) (by decide) (by decide))) hk;obtain⟨a,rfl,ha,_⟩:=plainElem_int_inv Tryz.underlying3 hv;have hf:Maps.has (dm s q) (.string (k3 s i))=false:=by rw[Yfh,hn];rfl
   rw[Maps.atKey_of_not_has hf] at ha;simp at ha;rw[hf,<-ha.1] at hr;exact hr
 intro j hj n;obtain⟨v,ps,hr,hv⟩:=(hown n).look_ok Ye5 Tryz.underlying112 (YbA (w.drewN n)) (plainElem_int Tryz.underlying3 (Ye6 (a:=0) (by decide) (by decide))) hk;obtain⟨a,rfl,ha,_⟩:=plainElem_int_inv Tryz.underlying3 hv;have hf:Maps.has (dm s q) (.string (k3 s i))=true:=by rw[Yfh,hj];rfl
 rw[Yns s i q j hj] at ha;simp at ha;rw[hf,<-ha.1] at hr;exact hr
theorem Yat (s:ByteArray) (i:Nat) (h:i<s.size) (W:World):(Instr.index 9 (.string s) (.int .i64 (i:Int))).run Tryz.prog W=.ok (.int .u8 ((byt s i).toNat:Int)) W:=by
 have e:((i:Int)).toNat=i:=by omega
 rw[run_index_string W 9 s .i64 (i:Int) Tryz.underlying9,dif_pos ⟨by omega,by omega⟩];simp only[e]
 have:byt s i=s[i]:=by
  unfold byt;rw[List.getD_eq_getElem?_getD,List.getElem?_eq_getElem (by simpa using h)];rfl
 rw[this]
theorem Yjp (f mb pg:Nat) (s:ByteArray) (far q i:Nat) (hs:s.size<=100000) (hi:i+3<=s.size) (hf0:far ≠ 0) (hn:VB s i q=none) (w:World) (hF:FIN w f mb pg s far q) :
 Calls Tryz.prog 56 #[.pointer (some ⟨f,0,none⟩),.int .i64 (i:Int)] w fun e w'=>e=.returned (.tuple #[.int .i64 0,.int .i64 0])/\∃n,w'=w.drewN n:=by
 have hl:=(YeZ hF i hs).1 hn;have hb:=hF.1;have c0:=hb.cell 0;have c1:=hb.cell 1;have c3:=hb.cell 3;simp at c0 c1 c3;have d0:decide ((s.size:Int)<(i:Int)+3)=false:=Qh (by omega);have d1:((far:Int)==0)=false:=by simp;omega
 have hi3:(i:Int)+3=((i+3:Nat):Int):=by omega
 obtain⟨j3,Hj3⟩:=Qi (i+3);rw[Hj3.out] at hi3 hl
 have hij:i<=j3:=by have:=Hj3.out;omega
 have hj3s:j3<=s.size:=by have:=Hj3.out;omega
 have hi3w:IntKind.i64.wrap ((i:Int)+3)=(j3:Int):=by rw[hi3,IntKind.wrap_i64];omega
 clear hF hb hi;go_enter Tryz.func56,Tryz.ntmps56;go_wp2_with fail
 go_quiet (fail)
 go_wp2_with fail
 go_loopw [6,7,8,10] (fun n_ d_ _ _ wr=>n_=.int .i64 0/\d_=.int .i64 0/\Hid (wr=w.drewN nq)) (fun _ _ _ _ _=>0)
 case atStart=>exact⟨rfl,rfl,rfl⟩
 obtain⟨rfl,rfl,HW⟩:=hrel;go_wp2_with fail;go_ret2;exact⟨rfl,_,HW.out⟩
theorem YlC (a b:UInt8):(((a.toNat:Int))==(b.toNat:Int))=decide (a=b):=by
 by_cases h:a=b
 . subst h;simp
 have:¬a.toNat=b.toNat:=fun e=>h (UInt8.toNat_inj.1 e);rw[decide_eq_false h];simp;omega
set_option maxHeartbeats 16000000 in
theorem Yjo (f mb pg:Nat) (s:ByteArray) (far q i a0:Nat) (hs:s.size<=100000) (hi:i+3<=s.size) (hf0:far ≠ 0) (hf81:far<=100) (hq:q<=i) (hn:VB s i q=some a0) (w:World) (hF:FIN w f mb pg s far q) :
 Calls Tryz.prog 56 #[.pointer (some ⟨f,0,none⟩),.int .i64 (i:Int)] w fun e w'=>e=.returned (.tuple #[.int .i64 ((Vw s far q i).1:Int),.int .i64 ((Vw s far q i).2:Int)])/\∃n,w'=w.drewN n:=by
 have hl:=(YeZ hF i hs).2 a0 hn;have ha0:=JW s i q a0 hn;have hb:=hF.1;have c0:=hb.cell 0;have c1:=hb.cell 1;have c3:=hb.cell 3;simp at c0 c1 c3;have d0:decide ((s.size:Int)<(i:Int)+3)=false:=Qh (by omega);have d1:((far:Int)==0)=false:=by simp;omega
 have hi3:(i:Int)+3=((i+3:Nat):Int):=by omega
 obtain⟨j3,Hj3⟩:=Qi (i+3);rw[Hj3.out] at hi3 hl
 have hij:i<=j3:=by have:=Hj3.out;omega
 have hj3s:j3<=s.size:=by have:=Hj3.out;omega
 have hi3w:IntKind.i64.wrap ((i:Int)+3)=(j3:Int):=by rw[hi3,IntKind.wrap_i64];omega
 have Hbf:Hid (Vw s far q i=if (VX s i far (some a0) 0 0).1<3 then (0,0) else VX s i far (some a0) 0 0):=by
  show _=_;unfold Vw;rw[if_neg (by omega),hn]
 have HF:=Qf hF;have hi8:i<=100000:=by omega
 obtain⟨R,HR⟩:=Qi (Vw s far q i);rw[HR.out];clear hF hb hi hn;go_enter Tryz.func56,Tryz.ntmps56;go_wp2_with fail
 go_quiet (fail)
 go_wp2_with fail;clear hl hi3 hi3w c1 d1 d0;have cf0:(w.drewN nq).cell? ⟨f,0,none⟩=some (.string s):=c0
 have cf2:(w.drewN nq).cell? ⟨f,2,none⟩=some (.slice (some ⟨pg,0,none⟩) s.size s.size):=by have:=HF.out.1.cell 2;simpa using this
 have cf3:(w.drewN nq).cell? ⟨f,3,none⟩=some (.int .i64 (far:Int)):=c3;have HFd:Hid (FIN (w.drewN nq) f mb pg s far q):=HF.out;clear c0 c3 HF;obtain⟨nq1,Hnq⟩:=Qi (nq);obtain⟨w1,HW1⟩:=Qi (w.drewN nq);rw[HW1.out] at cf0 cf2 cf3 HFd ⊢;have Cells:=Qf (show _/\_/\_ from⟨cf0,cf2,cf3⟩);clear cf0 cf2 cf3
 go_loopw [6,7,8,10] (fun n_ d_ at_ k_ wr=>∃(k n d nq:Nat) (o:Option Nat),k<=far/\k_=.int .i64 (k:Int)/\n_=.int .i64 (n:Int)/\d_=.int .i64 (d:Int)/\at_=.int .i64 (atI o)/\n<=258/\d<=100000/\
  Hid (VX s i (far-k) o n d=VX s i far (some a0) 0 0)/\Hid (∀a,o=some a->a<i/\a<q/\a+3<=s.size)/\Hid (wr=w1.drewN nq)) (fun _ _ _ k _=>far-(intOf k).toNat)
 case atStart=>exact⟨0,0,0,0,some a0,by omega,rfl,rfl,rfl,rfl,by omega,by omega,rfl,(fun a ha=>by cases ha;omega),rfl⟩
 obtain⟨k,n,d,nqk,o,hk,rfl,rfl,rfl,rfl,hn,hd,HL,HO,HW⟩:=hrel;have cf0:wr.cell? ⟨f,0,none⟩=some (.string s):=by rw[HW.out];exact Cells.out.1
 have cf2:wr.cell? ⟨f,2,none⟩=some (.slice (some ⟨pg,0,none⟩) s.size s.size):=by rw[HW.out];exact Cells.out.2.1
 have cf3:wr.cell? ⟨f,3,none⟩=some (.int .i64 (far:Int)):=by rw[HW.out];exact Cells.out.2.2
 have fin:∀nn dd:Nat,VX s i far (some a0) 0 0=(nn,dd)->(nn<3->R=(0,0))/\(¬nn<3->R=(nn,dd)):=by
  intro nn dd h;rw[<-HR.out,Hbf.out,h];exact⟨fun h=>if_pos h,fun h=>if_neg h⟩
 have Fin:=Qf fin;clear fin
 cases o with
 |none=>
  have hend:VX s i far (some a0) 0 0=(n,d):=by
   rw[<-HL.out];cases far-k<;>rfl
  obtain⟨h1,h2⟩:=Fin.out n d hend;have e0:decide (0<=atI none)=false:=by decide
  have ea:atI none = -1:=rfl;by_cases hn3:n<3
  . have e1:decide ((n:Int)<3)=true:=Qg (by omega)
    have hR:=h1 hn3;subst hR;clear h1 h2 hend;go_wp2_with fail;go_ret2;exact⟨rfl,nq1+nqk,by rw[HW.out,<-HW1.out,Hnq.out,World.drewN_drewN]⟩
  have e1:decide ((n:Int)<3)=false:=Qh (by omega);have hR:=h2 hn3;subst hR;clear h1 h2 hend;go_wp2_with fail;go_ret2;exact⟨rfl,nq1+nqk,by rw[HW.out,<-HW1.out,Hnq.out,World.drewN_drewN]⟩
 |some a=>
  obtain⟨hai,haq,ha3⟩:=HO.out a rfl;have ea:atI (some a)=(a:Int):=rfl;rw[ea];have e0:decide (0<=(a:Int))=true:=Qg (by omega)
  have stop:(k=far\/32768<i-a)->VX s i far (some a0) 0 0=(n,d):=by
   intro h;rw[<-HL.out];by_cases e:k=far
   . rw[e,Nat.sub_self];rfl
   rw[show far-k=(far-k-1)+1 by omega];unfold VX;rw[if_neg (by omega)]
  by_cases hgo:k<far/\i-a<=32768
  . obtain⟨hkf,hwin⟩:=hgo
    have e2:decide ((k:Int)<(far:Int))=true:=Qg (by omega);obtain⟨dd,Hdd⟩:=Qi (i-a)
    have hdd:(i:Int)-(a:Int)=(dd:Int):=by have:=Hdd.out;omega
    have e3:decide ((dd:Int)<=32768)=true:=by rw[decide_eq_true_eq];have:=Hdd.out;omega
    have hst:VX s i (far-k) (some a) n d=VX s i (far-(k+1)) (VB s a a) (if n<mlen s a i 0 258 then mlen s a i 0 258 else n) (if n<mlen s a i 0 258 then dd else d):=by
     rw[show far-k=(far-(k+1))+1 by omega]
     conv=>lhs;unfold VX
     rw[if_pos hwin,Hdd.out]
    have Hst:=Qf hst
    have hddl:dd<=100000:=by have:=Hdd.out;omega
    clear stop hst;go_wp2_with fail
    go_loopw [11] (fun m_ wr2=>∃m nq2:Nat,m<=258/\m_=.int .i64 (m:Int)/\Hid (mlen s a i m (258-m)=mlen s a i 0 258)/\(m=0\/i+m<=s.size)/\Hid (wr2=wr.drewN nq2)) (fun m _=>258-(intOf m).toNat)
    case atStart=>exact⟨0,0,by omega,rfl,rfl,.inl rfl,rfl⟩
    obtain⟨m,nq2,hm,rfl,HM,him,HW2⟩:=hrel
    -- INNER
    have HO2:Hid (∀b,VB s a a=some b->b<i/\b<q/\b+3<=s.size):=fun b hb=>by
     obtain⟨h1,h2⟩:=JW s a a b hb;exact⟨by omega,by omega,h2⟩
    have g0:wr.cell? ⟨f,0,none⟩=some (.string s):=(by rw[HW2.out];exact cf0);have g2:wr.cell? ⟨f,2,none⟩=some (.slice (some ⟨pg,0,none⟩) s.size s.size):=by rw[HW2.out];exact cf2
    have g4:wr.cell? ⟨pg,a,none⟩=some (.int .i64 (atI (VB s a a))):=by
     rw[HW2.out,HW.out];have h:=HFd.out.2.1.cell a;rw[Yp _ _ _ (by omega)] at h;unfold pvc at h;rw[if_pos ⟨haq,ha3⟩] at h;exact h
    have haS:(a:Int)<(s.size:Int):=(by omega);by_cases hm8:m<258
    . have k0:decide ((m:Int)<258)=true:=Qg (by omega)
      obtain⟨im,Him⟩:=Qi (i+m);obtain⟨am,Ham⟩:=Qi (a+m)
      have him1:(i:Int)+(m:Int)=(im:Int):=by have:=Him.out;omega
      have ham1:(a:Int)+(m:Int)=(am:Int):=by have:=Ham.out;omega
      have himl:im<=200000:=by have:=Him.out;omega
      have hamim:am<im:=by have:=Him.out;have:=Ham.out;omega
      have him2:IntKind.i64.wrap ((i:Int)+(m:Int))=(im:Int):=(by rw[him1,IntKind.wrap_i64];omega);have ham2:IntKind.i64.wrap ((a:Int)+(m:Int))=(am:Int):=(by rw[ham1,IntKind.wrap_i64];omega);by_cases his:im<s.size
      . have k2:decide ((im:Int)<(s.size:Int))=true:=Qg (by omega)
        have ix1:=Yat s im his;have ix2:=Yat s am (by omega);obtain⟨x1,Hx1⟩:=Qi (byt s im);obtain⟨x2,Hx2⟩:=Qi (byt s am);rw[Hx1.out] at ix1;rw[Hx2.out] at ix2;obtain⟨y1,Hy1⟩:∃j:Int,Hid ((x1.toNat:Int)=j):=⟨_,Qf (Eq.refl _)⟩;obtain⟨y2,Hy2⟩:∃j:Int,Hid ((x2.toNat:Int)=j):=⟨_,Qf (Eq.refl _)⟩;have hsame:=YlC x2 x1;rw[Hy1.out] at ix1 hsame;rw[Hy2.out] at ix2 hsame;by_cases hxx:x2=x1
        . have k3:(y2==y1)=true:=by rw[hsame];simpa using hxx
          have HM2:Hid (mlen s a i (m+1) (258-(m+1))=mlen s a i 0 258):=by
           show _=_;rw[<-HM.out,show 258-m=(258-(m+1))+1 by omega]
           conv=>rhs;unfold mlen
           rw[if_pos ⟨by rw[Him.out];exact his,by rw[Him.out,Ham.out,Hx1.out,Hx2.out];exact hxx⟩]
          have him3:m+1=0\/i+(m+1)<=s.size:=.inr (by have:=Him.out;omega);clear hsame hxx;go_wp2_with fail
          go_quiet (fail)
          go_wp2_with fail;go_roundw
          case rel=>exact⟨m+1,nq2+nq,by omega,by go_num,HM2,him3,by show _=_;rw[HW2.out,World.drewN_drewN]⟩
          simp[intOf];omega
        have k3:(y2==y1)=false:=by rw[hsame];simpa using hxx
        have hM:mlen s a i 0 258=m:=by
         rw[<-HM.out];rw[show 258-m=(258-(m+1))+1 by omega];unfold mlen;rw[if_neg (fun h=>hxx (by rw[<-Hx1.out,<-Hx2.out,<-Him.out,<-Ham.out];exact h.2))]
        have HMl:=Qf hM;clear hM;go_wp2_with fail
        go_quiet (fail)
        by_cases hmn:n<m
        . have k1:decide ((n:Int)<(m:Int))=true:=Qg (by omega)
          have HL2:Hid (VX s i (far-(k+1)) (VB s a a) m dd=VX s i far (some a0) 0 0):=by
           show _=_;rw[<-HL.out,Hst.out,HMl.out,if_pos hmn,if_pos hmn]
          go_wp2_with fail;go_roundw
          case rel=>exact⟨k+1,m,dd,nqk+(nq2+nq),VB s a a,by omega,by go_num,rfl,rfl,rfl,hm,hddl,HL2,HO2.out,by show _=_;rw[HW2.out,HW.out,World.drewN_drewN,World.drewN_drewN]⟩
          simp[intOf];omega
        have k1:decide ((n:Int)<(m:Int))=false:=Qh (by omega)
        have HL2:Hid (VX s i (far-(k+1)) (VB s a a) n d=VX s i far (some a0) 0 0):=by
         show _=_;rw[<-HL.out,Hst.out,HMl.out,if_neg hmn,if_neg hmn]
        go_wp2_with fail;go_roundw
        case rel=>exact⟨k+1,n,d,nqk+(nq2+nq),VB s a a,by omega,by go_num,rfl,rfl,rfl,hn,hd,HL2,HO2.out,by show _=_;rw[HW2.out,HW.out,World.drewN_drewN,World.drewN_drewN]⟩
        simp[intOf];omega
      have k2:decide ((im:Int)<(s.size:Int))=false:=Qh (by omega)
      have hM:mlen s a i 0 258=m:=by
       rw[<-HM.out];rw[show 258-m=(258-(m+1))+1 by omega];unfold mlen;rw[if_neg (fun h=>his (by rw[<-Him.out];exact h.1))]
      have HMl:=Qf hM;clear hM;go_wp2_with fail
      go_quiet (fail)
      by_cases hmn:n<m
      . have k1:decide ((n:Int)<(m:Int))=true:=Qg (by omega)
        have HL2:Hid (VX s i (far-(k+1)) (VB s a a) m dd=VX s i far (some a0) 0 0):=by
         show _=_;rw[<-HL.out,Hst.out,HMl.out,if_pos hmn,if_pos hmn]
        go_wp2_with fail;go_roundw
        case rel=>exact⟨k+1,m,dd,nqk+(nq2+nq),VB s a a,by omega,by go_num,rfl,rfl,rfl,hm,hddl,HL2,HO2.out,by show _=_;rw[HW2.out,HW.out,World.drewN_drewN,World.drewN_drewN]⟩
        simp[intOf];omega
      have k1:decide ((n:Int)<(m:Int))=false:=Qh (by omega)
      have HL2:Hid (VX s i (far-(k+1)) (VB s a a) n d=VX s i far (some a0) 0 0):=by
       show _=_;rw[<-HL.out,Hst.out,HMl.out,if_neg hmn,if_neg hmn]
      go_wp2_with fail;go_roundw
      case rel=>exact⟨k+1,n,d,nqk+(nq2+nq),VB s a a,by omega,by go_num,rfl,rfl,rfl,hn,hd,HL2,HO2.out,by show _=_;rw[HW2.out,HW.out,World.drewN_drewN,World.drewN_drewN]⟩
      simp[intOf];omega
    have k0:decide ((m:Int)<258)=false:=Qh (by omega)
    have hM:mlen s a i 0 258=m:=by
     rw[<-HM.out];rw[show 258-m=0 by omega];rfl
    have HMl:=Qf hM;clear hM;go_wp2_with fail
    go_quiet (fail)
    by_cases hmn:n<m
    . have k1:decide ((n:Int)<(m:Int))=true:=Qg (by omega)
      have HL2:Hid (VX s i (far-(k+1)) (VB s a a) m dd=VX s i far (some a0) 0 0):=by
       show _=_;rw[<-HL.out,Hst.out,HMl.out,if_pos hmn,if_pos hmn]
      go_wp2_with fail;go_roundw
      case rel=>exact⟨k+1,m,dd,nqk+(nq2+nq),VB s a a,by omega,by go_num,rfl,rfl,rfl,hm,hddl,HL2,HO2.out,by show _=_;rw[HW2.out,HW.out,World.drewN_drewN,World.drewN_drewN]⟩
      simp[intOf];omega
    have k1:decide ((n:Int)<(m:Int))=false:=Qh (by omega)
    have HL2:Hid (VX s i (far-(k+1)) (VB s a a) n d=VX s i far (some a0) 0 0):=by
     show _=_;rw[<-HL.out,Hst.out,HMl.out,if_neg hmn,if_neg hmn]
    go_wp2_with fail;go_roundw
    case rel=>exact⟨k+1,n,d,nqk+(nq2+nq),VB s a a,by omega,by go_num,rfl,rfl,rfl,hn,hd,HL2,HO2.out,by show _=_;rw[HW2.out,HW.out,World.drewN_drewN,World.drewN_drewN]⟩
    simp[intOf];omega
  have hend:=stop (by omega);obtain⟨h1,h2⟩:=Fin.out n d hend;obtain⟨dd,Hdd⟩:=Qi (i-a)
  have hdd:(i:Int)-(a:Int)=(dd:Int):=by have:=Hdd.out;omega
  have hfl:far=k\/k<far:=by omega
  clear stop hend;by_cases hkf:k<far
  . have e2:decide ((k:Int)<(far:Int))=true:=Qg (by omega)
    have e3:decide ((dd:Int)<=32768)=false:=by rw[decide_eq_false_iff_not];have:=Hdd.out;omega
    clear hfl hgo;by_cases hn3:n<3
    . have e1:decide ((n:Int)<3)=true:=Qg (by omega)
      have hR:=h1 hn3;subst hR;clear h1 h2;go_wp2_with fail;go_ret2;exact⟨rfl,nq1+nqk,by rw[HW.out,<-HW1.out,Hnq.out,World.drewN_drewN]⟩
    have e1:decide ((n:Int)<3)=false:=Qh (by omega);have hR:=h2 hn3;subst hR;clear h1 h2;go_wp2_with fail;go_ret2;exact⟨rfl,nq1+nqk,by rw[HW.out,<-HW1.out,Hnq.out,World.drewN_drewN]⟩
  have e2:decide ((k:Int)<(far:Int))=false:=Qh (by omega);clear hfl hgo;by_cases hn3:n<3
  . have e1:decide ((n:Int)<3)=true:=Qg (by omega)
    have hR:=h1 hn3;subst hR;clear h1 h2;go_wp2_with fail;go_ret2;exact⟨rfl,nq1+nqk,by rw[HW.out,<-HW1.out,Hnq.out,World.drewN_drewN]⟩
  have e1:decide ((n:Int)<3)=false:=Qh (by omega);have hR:=h2 hn3;subst hR;clear h1 h2;go_wp2_with fail;go_ret2;exact⟨rfl,nq1+nqk,by rw[HW.out,<-HW1.out,Hnq.out,World.drewN_drewN]⟩
end Go.Proofs.YthehocmfpoglgaaGreat
