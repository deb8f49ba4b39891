/- match.Tokens. Conditions: texts of at most 65536 bytes, Yln 0 to 9. -/
import Derived.Test.YthehocmfpoglgaaGreatFind2J
import Derived.Test.YthehocmfpoglgaaGreatLaw5aJ
namespace Go.Proofs.YthehocmfpoglgaaGreat
open Go.RowKit
open Go.RowKit Go.Maps Go.WideMaps
set_option maxRecDepth 100000
section
variable {w w':World} {f mb pg far q:Nat} {s:ByteArray} {base:Nat} {v:Value} {S:List Tok}
theorem YaY (h:OwnK 119 w base v S) (hF:FIN w f mb pg s far q):v.ownBlock=none\/v.ownBlock ≠ some mb:=by
 obtain⟨_,_,es,clock,h3,_⟩:=hF;rcases h.2 with⟨rfl,_⟩|⟨g,cap,cur,rfl,_,hh,_⟩
 . exact .inl rfl
 right;intro e;simp only[Value.ownBlock,Option.some.injEq] at e;rw[e,h3] at hh;simp at hh
theorem OwnK.nchg (h:OwnK 119 w base v S) (hF:FIN w f mb pg s far q) (hc:NChg w w' pg mb):OwnK 119 w' base v S:=by
 have h1:=X3 h hF.2.1 (by decide);have h2:=YaY h hF;have hlt:=World.ownsRow.lt h;refine⟨h.1,?_⟩;rcases h.2 with h3|⟨g,cap,cur,rfl,h3,h4,h5⟩
 . exact .inl h3
 refine .inr ⟨g,cap,cur,rfl,h3,(hc.2.2 g (hlt g rfl).2 (fun e=>?_) (fun e=>?_)).trans h4,h5⟩
 . rcases h1 with h1|h1
   . simp[Value.ownBlock] at h1
   exact h1 (by simp[Value.ownBlock,e])
 rcases h2 with h2|h2
 . simp[Value.ownBlock] at h2
 exact h2 (by simp[Value.ownBlock,e])
theorem Ju {w0:World} (hb:Below w0.heap.size w0 w) (hc:NChg w w' pg mb) (h1:w0.heap.size<=pg) (h2:w0.heap.size<=mb):Below w0.heap.size w0 w':=
 ⟨hc.1.1.trans hb.os,hc.1.2.1.trans hb.tape,hc.1.2.2.trans hb.output,Qe hb.size hc.2.1,fun g hg=>(hc.2.2 g (Qb hg hb.size) (by omega) (by omega)).trans (hb.block g hg)⟩
theorem FIN.row (hF:FIN w f mb pg s far q) (h:OwnK 119 w base v S) (hg:w.grownBy w' v.ownBlock):FIN w' f mb pg s far q:=by
 have h1:=X3 h hF.2.1 (by decide);have h0:=X3 h hF.1 (by decide);have h2:=YaY h hF;refine⟨hF.1.grown hg ?_,hF.2.1.grown hg ?_,hF.2.2.kept hg ?_⟩
 . rcases h0 with h|h
   . rw[h];simp
   exact fun e=>h e.symm
 . rcases h1 with h|h
   . rw[h];simp
   exact fun e=>h e.symm
 rcases h2 with h|h
 . rw[h];simp
 exact fun e=>h e.symm
theorem FIN.drewN (hF:FIN w f mb pg s far q) (n:Nat):FIN (w.drewN n) f mb pg s far q:=hF
end
set_option maxHeartbeats 16000000 in
theorem YfC (s:ByteArray) (lv:Nat) (hlv:lv<=9) (hs:s.size<=65536) (w:World):Calls Tryz.prog 39 #[.string s,.int .i64 (lv:Int)] w fun e w'=>∃v,e=.returned (.tuple #[v,.int .i64 0])/\OwnK 119 w' w.heap.size v (tokF s lv s.size 0)/\Below w.heap.size w w':=by
 have d0:decide ((lv:Int)<0)=false:=Qh (by omega);have d1:decide ((9:Int)<(lv:Int))=false:=Qh (by omega);have d2:decide ((65536:Int)<(s.size:Int))=false:=Qh (by omega);obtain⟨far,Hfar⟩:=Qi (lv*lv);have hfar:(lv:Int)*(lv:Int)=(far:Int):=by rw[<-Hfar.out];simp
 have hf81:far<=100:=by
  rw[<-Hfar.out];have:=Nat.mul_le_mul hlv hlv;omega
 have hmm:=@run_makeMap Tryz.prog;obtain⟨N,HN⟩:=Qi (s.size);have hNl:N<=65536:=by rw[<-HN.out];exact hs
 have hmk:∀W,(Instr.makeSlice 113 (.int .i64 (s.size:Int)) (.int .i64 (s.size:Int))).run Tryz.prog W=.ok (.slice (some ⟨W.heap.size,0,none⟩) s.size s.size) (W.alloc (.cells (Yg s.size (pvc s 0)) 3)):=by
  intro W;have h:=XC (t:=113) (e:=3) Tryz.underlying113 Y9 rfl s.size (s.size:Int) rfl (by omega) (by omega) W;rw[h];rw[Ys s.size (pvc s 0) (fun _=>Value.int .i64 0) (fun j _=>by unfold pvc;rw[if_neg (by omega)])]
 go_enter Tryz.func39,Tryz.ntmps39;go_wp2_with fail;have hb1:=(Below.refl w.heap.size w).alloc (Qa _) (.map #[] 0);have hb2:=hb1.alloc hb1.size (.cells (Yg s.size (pvc s 0)) 3);have hf:=Blk.new ((w.alloc (.map #[] 0)).alloc (.cells (Yg s.size (pvc s 0)) 3)) 115 #[.string s,.map (some w.heap.size),.slice (some ⟨w.heap.size+1,0,none⟩) s.size s.size,.int .i64 (far:Int)];have hp:=(Blk.new (w.alloc (.map #[] 0)) 3 (Yg s.size (pvc s 0))).alloc (.cells #[.string s,.map (some w.heap.size),.slice (some ⟨w.heap.size+1,0,none⟩) s.size s.size,.int .i64 (far:Int)] 115);have hm:=((World.ownsMap_made (H:=Unit) w Tryz.prog 9 (plainElem Tryz.prog 3)).alloc (.cells (Yg s.size (pvc s 0)) 3)).alloc (.cells #[.string s,.map (some w.heap.size),.slice (some ⟨w.heap.size+1,0,none⟩) s.size s.size,.int .i64 (far:Int)] 115);have hb3:=hb2.alloc hb2.size (.cells #[.string s,.map (some w.heap.size),.slice (some ⟨w.heap.size+1,0,none⟩) s.size s.size,.int .i64 (far:Int)] 115);rw[show((w.alloc (.map #[] 0)).alloc (.cells (Yg s.size (pvc s 0)) 3)).heap.size=w.heap.size+1+1 by simp] at hf;rw[show(w.alloc (.map #[] 0)).heap.size=w.heap.size+1 by simp] at hp;obtain⟨w3,HW3⟩:=Qi (((w.alloc (.map #[] 0)).alloc (.cells (Yg s.size (pvc s 0)) 3)).alloc (.cells #[.string s,.map (some w.heap.size),.slice (some ⟨w.heap.size+1,0,none⟩) s.size s.size,.int .i64 (far:Int)] 115));rw[HW3.out] at hf hp hm hb3 ⊢;obtain⟨mb,Hmb⟩:=Qi (w.heap.size);have hwmb:w.heap.size<=mb:=by rw[Hmb.out];exact Qa _
 obtain⟨f,Hf⟩:∃f:Nat,Hid (w.heap.size+1+1=f):=⟨_,Qf (Eq.refl _)⟩;rw[Hf.out] at hf ⊢;obtain⟨pg,Hpg⟩:=Qi (w.heap.size+1);have hwpg:w.heap.size<=pg:=by rw[<-Hpg.out];omega
 have HO0:Hid (OwnK 119 w3 w.heap.size (.slice none 0 0) []):=World.ownsRow_nil _ _ _ _;have HB0:Hid (Below w.heap.size w w3):=hb3
 have HF0:Hid (FIN w3 f mb pg s far 0):=by
  refine⟨?_,?_,?_⟩
  . rw[<-Hmb.out,<-Hpg.out];exact hf
  . rw[<-Hpg.out];exact hp
  rw[<-Hmb.out];exact hm
 clear hb1 hb2 hb3 hf hp hm hmm hmk HW3 Hmb Hf Hpg d0 d1 d2 hfar
 go_loopw [7,8] (fun vo i_ wr=>∃(i fu:Nat) (o:List Tok),i<=s.size/\i_=.int .i64 (i:Int)/\o.length<=i/\Hid (s.size-i<=fu)/\Hid (o++tokF s lv fu i=tokF s lv s.size 0)/\Hid (FIN wr f mb pg s far i)/\Hid (OwnK 119 wr w.heap.size vo o)/\Hid (Below w.heap.size w wr)) (fun _ i _=>s.size-(intOf i).toNat)
 case atStart=>exact⟨0,s.size,[],by omega,rfl,Qa _,by show _<=_;omega,rfl,HF0,HO0,HB0⟩
 clear HO0 HB0 HF0;obtain⟨i,fu,o,hi,rfl,hoi,Hfu,HT,HF,HO,HB⟩:=hrel;by_cases hlt:i<s.size
 . have d0:decide ((i:Int)<(s.size:Int))=true:=Qg (by omega)
   have CB:=Qf (Yfp f mb pg s far i i (by omega) (by omega) hf81 (Qa _) wr HF.out);have hok:=Yck s far i i (Qa _);obtain⟨n,Hn⟩:=Qi ((Vw s far i i).1);obtain⟨dd,Hd⟩:=Qi ((Vw s far i i).2);rw[Hn.out,Hd.out] at CB hok;obtain⟨hg,h03,_⟩:=hok
   have hin:n=0\/(3<=n/\n<=258/\i+n<=s.size/\dd<=32768):=by
    rcases hg with h|⟨h1,h2,h3,h4,h5⟩
    . exact .inl h
    rcases h03 with h|h
    . exact .inl h
    have:=(h5 (n-1) (by omega)).1;exact .inr ⟨h,h1,by omega,h3⟩
   obtain⟨fv,Hfv⟩:∃m,Hid (fu=m+1):=⟨fu-1,by show _=_;have:=Hfu.out;omega⟩;have hT:=HT.out;rw[Hfv.out] at hT
   have hpk:Kf s lv i=if 0<n/\4<lv/\i+1<s.size/\n+1<(Vw s far (i+1) (i+1)).1 then 0 else n:=by unfold Kf;rw[Hfar.out,Hn.out]
   have hstep:∀k,Kf s lv i=k->tokF s lv (fv+1) i=if k=0 then ⟨byt s i,0,0⟩::tokF s lv fv (i+1) else ⟨0,(k:Int),(dd:Int)⟩::tokF s lv fv (i+k):=by
    intro k hk;show(if _ then _ else _)=_;rw[if_pos hlt,hk,Hfar.out,Hd.out]
   have HT2:=Qf hT;have Hpk:=Qf hpk;have Hstep:=Qf hstep;have hix:=Yat s i hlt;obtain⟨c,Hc⟩:=Qi (byt s i);rw[Hc.out] at hix;clear hT hpk hstep hg h03;go_wp2_with fail;refine CB.out.mono ?_;rintro e w4 ⟨rfl,nq,rfl⟩;have CN:=Qf (YbX f mb pg s far i (by omega) (by omega) _ (HF.out.drewN nq));have HFd:=Qf (HF.out.drewN nq);have HOd:Hid (OwnK 119 (wr.drewN nq) w.heap.size u7 o):=HO.out;have HBd:=Qf (Yh HB.out nq);clear CB HF HO HB;go_wp2_with fail;refine CN.out.mono ?_;rintro e w5 ⟨rfl,hF5,hC5⟩;have HO5:=Qf (HOd.out.nchg HFd.out hC5);have HB5:=Qf (Ju HBd.out hC5 hwpg hwmb);have HF5:=Qf hF5;clear CN hF5 hC5 HFd HOd HBd;by_cases hn0:n=0
   . subst hn0
     have Hlit:Hid (o++[⟨c,0,0⟩]++tokF s lv fv (i+1)=tokF s lv s.size 0):=by
      show _=_;have hh:=HT2.out;rw[Hstep.out 0 (by rw[Hpk.out,if_neg (by omega)]),if_pos rfl,Hc.out] at hh
      simpa using hh
     have hos:=HO5.out;have hbsw:w.heap.size<=_:=HB5.out.size;have hone:=J1 ⟨c,0,0⟩
     go_wp2_with (first
      |(at_builtin;go_must (refine Ya _ rfl (.tmp 72) (.tmp 77) rfl Tryz.underlying82 V7 rfl (by decide) w.heap.size u7 o.length (YU o) [.int .u8 (c.toNat:Int),.int .i64 0,.int .i64 0] hos rfl hone rfl rfl rfl ?_ ?_ hbsw ?_;(unfold maxLen;omega);omega;intro v8 w8 hown8 hg8;have HO8:=Qf (OwnK.snoc (t:=⟨c,0,0⟩) hown8);have HF8:=Qf (HF5.out.row hos hg8);have HB8:=Qf (HB5.out.trans (Yb hos hg8 hbsw));clear hown8 hg8))
      |fail)
     go_roundw
     case rel=>exact⟨i+1,fv,o++[⟨c,0,0⟩],by omega,by go_num,by simp;omega,by show _<=_;have:=Hfu.out;have:=Hfv.out;omega,Hlit,HF8,HO8,HB8⟩
     simp[intOf];omega
   have d5:decide (0<(n:Int))=true:=Qg (by omega);have j5:decide (0<n)=true:=Qg (by omega);have d8:((n:Int)==0)=false:=by simp;omega
   have hi1:decide ((i:Int)+1<(s.size:Int))=true:=Qg (by omega);have hrn:=hin.resolve_left hn0;clear hin;by_cases h4:4<lv
   . have d6:decide ((4:Int)<(lv:Int))=true:=Qg (by omega)
     obtain⟨i2,Hi2⟩:=Qi (i+1)
     have hi2:(i:Int)+1=(i2:Int):=by have:=Hi2.out;omega
     have CB2:=Qf (Yfp f mb pg s far (i+1) (i+1) (by omega) (by omega) hf81 (Qa _) w5 HF5.out);have hok2:=(Yck s far (i+1) (i+1) (Qa _)).1;obtain⟨m,Hm⟩:=Qi ((Vw s far (i+1) (i+1)).1);obtain⟨m2,Hm2⟩:=Qi ((Vw s far (i+1) (i+1)).2);rw[Hm.out,Hm2.out] at CB2 hok2
     have hm258:m<=258:=by
      rcases hok2 with h|⟨h,_⟩<;>omega
     have hpk2:=Hpk.out;rw[Hm.out] at hpk2;have Hpk2:=Qf hpk2
     have hi2e:((i+1:Nat):Int)=(i2:Int):=by have:=Hi2.out;omega
     rw[hi2e] at CB2;clear hok2 hpk2 hi2e;go_wp2_with fail;refine CB2.out.mono ?_;rintro e w6 ⟨rfl,nr,rfl⟩;have HF6:Hid (FIN (w5.drewN nr) f mb pg s far (i+1)):=HF5.out;have HO6:Hid (OwnK 119 (w5.drewN nr) w.heap.size u7 o):=HO5.out;have HB6:=Qf (Yh HB5.out nr);clear CB2 HF5 HO5 HB5;by_cases hmn:n+1<m
     . have d7:decide ((n:Int)+1<(m:Int))=true:=Qg (by omega)
       have Hlit:Hid (o++[⟨c,0,0⟩]++tokF s lv fv (i+1)=tokF s lv s.size 0):=by
        show _=_;have hh:=HT2.out;rw[Hstep.out 0 (by rw[Hpk2.out,if_pos ⟨by omega,h4,by omega,hmn⟩]),if_pos rfl,Hc.out] at hh
        simpa using hh
       have hos:=HO6.out;have hbsw:w.heap.size<=_:=HB6.out.size;have hone:=J1 ⟨c,0,0⟩
       go_wp2_with (first
        |(at_builtin;go_must (refine Ya _ rfl (.tmp 72) (.tmp 77) rfl Tryz.underlying82 V7 rfl (by decide) w.heap.size u7 o.length (YU o) [.int .u8 (c.toNat:Int),.int .i64 0,.int .i64 0] hos rfl hone rfl rfl rfl ?_ ?_ hbsw ?_;(unfold maxLen;omega);omega;intro v8 w8 hown8 hg8;have HO8:=Qf (OwnK.snoc (t:=⟨c,0,0⟩) hown8);have HF8:=Qf (HF6.out.row hos hg8);have HB8:=Qf (HB6.out.trans (Yb hos hg8 hbsw));clear hown8 hg8))
        |fail)
       go_roundw
       case rel=>exact⟨i+1,fv,o++[⟨c,0,0⟩],by omega,by go_num,by simp;omega,by show _<=_;have:=Hfu.out;have:=Hfv.out;omega,Hlit,HF8,HO8,HB8⟩
       simp[intOf];omega
     have d7:decide ((n:Int)+1<(m:Int))=false:=Qh (by omega)
     have Hrep:Hid (o++[⟨0,(n:Int),(dd:Int)⟩]++tokF s lv fv (i+n)=tokF s lv s.size 0):=by
      show _=_;have hh:=HT2.out;rw[Hstep.out n (by rw[Hpk2.out,if_neg (fun h=>hmn h.2.2.2)]),if_neg (by omega)] at hh
      simpa using hh
     have hos:=HO6.out;have hbsw:w.heap.size<=_:=HB6.out.size;have hone:=J1 ⟨0,(n:Int),(dd:Int)⟩
     go_wp2_with (first
      |(at_builtin;go_must (refine Ya _ rfl (.tmp 81) (.tmp 85) rfl Tryz.underlying82 V7 rfl (by decide) w.heap.size u7 o.length (YU o) [.int .u8 0,.int .i64 (n:Int),.int .i64 (dd:Int)] hos rfl hone rfl rfl rfl ?_ ?_ hbsw ?_;(unfold maxLen;omega);omega;intro v8 w8 hown8 hg8;have HO8:=Qf (OwnK.snoc (t:=⟨0,(n:Int),(dd:Int)⟩) hown8);have HF8:=Qf (HF6.out.row hos hg8);have HB8:=Qf (HB6.out.trans (Yb hos hg8 hbsw));clear hown8 hg8))
      |fail)
     go_loopw [13] (fun k_ wr=>∃k:Nat,1<=k/\k<=n/\k_=.int .i64 (k:Int)/\Hid (FIN wr f mb pg s far (i+k))/\Hid (OwnK 119 wr w.heap.size v8 (o++[⟨0,(n:Int),(dd:Int)⟩]))/\Hid (Below w.heap.size w wr)) (fun k _=>n-(intOf k).toNat)
     case atStart=>exact⟨1,Qa _,by omega,rfl,HF8,HO8,HB8⟩
     clear HF8 HO8 HB8;obtain⟨k,hk1,hkn,rfl,HF9,HO9,HB9⟩:=hrel;by_cases hkl:k<n
     . have dk:decide ((k:Int)<(n:Int))=true:=Qg (by omega)
       obtain⟨ik,Hik⟩:=Qi (i+k)
       have hik:(i:Int)+(k:Int)=(ik:Int):=by have:=Hik.out;omega
       rw[Hik.out] at HF9;have CK:=Qf (YbX f mb pg s far ik (by omega) (by have:=Hik.out;omega) _ HF9.out);go_wp2_with fail;refine CK.out.mono ?_;rintro e w10 ⟨rfl,hF10,hC10⟩;have HO10:=Qf (HO9.out.nchg HF9.out hC10);have HB10:=Qf (Ju HB9.out hC10 hwpg hwmb)
       have HF10:Hid (FIN w10 f mb pg s far (i+(k+1))):=by
        show FIN _ _ _ _ _ _ _;rw[show i+(k+1)=ik+1 by have:=Hik.out;omega];exact hF10
       clear CK hF10 hC10 HF9 HO9 HB9;go_wp2_with fail;go_roundw
       case rel=>exact⟨k+1,by omega,by omega,by go_num,HF10,HO10,HB10⟩
       simp[intOf];omega
     obtain rfl:k=n:=(by omega);have dk:decide ((k:Int)<(k:Int))=false:=Qh (by omega);go_wp2_with fail;go_roundw
     case rel=>exact⟨i+k,fv,o++[⟨0,(k:Int),(dd:Int)⟩],by omega,by go_num,by simp;omega,by show _<=_;have:=Hfu.out;have:=Hfv.out;omega,Hrep,HF9,HO9,HB9⟩
     simp[intOf];omega
   have d6:decide ((4:Int)<(lv:Int))=false:=Qh (by omega)
   have Hrep:Hid (o++[⟨0,(n:Int),(dd:Int)⟩]++tokF s lv fv (i+n)=tokF s lv s.size 0):=by
    show _=_;have hh:=HT2.out;rw[Hstep.out n (by rw[Hpk.out,if_neg (fun h=>h4 h.2.1)]),if_neg (by omega)] at hh
    simpa using hh
   have hos:=HO5.out;have hbsw:w.heap.size<=_:=HB5.out.size;have hone:=J1 ⟨0,(n:Int),(dd:Int)⟩
   go_wp2_with (first
    |(at_builtin;go_must (refine Ya _ rfl (.tmp 81) (.tmp 85) rfl Tryz.underlying82 V7 rfl (by decide) w.heap.size u7 o.length (YU o) [.int .u8 0,.int .i64 (n:Int),.int .i64 (dd:Int)] hos rfl hone rfl rfl rfl ?_ ?_ hbsw ?_;(unfold maxLen;omega);omega;intro v8 w8 hown8 hg8;have HO8:=Qf (OwnK.snoc (t:=⟨0,(n:Int),(dd:Int)⟩) hown8);have HF8:=Qf (HF5.out.row hos hg8);have HB8:=Qf (HB5.out.trans (Yb hos hg8 hbsw));clear hown8 hg8))
    |fail)
   go_loopw [13] (fun k_ wr=>∃k:Nat,1<=k/\k<=n/\k_=.int .i64 (k:Int)/\Hid (FIN wr f mb pg s far (i+k))/\Hid (OwnK 119 wr w.heap.size v8 (o++[⟨0,(n:Int),(dd:Int)⟩]))/\Hid (Below w.heap.size w wr)) (fun k _=>n-(intOf k).toNat)
   case atStart=>exact⟨1,Qa _,by omega,rfl,HF8,HO8,HB8⟩
   clear HF8 HO8 HB8;obtain⟨k,hk1,hkn,rfl,HF9,HO9,HB9⟩:=hrel;by_cases hkl:k<n
   . have dk:decide ((k:Int)<(n:Int))=true:=Qg (by omega)
     obtain⟨ik,Hik⟩:=Qi (i+k)
     have hik:(i:Int)+(k:Int)=(ik:Int):=by have:=Hik.out;omega
     rw[Hik.out] at HF9;have CK:=Qf (YbX f mb pg s far ik (by omega) (by have:=Hik.out;omega) _ HF9.out);go_wp2_with fail;refine CK.out.mono ?_;rintro e w10 ⟨rfl,hF10,hC10⟩;have HO10:=Qf (HO9.out.nchg HF9.out hC10);have HB10:=Qf (Ju HB9.out hC10 hwpg hwmb)
     have HF10:Hid (FIN w10 f mb pg s far (i+(k+1))):=by
      show FIN _ _ _ _ _ _ _;rw[show i+(k+1)=ik+1 by have:=Hik.out;omega];exact hF10
     clear CK hF10 hC10 HF9 HO9 HB9;go_wp2_with fail;go_roundw
     case rel=>exact⟨k+1,by omega,by omega,by go_num,HF10,HO10,HB10⟩
     simp[intOf];omega
   obtain rfl:k=n:=by omega
   have dk:decide ((k:Int)<(k:Int))=false:=Qh (by omega);go_wp2_with fail;go_roundw
   case rel=>exact⟨i+k,fv,o++[⟨0,(k:Int),(dd:Int)⟩],by omega,by go_num,by simp;omega,by show _<=_;have:=Hfu.out;have:=Hfv.out;omega,Hrep,HF9,HO9,HB9⟩
   simp[intOf];omega
 obtain rfl:i=s.size:=by omega
 have d0:decide ((s.size:Int)<(s.size:Int))=false:=Qh (by omega)
 have Hend:Hid (o=tokF s lv s.size 0):=by
  show _=_;rw[<-HT.out]
  have:tokF s lv fu s.size=[]:=by
   cases fu with
   |zero=>rfl
   |succ n=>show(if _ then _ else _)=_;rw[if_neg (by omega)]
  rw[this,List.append_nil]
 go_wp2_with fail;go_ret2;exact⟨_,rfl,by rw[<-Hend.out];exact HO.out,HB.out⟩
end Go.Proofs.YthehocmfpoglgaaGreat
