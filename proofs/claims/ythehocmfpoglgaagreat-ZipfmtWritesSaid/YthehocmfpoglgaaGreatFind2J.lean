/- match's finder: best at any place; note. Conditions: texts of at most a hundred thousand bytes. -/
import Derived.Test.YthehocmfpoglgaaGreatFindJ
namespace Go.Proofs.YthehocmfpoglgaaGreat
open Go.RowKit
open Go.RowKit Go.Maps Go.WideMaps
set_option maxRecDepth 100000
theorem Yk4 (f:Nat) (s:ByteArray) (m p:Value) (i:Nat) (hi:i+3<=s.size) (hs:s.size<=100000) (w:World) (hB:Blk w f 115 #[.string s,m,p,.int .i64 0]) :
 Calls Tryz.prog 56 #[.pointer (some ⟨f,0,none⟩),.int .i64 (i:Int)] w fun e w'=>e=.returned (.tuple #[.int .i64 0,.int .i64 0])/\w=w':=by
 have c0:=hB.cell 0;have c3:=hB.cell 3;simp at c0 c3;have d0:decide ((s.size:Int)<(i:Int)+3)=false:=Qh (by omega);have hil:i<=100000:=by omega
 clear hB hi;go_enter Tryz.func56,Tryz.ntmps56;go_wp2_with fail;go_ret2;exact⟨rfl,rfl⟩
theorem Yfp (f mb pg:Nat) (s:ByteArray) (far q i:Nat) (hs:s.size<=100000) (hi:i<=200000) (hf81:far<=100) (hq:q<=i) (w:World) (hF:FIN w f mb pg s far q) :
 Calls Tryz.prog 56 #[.pointer (some ⟨f,0,none⟩),.int .i64 (i:Int)] w fun e w'=>e=.returned (.tuple #[.int .i64 ((Vw s far q i).1:Int),.int .i64 ((Vw s far q i).2:Int)])/\∃n,w'=w.drewN n:=by
 by_cases h3:s.size<i+3
 . have e:Vw s far q i=(0,0):=by unfold Vw;rw[if_pos (.inl h3)]
   rw[e];refine(Yg7 f s _ _ _ i h3 (by omega) w hF.1).mono ?_;rintro e w' ⟨rfl,rfl⟩;exact⟨rfl,0,rfl⟩
 by_cases h0:far=0
 . subst h0
   have e:Vw s 0 q i=(0,0):=by unfold Vw;rw[if_pos (.inr rfl)]
   rw[e];refine(Yk4 f s _ _ i (by omega) hs w hF.1).mono ?_;rintro e w' ⟨rfl,rfl⟩;exact⟨rfl,0,rfl⟩
 cases hl:VB s i q with
 |none=>
  have e:Vw s far q i=(0,0):=by
   unfold Vw;rw[if_neg (by omega),hl];have:VX s i far none 0 0=(0,0):=by cases far<;>rfl
   rw[this];rfl
  rw[e];exact Yjp f mb pg s far q i hs (by omega) h0 hl w hF
 |some a0=>exact Yjo f mb pg s far q i a0 hs (by omega) h0 hf81 hq hl w hF
def NChg (w w':World) (pg mb:Nat):Prop:=(w'.os=w.os/\w'.tape=w.tape/\w'.output=w.output)/\w.heap.size<=w'.heap.size/\∀g,g<w.heap.size->g ≠ pg->g ≠ mb->w'.heap[g]?=w.heap[g]?
theorem NChg.refl (w:World) (pg mb:Nat):NChg w w pg mb:=⟨⟨rfl,rfl,rfl⟩,Qa _,fun _ _ _ _=>rfl⟩
theorem FIN.ne {w:World} {f mb pg far q:Nat} {s:ByteArray} (h:FIN w f mb pg s far q):f ≠ mb/\pg ≠ mb/\f ≠ pg:=by
 obtain⟨h1,h2,es,clock,h3,_⟩:=h;unfold Blk at h1 h2;refine⟨fun e=>?_,fun e=>?_,fun e=>?_⟩
 . rw[e,h3] at h1;simp at h1
 . rw[e,h3] at h2;simp at h2
 rw[e,h2] at h1;simp only[Option.some.injEq,Obj.cells.injEq] at h1;exact absurd h1.2.1 (by decide)
theorem Ye0 {W:World} {mb q:Nat} {s:ByteArray} (h:W.ownsMap Tryz.prog 9 (plainElem Tryz.prog 3) mb q (dm s q)) (i:Nat) (_hs:s.size<=100000) :
 (VB s i q=none->(Instr.lookup 112 (.map (some mb)) (.string (s.extract i (i+3))) true).run Tryz.prog W=.ok (.tuple #[.int .i64 0,.bool false]) W)/\
 (∀j,VB s i q=some j->(Instr.lookup 112 (.map (some mb)) (.string (s.extract i (i+3))) true).run Tryz.prog W=.ok (.tuple #[.int .i64 (j:Int),.bool true]) W):=by
 have hk:keyOf Tryz.prog 9 (.string (s.extract i (i+3)))=some (.string (k3 s i)):=keyOf_string_mk Tryz.underlying9 (by rw[ByteArray.size_extract];unfold maxLen;omega);obtain⟨v,ps,hr,hv⟩:=h.look_ok Ye5 Tryz.underlying112 (YbA W) (plainElem_int Tryz.underlying3 (Ye6 (a:=0) (by decide) (by decide))) hk;obtain⟨a,rfl,ha,_⟩:=plainElem_int_inv Tryz.underlying3 hv;constructor
 . intro hn
   have hf:Maps.has (dm s q) (.string (k3 s i))=false:=by rw[Yfh,hn];rfl
   rw[Maps.atKey_of_not_has hf] at ha;simp at ha;rw[hf,<-ha.1] at hr;exact hr
 intro j hj;have hf:Maps.has (dm s q) (.string (k3 s i))=true:=by rw[Yfh,hj];rfl
 rw[Yns s i q j hj] at ha;simp at ha;rw[hf,<-ha.1] at hr;exact hr
theorem YeV {W:World} {f mb pg far q:Nat} {s:ByteArray} {x:Int} (hs:s.size<=100000) (h3:q+3<=s.size) (hx:x=atI (VB s q q)) (ne1:f ≠ mb) (ne2:pg ≠ mb)
 (hf:Blk W f 115 #[.string s,.map (some mb),.slice (some ⟨pg,0,none⟩) s.size s.size,.int .i64 (far:Int)]) (hp:Blk W pg 3 (Yg s.size (fun j=>if j=q then .int .i64 x else pvc s q j)))
 (hm:W.ownsMap Tryz.prog 9 (plainElem Tryz.prog 3) mb q (dm s q)) :
 ∃w3,(Instr.mapUpdate 112 (.map (some mb)) (.string (s.extract q (q+3))) (.int .i64 (q:Int))).run Tryz.prog W=.ok () w3/\FIN w3 f mb pg s far (q+1)/\W.grownBy w3 (some mb):=by
 have hk:keyOf Tryz.prog 9 (.string (s.extract q (q+3)))=some (.string (k3 s q)):=keyOf_string_mk Tryz.underlying9 (by rw[ByteArray.size_extract];unfold maxLen;omega)
 have hdm:dm s (q+1)=(dm s q).put (.string (k3 s q)) (.lit (.int .i64 (q:Int))):=by
  show(if _ then _ else _)=_;rw[if_pos h3]
 obtain⟨w3,hr,ho,hg⟩:=hm.update Ye5 Tryz.underlying112 (by unfold maxLen;omega) hk (plainElem_int Tryz.underlying3 (Ye6 (a:=(q:Int)) (by omega) (by omega)));refine⟨w3,hr,⟨hf.grown hg (fun e=>ne1 (by injection e)),?_,by rw[hdm];exact ho⟩,hg⟩;have hb:=hp.grown hg (fun e=>ne2 (by injection e));rw[Ys s.size (pvc s (q+1)) (fun j=>if j=q then .int .i64 x else pvc s q j)]
 . exact hb
 intro j _;by_cases e:j=q
 . subst e
   rw[if_pos rfl,hx];unfold pvc;rw[if_pos ⟨by omega,by omega⟩]
 rw[if_neg e];unfold pvc;by_cases e2:j<q/\j+3<=s.size
 . rw[if_pos e2,if_pos ⟨by omega,e2.2⟩]
 rw[if_neg e2,if_neg (by omega)]
theorem YlP (n q:Nat) (g:Nat->Value) (x y:Value):(Yg n (fun j=>if j=q then x else g j)).setIfInBounds q y=Yg n (fun j=>if j=q then y else g j):=by
 rw[YA];refine Ys _ _ _ fun j _=>?_;by_cases e:j=q
 . rw[if_pos e,if_pos e]
 rw[if_neg e,if_neg e,if_neg e]
theorem Yjf {w W w3:World} {pg mb:Nat} (h:NChg w W pg mb) (hg:W.grownBy w3 (some mb)):NChg w w3 pg mb:=
 ⟨⟨hg.os.trans h.1.1,hg.tape.trans h.1.2.1,hg.output.trans h.1.2.2⟩,Qe h.2.1 hg.size,fun g h1 h2 h3=>(hg.block g (Qb h1 h.2.1) (fun e=>h3 (by injection e))).trans (h.2.2 g h1 h2 h3)⟩
theorem Yfl {w W:World} {pg mb i:Nat} {u:Value} (h:NChg w W pg mb):NChg w (W.setCell ⟨pg,i,none⟩ u) pg mb:=
 ⟨h.1,by simpa [World.setCell] using h.2.1,fun g h1 h2 h3=>(heap_setCell_other W ⟨pg,i,none⟩ g u h2).trans (h.2.2 g h1 h2 h3)⟩
set_option maxHeartbeats 4000000 in
theorem YbX (f mb pg:Nat) (s:ByteArray) (far q:Nat) (hs:s.size<=100000) (hq:q<=200000) (w:World) (hF:FIN w f mb pg s far q) :
 Calls Tryz.prog 57 #[.pointer (some ⟨f,0,none⟩),.int .i64 (q:Int)] w fun e w'=>e=.returned (.tuple #[])/\FIN w' f mb pg s far (q+1)/\NChg w w' pg mb:=by
 by_cases h3:s.size<q+3
 . refine(Ygm f s _ _ _ q h3 (by omega) w hF.1).mono ?_
   rintro e w' ⟨rfl,rfl⟩;refine⟨rfl,⟨hF.1,?_,?_⟩,NChg.refl _ _ _⟩
   . rw[Ys s.size (pvc s (q+1)) (pvc s q)]
     . exact hF.2.1
     intro j _;unfold pvc;by_cases e:j<q/\j+3<=s.size
     . rw[if_pos e,if_pos ⟨by omega,e.2⟩]
     rw[if_neg e,if_neg (by omega)]
   have:dm s (q+1)=dm s q:=by
    show(if _ then _ else _)=_;rw[if_neg (by omega)]
   rw[this];exact hF.2.2.mono (by omega)
 obtain⟨ne1,ne2,ne3⟩:=hF.ne;have c0:=hF.1.cell 0;have c1:=hF.1.cell 1;have c2:=hF.1.cell 2;have cp:=hF.2.1.cell q;have fp:=hF.2.1.frozen q;rw[Yp _ _ _ (by omega)] at cp;unfold pvc at cp;simp at c0 c1 c2;have d0:decide ((s.size:Int)<(q:Int)+3)=false:=Qh (by omega);have hqs:(q:Int)<(s.size:Int):=by omega
 have hq3:q+3<=s.size:=by omega
 have hf1:=hF.1.far (p:=⟨pg,q,none⟩) ne3 (.int .i64 (-1));have hp1:=hF.2.1.set_ q (.int .i64 (-1));rw[YA] at hp1;have hm1:=hF.2.2.setCell (a:=⟨pg,q,none⟩) (fun e=>ne2 e.symm) (.int .i64 (-1));have hc1:=Yfl (i:=q) (u:=.int .i64 (-1)) (NChg.refl w pg mb);have Hf1:=Qf hf1;have Hp1:=Qf hp1;have Hm1:=Qf hm1;have Hc1:=Qf hc1;have Ne:=Qf (show _/\_/\_ from⟨ne1,ne2,ne3⟩);clear hF hf1 hp1 hm1 hc1 ne1 ne2 ne3 h3;go_enter Tryz.func57,Tryz.ntmps57;go_upto_region 3 with(fail);clear c0 c1 c2 cp fp d0;obtain⟨w1,HW1⟩:=Qi (w.setCell ⟨pg,q,none⟩ (.int .i64 (-1)));rw[HW1.out] at Hf1 Hp1 Hm1 Hc1 ⊢;have c1:=Hf1.out.cell 1;have c2:=Hf1.out.cell 2;have cp:=Hp1.out.cell q;have fp:=Hp1.out.frozen q;rw[Yp _ _ _ (by omega),if_pos rfl] at cp;simp at c1 c2
 cases hl:VB s q q with
 |none=>
  have hlk:=(Ye0 Hm1.out q hs).1 hl;obtain⟨w3,hr,hF3,hg3⟩:=YeV (x:=-1) hs hq3 (by rw[hl];rfl) Ne.out.1 Ne.out.2.1 Hf1.out Hp1.out Hm1.out;have HF3:=Qf hF3;have HC3:=Qf (Yjf Hc1.out hg3);obtain⟨q3,Hq3⟩:=Qi (q+3);rw[Hq3.out] at hlk hr ⊢;clear hF3 hg3 hl;go_wp2_with fail
  (try simp only[Exit.inBlock,Exit.then]);refine bodyPost_end (results_none rfl _ _ _) rfl ?_
  exact⟨rfl,HF3.out,HC3.out⟩
 |some j=>
  have hlk:=(Ye0 Hm1.out q hs).2 j hl;have hf2:=Hf1.out.far (p:=⟨pg,q,none⟩) Ne.out.2.2 (.int .i64 (j:Int));have hp2:=Hp1.out.set_ q (.int .i64 (j:Int));rw[YlP] at hp2;have hm2:=Hm1.out.setCell (a:=⟨pg,q,none⟩) (fun e=>Ne.out.2.1 e.symm) (.int .i64 (j:Int));have Hf2:=Qf hf2;have Hp2:=Qf hp2;have Hm2:=Qf hm2;have Hc2:=Qf (Yfl (i:=q) (u:=.int .i64 (j:Int)) Hc1.out);have Hl:=Qf hl;obtain⟨q3,Hq3⟩:=Qi (q+3);rw[Hq3.out] at hlk ⊢;clear hf2 hp2 hm2 hl;go_upto_region 6 with(fail);clear hlk c1 c2 cp fp;obtain⟨w2,HW2⟩:=Qi (w1.setCell ⟨pg,q,none⟩ (.int .i64 (j:Int)));rw[HW2.out] at Hf2 Hp2 Hm2 Hc2 ⊢;have c1:=Hf2.out.cell 1;simp at c1;obtain⟨w3,hr,hF3,hg3⟩:=YeV (x:=(j:Int)) hs hq3 (by rw[Hl.out];rfl) Ne.out.1 Ne.out.2.1 Hf2.out Hp2.out Hm2.out;have HF3:=Qf hF3;have HC3:=Qf (Yjf Hc2.out hg3);rw[Hq3.out] at hr;clear hF3 hg3;go_wp2_with fail
  (try simp only[Exit.inBlock,Exit.then]);refine bodyPost_end (results_none rfl _ _ _) rfl ?_
  exact⟨rfl,HF3.out,HC3.out⟩
end Go.Proofs.YthehocmfpoglgaaGreat
