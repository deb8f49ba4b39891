/- ZipfmtReads: any bytes are read as the document says. Conditions: texts that Go can hold. -/
import Derived.Test.YthehocmfpoglgaaGreatJcephoj
import Derived.Test.YthehocmfpoglgaaGreatJonolgd
namespace Go.Proofs.YthehocmfpoglgaaGreat
open Go.RowKit
set_option maxRecDepth 100000
def lsF:Except Nat (List Fl)->List Fl
 |.ok l=>l
 |.error _=>[]
def erF {α:Type}:Except Nat α->Nat
 |.ok _=>0
 |.error e=>e
theorem YhS (s:ByteArray):∀(l:List Hd) (p:Nat) (out:List Fl) (r:List Fl × Nat),Xm s l p out=.ok r->r.1.length=out.length+l.length:=by
 intro l
 induction l with
 |nil=>intro p out r h;rw[Xm] at h;injection h with h;rw[<-h];rfl
 |cons g l ih=>
  intro p out r h;rw[Xm] at h
  cases ho:Xn s g with
  |error e=>rw[ho] at h;cases h
  |ok x=>
   rw[ho] at h;dsimp only at h;split at h
   . cases h
   have:=ih _ _ _ h;rw[this];simp only[List.length_append,List.length_cons,List.length_nil];omega
theorem Ymk (s:ByteArray):(lsF (V9 s)).length<=200:=by
 cases h:V9 s with
 |error e=>exact Nat.zero_le _
 |ok l=>
  show l.length<=200;unfold V9 at h
  cases hH:Yv s with
  |error e=>rw[hH] at h;cases h
  |ok L=>
   rw[hH] at h;dsimp only at h
   cases hL:Xm s L 0 [] with
   |error e=>rw[hL] at h;cases h
   |ok r=>
    rw[hL] at h;dsimp only at h;split at h
    . cases h
    injection h with h;have h1:=YhS s L 0 [] r hL;have h2:=(XO hH).2.2.2.1;rw[h] at h1;simp at h1;omega
theorem Ylg (s:ByteArray) (hs:s.size<=100000) (w:World):Calls Tryz.prog 13 #[.string s] w fun r w'=>Below w.heap.size w w'/\∃a cap,r=.returned (.tuple #[.slice a (lsF (V9 s)).length cap,.int .i64 (erF (V9 s):Int)])/\FRow w' a (lsF (V9 s)):=by
 refine(YeL s hs w).mono ?_;rintro r w' ⟨hb,⟨e,h1,_,h3⟩|⟨l,v,h1,h2,hv⟩⟩
 . rw[h1]
   exact⟨hb,none,0,h3,fun k hk=>by cases hk⟩
 rw[h1];obtain⟨a,cap,rfl,hr⟩:=hv.view;exact⟨hb,a,cap,h2,hr⟩
theorem YhJ (s:ByteArray) (hs:s.size<=100000) (hsk:s.size<=12500\/∀l,Yv s=.ok l->∀h ∈ l,h.packed<=12500) (w:World):Calls Tryz.prog 14 #[.string s] w fun r w'=>Below w.heap.size w w'/\∃a cap,r=.returned (.tuple #[.slice a (lsF (V9 s)).length cap,.int .i64 (erF (V9 s):Int)])/\FRow w' a (lsF (V9 s)):=by
 refine(YhK s hs hsk w).mono ?_;rintro r w' ⟨hb,⟨e,h1,_,h3⟩|⟨l,v,h1,h2,hv⟩⟩
 . rw[h1]
   exact⟨hb,none,0,h3,fun k hk=>by cases hk⟩
 rw[h1];obtain⟨a,cap,rfl,hr⟩:=hv.view;exact⟨hb,a,cap,h2,hr⟩
theorem Ya5 (S:List Fl):YdJ S S=true:=by unfold YdJ;classical exact decide_eq_true rfl
set_option maxHeartbeats 4000000 in
theorem Yf9 (s nm:ByteArray) (hs:s.size<=maxLen) (hn:nm.size<=maxLen) (w:World) :
 Calls Tryz.prog 4 #[.string s,.string nm] w fun e w'=>e=.returned (.bool true)/\Below w.heap.size w w':=by
 have F1:=Qf (fun W=>Yec s 2000 (by decide) hs W);have hz:=Yca s 2000;obtain⟨x,Hx⟩:=Qi (few s 2000);rw[Hx.out] at F1 hz;have CR:=Qf (fun W=>Ylg x (by omega) W);have CQ:=Qf (fun W=>YhJ x (by omega) (.inl (by omega)) W);have hll:=Ymk x;obtain⟨S,HS⟩:=Qi (lsF (V9 x));obtain⟨er,Her⟩:=Qi (erF (V9 x));rw[HS.out,Her.out] at CR CQ;rw[HS.out] at hll;have CT:=Qf (fun a cap W h=>Yeu S a cap (by omega) W h)
 have CSm:Hid (∀a1 c1 a2 c2 W,FRow W a1 S->FRow W a2 S->Calls Tryz.prog 12 #[.slice a1 S.length c1,.slice a2 S.length c2] W fun e w'=>Below W.heap.size W w'/\e=.returned (.bool true)):=fun a1 c1 a2 c2 W h1 h2=>by
  have:=YeE S S a1 a2 c1 c2 (by omega) (by omega) W h1 h2
  rwa [Ya5] at this
 have CN:=Qf (Yb0 nm);have CM:=Qf (fun W=>Yai nm hn W);obtain⟨nb,Hnb⟩:=Qi (nmB nm);rw[Hnb.out] at CN CM;have CA:=Qf Jv;have hee:((er:Int)==(er:Int))=true:=by simp
 have hbb:(nb==nb)=true:=by simp
 clear HS Her Hnb Hx;go_enter Tryz.func4,Tryz.ntmps4;go_wp2_with fail;refine(F1.out _).mono ?_;rintro e w1 ⟨rfl,rfl⟩;go_wp2_with fail;refine(CR.out _).mono ?_;rintro e w1 ⟨hb1,ra,rc,rfl,hr1⟩;have HB1:=Qf hb1;have HR1:=Qf hr1;clear hb1 hr1;go_wp2_with fail;refine(CQ.out _).mono ?_;rintro e w2 ⟨hb2,qa,qc,rfl,hq2⟩;have HB2:=Qf (Yk HB1.out hb2);have HR2:=Qf (HR1.out.below hb2 (Qa _));have HQ2:=Qf hq2;clear hb2 hq2 HR1;go_wp2_with fail;refine(CA.out _).mono ?_;rintro e w3 ⟨rfl,hb3⟩;have HB3:=Qf (Yk HB2.out hb3);have HR3:=Qf (HR2.out.below hb3 (Qa _));have HQ3:=Qf (HQ2.out.below hb3 (Qa _));clear hb3 HR2 HQ2;go_wp2_with fail;refine(CT.out _ _ _ HR3.out).mono ?_;rintro e w4 ⟨hb4,t4,rfl,ht4⟩;obtain⟨ta,tc,rfl,htr⟩:=ht4.view;have HTr:=Qf htr;have HB4:=Qf (Yk HB3.out hb4);have HQ4:=Qf (HQ3.out.below hb4 (Qa _));clear hb4 ht4 htr HQ3;go_wp2_with fail;refine(CSm.out _ _ _ _ _ HTr.out HQ4.out).mono ?_;rintro e w5 ⟨hb5,rfl⟩;have HB5:=Qf (Yk HB4.out hb5);clear hb5;go_wp2_with fail;refine(CN.out _).mono ?_;rintro e w6 ⟨hb6,rfl⟩;have HB6:=Qf (Yk HB5.out hb6);clear hb6;go_wp2_with fail;refine(CM.out _).mono ?_;rintro e w7 ⟨rfl,rfl⟩;go_wp2_with fail;go_ret;exact⟨by first|rfl|simp,HB6.out⟩
end Go.Proofs.YthehocmfpoglgaaGreat
