/- Texts joined: Def6 Stored StoA MatP TokT StoP. Conditions: each theorem says its own. -/
import Derived.Deep.RegionHeld3
import Derived.Maps.RangeWalk
import Derived.Test.YthehocmfpoglgaaGreatJcephoj
import Derived.Test.YthehocmfpoglgaaGreatDef5J
import Derived.Test.YthehocmfpoglgaaGreatJikjhbb
import Derived.Test.YthehocmfpoglgaaGreatJddomja
namespace Go.Proofs.YthehocmfpoglgaaGreat
open Go.RowKit
set_option maxRecDepth 100000
theorem YiZ {α:Type} (f:α->List (Nat × Nat)) (k:Nat) (T:List α) (h:∀t ∈ T,encN (f t)<=k):encN (T.flatMap f)<=k*T.length:=by
 induction T with
 |nil=>exact Nat.zero_le _
 |cons t T ih=>
  rw[List.flatMap_cons,Y0,List.length_cons,Nat.mul_succ];have h1:=h t (List.mem_cons_self ..);have h2:=ih fun x hx=>h x (List.mem_cons_of_mem _ hx);omega
theorem Yee (S:List Tok):(1,1)::(2,2)::(JN (nlS S) (ndS S) (ncS S) (kL S) (lnS S)++(VK (aL S) (nlS S) (bL S) (ndS S) S++[symE (aL S) (nlS S) 256]))=dynS S:=by
 unfold dynS dynE;rw[Yb3,Yef]
theorem YmH (A B K:Nat->Nat) (nl nd nc:Nat) (L:List Int) (S:List Tok) (hS:S.length<=4000) (ht:∀t ∈ S,TokW 286 30 t) (hA:∀i,A i<=15) (hB:∀i,B i<=15) (hK:∀i,K i<=7) (hL:L.length<=316) :
 encN ((1,1)::(2,2)::(JN nl nd nc K L++(VK A nl B nd S++[symE A nl 256])))<=300000:=by
 show 1+(2+encN (JN _ _ _ _ _++_))<=_;rw[Y0,Y0];have h1:=YbE A nl B nd S hA hB fun t h=>(ht t h).ok;have h2:=hA 256;have e2:encN [symE A nl 256]=A 256+0:=rfl
 have h3:encN (JN nl nd nc K L)<=5000:=by
  unfold JN;show 5+(5+(4+encN (_++_)))<=_;rw[Y0];have a1:=YiZ (VW K) 14 (Ye L 0) fun t _=>Ycx _ hK t
  have a2:encN ((ordL.take nc).map fun s=>(K s,3))<=3*19:=by
   have e:∀r:List Nat,encN (r.map fun s=>(K s,3))=3*r.length:=by
    intro r
    induction r with
    |nil=>rfl
    |cons s r ih=>show 3+encN _=_;rw[ih,List.length_cons];omega
   rw[e,List.length_take];show 3*min _ 19<=_;omega
  have a3:=Ks L 316 0 (by omega);omega
 omega
theorem Yi3 (S:List Tok) (hS:S.length<=4000) (ht:∀t ∈ S,TokW 286 30 t):encN (dynS S)<=300000:=by
 rw[<-Yee];exact YmH (aL S) (bL S) (kL S) (nlS S) (ndS S) (ncS S) (lnS S) S hS ht (YaS S).le (YaR S).le (YaQ S).le (YcY S)
set_option maxHeartbeats 16000000 in
theorem YdQ (S:List Tok) (h0:S=[]) (w:World):Calls Tryz.prog 41 #[.slice none 0 0,.bool true] w fun e w'=>e=.returned (.string (encB (fixE S)))/\Below w.heap.size w w':=by
 have hS:S.length<=4000:=by rw[h0];decide
 have ht:∀t ∈ S,TokW 288 32 t:=by rw[h0];intro t h;cases h
 have hr:TkRow w none S:=.inl (by rw[h0];rfl);have hM0:S.length=0:=by rw[h0];rfl
 have CL:=Qf Xe;have CC1:=Qf (Vk fixL 288 (by decide) (fun i _=>UW i) (by decide +kernel));have CC2:=Qf (Vk (fun _=>5) 32 (by decide) (fun i _=>by omega) (by decide +kernel));obtain⟨L,HL⟩:=Qi (lens fixL);obtain⟨D,HD⟩:=Qi ((lens fun _=>5))
 have hL15:∀i,L i<=15:=by rw[<-HL.out];exact fun i=>Jg fixL (i+1) Yd8 i (Nat.lt_succ_self i)
 have hD15:∀i,D i<=15:=by rw[<-HD.out];exact fun i=>by show 5<=15;decide
 have hF32:∀i,i<288->YD L 288 i<4294967296:=by
  rw[<-HL.out];exact fun i hi=>Qb (X1 _ _ i hi codes_fix.l15 codes_fix.lp) (Qe (Nat.pow_le_pow_right (by decide) (codes_fix.l15 i hi)) (by decide))
 have hE32:∀i,i<32->YD D 32 i<4294967296:=by
  rw[<-HD.out];exact fun i hi=>Qb (X1 _ _ i hi codes_fix.d15 codes_fix.dp) (Qe (Nat.pow_le_pow_right (by decide) (codes_fix.d15 i hi)) (by decide))
 have HfE:Hid ([(1,1),(1,2)]++VK L 288 D 32 S++[symE L 288 256]=fixE S):=by
  show _=_;rw[<-HL.out,<-HD.out];rfl
 have hlenE:encN (fixE S)<=300000:=by
  have h1:=YbE L 288 D 32 S hL15 hD15 (fun t h=>(ht t h).ok);rw[<-HfE.out,Y0,Y0];have h2:=hL15 256;have e1:encN [(1,1),(1,2)]=3:=rfl;have e2:encN [symE L 288 256]=L 256+0:=rfl;omega
 rw[HL.out] at CC1;rw[HD.out] at CC2
 have CBody:Hid (∀(W:World) (v:Value) (G1 G2:Nat),PK w W w.heap.size v [(1,1),(1,2)]->Blk W G1 163 (YC 288 (YD L 288) L)->Blk W G2 163 (YC 32 (YD D 32) D)->
  Calls Tryz.prog 64 #[.pointer (some ⟨w.heap.size,0,none⟩),.slice none S.length 0,.slice (some ⟨G1,0,none⟩) 288 288,.slice (some ⟨G2,0,none⟩) 32 32] W fun e W'=>e=.returned (.tuple #[])/\∃v',PK w W' w.heap.size v' (fixE S)/\KeepT W W'):=by
  intro W v G1 G2 h1 h2 h3;rw[<-HfE.out];exact Yci w w.heap.size v [(1,1),(1,2)] S none 0 G1 288 288 G2 32 32 L D (by omega) ⟨by decide,by decide⟩ (by decide) hL15 hD15 hF32 hE32 (by decide) ht W h1 hr h2 h3
 obtain⟨M,HM⟩:=Qi (S.length);rw[hM0] at CBody;obtain⟨F1,HF1⟩:=Qi (YC 288 (YD L 288) L);obtain⟨F2,HF2⟩:=Qi (YC 32 (YD D 32) D);rw[HF1.out] at CC1 CBody;rw[HF2.out] at CC2 CBody;obtain⟨FE,HFE⟩:=Qi (fixE S);rw[HFE.out] at CBody hlenE ⊢;have HP0:=Qf (PK.new w);obtain⟨P,HP⟩:=Qi (w.heap.size);rw[HP.out] at CBody HP0
 have CP1:Hid (∀W v,PK w W P v []->Calls Tryz.prog 58 #[.pointer (some ⟨P,0,none⟩),.int .u32 1,.int .i64 1] W fun e W'=>e=.returned (.tuple #[])/\∃v',PK w W' P v' [(1,1)]/\KeepT W W'):=
  fun W v h=>XX w P v [] 1 1 1 (by decide) (.inr (.inl ⟨rfl,by decide⟩)) (by decide) W h
 have CP2:Hid (∀W v,PK w W P v [(1,1)]->Calls Tryz.prog 58 #[.pointer (some ⟨P,0,none⟩),.int .u32 1,.int .i64 2] W fun e W'=>e=.returned (.tuple #[])/\∃v',PK w W' P v' [(1,1),(1,2)]/\KeepT W W'):=
  fun W v h=>XX w P v [(1,1)] 1 2 2 (by decide) (.inr (.inl ⟨rfl,by decide⟩)) (by decide) W h
 have CAl:=Qf (fun W v h=>Yfu w P v FE (by omega) W h);have hmin:∀W,Sem.run Tryz.prog (Builtin.min_ #[3,3] 3 #[.int .i64 0,.int .i64 4000]) W=.ok (.int .i64 0) W:=fun W=>rfl;subst h0;clear hL15 hD15 hF32 hE32 hr ht hM0;go_enter Tryz.func41,Tryz.ntmps41;go_wp2_with fail;rw[HP.out];refine(CL.out _).mono ?_;rintro e w3 ⟨g1,c1,g2,rfl,hI1,hI2,-,-,hb3⟩;have HI1:=Qf hI1;have HI2:=Qf hI2;have HP3:=Qf (HP0.out.below hb3);clear hI1 hI2 hb3 HP0;go_wp2_with fail;refine(CC1.out _ _ _ HI1.out).mono ?_;rintro e w4 ⟨G1,rfl,hk1,hb4⟩;have HI2b:=Qf (HI2.out.below hb4);have HP4:=Qf (HP3.out.below hb4);have HK1:=Qf hk1;clear hk1 hb4 HP3 HI1 HI2;go_wp2_with fail;refine(CC2.out _ _ _ HI2b.out).mono ?_;rintro e w5 ⟨G2,rfl,hk2,hb5⟩;have HP5:=Qf (HP4.out.below hb5);have HK1b:=Qf (HK1.out.below hb5 HK1.out.lt);have HK2:=Qf hk2;clear hk2 hb5 HP4 HI2b HK1;go_wp2_with fail
 go_loopw [0] (fun l_ wr=>l_=.slice none 0 0/\Hid (wr=w5)) (fun _ _=>0)
 case atStart=>exact⟨rfl,Qf (Eq.refl _)⟩
 obtain⟨rfl,hwr⟩:=hrel;have hw2:=hwr.out;subst hw2;clear hwr;go_wp2_with fail;refine(CP1.out _ _ HP5.out).mono ?_;rintro e w6 ⟨rfl,v6,hp6,hk6⟩;have HP6:=Qf hp6;have HK6:=Qf hk6;clear hp6 hk6;go_wp2_with fail;refine(CP2.out _ _ HP6.out).mono ?_;rintro e w7 ⟨rfl,v7,hp7,hk7⟩;have HP7:=Qf hp7;have HK7:=Qf (HK6.out.trans hk7);clear hp7 hk7;go_wp2_with fail;refine(CBody.out _ v7 G1 G2 HP7.out (HK7.out G1 163 _ (by decide) (by decide) HK1b.out) (HK7.out G2 163 _ (by decide) (by decide) HK2.out)).mono ?_;rintro e w8 ⟨rfl,v8,hp8,-⟩;have HP8:=Qf hp8;clear hp8;go_wp2_with fail
 all_goals
  refine(CAl.out _ v8 HP8.out).mono ?_;rintro e w9 ⟨rfl,hb9⟩;have HB9:=Qf ((HP8.out.below hb9).2.1);clear hb9;go_wp2_with fail;go_ret;exact⟨rfl,HB9.out⟩
set_option maxHeartbeats 16000000 in
theorem YdS (S:List Tok) (h0:S=[]) (w:World):Calls Tryz.prog 41 #[.slice none 0 0,.bool false] w fun e w'=>e=.returned (.string (encB (dynS S)))/\Below w.heap.size w w':=by
 have hS:S.length<=4000:=by rw[h0];decide
 have ht:∀t ∈ S,TokW 286 30 t:=by rw[h0];intro t h;cases h
 have hr:TkRow w none S:=.inl (by rw[h0];rfl);have hM0:S.length=0:=by rw[h0];rfl
 have CL:=Qf Xe;have CC1:=Qf (Vk fixL 288 (by decide) (fun i _=>UW i) (by decide +kernel));have CC2:=Qf (Vk (fun _=>5) 32 (by decide) (fun i _=>by omega) (by decide +kernel));obtain⟨L,HL⟩:=Qi (lens fixL);obtain⟨D,HD⟩:=Qi ((lens fun _=>5));have hlenE:=Yi3 S hS ht;rw[HL.out] at CC1;rw[HD.out] at CC2
 have CBody:Hid (∀(W:World) (v:Value),PK w W w.heap.size v [(1,1),(2,2)]->
  Calls Tryz.prog 65 #[.pointer (some ⟨w.heap.size,0,none⟩),.slice none S.length 0] W fun e W'=>e=.returned (.tuple #[])/\∃v',PK w W' w.heap.size v' (dynS S)/\KeepT W W'):=by
  intro W v h1;rw[<-Yee];exact YaF w w.heap.size v [(1,1),(2,2)] S hS none 0 (by decide) ht W h1 hr
 obtain⟨M,HM⟩:=Qi (S.length);rw[hM0] at CBody;obtain⟨F1,HF1⟩:=Qi (YC 288 (YD L 288) L);obtain⟨F2,HF2⟩:=Qi (YC 32 (YD D 32) D);rw[HF1.out] at CC1;rw[HF2.out] at CC2;obtain⟨FE,HFE⟩:=Qi (dynS S);rw[HFE.out] at CBody hlenE ⊢;have HP0:=Qf (PK.new w);obtain⟨P,HP⟩:=Qi (w.heap.size);rw[HP.out] at CBody HP0
 have CP1:Hid (∀W v,PK w W P v []->Calls Tryz.prog 58 #[.pointer (some ⟨P,0,none⟩),.int .u32 1,.int .i64 1] W fun e W'=>e=.returned (.tuple #[])/\∃v',PK w W' P v' [(1,1)]/\KeepT W W'):=
  fun W v h=>XX w P v [] 1 1 1 (by decide) (.inr (.inl ⟨rfl,by decide⟩)) (by decide) W h
 have CP2:Hid (∀W v,PK w W P v [(1,1)]->Calls Tryz.prog 58 #[.pointer (some ⟨P,0,none⟩),.int .u32 2,.int .i64 2] W fun e W'=>e=.returned (.tuple #[])/\∃v',PK w W' P v' [(1,1),(2,2)]/\KeepT W W'):=
  fun W v h=>XX w P v [(1,1)] 2 2 2 (by decide) (.inr (.inl ⟨rfl,by decide⟩)) (by decide) W h
 have CAl:=Qf (fun W v h=>Yfu w P v FE (by omega) W h);have hmin:∀W,Sem.run Tryz.prog (Builtin.min_ #[3,3] 3 #[.int .i64 0,.int .i64 4000]) W=.ok (.int .i64 0) W:=fun W=>rfl;subst h0;clear hr ht hM0;go_enter Tryz.func41,Tryz.ntmps41;go_wp2_with fail;rw[HP.out];refine(CL.out _).mono ?_;rintro e w3 ⟨g1,c1,g2,rfl,hI1,hI2,-,-,hb3⟩;have HI1:=Qf hI1;have HI2:=Qf hI2;have HP3:=Qf (HP0.out.below hb3);clear hI1 hI2 hb3 HP0;go_wp2_with fail;refine(CC1.out _ _ _ HI1.out).mono ?_;rintro e w4 ⟨G1,rfl,hk1,hb4⟩;have HI2b:=Qf (HI2.out.below hb4);have HP4:=Qf (HP3.out.below hb4);have HK1:=Qf hk1;clear hk1 hb4 HP3 HI1 HI2;go_wp2_with fail;refine(CC2.out _ _ _ HI2b.out).mono ?_;rintro e w5 ⟨G2,rfl,hk2,hb5⟩;have HP5:=Qf (HP4.out.below hb5);have HK1b:=Qf (HK1.out.below hb5 HK1.out.lt);have HK2:=Qf hk2;clear hk2 hb5 HP4 HI2b HK1;go_wp2_with fail
 go_loopw [0] (fun l_ wr=>l_=.slice none 0 0/\Hid (wr=w5)) (fun _ _=>0)
 case atStart=>exact⟨rfl,Qf (Eq.refl _)⟩
 obtain⟨rfl,hwr⟩:=hrel;have hw2:=hwr.out;subst hw2;clear hwr;go_wp2_with fail;refine(CP1.out _ _ HP5.out).mono ?_;rintro e w6 ⟨rfl,v6,hp6,hk6⟩;have HP6:=Qf hp6;have HK6:=Qf hk6;clear hp6 hk6;go_wp2_with fail;refine(CP2.out _ _ HP6.out).mono ?_;rintro e w7 ⟨rfl,v7,hp7,hk7⟩;have HP7:=Qf hp7;have HK7:=Qf (HK6.out.trans hk7);clear hp7 hk7;go_wp2_with fail;refine(CBody.out _ v7 HP7.out).mono ?_;rintro e w8 ⟨rfl,v8,hp8,-⟩;have HP8:=Qf hp8;clear hp8;go_wp2_with fail
 all_goals
  refine(CAl.out _ v8 HP8.out).mono ?_;rintro e w9 ⟨rfl,hb9⟩;have HB9:=Qf ((HP8.out.below hb9).2.1);clear hb9;go_wp2_with fail;go_ret;exact⟨rfl,HB9.out⟩
set_option maxHeartbeats 16000000 in
theorem YdR (S:List Tok) (hS:S.length<=4000) (b off cap:Nat) (hcap:S.length<=cap) (ht:∀t ∈ S,TokW 286 30 t) (w:World) (hr:TkRow w (some ⟨b,off,none⟩) S):Calls Tryz.prog 41 #[.slice (some ⟨b,off,none⟩) S.length cap,.bool false] w fun e w'=>e=.returned (.string (encB (dynS S)))/\Below w.heap.size w w':=by
 have CL:=Qf Xe;have CC1:=Qf (Vk fixL 288 (by decide) (fun i _=>UW i) (by decide +kernel));have CC2:=Qf (Vk (fun _=>5) 32 (by decide) (fun i _=>by omega) (by decide +kernel));obtain⟨L,HL⟩:=Qi (lens fixL);obtain⟨D,HD⟩:=Qi ((lens fun _=>5));have hlenE:=Yi3 S hS ht;rw[HL.out] at CC1;rw[HD.out] at CC2
 have CBody:Hid (∀(W:World) (v:Value),PK w W w.heap.size v [(1,1),(2,2)]->
  Calls Tryz.prog 65 #[.pointer (some ⟨w.heap.size,0,none⟩),.slice (some ⟨b,off,none⟩) S.length cap] W fun e W'=>e=.returned (.tuple #[])/\∃v',PK w W' w.heap.size v' (dynS S)/\KeepT W W'):=by
  intro W v h1;rw[<-Yee];exact YaF w w.heap.size v [(1,1),(2,2)] S hS (some ⟨b,off,none⟩) cap (by decide) ht W h1 hr
 obtain⟨M,HM⟩:=Qi (S.length);rw[HM.out] at CBody hS hcap ⊢;obtain⟨F1,HF1⟩:=Qi (YC 288 (YD L 288) L);obtain⟨F2,HF2⟩:=Qi (YC 32 (YD D 32) D);rw[HF1.out] at CC1;rw[HF2.out] at CC2;obtain⟨FE,HFE⟩:=Qi (dynS S);rw[HFE.out] at CBody hlenE ⊢;have HP0:=Qf (PK.new w);obtain⟨P,HP⟩:=Qi (w.heap.size);rw[HP.out] at CBody HP0
 have CP1:Hid (∀W v,PK w W P v []->Calls Tryz.prog 58 #[.pointer (some ⟨P,0,none⟩),.int .u32 1,.int .i64 1] W fun e W'=>e=.returned (.tuple #[])/\∃v',PK w W' P v' [(1,1)]/\KeepT W W'):=
  fun W v h=>XX w P v [] 1 1 1 (by decide) (.inr (.inl ⟨rfl,by decide⟩)) (by decide) W h
 have CP2:Hid (∀W v,PK w W P v [(1,1)]->Calls Tryz.prog 58 #[.pointer (some ⟨P,0,none⟩),.int .u32 2,.int .i64 2] W fun e W'=>e=.returned (.tuple #[])/\∃v',PK w W' P v' [(1,1),(2,2)]/\KeepT W W'):=
  fun W v h=>XX w P v [(1,1)] 2 2 2 (by decide) (.inr (.inl ⟨rfl,by decide⟩)) (by decide) W h
 have CAl:=Qf (fun W v h=>Yfu w P v FE (by omega) W h)
 have hmin:∀W,Sem.run Tryz.prog (Builtin.min_ #[3,3] 3 #[.int .i64 (M:Int),.int .i64 4000]) W=.ok (.int .i64 (M:Int)) W:=fun W=>by
  have e:(if (4000:Int)<(M:Int) then 4000 else (M:Int))=(M:Int):=by rw[if_neg (by omega)]
  show Result.ok (Value.int .i64 (if (4000:Int)<(M:Int) then 4000 else (M:Int))) W=_;rw[e]
 have dM:((M:Int)==(M:Int))=true:=by simp
 have hMc:(M:Int)<=(cap:Int):=by omega
 clear hr ht hcap;go_enter Tryz.func41,Tryz.ntmps41;go_wp2_with fail;rw[HP.out];refine(CL.out _).mono ?_;rintro e w3 ⟨g1,c1,g2,rfl,hI1,hI2,-,-,hb3⟩;have HI1:=Qf hI1;have HI2:=Qf hI2;have HP3:=Qf (HP0.out.below hb3);clear hI1 hI2 hb3 HP0;go_wp2_with fail;refine(CC1.out _ _ _ HI1.out).mono ?_;rintro e w4 ⟨G1,rfl,hk1,hb4⟩;have HI2b:=Qf (HI2.out.below hb4);have HP4:=Qf (HP3.out.below hb4);have HK1:=Qf hk1;clear hk1 hb4 HP3 HI1 HI2;go_wp2_with fail;refine(CC2.out _ _ _ HI2b.out).mono ?_;rintro e w5 ⟨G2,rfl,hk2,hb5⟩;have HP5:=Qf (HP4.out.below hb5);have HK1b:=Qf (HK1.out.below hb5 HK1.out.lt);have HK2:=Qf hk2;clear hk2 hb5 HP4 HI2b HK1;go_wp2_with fail
 go_loopw [0] (fun l_ wr=>l_=.slice (some ⟨b,off,none⟩) M cap/\Hid (wr=w5)) (fun _ _=>0)
 case atStart=>exact⟨rfl,Qf (Eq.refl _)⟩
 obtain⟨rfl,hwr⟩:=hrel;have hw2:=hwr.out;subst hw2;clear hwr;go_wp2_with fail;refine(CP1.out _ _ HP5.out).mono ?_;rintro e w6 ⟨rfl,v6,hp6,hk6⟩;have HP6:=Qf hp6;have HK6:=Qf hk6;clear hp6 hk6;go_wp2_with fail;refine(CP2.out _ _ HP6.out).mono ?_;rintro e w7 ⟨rfl,v7,hp7,hk7⟩;have HP7:=Qf hp7;have HK7:=Qf (HK6.out.trans hk7);clear hp7 hk7;go_wp2_with fail;refine(CBody.out _ v7 HP7.out).mono ?_;rintro e w8 ⟨rfl,v8,hp8,-⟩;have HP8:=Qf hp8;clear hp8;go_wp2_with fail
 all_goals
  refine(CAl.out _ v8 HP8.out).mono ?_;rintro e w9 ⟨rfl,hb9⟩;have HB9:=Qf ((HP8.out.below hb9).2.1);clear hb9;go_wp2_with fail;go_ret;exact⟨rfl,HB9.out⟩
theorem SinkAt.below {w0 w w':World} {P:Nat} {v:Value} {V c:Nat} (h:SinkAt w P v V c/\w0.heap.size<=w.heap.size) (hb:Below w.heap.size w w'):SinkAt w' P v V c/\w0.heap.size<=w'.heap.size:=by
 obtain⟨⟨h1,h2,h3⟩,h4⟩:=h;refine⟨⟨h1.below hb h1.lt,?_,h3⟩,Qe h4 hb.size⟩;have hlt:=World.ownsRow.lt h2;refine⟨h2.1,?_⟩;rcases h2.2 with h2|⟨g,cap,cur,rfl,h3,h4,h5⟩
 . exact .inl h2
 exact .inr ⟨g,cap,cur,rfl,h3,(hb.block g (hlt g rfl).2).trans h4,h5⟩
def stoL (s:List UInt8):List UInt8:=1::(putL s.length 2++putL (65535-s.length) 2++s)
def stoS (s:ByteArray):ByteArray:=⟨(stoL s.data.toList).toArray⟩
theorem Ycw (s:ByteArray):(stoS s).size=s.size+5:=by
 show(stoL s.data.toList).toArray.size=_;rw[List.size_toArray];unfold stoL;simp only[List.length_cons,List.length_append,Yq];have:s.data.toList.length=s.size:=by simp
 omega
theorem Yg8 (n:Nat) (h:n<=65535):bits .xor .i64 (n:Int) 65535=((65535-n:Nat):Int):=by
 have:=Yda n 65535 (by omega) (by decide);rw[show((65535:Nat):Int)=65535 from rfl,Nat.xor_comm,YbB n (by omega)] at this;exact this
def Ynw (W:World) (P:Nat) (k:Nat):Prop:=∃v V m,SinkAt W P v V (8*m)/\(k=0/\V=0/\m=0\/k=65535/\m=65540)
def YjG:Value->Nat
 |.string s=>s.size
 |_=>0
def Yju (s u:ByteArray):Prop:=(s.size<=65535->u=stoS s)/\(s.size=65536->u.size=65546)
theorem YlM (y1 y2 y3 s:ByteArray) (_hs:s.size<=65535) (h1:(⟨(putL s.size 2).toArray⟩:ByteArray)=y1) (h2:(⟨(putL (65535-s.size) 2).toArray⟩:ByteArray)=y2) (h3:s=y3) (m:Nat) (hm:m=(3+7)/8*8+8*(y1++y2++y3).size) :
 (⟨(YB (1+leN (y1++y2++y3).data.toList*2^((3+7)/8*8)) ((m+7)/8)).toArray⟩:ByteArray)=stoS s:=by
 subst h1 h2 h3 hm
 obtain⟨L,hL⟩:∃L,((⟨(putL s.size 2).toArray⟩:ByteArray)++⟨(putL (65535-s.size) 2).toArray⟩++s)=(⟨L.toArray⟩:ByteArray)/\L=putL s.size 2++putL (65535-s.size) 2++s.data.toList:=by
  refine⟨_,?_,rfl⟩;have e:s=⟨s.data.toList.toArray⟩:=by simp
  conv=>lhs;rw[e]
  rw[YeY];have:(⟨s.data.toList.toArray⟩:ByteArray).size=s.size:=by simp
  rw[this,YeY]
 rw[hL.1]
 have hsz:(⟨L.toArray⟩:ByteArray).size=L.length:=by show L.toArray.size=_;simp
 rw[hsz];have e1:((3+7)/8*8+8*L.length+7)/8=1+L.length:=by omega
 have e2:(3+7)/8*8=8*1:=by decide
 rw[e1,e2];show(⟨(YB (1+leN L*2^(8*1)) (1+L.length)).toArray⟩:ByteArray)=_;rw[Ybv 1 1 (by decide),hL.2];unfold stoS stoL;have:s.data.toList.length=s.size:=by simp
 rw[this];rfl
set_option maxHeartbeats 8000000 in
theorem YfO (s:ByteArray) (hs:s.size<=65536) (w:World):Calls Tryz.prog 40 #[.string s] w fun e w'=>∃u,e=.returned (.string u)/\Yju s u/\Below w.heap.size w w':=by
 have hS0:Ynw (w.alloc (.cells #[.slice none 0 0,.int .u64 0,.int .i64 0] 121)) w.heap.size 0:=
  ⟨.slice none 0 0,0,0,⟨Blk.new w 121 _,World.ownsRow_nil _ _ _ _,by decide⟩,.inl ⟨rfl,rfl,rfl⟩⟩
 have HS0:=Qf hS0;have HB0:=Qf ((Below.refl w.heap.size w).alloc (Qa _) (.cells #[.slice none 0 0,.int .u64 0,.int .i64 0] 121));obtain⟨P,HP⟩:=Qi (w.heap.size);rw[HP.out] at HS0;have Hs:=Qf hs;have hst0:s.extract 0 s.size=s:=by simp
 have Hst0:=Qf hst0;clear hS0 hs hst0;go_enter Tryz.func40,Tryz.ntmps40;go_wp2_with fail;rw[HP.out];generalize w.alloc (.cells #[.slice none 0 0,.int .u64 0,.int .i64 0] 121)=w1 at *
 go_loopw [0] (fun t wr=>∃(k:Nat) (x:ByteArray),t=.string x/\Hid (s.extract k s.size=x)/\Hid (k<=s.size/\(k=0\/k<s.size))/\Hid (Ynw wr P k)/\Hid (Below w.heap.size w wr)) (fun t _=>YjG t)
 case atStart=>exact⟨0,s,rfl,Hst0,Qf ⟨Nat.zero_le _,.inl rfl⟩,HS0,HB0⟩
 clear HS0 HB0 Hst0;obtain⟨k,x,rfl,HX,Hk,HS,HB⟩:=hrel;have hPw:w.heap.size<=P:=by rw[HP.out];exact Qa _
 obtain⟨v,V,m,hSk,hkm⟩:=HS.out;have Hkm:=Qf hkm;have HSk:=Qf hSk;have hm:8*m<=1000000:=by omega
 have hxs:x.size=s.size-k:=by rw[<-HX.out];simp
 have HB1:=HB.out
 have Hvr:Hid (∀g,v.ownBlock=some g->w.heap.size<=g):=fun g e=>by have:=(World.ownsRow.lt hSk.2.1 g e).1;omega
 have hx6:x.size<=65536:=by have:=Hs.out;omega
 have Hxs:=Qf hxs;have Hm:=Qf hm;clear hkm hSk hm hxs HB1 HS;by_cases hlast:x.size<=65535
 . obtain⟨N,HN⟩:=Qi (x.size)
   have hN:N<=65535:=by have:=HN.out;omega
   have hmin:∀W,Sem.run Tryz.prog (Builtin.min_ #[3,3] 3 #[.int .i64 (x.size:Int),.int .i64 65535]) W=.ok (.int .i64 (N:Int)) W:=fun W=>by
    have e:(if (65535:Int)<(x.size:Int) then 65535 else (x.size:Int))=(N:Int):=(by rw[if_neg (by omega),HN.out]);show Result.ok (Value.int .i64 (if (65535:Int)<(x.size:Int) then 65535 else (x.size:Int))) W=_;rw[e]
   have dN:((N:Int)==(x.size:Int))=true:=by have:=HN.out;simp;omega
   have hNx:N<=x.size:=by have:=HN.out;omega
   have hNxI:(N:Int)<=(x.size:Int):=by omega
   obtain⟨Y3,HY3⟩:=Qi (x.extract 0 N);have hY3:(x.extract 0 N).size=N:=by simp;omega
   obtain⟨q,Hq⟩:=Qi (65535-N)
   have hq:q<=65535:=by have:=Hq.out;omega
   have hxo:bits .xor .i64 (N:Int) 65535=(q:Int):=by rw[Yg8 N hN,Hq.out]
   have hwA:IntKind.u64.wrap (N:Int)=(N:Int):=by rw[IntKind.wrap_u64];omega
   have hwB:IntKind.u64.wrap (q:Int)=(q:Int):=by rw[IntKind.wrap_u64];omega
   have C1:=Qf (fun W hW=>XH P v V (8*m) 1 3 3 (by decide) (.inr (.inl ⟨rfl,by decide⟩)) (by have:=Hm.out;omega) W hW)
   have HX2:Hid (x.extract N x.size=s.extract (k+N) s.size):=by
    show _=_;have h1:=Hxs.out;rw[h1,<-HX.out];apply ByteArray.ext;simp only[ByteArray.data_extract,Array.extract_extract]
    congr 1
    have:=Hk.out;omega
   go_wp2_with fail;refine(C1.out _ HSk.out).mono ?_;rintro e w2 ⟨rfl,v2,hS2,hC2,_⟩;have HB2:=Qf (hC2.below HB.out hPw Hvr.out)
   have Hrow:Hid (∀g,v2.ownBlock=some g->w.heap.size<=g):=fun g e=>by have:=(World.ownsRow.lt hS2.2.1 g e).1;omega
   obtain⟨V2,HV2⟩:=Qi (V+1%2^3*2^(8*m));obtain⟨c2,Hc2⟩:=Qi (8*m+3);rw[HV2.out,Hc2.out] at hS2;have hS3:SinkAt w2.drew P v2 V2 c2/\w2.heap.size<=w2.drew.heap.size:=⟨hS2,Qa _⟩;have CT:=Qf (fun (x:ByteArray) (hx:x.size<=1000000) W hW=>JB P v2 V2 c2 x hx (by have:=Hm.out;have:=Hc2.out;omega) W hW);have CA:=Qf (fun W=>Yam N 2 (by omega) (by decide) W);have CB:=Qf (fun W=>Yam q 2 (by omega) (by decide) W);clear hS2 hC2 C1 HSk;obtain⟨y1,Hy1⟩:=Qi ((⟨(putL N 2).toArray⟩:ByteArray));obtain⟨y2,Hy2⟩:=Qi ((⟨(putL q 2).toArray⟩:ByteArray));simp only[show((2:Nat):Int)=2 from rfl] at CA CB;rw[Hy1.out] at CA;rw[Hy2.out] at CB
   have hy1:y1.size=2:=by rw[<-Hy1.out];show(putL N 2).toArray.size=2;rw[List.size_toArray,Yq]
   have hy2:y2.size=2:=by rw[<-Hy2.out];show(putL q 2).toArray.size=2;rw[List.size_toArray,Yq]
   have hx:(y1++y2++x.extract 0 N).size<=1000000:=by rw[ByteArray.size_append,ByteArray.size_append,hy1,hy2,hY3];omega
   have HYs:Hid ((y1++y2++x.extract 0 N).size=4+N):=by show _=_;rw[ByteArray.size_append,ByteArray.size_append,hy1,hy2,hY3]
   have hov1:¬9223372036854775807<y1.size+y2.size:=by rw[hy1,hy2];decide
   have hov2:¬9223372036854775807<(y1++y2).size+(x.extract 0 N).size:=by rw[ByteArray.size_append,hy1,hy2,hY3];omega
   have CTx:=Qf (CT.out _ hx);have hov3:¬9223372036854775807<4+min N x.size:=by omega
   have hov4:¬9223372036854775807<2+2+min N x.size:=by omega
   have hov5:¬9223372036854775807<4+N:=by omega
   clear CT hx hov1 hov2;go_wp2_with fail
   go_region_with (first
    |(go_at_call 60;(with_reducible refine(CA.out _).mono ?_);rintro e w3 ⟨rfl,hb3⟩)
    |(go_at_call 60;(with_reducible refine(CB.out _).mono ?_);rintro e w4 ⟨rfl,hb4⟩)
    |(go_at_call 59;refine(CTx.out _ (SinkAt.below (SinkAt.below hS3 hb3) hb4).1).mono ?_;rintro e w5 ⟨rfl,v5,hS5,hC5,hF5⟩))
   have HB5:=Qf (hC5.below (Yk (Yk HB2.out.drew hb3) hb4) hPw Hrow.out);have HS5:=Qf hS5;clear hC5 hF5 hb3 hb4 hS3 hS5 CTx CA CB;have CAll:=Qf (Yad P v5 _ _ (by have h1:=HYs.out;have h2:=Hc2.out;have h3:=Hm.out;omega) w5 HS5.out)
   have Hres:Hid (Yju s (⟨(YB (V2+leN (y1++y2++x.extract 0 N).data.toList*2^((c2+7)/8*8)) (((c2+7)/8*8+8*(y1++y2++x.extract 0 N).size+7)/8)).toArray⟩:ByteArray)):=by
    rcases Hkm.out with⟨rfl,rfl,rfl⟩|⟨rfl,rfl⟩
    . have hsx:s=x:=by rw[<-HX.out];simp
      have hV2:V2=1:=(by rw[<-HV2.out]);have hc2:c2=3:=(by rw[<-Hc2.out]);have hNe:N=x.size:=HN.out.symm;subst hsx hV2 hc2;refine⟨fun h=>?_,fun h=>?_⟩
      . refine YlM y1 y2 _ s h ?_ ?_ ?_ _ rfl
        . rw[<-Hy1.out,hNe]
        . rw[<-Hy2.out,<-Hq.out,hNe]
        rw[hNe];simp
      omega
    have h1:=Hxs.out;have h2:=HYs.out;have h3:=HN.out;have h4:=Hc2.out;have h5:=Hk.out;refine⟨fun h=>?_,fun h=>?_⟩
    . exfalso
      omega
    show(YB _ _).toArray.size=_;rw[List.size_toArray,YW,h2];omega
   obtain⟨U,HU⟩:=Qi ((⟨(YB (V2+leN (y1++y2++x.extract 0 N).data.toList*2^((c2+7)/8*8)) (((c2+7)/8*8+8*(y1++y2++x.extract 0 N).size+7)/8)).toArray⟩:ByteArray));rw[HU.out] at CAll Hres;go_wp2_with fail;refine CAll.out.mono ?_;rintro e w6 ⟨rfl,hb6⟩;have Hb6:=Qf (Yk HB5.out hb6);clear hb6;go_wp2_with fail;go_ret;exact⟨U,rfl,Hres.out,Hb6.out⟩
 obtain⟨N,HN⟩:=Qi (65535)
 have hN:N<=65535:=by have:=HN.out;omega
 have hmin:∀W,Sem.run Tryz.prog (Builtin.min_ #[3,3] 3 #[.int .i64 (x.size:Int),.int .i64 65535]) W=.ok (.int .i64 (N:Int)) W:=fun W=>by
  have e:(if (65535:Int)<(x.size:Int) then 65535 else (x.size:Int))=(N:Int):=by rw[if_pos (by omega),<-HN.out];rfl
  show Result.ok (Value.int .i64 (if (65535:Int)<(x.size:Int) then 65535 else (x.size:Int))) W=_;rw[e]
 have dN:((N:Int)==(x.size:Int))=false:=by have:=HN.out;simp;omega
 have hNx:N<=x.size:=by have:=HN.out;omega
 have hNxI:(N:Int)<=(x.size:Int):=by omega
 obtain⟨Y3,HY3⟩:=Qi (x.extract 0 N);have hY3:(x.extract 0 N).size=N:=by simp;omega
 obtain⟨q,Hq⟩:=Qi (65535-N)
 have hq:q<=65535:=by have:=Hq.out;omega
 have hxo:bits .xor .i64 (N:Int) 65535=(q:Int):=by rw[Yg8 N hN,Hq.out]
 have hwA:IntKind.u64.wrap (N:Int)=(N:Int):=by rw[IntKind.wrap_u64];omega
 have hwB:IntKind.u64.wrap (q:Int)=(q:Int):=by rw[IntKind.wrap_u64];omega
 have C1:=Qf (fun W hW=>XH P v V (8*m) 0 3 3 (by decide) (.inr (.inl ⟨rfl,by decide⟩)) (by have:=Hm.out;omega) W hW)
 have HX2:Hid (x.extract N x.size=s.extract (k+N) s.size):=by
  show _=_;have h1:=Hxs.out;rw[h1,<-HX.out];apply ByteArray.ext;simp only[ByteArray.data_extract,Array.extract_extract]
  congr 1
  have:=Hk.out;omega
 go_wp2_with fail;refine(C1.out _ HSk.out).mono ?_;rintro e w2 ⟨rfl,v2,hS2,hC2,_⟩;have HB2:=Qf (hC2.below HB.out hPw Hvr.out)
 have Hrow:Hid (∀g,v2.ownBlock=some g->w.heap.size<=g):=fun g e=>by have:=(World.ownsRow.lt hS2.2.1 g e).1;omega
 obtain⟨V2,HV2⟩:=Qi (V+0%2^3*2^(8*m));obtain⟨c2,Hc2⟩:=Qi (8*m+3);rw[HV2.out,Hc2.out] at hS2;have hS3:SinkAt w2.drew P v2 V2 c2/\w2.heap.size<=w2.drew.heap.size:=⟨hS2,Qa _⟩;have CT:=Qf (fun (x:ByteArray) (hx:x.size<=1000000) W hW=>JB P v2 V2 c2 x hx (by have:=Hm.out;have:=Hc2.out;omega) W hW);have CA:=Qf (fun W=>Yam N 2 (by omega) (by decide) W);have CB:=Qf (fun W=>Yam q 2 (by omega) (by decide) W);clear hS2 hC2 C1 HSk;obtain⟨y1,Hy1⟩:=Qi ((⟨(putL N 2).toArray⟩:ByteArray));obtain⟨y2,Hy2⟩:=Qi ((⟨(putL q 2).toArray⟩:ByteArray));simp only[show((2:Nat):Int)=2 from rfl] at CA CB;rw[Hy1.out] at CA;rw[Hy2.out] at CB
 have hy1:y1.size=2:=by rw[<-Hy1.out];show(putL N 2).toArray.size=2;rw[List.size_toArray,Yq]
 have hy2:y2.size=2:=by rw[<-Hy2.out];show(putL q 2).toArray.size=2;rw[List.size_toArray,Yq]
 have hx:(y1++y2++x.extract 0 N).size<=1000000:=by rw[ByteArray.size_append,ByteArray.size_append,hy1,hy2,hY3];omega
 have HYs:Hid ((y1++y2++x.extract 0 N).size=4+N):=by show _=_;rw[ByteArray.size_append,ByteArray.size_append,hy1,hy2,hY3]
 have hov1:¬9223372036854775807<y1.size+y2.size:=by rw[hy1,hy2];decide
 have hov2:¬9223372036854775807<(y1++y2).size+(x.extract 0 N).size:=by rw[ByteArray.size_append,hy1,hy2,hY3];omega
 have CTx:=Qf (CT.out _ hx);have hov3:¬9223372036854775807<4+min N x.size:=by omega
 have hov4:¬9223372036854775807<2+2+min N x.size:=by omega
 have hov5:¬9223372036854775807<4+N:=by omega
 clear CT hx hov1 hov2;go_wp2_with fail
 go_region_with (first
  |(go_at_call 60;(with_reducible refine(CA.out _).mono ?_);rintro e w3 ⟨rfl,hb3⟩)
  |(go_at_call 60;(with_reducible refine(CB.out _).mono ?_);rintro e w4 ⟨rfl,hb4⟩)
  |(go_at_call 59;refine(CTx.out _ (SinkAt.below (SinkAt.below hS3 hb3) hb4).1).mono ?_;rintro e w5 ⟨rfl,v5,hS5,hC5,hF5⟩))
 have HB5:=Qf (hC5.below (Yk (Yk HB2.out.drew hb3) hb4) hPw Hrow.out);have HS5:=Qf hS5;clear hC5 hF5 hb3 hb4 hS3 hS5 CTx CA CB;go_wp2_with fail;go_roundw
 case rel=>
  refine⟨k+N,_,rfl,Qf HX2.out.symm,?_,?_,HB5⟩
  . show k+N<=s.size/\(k+N=0\/k+N<s.size)
    have h2:=HN.out;have:=Hxs.out;omega
  have h1:=Hxs.out;have h2:=HN.out;have h3:=Hs.out;have hk0:k=0:=by omega
  rcases Hkm.out with⟨_,_,hm0⟩|⟨h,_⟩
  . have h5:=HS5.out
    have e:(c2+7)/8*8+8*(y1++y2++x.extract 0 N).size=8*65540:=by
     rw[HYs.out,<-Hc2.out,hm0];omega
    rw[e] at h5;exact⟨v5,_,65540,h5,.inr ⟨by omega,rfl⟩⟩
  omega
 have h1:=HN.out;show YjG (.string (x.extract N x.size))<YjG (.string x);unfold YjG;simp;omega
def byt (s:ByteArray) (i:Nat):UInt8:=s.data.toList.getD i 0
def k3 (s:ByteArray) (i:Nat):List UInt8:=(s.extract i (i+3)).data.toList
def VB (s:ByteArray) (i:Nat):Nat->Option Nat
 |0=>none
 |q+1=>if q+3<=s.size/\k3 s q=k3 s i then some q else VB s i q
theorem JW (s:ByteArray) (i q j:Nat) (h:VB s i q=some j):j<q/\j+3<=s.size:=by
 induction q with
 |zero=>cases h
 |succ q ih=>
  unfold VB at h;split at h
  . rename_i hc
    cases h;exact⟨by omega,hc.1⟩
  obtain⟨h1,h2⟩:=ih h;exact⟨by omega,h2⟩
def dm (s:ByteArray):Nat->DataW Unit
 |0=>.map []
 |q+1=>if q+3<=s.size then (dm s q).put (.string (k3 s q)) (.lit (.int .i64 (q:Int))) else dm s q
theorem Yls (s:ByteArray) (q:Nat):Maps.IsMap (dm s q):=by
 induction q with
 |zero=>exact⟨_,rfl⟩
 |succ q ih=>
  unfold dm;split
  . exact ih.put _ _
  exact ih
theorem Yfh (s:ByteArray) (i q:Nat):Maps.has (dm s q) (.string (k3 s i))=(VB s i q).isSome:=by
 induction q with
 |zero=>rfl
 |succ q ih=>
  unfold dm VB;by_cases h1:q+3<=s.size
  . rw[if_pos h1]
    by_cases h2:k3 s q=k3 s i
    . rw[if_pos ⟨h1,h2⟩,h2,Maps.has_put_same (Yls s q) (show Go.WideAt.IsKeyLit (.string _) from True.intro)]
      rfl
    rw[if_neg (fun h=>h2 h.2),Maps.has_put_other (fun e=>h2 (by injection e with e;exact e.symm)),ih]
  rw[if_neg h1,if_neg (fun h=>h1 h.1),ih]
theorem Yns (s:ByteArray) (i q j:Nat) (h:VB s i q=some j) (z:DataW Unit):(dm s q).atKey (.string (k3 s i)) z=.lit (.int .i64 (j:Int)):=by
 induction q with
 |zero=>cases h
 |succ q ih=>
  unfold VB at h;unfold dm;by_cases h1:q+3<=s.size
  . rw[if_pos h1]
    by_cases h2:k3 s q=k3 s i
    . rw[if_pos ⟨h1,h2⟩] at h
      obtain rfl:q=j:=(by injection h);rw[h2,Maps.atKey_put_same (Yls s q) (show Go.WideAt.IsKeyLit (.string _) from True.intro)]
    rw[if_neg (fun h=>h2 h.2)] at h;rw[Maps.atKey_put_other (fun e=>h2 (by injection e with e;exact e.symm)),ih h]
  rw[if_neg (fun h=>h1 h.1)] at h;rw[if_neg h1,ih h]
def atI:Option Nat->Int
 |some t=>(t:Int)
 |none=>-1
def pvc (s:ByteArray) (q j:Nat):Value:=.int .i64 (if j<q/\j+3<=s.size then atI (VB s j j) else 0)
def mlen (s:ByteArray) (a i:Nat):Nat->Nat->Nat
 |m,0=>m
 |m,f+1=>if i+m<s.size/\byt s (a+m)=byt s (i+m) then mlen s a i (m+1) f else m
theorem Ymj (s:ByteArray) (a i:Nat) (f:Nat):∀m,(∀j,j<m->i+j<s.size/\byt s (a+j)=byt s (i+j))->(∀j,j<mlen s a i m f->i+j<s.size/\byt s (a+j)=byt s (i+j))/\mlen s a i m f<=m+f:=by
 induction f with
 |zero=>exact fun m h=>⟨h,Qa _⟩
 |succ f ih=>
  intro m h;unfold mlen;split
  . rename_i hc
    obtain⟨h1,h2⟩:=ih (m+1) fun j hj=>by
     by_cases e:j=m
     . subst e;exact hc
     exact h j (by omega)
    exact⟨h1,by omega⟩
  exact⟨h,by omega⟩
def VX (s:ByteArray) (i:Nat):Nat->Option Nat->Nat->Nat->Nat × Nat
 |0,_,n,d=>(n,d)
 |_+1,none,n,d=>(n,d)
 |k+1,some a,n,d=>if i-a<=32768 then VX s i k (VB s a a) (if n<mlen s a i 0 258 then mlen s a i 0 258 else n) (if n<mlen s a i 0 258 then i-a else d) else (n,d)
def YmT (s:ByteArray) (i n d:Nat):Prop:=n=0\/(n<=258/\1<=d/\d<=32768/\d<=i/\∀j,j<n->i+j<s.size/\byt s (i-d+j)=byt s (i+j))
theorem Ykz (s:ByteArray) (i k:Nat):∀o n d,(∀a,o=some a->a<i)->YmT s i n d->YmT s i (VX s i k o n d).1 (VX s i k o n d).2:=by
 induction k with
 |zero=>intro o n d _ h;exact h
 |succ k ih=>
  intro o n d ho h
  cases o with
  |none=>exact h
  |some a=>
   unfold VX;split
   . rename_i hw
     have ha:=ho a rfl;refine ih _ _ _ (fun b hb=>by have:=(JW s a a b hb).1;omega) ?_;split
     . right
       obtain⟨h1,h2⟩:=Ymj s a i 258 0 (fun j hj=>by omega);refine⟨by omega,by omega,hw,by omega,fun j hj=>?_⟩;rw[show i-(i-a)+j=a+j by omega];exact h1 j hj
     exact h
   exact h
def Vw (s:ByteArray) (far q i:Nat):Nat × Nat:=
 if s.size<i+3\/far=0 then (0,0) else if (VX s i far (VB s i q) 0 0).1<3 then (0,0) else VX s i far (VB s i q) 0 0
theorem Yck (s:ByteArray) (far q i:Nat) (hq:q<=i):YmT s i (Vw s far q i).1 (Vw s far q i).2/\((Vw s far q i).1=0\/3<=(Vw s far q i).1)/\(far=0->(Vw s far q i).1=0):=by
 unfold Vw;split
 . exact⟨.inl rfl,.inl rfl,fun _=>rfl⟩
 rename_i hc;split
 . exact⟨.inl rfl,.inl rfl,fun _=>rfl⟩
 refine⟨Ykz s i far _ 0 0 (fun a ha=>by have:=(JW s i q a ha).1;omega) (.inl rfl),.inr (by omega),fun h=>absurd (.inr h) hc⟩
def Kf (s:ByteArray) (lv i:Nat):Nat:=
 if 0<(Vw s (lv*lv) i i).1/\4<lv/\i+1<s.size/\(Vw s (lv*lv) i i).1+1<(Vw s (lv*lv) (i+1) (i+1)).1 then 0 else (Vw s (lv*lv) i i).1
def tokF (s:ByteArray) (lv:Nat):Nat->Nat->List Tok
 |0,_=>[]
 |f+1,i=>if i<s.size then (if Kf s lv i=0 then ⟨byt s i,0,0⟩::tokF s lv f (i+1) else ⟨0,(Kf s lv i:Int),((Vw s (lv*lv) i i).2:Int)⟩::tokF s lv f (i+Kf s lv i)) else []
theorem Yex (s:ByteArray) (i:Nat) (h:i<s.size):s.data.toList.take i++[byt s i]=s.data.toList.take (i+1):=by
 have hl:i<s.data.toList.length:=by simpa using h
 rw[List.take_succ_eq_append_getElem hl];unfold byt;rw[List.getD_eq_getElem?_getD,List.getElem?_eq_getElem hl];rfl
theorem Yj8 (s:ByteArray) (i d n:Nat) (hd:d<=i) (hd1:1<=d) (h:∀j,j<n->i+j<s.size/\byt s (i-d+j)=byt s (i+j)):∀m,m<=n->rep d (s.data.toList.take i) m=s.data.toList.take (i+m):=by
 intro m
 induction m with
 |zero=>intro _;rfl
 |succ m ih=>
  intro hm;have h1:=h m (by omega);show rep d _ m++[(rep d _ m).getD ((rep d _ m).length-d) 0]=_;rw[ih (by omega)];have hl:(s.data.toList.take (i+m)).length=i+m:=by rw[List.length_take];simp;omega
  rw[hl]
  have e:(s.data.toList.take (i+m)).getD (i+m-d) 0=byt s (i+m):=by
   rw[<-h1.2];unfold byt;rw[List.getD_eq_getElem?_getD,List.getD_eq_getElem?_getD,List.getElem?_take,if_pos (by omega),show i+m-d=i-d+m by omega]
  rw[e];exact Yex s (i+m) h1.1
theorem Yh1 (s:ByteArray) (lv i:Nat):Kf s lv i=0\/(Kf s lv i=(Vw s (lv*lv) i i).1/\3<=Kf s lv i/\Kf s lv i<=258/\1<=(Vw s (lv*lv) i i).2/\(Vw s (lv*lv) i i).2<=32768/\(Vw s (lv*lv) i i).2<=i/\i+Kf s lv i<=s.size/\
 ∀j,j<Kf s lv i->i+j<s.size/\byt s (i-(Vw s (lv*lv) i i).2+j)=byt s (i+j)):=by
 obtain⟨hg,h3,_⟩:=Yck s (lv*lv) i i (Qa _);by_cases h:Kf s lv i=0
 . exact .inl h
 have e:Kf s lv i=(Vw s (lv*lv) i i).1:=by
  unfold Kf at h ⊢;split
  . rename_i hc;rw[if_pos hc] at h;exact absurd rfl h
  rfl
 rw[e] at h ⊢;rcases hg with h0|⟨h1,h2,h4,h5,h6⟩
 . exact absurd h0 h
 have hn:=h3.resolve_left h;refine .inr ⟨rfl,hn,h1,h2,h4,h5,?_,h6⟩;have:=(h6 ((Vw s (lv*lv) i i).1-1) (by omega)).1;omega
theorem Yew (s:ByteArray) (lv:Nat):∀fu i,s.size-i<=fu->i<=s.size->texp (s.size:Int) (s.data.toList.take i) (tokF s lv fu i)=(s.data.toList,0):=by
 intro fu
 induction fu with
 |zero=>
  intro i h1 h2;obtain rfl:i=s.size:=by omega
  show(_,0)=_;rw[List.take_of_length_le (by simp)]
 |succ fu ih=>
  intro i h1 h2;by_cases hlt:i<s.size
  . have hl:(s.data.toList.take i).length=i:=by rw[List.length_take];simp;omega
    show texp _ _ (if _ then _ else _)=_;rw[if_pos hlt];by_cases hp:Kf s lv i=0
    . rw[if_pos hp,UE (by unfold terr;rw[hl];simp;omega)]
      show texp _ (s.data.toList.take i++[byt s i]) _=_;rw[Yex s i hlt];exact ih (i+1) (by omega) (by omega)
    obtain⟨_,p1,p2,p3,p4,p5,p6,p7⟩:=(Yh1 s lv i).resolve_left hp
    rw[if_neg hp,UE (by
     unfold terr
     rw[hl,if_neg (by simp only;omega),if_neg (by simp only[ne_eq,not_true_eq_false,false_or];omega),if_neg (by simp only;omega)])]
    have e:tout (s.data.toList.take i) ⟨0,(Kf s lv i:Int),((Vw s (lv*lv) i i).2:Int)⟩=s.data.toList.take (i+Kf s lv i):=by
     unfold tout;rw[if_neg (by simp only;omega)];simp only[Int.toNat_natCast];exact Yj8 s i _ _ p5 p3 p7 _ (Qa _)
    rw[e];exact ih _ (by omega) p6
  obtain rfl:i=s.size:=by omega
  show texp _ _ (if _ then _ else _)=_;rw[if_neg hlt];show(_,0)=_;rw[List.take_of_length_le (by simp)]
theorem YjM (s:ByteArray) (lv:Nat):∀fu i,(tokF s lv fu i).length<=s.size-i:=by
 intro fu
 induction fu with
 |zero=>intro i;exact Nat.zero_le _
 |succ fu ih=>
  intro i;show(if _ then _ else _:List Tok).length<=_;by_cases hlt:i<s.size
  . rw[if_pos hlt]
    by_cases hp:Kf s lv i=0
    . rw[if_pos hp,List.length_cons]
      have:=ih (i+1);omega
    rw[if_neg hp,List.length_cons];have:=ih (i+Kf s lv i);obtain⟨_,p1,_⟩:=(Yh1 s lv i).resolve_left hp;omega
  rw[if_neg hlt];exact Nat.zero_le _
theorem Ye4 (x:Nat) (h:x<65536):leN (putL x 2)=x:=by
 have e:putL x 2=YB x 2:=by
  unfold YB putL putL putL;rfl
 rw[e,Kj,Nat.mod_eq_of_lt (by simpa using h)]
theorem Yma (s:ByteArray) (h:s.size<=65535):num (stoS s)=1+256*(s.size+65536*((65535-s.size)+65536*leN s.data.toList)):=by
 have hl:s.data.toList.length=s.size:=by simp
 show leN (stoL s.data.toList)=_;unfold stoL;show(UInt8.toNat 1)+256*leN _=_;rw[List.append_assoc,Ua,Ua,Yq,Yq,Ye4 _ (by omega),Ye4 _ (by omega),hl];show 1+256*(s.size+(65535-s.size+leN s.data.toList*65536)*65536)=_;omega
theorem Yg0:∀(l:List UInt8),VV (leN l) l.length=l:=by
 intro l
 induction l with
 |nil=>rfl
 |cons c l ih=>
  have hc:=c.toNat_lt;show UInt8.ofNat ((c.toNat+256*leN l)%256)::VV ((c.toNat+256*leN l)/256) l.length=_;rw[show(c.toNat+256*leN l)%256=c.toNat by omega,show(c.toNat+256*leN l)/256=leN l by omega,ih];simp
theorem YjU (s:ByteArray) (most:Nat) (h:s.size<=65535) (hm:s.size<=most):Kl (stoS s) most=.ok ([⟨0,s.data.toList,[]⟩],⟨0,0,s.size⟩):=by
 have hl:s.data.toList.length=s.size:=by simp
 have hlt:=Uj s.data.toList;rw[hl,Xw] at hlt;obtain⟨R,hR⟩:∃R,leN s.data.toList=R:=⟨_,rfl⟩
 have hsg:sg (stoS s) 0 0=⟨1+256*(s.size+65536*((65535-s.size)+65536*R)),8*(s.size+5),0⟩:=by
  unfold sg;rw[Yma s h,Ycw,hR];simp
 rw[hR] at hlt;unfold Kl;rw[hsg];show Yc (Xx most _) _=_
 have hb:Xx most ⟨1+256*(s.size+65536*((65535-s.size)+65536*R)),8*(s.size+5),0⟩=.ok ((1,⟨0,s.data.toList,[]⟩),⟨0,0,s.size⟩):=by
  unfold Xx Yy;rw[if_neg (by show ¬8*(s.size+5)<1;omega),Yj];dsimp only;rw[if_neg (by omega),Yj];rw[if_pos (by omega)];unfold Vz
  have he:Ycb ⟨(1+256*(s.size+65536*(65535-s.size+65536*R)))/2^1/2^2,8*(s.size+5)-1-2,0⟩=⟨s.size+65536*(65535-s.size+65536*R),8*(s.size+4),0⟩:=by
   unfold Ycb;dsimp only;rw[show(8*(s.size+5)-1-2)%8=5 by omega,show 8*(s.size+5)-1-2-5=8*(s.size+4) by omega]
   congr 1
   omega
  rw[he];unfold Yy;dsimp only;rw[if_neg (by omega),Yj];dsimp only;rw[if_neg (by omega),Yj];have e1:(s.size+65536*(65535-s.size+65536*R))%2^16=s.size:=by omega
  have e2:(s.size+65536*(65535-s.size+65536*R))/2^16=65535-s.size+65536*R:=by omega
  have e3:(65535-s.size+65536*R)%2^16=65535-s.size:=by omega
  have e4:(65535-s.size+65536*R)/2^16=R:=by omega
  rw[e1,e2,e3,e4,if_neg (by omega),if_neg (by show ¬8*(s.size+4)-16-16<8*s.size;omega)];unfold VY;dsimp only;rw[if_neg (by omega),Yj]
  have e5:VV R s.size=s.data.toList:=by rw[<-hR,<-hl];exact Yg0 _
  rw[e5,Nat.div_eq_of_lt hlt,show 8*(s.size+4)-16-16-8*s.size=0 by omega,Yj,Nat.zero_add,show(1+256*(s.size+65536*(65535-s.size+65536*R)))%2^1=1 by omega]
 rw[hb,Yj];rfl
end Go.Proofs.YthehocmfpoglgaaGreat
