/- ZipfmtHeads: an archive's heads and what each opens, as the document says. Conditions: texts that Go can hold. -/
import Derived.Test.YthehocmfpoglgaaGreatLaw8gJ
import Derived.Laws.OwnMore
import Derived.SizedLaws
namespace Go.Proofs.YthehocmfpoglgaaGreat
open Go.RowKit
set_option maxRecDepth 100000
def hdF:Except Nat (List Hd)->List Hd
 |.ok l=>l
 |.error _=>[]
def txF:Except Nat ByteArray->ByteArray
 |.ok x=>x
 |.error _=>⟨#[]⟩
theorem Ymq (s:ByteArray) (hs:s.size<=140737488351232) (w:World):Calls Tryz.prog 19 #[.string s] w fun r w'=>Below w.heap.size w w'/\∃v,r=.returned (.tuple #[v,.int .i64 (erF (Yv s):Int)])/\OwnH w' w.heap.size v (hdF (Yv s)):=by
 refine(Ydb s hs w).mono ?_;rintro r w' ⟨hb,⟨e,h1,h3⟩|⟨l,v,h1,h2,hv⟩⟩
 . rw[h1]
   exact⟨hb,_,h3,World.ownsRow_nil w' _ _ 6⟩
 rw[h1];exact⟨hb,v,h2,hv⟩
theorem YeI (s:ByteArray) (hs:s.size<=maxLen) (w:World):Calls Tryz.prog 15 #[.string s] w fun r w'=>Below w.heap.size w w'/\∃v,r=.returned (.tuple #[v,.int .i64 (erF (Yv s):Int)])/\OwnHr w' w.heap.size v (hdF (Yv s)):=by
 refine(Ya7 s hs w).mono ?_;rintro r w' ⟨hb,⟨e,h1,h3⟩|⟨l,v,h1,h2,hv⟩⟩
 . rw[h1]
   exact⟨hb,_,h3,World.ownsRow_nil w' _ _ 6⟩
 rw[h1];exact⟨hb,v,h2,hv⟩
theorem Yne (s:ByteArray) (h:Hd) (hs:s.size<=100000) (hc:h.crc<4294967296) (hn:h.name.size<=9223372036854775000) (w:World) :
 Calls Tryz.prog 20 #[.string s,h.val] w fun r w'=>Below w.heap.size w w'/\r=.returned (.tuple #[.string (txF (Xn s h)),.int .i64 (erF (Xn s h):Int)]):=by
 refine(YeT s h hs hc hn w).mono ?_;rintro r w' ⟨hb,⟨e,h1,_,h3⟩|⟨x,h1,h2⟩⟩
 . rw[h1];exact⟨hb,h3⟩
 rw[h1];exact⟨hb,h2⟩
theorem YlS (s:ByteArray) (h:Hd) (hs:s.size<=12500) (hc:h.crc<4294967296) (hn:h.name.size<=9223372036854775000) (w:World) :
 Calls Tryz.prog 21 #[.string s,h.val] w fun r w'=>Below w.heap.size w w'/\r=.returned (.tuple #[.string (txF (Xn s h)),.int .i64 (erF (Xn s h):Int)]):=by
 refine(YcH s h (by omega) (.inl hs) hc hn w).mono ?_;rintro r w' ⟨hb,⟨e,h1,_,h3⟩|⟨x,h1,h2⟩⟩
 . rw[h1];exact⟨hb,h3⟩
 rw[h1];exact⟨hb,h2⟩
theorem YbO (w:World) (ty:TypeId) (base:Nat) (v:Value) (L:List Hd) (base2:Nat) (v2:Value) (M:List Hd) (hown:OwnH w base v L) (h2:OwnH w base2 v2 M) (hlen:L.length+M.length<=1000) (hb:base<=w.heap.size) :
 ∃v' w',(Builtin.append_ #[50,50] ty #[v,v2]).run Tryz.prog w=.ok v' w'/\OwnH w' base v' (L++M)/\w.grownBy w' v.ownBlock:=by
 obtain⟨i0,hi,hz0,hz1,hz2⟩:=info_parts UU
 have hone:∀(M:List Hd),∀u ∈ Vf M,u.oneCell'=true:=by
  intro M u hu;unfold Vf at hu;rw[List.mem_flatMap] at hu;obtain⟨h,_,hu⟩:=hu;exact Ybq h u hu
 rcases h2.2 with⟨rfl,h0⟩|⟨g,cap,cur,rfl,_⟩
 . have hM:M=[]:=List.eq_nil_of_length_eq_zero h0
   subst hM;exact⟨v,w,run_append_owned_none w base _ ty _ i0 6 Tryz.underlying50 hi v _ _ hown,by rw[List.append_nil];exact hown,⟨rfl,rfl,rfl,Qa _,fun _ _ _=>rfl⟩⟩
 obtain⟨v',w',hrun,r2,r3,_⟩:=run_append_own w base 50 ty _ i0 _ 6 _ Tryz.underlying50 hi hz0 hz1 hz2 rfl (by decide) v _ _ hown ⟨g,0,none⟩ M.length cap (Vf M) h2.1
  (World.ownsRow.cells h2 (g:=g) rfl) (hone M) (by unfold maxLen;omega) (by omega) hb
 refine⟨v',w',hrun,?_,r3⟩;unfold OwnH;rw[List.length_append,Kx];exact r2
theorem U7 {ops:Array Oper} {o:Oper} {a:Act} {K:Act->World->Prop} {Q:Exit->Act->World->Prop} {E:Prop} (w:World) (hgd:o.guard=none) (s x:Operand)
 (ho:o.op=.call { callee:=.builtin .append,args:=#[s,x],argTypes:=#[50,50] })
 (base:Nat) (v:Value) (L:List Hd) (base2:Nat) (v2:Value) (M:List Hd) (hs:a.eval s=v) (hx:a.eval x=v2) (hown:OwnH w base v L) (h2:OwnH w base2 v2 M) (hlen:L.length+M.length<=1000) (hb:base<=w.heap.size)
 (h:∀v' w',OwnH w' base v' (L++M)->w.grownBy w' v.ownBlock->K (a.put o.dst v') w') :
 if Region.wanted o (yielded ops a.tmps)=true then Oper.wp Tryz.prog o a w K Q else E:=by
 have hw:Region.wanted o (yielded ops a.tmps)=true:=by simp[Region.wanted,hgd]
 rw[if_pos hw];obtain⟨v',w',hrun,r2,r3⟩:=YbO w o.type base v L base2 v2 M hown h2 hlen hb;have hk:=h v' w' r2 r3;unfold Oper.wp execOp;simp only[ho,resolve,invoke,builtin,Sem.run_bind,Sem.run_pure,Result.andThen_ok,List.map_toArray,List.map_cons,List.map_nil,hs,hx,hrun];exact hk
theorem OwnH.lit (w:World) (base:Nat) (h:Hd) (hb:base<=w.heap.size):OwnH (w.alloc (.cells h.cells 49)) base (.slice (some ⟨w.heap.size,0,none⟩) 1 1) [h]:=by
 have:=World.ownsRow_lit (e:=49) (size:=6) (base:=base) w h.cells 1 hb (by decide) rfl;have e:Vf [h]=h.cells.toList:=by simp[Vf]
 unfold OwnH;rw[e];exact this
theorem OwnH.keptG {w w':World} {base:Nat} {v:Value} {L:List Hd} {o:Option Nat} (h:OwnH w base v L) (hg:w.grownBy w' o) (hne:∀g,v.ownBlock=some g->o ≠ some g):OwnH w' base v L:=by
 refine World.ownsRow.kept h hg ?_
 cases hv:v.ownBlock with
 |none=>exact .inl rfl
 |some g=>exact .inr fun e=>hne g hv e.symm
theorem OwnH.nilH (w:World) (base:Nat) (hb:base<=w.heap.size):OwnH (w.alloc (.cells #[] 49)) base (.slice (some ⟨w.heap.size,0,none⟩) 0 0) []:=
 ⟨rfl,.inr ⟨w.heap.size,0,#[],rfl,hb,Blk.new w _ _,Qa _,Nat.zero_le _,rfl,rfl⟩⟩
theorem OwnH.al {w:World} {base:Nat} {v:Value} {L:List Hd} (h:OwnH w base v L) (o:Obj):OwnH (w.alloc o) base v L:=World.ownsRow.alloc h o
theorem OwnH.bel {w0 w w':World} {base b0:Nat} {v:Value} {L:List Hd} (h:Below b0 w0 w) (ho:OwnH w base v L) (hg:w.grownBy w' v.ownBlock) (hb:base<=w.heap.size) (he:b0=base):Below b0 w0 w':=by
 subst he;exact h.trans (Yb ho hg hb)
theorem Yj3 {w:World} {base:Nat} {a:Option Addr} {L:List Hd} {n c:Nat} (h:OwnH w base (.slice a n c) L):HRow w a L:=by
 obtain⟨a',c',e,hr⟩:=h.view;injection e with e1 _ _;rw[e1];exact hr
theorem Ymr (s:ByteArray):(hdF (Yv s)).length<=200:=by
 cases h:Yv s with
 |error e=>exact Nat.zero_le _
 |ok l=>exact(XO h).2.2.2.1
theorem Yms (s:ByteArray):∀g ∈ hdF (Yv s),g.crc<4294967296/\g.name.size<=9223372036854775000:=by
 cases h:Yv s with
 |error e=>intro g hg;cases hg
 |ok l=>
  intro g hg;obtain⟨_,h2,_⟩:=XO h;obtain⟨f1,f2,f3,f4,f5,f6⟩:=h2 g hg;exact⟨f2,by omega⟩
end Go.Proofs.YthehocmfpoglgaaGreat
