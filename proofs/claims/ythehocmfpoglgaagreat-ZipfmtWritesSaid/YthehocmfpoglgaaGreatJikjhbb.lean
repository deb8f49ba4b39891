/- Texts joined: Base Get Zat BitP Turn Sink SinkT Sink2 Sink3 TreeP IRow CodesP Codes CodesW TreeM Tok Bld PutA Fld Hd Idx NmA Nm Chk HdsP OwnH ZipP Source NewW Mul1 InfT. Conditions: each theorem says its own. -/
import Derived.WalkKit
import Derived.WalkSpells
import Derived.WalkLawsBesides
import Derived.Lib.Hide
import Derived.Deep.AppendLies
import Derived.Deep.DeepMust
import Derived.Deep.QuietTactic
import Derived.BigQuiet
import Derived.Laws.CopyOwn
import Derived.Maps.AppendAt
import Derived.Lib.AppendStr
import Derived.Laws.AppendOwnNone
import Derived.Deep.Cut
import Derived.Lib.Builder
import Derived.Lib.UnsafeStr
import Derived.StillTailTactics
import Derived.Deep.RegionHeld3
import Derived.Lib.OthersKept
import Derived.Lib.TrimU
import Derived.Deep.LoopGhost
import Derived.Shelf.Abstract
import Derived.Lib.SlicesS
import Derived.Test.YthehocmfpoglgaaGreatRows
namespace Go.Proofs.YthehocmfpoglgaaGreat
theorem Qa (n:Nat):n<=n:=Nat.le_refl n
theorem Qb {a b c:Nat} (h:a<b) (k:b<=c):a<c:=Nat.lt_of_lt_of_le h k
theorem Qe {a b c:Nat} (h:a<=b) (k:b<=c):a<=c:=Nat.le_trans h k
theorem Qf {p:Prop} (h:p):Go.RowKit.Hid p:=h
theorem Qg {p:Prop} [Decidable p] (h:p):decide p=true:=decide_eq_true h
theorem Qh {p:Prop} [Decidable p] (h:¬p):decide p=false:=decide_eq_false h
theorem Qj {a b:Nat} (h:a<b):decide ((a:Int)<(b:Int))=true/\decide (a<b)=true:=⟨decide_eq_true (by omega),decide_eq_true h⟩
theorem Qk {a b:Nat} (h:a<=b):decide ((a:Int)<=(b:Int))=true/\decide (a<=b)=true:=⟨decide_eq_true (by omega),decide_eq_true h⟩
theorem Ql {a b:Nat} (h:b<=a):decide ((a:Int)<(b:Int))=false/\decide (a<b)=false:=⟨decide_eq_false (by omega),decide_eq_false (by omega)⟩
theorem Qm {a b:Nat} (h:b<a):decide ((a:Int)<=(b:Int))=false/\decide (a<=b)=false:=⟨decide_eq_false (by omega),decide_eq_false (by omega)⟩
theorem Qi {α:Sort _} (x:α):∃R,Go.RowKit.Hid (x=R):=⟨x,Go.Lib.hid (Eq.refl x)⟩
set_option maxRecDepth 100000
open Go.RowKit
def Blk (w:World) (g:Nat) (t:TypeId) (cs:Array Value):Prop:=w.heap[g]?=some (.cells cs t (0,0))
section
variable {w w':World} {g:Nat} {t:TypeId} {cs:Array Value}
theorem Blk.lt (h:Blk w g t cs):g<w.heap.size:=by
 rcases Nat.lt_or_ge g w.heap.size with hlt|hge
 . exact hlt
 unfold Blk at h;rw[Array.getElem?_eq_none hge] at h;cases h
theorem Blk.cell (h:Blk w g t cs) (i:Nat):w.cell? ⟨g,i,none⟩=cs[i]?:=cell_of_row w g i cs t (0,0) h
theorem Blk.frozen (h:Blk w g t cs) (i:Nat):w.frozen? ⟨g,i,none⟩=false:=by
 unfold Blk at h;simp[World.frozen?,h]
theorem Blk.new (w:World) (t:TypeId) (cs:Array Value):Blk (w.alloc (.cells cs t)) w.heap.size t cs:=heap_alloc_new w _
theorem Blk.drew (h:Blk w g t cs):Blk w.drew g t cs:=h
theorem Blk.drewN (h:Blk w g t cs) (n:Nat):Blk (w.drewN n) g t cs:=h
theorem Blk.alloc (h:Blk w g t cs) (o:Obj):Blk (w.alloc o) g t cs:=(Below.heap_alloc w o g h.lt).trans h
theorem Blk.set_ (h:Blk w g t cs) (i:Nat) (u:Value):Blk (w.setCell ⟨g,i,none⟩ u) g t (cs.setIfInBounds i u):=by
 unfold Blk at h ⊢;simp[World.setCell,Array.getElem?_modify,h]
theorem Blk.far (h:Blk w g t cs) {p:Addr} (hp:g ≠ p.block) (u:Value):Blk (w.setCell p u) g t cs:=(Below.heap_setCell w p u g hp).trans h
theorem Blk.below {B:Nat} (h:Blk w g t cs) (hb:Below B w w') (hg:g<B):Blk w' g t cs:=(hb.block g hg).trans h
theorem Blk.grown {row:Option Nat} (h:Blk w g t cs) (hb:w.grownBy w' row) (hg:some g ≠ row):Blk w' g t cs:=(hb.block g h.lt hg).trans h
end
def Yg (n:Nat) (f:Nat->Value):Array Value:=((List.range n).map f).toArray
theorem Uu (n:Nat) (f:Nat->Value):(Yg n f).size=n:=by simp[Yg]
theorem Yp (n:Nat) (f:Nat->Value) (j:Nat) (hj:j<n):(Yg n f)[j]?=some (f j):=by simp[Yg,hj]
theorem Km (n:Nat) (f:Nat->Value) (j:Nat) (hj:¬j<n):(Yg n f)[j]?=none:=by simp[Yg,hj]
theorem Ys (n:Nat) (f g:Nat->Value) (h:∀i,i<n->f i=g i):Yg n f=Yg n g:=by
 apply Array.ext_getElem?;intro i;by_cases hi:i<n
 . rw[Yp n _ i hi,Yp n _ i hi,h i hi]
 rw[Km n _ i hi,Km n _ i hi]
theorem YA (n:Nat) (f:Nat->Value) (j:Nat) (v:Value):(Yg n f).setIfInBounds j v=Yg n (fun i=>if i=j then v else f i):=by
 apply Array.ext_getElem?;intro i;rw[Array.getElem?_setIfInBounds];by_cases hi:i<n
 . rw[Yp n _ i hi,Yp n _ i hi]
   by_cases e:j=i
   . subst e;simp[Uu,hi]
   have e':¬i=j:=fun h=>e h.symm;simp[e,e']
 rw[Km n _ i hi,Km n _ i hi];by_cases e:j=i
 . subst e;simp[Uu,hi]
 simp[e]
theorem YaB (n:Nat) (z:Value):madeCells #[z] n=Yg n fun _=>z:=by
 apply Array.toList_inj.1;rw[toList_madeCells_one];simp only[Yg];rw[List.map_const',List.length_range]
theorem Yar:(Tryz.prog.info? 5).map (fun i=>(i.zero,i.size,i.bytes))=some (some (.int .u8 0),1,1):=by kernel_rfl
def Vg (l:List UInt8):List Value:=l.map fun c=>.int .u8 (c.toNat:Int)
theorem V8 (l m:List UInt8):Vg (l++m)=Vg l++Vg m:=by simp[Vg]
def OwnB (w:World) (base:Nat) (v:Value) (l:List UInt8):Prop:=w.ownsRow base 5 1 v l.length (Vg l)
theorem OwnB.nil (w:World) (base:Nat):OwnB w base (.slice none 0 0) []:=World.ownsRow_nil _ _ _ _
theorem OwnB.drew {w:World} {base:Nat} {v:Value} {l:List UInt8} (h:OwnB w base v l):OwnB w.drew base v l:=h
theorem Yh {B:Nat} {a w:World} (h:Below B a w) (n:Nat):Below B a (w.drewN n):=⟨h.os,h.tape,h.output,h.size,h.block⟩
theorem Yk {w w1 w2:World} (h:Below w.heap.size w w1) (k:Below w1.heap.size w1 w2):Below w.heap.size w w2:=h.trans (k.mono h.size)
theorem Ygj (u:Int) (h0:0<=u) (h1:u<256):((UInt8.ofNat u.toNat).toNat:Int)=u:=by
 simp[UInt8.toNat_ofNat'];omega
theorem XC {t e:TypeId} (ht:Tryz.prog.underlying t=some (.slice e)) {z:Value} {bytes:Nat} (hI:(Tryz.prog.info? e).map (fun i=>(i.zero,i.size,i.bytes))=some (some z,1,bytes)) (hz:z.cells=#[z]) (n:Nat) (I:Int) (hn:I=(n:Int)) (hb:bytes*n<=281474976710656) (hm:n<=9223372036854775807) (w:World) :
 (Instr.makeSlice t (.int .i64 I) (.int .i64 I)).run Tryz.prog w=.ok (.slice (some ⟨w.heap.size,0,none⟩) n n) (w.alloc (.cells (Yg n fun _=>z) e)):=by
 subst hn;obtain⟨i0,hi,hz0,hz1,hz2⟩:=info_parts hI
 have hbi:(i0.bytes:Int)*(n:Int)<=281474976710656:=by
  have h:((i0.bytes*n:Nat):Int)<=281474976710656:=by rw[hz2];omega
  rwa [Int.natCast_mul] at h
 have hr:=run_make (P:=Tryz.prog) w t e i0 z ht hi hz0 .i64 .i64 n n (by omega) (by omega) hbi (by omega);simp only[Int.toNat_natCast] at hr;rw[hz1,hz,Nat.mul_one,YaB] at hr;exact hr
theorem Ky {w w1 w2:World} {row:Option Nat} (h4:w.grownBy w1 row) (h3:w1.grownBy w2 row):w.grownBy w2 row:=
 ⟨h3.os.trans h4.os,h3.tape.trans h4.tape,h3.output.trans h4.output,Qe h4.size h3.size,
  fun k hk hne=>(h3.block k (Qb hk h4.size) hne).trans (h4.block k hk hne)⟩
theorem Xu {o:Oper} {a:Act} {K:Act->World->Prop} {Q:Exit->Act->World->Prop} (w:World) (s x:Operand) {t e:TypeId}
 (ho:o.op=.call { callee:=.builtin .append,args:=#[s,x],argTypes:=#[t,t] })
 (ht:Tryz.prog.underlying t=some (.slice e)) {z:Value} {size bytes:Nat} (hI:(Tryz.prog.info? e).map (fun i=>(i.zero,i.size,i.bytes))=some (some z,size,bytes)) (hzs:z.cells.size=size) (hsz:0<size)
 (base:Nat) (v:Value) (n:Nat) (xs us:List Value) (k:Nat) (hown:w.ownsRow base e size v n xs) (hus:us.length=k*size) (h1:∀u ∈ us,u.oneCell'=true) (hs:a.eval s=v)
 {sz:Nat} (hx:a.eval x=.slice (some ⟨sz,0,none⟩) k k) (hsize:sz=w.heap.size) (hm:n+k<=maxLen) (hl:(n+k)*bytes<=140737488355328) (hbase:base<=w.heap.size)
 {w1:World} (hw1:w1=w.alloc (.cells us.toArray e))
 (h:∀v' w',w'.ownsRow base e size v' (n+k) (xs++us)->w.grownBy w' v.ownBlock->(∀g,g<w.heap.size->v.ownBlock ≠ some g->v'.ownBlock ≠ some g)->K (a.put o.dst v') w') :
 o.wp Tryz.prog a w1 K Q:=by
 subst hsize;subst hw1;obtain⟨i0,hi,hz0,hz1,hz2⟩:=info_parts hI
 obtain⟨v',w',hrun,h2,h3,_,h5⟩:=run_append_own_at (P:=Tryz.prog) (w.alloc (.cells us.toArray e)) base t o.type e i0 z size bytes ht hi hz0 hz1 hz2 hzs hsz v n xs
  (World.ownsRow.alloc hown _) ⟨w.heap.size,0,none⟩ k k us hus (by
   intro j y hj;have e1:(⟨w.heap.size,0,none⟩:Addr).add j=⟨w.heap.size,j,none⟩:=by unfold Addr.add;split<;>simp_all
   rw[e1,cell_of_row _ w.heap.size j us.toArray e (0,0) (heap_alloc_new w _)]
   simpa using hj) h1 hm hl (by simp;omega)
 have hk:=h v' w' h2 (Ky (World.grownBy_alloc w (.cells us.toArray e) v.ownBlock) h3) (by
  intro g hg hne;rcases h5 with h5|h5
  . rw[h5];exact hne
  rw[h5,World.size_alloc];intro he;simp only[Option.some.injEq] at he
  omega)
 unfold Oper.wp execOp;simp only[ho,resolve,invoke,builtin,Sem.run_bind,Sem.run_pure,Result.andThen_ok,List.map_toArray,List.map_cons,List.map_nil,hs,hx,hrun];exact hk
theorem UA {o:Oper} {a:Act} {K:Act->World->Prop} {Q:Exit->Act->World->Prop} (w:World) (s x:Operand) {t e:TypeId}
 (ho:o.op=.call { callee:=.builtin .append,args:=#[s,x],argTypes:=#[t,t] })
 (ht:Tryz.prog.underlying t=some (.slice e)) {z:Value} {size bytes:Nat} (hI:(Tryz.prog.info? e).map (fun i=>(i.zero,i.size,i.bytes))=some (some z,size,bytes)) (hzs:z.cells.size=size) (hsz:0<size)
 (base:Nat) (v:Value) (n:Nat) (xs us:List Value) (k:Nat) (hown:w.ownsRow base e size v n xs) (hus:us.length=k*size) (h1:∀u ∈ us,u.oneCell'=true) (hs:a.eval s=v)
 {sz:Nat} (hx:a.eval x=.slice (some ⟨sz,0,none⟩) k k) (hsize:sz=w.heap.size) (hm:n+k<=maxLen) (hl:(n+k)*bytes<=140737488355328) (hbase:base<=w.heap.size)
 {w1:World} (hw1:w1=w.alloc (.cells us.toArray e))
 (h:∀v' w',w'.ownsRow base e size v' (n+k) (xs++us)->w.grownBy w' v.ownBlock->K (a.put o.dst v') w') :
 o.wp Tryz.prog a w1 K Q:=
 Xu w s x ho ht hI hzs hsz base v n xs us k hown hus h1 hs hx hsize hm hl hbase hw1 fun v' w' h2 h3 _=>h v' w' h2 h3
theorem Ya {ops:Array Oper} {rest:List Oper} {o:Oper} {a:Act} {Q:Exit->Act->World->Prop} (w:World) (hgd:o.guard=none) (s x:Operand) {t e:TypeId}
 (ho:o.op=.call { callee:=.builtin .append,args:=#[s,x],argTypes:=#[t,t] })
 (ht:Tryz.prog.underlying t=some (.slice e)) {z:Value} {size bytes:Nat} (hI:(Tryz.prog.info? e).map (fun i=>(i.zero,i.size,i.bytes))=some (some z,size,bytes)) (hzs:z.cells.size=size) (hsz:0<size)
 (base:Nat) (v:Value) (n:Nat) (xs us:List Value) (hown:w.ownsRow base e size v n xs) (hus:us.length=size) (h1:∀u ∈ us,u.oneCell'=true) (hs:a.eval s=v)
 {sz:Nat} (hx:a.eval x=.slice (some ⟨sz,0,none⟩) 1 1) (hsize:sz=w.heap.size) (hm:n+1<=maxLen) (hl:(n+1)*bytes<=140737488355328) (hbase:base<=w.heap.size)
 (h:∀v' w',w'.ownsRow base e size v' (n+1) (xs++us)->w.grownBy w' v.ownBlock->wpList Tryz.prog ops Q rest (a.put o.dst v') w') :
 wpList Tryz.prog ops Q (o::rest) a (w.alloc (.cells us.toArray e)):=
 wpList_plain hgd fun _ hK=>UA w s x ho ht hI hzs hsz base v n xs us 1 hown (by omega) h1 hs hx hsize hm hl hbase rfl fun v' w' h2 h3=>hK _ _ (h v' w' h2 h3)
theorem Yd {ops:Array Oper} {rest:List Oper} {o:Oper} {a:Act} {Q:Exit->Act->World->Prop} (w:World) (hgd:o.guard=none) (s x:Operand) {t e:TypeId}
 (ho:o.op=.call { callee:=.builtin .append,args:=#[s,x],argTypes:=#[t,t] })
 (ht:Tryz.prog.underlying t=some (.slice e)) {z:Value} {size bytes:Nat} (hI:(Tryz.prog.info? e).map (fun i=>(i.zero,i.size,i.bytes))=some (some z,size,bytes)) (hzs:z.cells.size=size) (hsz:0<size)
 (base:Nat) (v:Value) (n:Nat) (xs us:List Value) (hown:w.ownsRow base e size v n xs) (hus:us.length=size) (h1:∀u ∈ us,u.oneCell'=true) (hs:a.eval s=v)
 {sz:Nat} (hx:a.eval x=.slice (some ⟨sz,0,none⟩) 1 1) (hsize:sz=w.heap.size) (hm:n+1<=maxLen) (hl:(n+1)*bytes<=140737488355328) (hbase:base<=w.heap.size)
 (h:∀v' w',w'.ownsRow base e size v' (n+1) (xs++us)->w.grownBy w' v.ownBlock->(∀g,g<w.heap.size->v.ownBlock ≠ some g->v'.ownBlock ≠ some g)->wpList Tryz.prog ops Q rest (a.put o.dst v') w') :
 wpList Tryz.prog ops Q (o::rest) a (w.alloc (.cells us.toArray e)):=
 wpList_plain hgd fun _ hK=>Xu w s x ho ht hI hzs hsz base v n xs us 1 hown (by omega) h1 hs hx hsize hm hl hbase rfl fun v' w' h2 h3 h4=>hK _ _ (h v' w' h2 h3 h4)
theorem KJ {ops:Array Oper} {o:Oper} {a:Act} {K:Act->World->Prop} {Q:Exit->Act->World->Prop} {E:Prop} (w:World) (hgd:o.guard=none) (s x:Operand) {t e:TypeId}
 (ho:o.op=.call { callee:=.builtin .append,args:=#[s,x],argTypes:=#[t,t] })
 (ht:Tryz.prog.underlying t=some (.slice e)) {z:Value} {size bytes:Nat} (hI:(Tryz.prog.info? e).map (fun i=>(i.zero,i.size,i.bytes))=some (some z,size,bytes)) (hzs:z.cells.size=size) (hsz:0<size)
 (base:Nat) (v:Value) (n:Nat) (xs us:List Value) (k:Nat) (hown:w.ownsRow base e size v n xs) (hus:us.length=k*size) (h1:∀u ∈ us,u.oneCell'=true) (hs:a.eval s=v)
 {sz:Nat} (hx:a.eval x=.slice (some ⟨sz,0,none⟩) k k) (hsize:sz=w.heap.size) (hm:n+k<=maxLen) (hl:(n+k)*bytes<=140737488355328) (hbase:base<=w.heap.size)
 {w1:World} (hw1:w1=w.alloc (.cells us.toArray e))
 (h:∀v' w',w'.ownsRow base e size v' (n+k) (xs++us)->w.grownBy w' v.ownBlock->K (a.put o.dst v') w') :
 if Region.wanted o (yielded ops a.tmps)=true then Oper.wp Tryz.prog o a w1 K Q else E:=by
 have hw:Region.wanted o (yielded ops a.tmps)=true:=by simp[Region.wanted,hgd]
 rw[if_pos hw];exact UA w s x ho ht hI hzs hsz base v n xs us k hown hus h1 hs hx hsize hm hl hbase hw1 h
theorem Yb {w w':World} {base e size n:Nat} {v:Value} {xs:List Value} (hown:w.ownsRow base e size v n xs) (hg:w.grownBy w' v.ownBlock) (hbase:base<=w.heap.size):Below base w w':=
 (Below.refl base w).grown hg hbase fun k hk=>(World.ownsRow.lt hown k hk).1
theorem VZ {ops:Array Oper} {rest:List Oper} {o:Oper} {a:Act} {Q:Exit->Act->World->Prop} (w:World) (hgd:o.guard=none) (s x:Operand)
 (ho:o.op=.call { callee:=.builtin .append,args:=#[s,x],argTypes:=#[58,58] })
 (base:Nat) (v:Value) (l:List UInt8) (u:Int) (hown:OwnB w base v l) (hs:a.eval s=v)
 {sz:Nat} (hx:a.eval x=.slice (some ⟨sz,0,none⟩) 1 1) (hsize:sz=w.heap.size) (h0:0<=u) (h1:u<256) (hl:l.length<140737488355328) (hbase:base<=w.heap.size)
 (h:∀v' w',OwnB w' base v' (l++[UInt8.ofNat u.toNat])->Below base w w'->wpList Tryz.prog ops Q rest (a.put o.dst v') w') :
 wpList Tryz.prog ops Q (o::rest) a (w.alloc (.cells #[.int .u8 u] 5)):=by
 refine Ya w hgd s x ho Tryz.underlying58 Yar rfl (by decide) base v l.length (Vg l) [.int .u8 u] hown rfl (by intro y hy;simp at hy;subst hy;rfl) hs hx hsize
  (by unfold maxLen;omega) (by omega) hbase ?_
 intro v' w' h2 h3;refine h v' w' ?_ (Yb hown h3 hbase);unfold OwnB;rw[V8,List.length_append];have:Vg [UInt8.ofNat u.toNat]=[.int .u8 u]:=by simp only[Vg,List.map_cons,List.map_nil,Ygj u h0 h1]
 rw[this];exact h2
theorem OwnB.empty (w:World) (base:Nat) (hb:base<=w.heap.size):OwnB (w.alloc (.cells #[] 5)) base (.slice (some ⟨w.heap.size,0,none⟩) 0 0) []:=
 World.ownsRow_made w #[] 0 hb (Nat.zero_le _) rfl
theorem X2 (W:World) (u:Int):(convert 58 9 (.slice (some ⟨W.heap.size,0,none⟩) 1 1)).run Tryz.prog (W.alloc (.cells #[.int .u8 u] 5))=.ok (.string ⟨#[UInt8.ofNat u.toNat]⟩) (W.alloc (.cells #[.int .u8 u] 5)):=by
 rw[run_convert_bytes_string _ 58 9 5 _ 1 1 Tryz.underlying58 Tryz.underlying5 Tryz.underlying9]
 have hl:=run_loadCells_list (P:=Tryz.prog) (W.alloc (.cells #[.int .u8 u] 5)) ⟨W.heap.size,0,none⟩ [.int .u8 u] (fun j v hj=>by
  match j,hj with
  |0,hj=>
   simp at hj;subst hj;have e1:(⟨W.heap.size,0,none⟩:Addr).add 0=⟨W.heap.size,0,none⟩:=rfl;rw[e1,cell_of_row _ W.heap.size 0 #[.int .u8 u] 5 (0,0) (heap_alloc_new W _)]
   rfl)
 exact run_bytesToString _ ⟨W.heap.size,0,none⟩ 1 1 [u] hl
theorem OwnB.len {w:World} {base g n cap:Nat} {l:List UInt8} (h:OwnB w base (.slice (some ⟨g,0,none⟩) n cap) l):n=l.length:=by
 rcases h.2 with⟨h',_⟩|⟨g',cap',cur,h',_⟩
 . cases h'
 injection h' with _ h2 _
theorem OwnB.form {w:World} {base:Nat} {v:Value} {l:List UInt8} (h:OwnB w base v l) (hl:0<l.length):∃g cap,v=.slice (some ⟨g,0,none⟩) l.length cap/\base<=g:=by
 obtain⟨g,cap,h1,h2,_⟩:=World.ownsRow.form h hl;exact⟨g,cap,h1,h2⟩
theorem OwnB.cell {w:World} {base g n cap:Nat} {l:List UInt8} (h:OwnB w base (.slice (some ⟨g,0,none⟩) n cap) l) (j:Nat) (hj:j<l.length) :
 w.cell? ⟨g,j,none⟩=some (.int .u8 (l[j].toNat:Int)):=by
 obtain rfl:=h.len;rw[World.ownsRow.cellAt h j (by omega)];simp[Vg,List.getElem?_eq_getElem hj]
theorem YaN (w:World) (n c:Nat):(convert 58 9 (.slice none n c)).run Tryz.prog w=.ok (.string ⟨#[]⟩) w:=by
 exact run_convert_bytes_nil w 58 5 Tryz.underlying58 Tryz.underlying5 n c 9 Tryz.underlying9
theorem Xh (w:World) (base:Nat) (v:Value) (l:List UInt8) (h:OwnB w base v l) :
 (convert 58 9 v).run Tryz.prog w=.ok (.string ⟨l.toArray⟩) w:=by
 rcases h.2 with⟨rfl,h0⟩|⟨g,cap,cur,rfl,_⟩
 . obtain rfl:l=[]:=List.eq_nil_of_length_eq_zero h0
   exact YaN w 0 0
 refine run_convert_bytes_back w 58 9 5 ⟨g,0,none⟩ cap l Tryz.underlying58 Tryz.underlying5 Tryz.underlying9 ?_;intro j hj;refine World.ownsRow.cells h (g:=g) rfl j _ ?_;simp[Vg,List.getElem?_eq_getElem hj]
section
variable {w w':World} {g:Nat} {s:ByteArray}
end
def getN:List UInt8->Nat
 |[]=>0
 |c::r=>c.toNat+256*getN r
theorem Yay (l:List UInt8):getN l<256^l.length:=by
 induction l with
 |nil=>simp[getN]
 |cons c r ih=>
  have hc:c.toNat<256:=c.toNat_lt;simp only[getN,List.length_cons,Nat.pow_succ];omega
theorem Ydd (l:List UInt8) (c:UInt8):getN (l++[c])=getN l+256^l.length*c.toNat:=by
 induction l with
 |nil=>simp[getN]
 |cons d r ih=>simp only[List.cons_append,getN,ih,List.length_cons,Nat.pow_succ];rw[Nat.mul_add,<-Nat.mul_assoc,Nat.mul_comm (256^r.length) 256];omega
theorem YfJ (s:ByteArray) (k:Nat) (h:k<s.size) (h8:k<8):(s.data.toList.take 8).drop k=s[k]::(s.data.toList.take 8).drop (k+1):=by
 have hl:k<(s.data.toList.take 8).length:=by simp;omega
 rw[List.drop_eq_getElem_cons hl,List.getElem_take];rfl
theorem YgF (s:ByteArray) (k:Nat) (h:1<=k):getN ((s.data.toList.take 8).drop k)<256^7:=by
 refine Qb (Yay _) (Nat.pow_le_pow_right (by decide) ?_);simp;omega
theorem Ym2 (g c:Nat) (hg:g<256^7) (hc:c<256):(bits .or .u64 ((g:Int)*256) (c:Int))=((c+256*g:Nat):Int):=by
 have h1:(g:Int)*256=((g*256:Nat):Int):=by omega
 rw[h1,u64_or_nat _ _ (by omega) (by omega),nat_join 8 _ _ (by omega) (by omega)]
 congr 1;omega
theorem Ymv (s:ByteArray) (w:World) (hs:s.size<=maxLen) :
 Calls Tryz.prog 45 #[.string s] w fun e w'=>e=.returned (.int .u64 (getN (s.data.toList.take 8):Int))/\w=w':=by
 unfold maxLen at hs;by_cases h8:s.size<=8
 all_goals
  go_enter Tryz.func45,Tryz.ntmps45
  go_wp2
  go_loop [3,4] (fun x i=>∃k:Nat,k<=s.size/\k<=8/\i=.int .i64 ((k:Int)-1)/\x=.int .u64 (getN ((s.data.toList.take 8).drop k):Int))
   (fun _ i=>(intOf i+1).toNat)
  case atStart=>
   first
   |exact⟨s.size,by omega,by omega,rfl,by rw[List.drop_of_length_le (by simp;omega)];rfl⟩
   |exact⟨8,by omega,by omega,rfl,by rw[List.drop_of_length_le (by simp;omega)];rfl⟩
  obtain⟨k,hk,hk8,rfl,rfl⟩:=hrel;rcases k with _|k
  . go_wp2
    go_ret;exact⟨by simp,rfl⟩
  have hb:=YgF s (k+1) (by omega);have hd:=Qf (YfJ s k (by omega) (by omega));have hc:=s[k].toNat_lt;have ho:=Ym2 _ _ hb hc
  go_wp2
  go_round
  case rel=>exact⟨k,by omega,by omega,rfl,by rw[hd.out];simp[getN]⟩
  simp[intOf]
theorem YfI (s:ByteArray) (k:Nat) (h:k<s.size) (h8:k<8):getN ((s.data.toList.take 8).take (k+1))=getN ((s.data.toList.take 8).take k)+256^k*s[k].toNat:=by
 have hl:k<(s.data.toList.take 8).length:=by simp;omega
 rw[List.take_succ_eq_append_getElem hl,Ydd];rw[List.length_take,List.getElem_take];have:min k (s.data.toList.take 8).length=k:=by omega
 rw[this];rfl
theorem YfH (s:ByteArray) (k:Nat):getN ((s.data.toList.take 8).take k)<256^k:=by
 refine Qb (Yay _) (Nat.pow_le_pow_right (by decide) ?_);simp;omega
theorem YhX (k:Nat) (h:k<8):256^k<=256^7:=Nat.pow_le_pow_right (by decide) (by omega)
theorem Yhh (k:Nat) (h:k<8) (u:Nat) (hu:u=if k<8 then 256^k else 0):u*256%18446744073709551616=if k+1<8 then 256^(k+1) else 0:=by
 rw[if_pos h] at hu;subst hu
 match k,h with
 |0,_=>rfl
 |1,_=>rfl
 |2,_=>rfl
 |3,_=>rfl
 |4,_=>rfl
 |5,_=>rfl
 |6,_=>rfl
 |7,_=>rfl
def JZ (k:Nat):Nat:=if k<8 then 256^k else 0
theorem Yhg (k:Nat) (h:k<8):JZ k*256%18446744073709551616=JZ (k+1):=Yhh k h _ rfl
theorem YlB (k:Nat):JZ k<=256^7:=by
 unfold JZ;split
 . exact YhX k (by assumption)
 exact Nat.zero_le _
theorem Ymw (g c k:Nat) (hk:k<8) (hg:g<256^k) (hc:c<256) :
 IntKind.u64.wrap ((g:Int)+IntKind.u64.wrap ((c:Int)*(JZ k:Int)))=((g+256^k*c:Nat):Int):=by
 rw[IntKind.wrap_u64,IntKind.wrap_u64];unfold JZ;rw[if_pos hk]
 match k,hk with
 |0,_=>simp at hg ⊢;omega
 |1,_=>simp at hg ⊢;omega
 |2,_=>simp at hg ⊢;omega
 |3,_=>simp at hg ⊢;omega
 |4,_=>simp at hg ⊢;omega
 |5,_=>simp at hg ⊢;omega
 |6,_=>simp at hg ⊢;omega
 |7,_=>simp at hg ⊢;omega
theorem Yf8 (s:ByteArray) (w:World) (hs:s.size<=maxLen) :
 Calls Tryz.prog 67 #[.string s] w fun e w'=>e=.returned (.int .u64 (getN (s.data.toList.take 8):Int))/\w=w':=by
 unfold maxLen at hs;go_enter Tryz.func67,Tryz.ntmps67
 go_wp2
 go_loop [3,4,5] (fun x u i=>∃k:Nat,k<=s.size/\k<=8/\i=.int .i64 (k:Int)/\x=.int .u64 (getN ((s.data.toList.take 8).take k):Int)/\u=.int .u64 (JZ k:Int))
  (fun _ _ i=>8-(intOf i).toNat)
 case atStart=>exact⟨0,by omega,by omega,rfl,rfl,rfl⟩
 obtain⟨k,hk,hk8,rfl,rfl,rfl⟩:=hrel;by_cases h1:k<s.size
 . by_cases h2:k<8
   . have hb:=YfH s k
     have hc:=s[k].toNat_lt;have hu:=YlB k;have hsu:=Qf (Yhg k h2);have hd:=Qf (YfI s k h1 h2)
     go_wp2
     go_round
     case rel=>exact⟨k+1,by omega,by omega,by go_num,by rw[hd.out,Ymw _ _ _ h2 hb hc],by rw[<-hsu.out,IntKind.wrap_u64];rfl⟩
     simp[intOf];omega
   go_wp2
   go_ret;obtain rfl:k=8:=by omega
   exact⟨by rw[List.take_of_length_le (by simp;omega)];rfl,rfl⟩
 go_wp2
 go_ret;exact⟨by rw[List.take_of_length_le (by simp;omega)];rfl,rfl⟩
def atN (s:ByteArray) (i n:Nat):Nat:=getN ((s.extract i (i+n)).data.toList.take 8)
theorem YaL (s:ByteArray) (i n:Nat) (hn:n<=4):atN s i n<4294967296:=by
 refine Qb (Yay _) (Qe (Nat.pow_le_pow_right (by decide) (?_:_<=4)) (by decide));rw[List.length_take];have:(s.extract i (i+n)).data.toList.length=(s.extract i (i+n)).size:=Array.length_toList;rw[this,ByteArray.size_extract];omega
theorem Yfr (s:ByteArray) (i n:Nat) (hn:n<=4) (hs:s.size<=1000000000) (hi:i+n<=s.size) (w:World) :
 Calls Tryz.prog 29 #[.string s,.int .i64 (i:Int),.int .i64 (n:Int)] w fun e w'=>e=.returned (.int .i64 (atN s i n:Int))/\w=w':=by
 have CG:=Qf (fun W=>Ymv (s.extract i (i+n)) W (by rw[ByteArray.size_extract];unfold maxLen;omega));have e0:getN ((s.extract i (i+n)).data.toList.take 8)=atN s i n:=rfl;obtain⟨N,HN⟩:=Qi (atN s i n);rw[e0,HN.out] at CG;have hlt:N<4294967296:=by rw[<-HN.out];exact YaL s i n hn
 have hwN:wrap64 (N:Int)=(N:Int):=by have:=IntKind.wrap_i64 (N:Int);unfold wrap64;omega
 rw[HN.out];have h1:(i:Int)+(n:Int)<=(s.size:Int):=by omega
 have h2:(0:Int)<=(i:Int):=by omega
 have h3:(i:Int)<=(i:Int)+(n:Int):=by omega
 have hw:IntKind.i64.wrap ((i:Int)+(n:Int))=(i:Int)+(n:Int):=by rw[IntKind.wrap_i64];omega
 clear e0;go_enter Tryz.func29,Tryz.ntmps29;go_wp2_with fail;refine(CG.out _).mono ?_;rintro e w1 ⟨rfl,rfl⟩;go_wp2_with fail;go_ret;exact⟨rfl,rfl⟩
def YB (V k:Nat):List UInt8:=(List.range k).map fun i=>UInt8.ofNat (V/256^i%256)
theorem YW (V k:Nat):(YB V k).length=k:=by simp[YB]
theorem KA (V k:Nat):YB V (k+1)=YB V k++[UInt8.ofNat (V/256^k%256)]:=by simp[YB,List.range_succ]
theorem Yjh (V k i:Nat) (h:i<k):(YB V k)[i]?=some (UInt8.ofNat (V/256^i%256)):=by simp[YB,h]
def leN:List UInt8->Nat
 |[]=>0
 |c::r=>c.toNat+256*leN r
theorem Xw (k:Nat):256^k=2^(8*k):=by rw[Nat.pow_mul]
theorem YY (k:Nat):0<2^k:=Nat.pow_pos (by decide)
theorem Uj (l:List UInt8):leN l<256^l.length:=by
 induction l with
 |nil=>simp[leN]
 |cons c r ih=>
  have:=c.toNat_lt;simp only[leN,List.length_cons,Nat.pow_succ];omega
theorem Ua (l m:List UInt8):leN (l++m)=leN l+leN m*256^l.length:=by
 induction l with
 |nil=>simp[leN]
 |cons c r ih=>
  simp only[leN,List.cons_append,List.length_cons,ih,Nat.pow_succ,Nat.mul_add];have:256*(leN m*256^r.length)=leN m*(256^r.length*256):=by rw[Nat.mul_left_comm,Nat.mul_comm 256]
  omega
theorem Kj (V k:Nat):leN (YB V k)=V%256^k:=by
 induction k with
 |zero=>simp[YB,leN];omega
 |succ k ih=>
  rw[KA,Ua,ih,YW,Nat.pow_succ,Nat.mod_mul];simp[leN];exact Nat.mul_comm _ _
theorem YiB (l m:List UInt8) (hl:l.length=m.length) (h:leN l=leN m):l=m:=by
 induction l generalizing m with
 |nil=>cases m with
  |nil=>rfl
  |cons=>simp at hl
 |cons c r ih=>cases m with
  |nil=>simp at hl
  |cons d t=>
   have h1:=c.toNat_lt;have h2:=d.toNat_lt;simp only[leN] at h;have e1:c.toNat=d.toNat:=by omega
   have e2:leN r=leN t:=by omega
   rw[UInt8.toNat_inj.1 e1,ih t (by simpa using hl) e2]
theorem Yg2 (l:List UInt8):YB (leN l) l.length=l:=by
 refine YiB _ _ (YW _ _) ?_;rw[Kj,Nat.mod_eq_of_lt (Uj l)]
theorem YkD (l:List UInt8) (i:Nat) (h:i<l.length):leN l/256^i%256=(l[i]).toNat:=by
 have e:=Yjh (leN l) l.length i h;rw[Yg2,List.getElem?_eq_getElem h] at e;injection e with e;rw[e];simp
theorem Ymm (l:List UInt8) (i:Nat) (h:¬i<l.length):leN l/256^i%256=0:=by
 rw[Nat.div_eq_of_lt];exact Qb (Uj l) (Nat.pow_le_pow_right (by decide) (by omega))
theorem Yg1 (V z c k:Nat) (h:8*k<=c):YB (V+z*2^c) k=YB V k:=by
 unfold YB;refine List.map_congr_left fun i hi=>?_;have hik:i<k:=List.mem_range.1 hi
 have e:z*2^c=2^(8*i)*(z*2^(c-8*i-8)*256):=by
  have:(2:Nat)^c=2^(8*i)*2^(c-8*i-8)*256:=by
   rw[show(256:Nat)=2^8 by decide,<-Nat.pow_add,<-Nat.pow_add]
   congr 1;omega
  rw[this];simp only[Nat.mul_comm,Nat.mul_left_comm,Nat.mul_assoc]
 rw[Xw,e,Nat.add_mul_div_left _ _ (YY _),Nat.add_mul_mod_self_right]
theorem Ym8 (V x n c:Nat) (hV:V<2^c):V+x%2^n*2^c<2^(c+n):=by
 have h1:x%2^n<2^n:=Nat.mod_lt _ (YY n);have h2:(x%2^n+1)*2^c<=2^n*2^c:=Nat.mul_le_mul_right _ h1;rw[Nat.add_mul,Nat.one_mul] at h2;rw[Nat.add_comm c n,Nat.pow_add];omega
theorem Ym9 (V z c k:Nat) (h:k<=c):(V+z*2^c)/2^k=V/2^k+z*2^(c-k):=by
 have e:z*2^c=2^k*(z*2^(c-k)):=by
  have:(2:Nat)^c=2^k*2^(c-k):=by rw[<-Nat.pow_add];congr 1;omega
  rw[this];simp only[Nat.mul_left_comm]
 rw[e,Nat.add_mul_div_left _ _ (YY _)]
theorem Yib (a b n:Nat) (h:a<2^n):a||| b*2^n=a+b*2^n:=by
 have:=Nat.shiftLeft_add_eq_or_of_lt h b;rw[Nat.shiftLeft_eq] at this;rw[Nat.or_comm,<-this,Nat.add_comm]
theorem Yft (x n:Nat):x&&& (2^n-1)=x%2^n:=Nat.and_two_pow_sub_one_eq_mod x n
def rev (x:Nat):Nat->Nat
 |0=>0
 |n+1=>2*rev x n+x/2^n%2
theorem YeK (x n:Nat):rev x n<2^n:=by
 induction n with
 |zero=>simp[rev]
 |succ n ih=>simp only[rev,Nat.pow_succ];omega
theorem Yak (x n m:Nat) (h:n<=m):rev (x%2^m) n=rev x n:=by
 induction n with
 |zero=>rfl
 |succ n ih=>
  have e:x%2^m/2^n%2=x/2^n%2:=by
   have e1:x%2^m/2^n=x/2^n%2^(m-n):=by
    have:(2:Nat)^m=2^n*2^(m-n):=(by rw[<-Nat.pow_add];congr 1;omega);rw[this,Nat.mod_mul_right_div_self]
   rw[e1]
   have:(2:Nat)^(m-n)=2*2^(m-n-1):=by
    rw[<-Nat.pow_succ'];congr 1;omega
   rw[this,Nat.mod_mul_right_mod]
  simp only[rev,ih (by omega),e]
theorem YlU (x n:Nat):rev x (n+1)=rev (x/2) n+x%2*2^n:=by
 induction n with
 |zero=>simp[rev]
 |succ n ih=>
  have e:rev x (n+2)=2*rev x (n+1)+x/2^(n+1)%2:=rfl;have e2:rev (x/2) (n+1)=2*rev (x/2) n+x/2/2^n%2:=rfl;have e3:x/2/2^n=x/2^(n+1):=by rw[Nat.div_div_eq_div_mul,Nat.pow_succ']
  rw[e,ih,e2,e3,Nat.pow_succ];simp only[Nat.mul_add]
  have:2*(x%2*2^n)=x%2*(2^n*2):=by
   rw[Nat.mul_left_comm,Nat.mul_comm 2]
  omega
theorem YlT (x n:Nat):rev (rev x n) n=x%2^n:=by
 induction n generalizing x with
 |zero=>simp[rev];omega
 |succ n ih=>
  have h:=YeK (x/2) n;rw[YlU x n]
  have e1:rev (rev (x/2) n+x%2*2^n) n=rev (rev (x/2) n) n:=by
   have:(rev (x/2) n+x%2*2^n)%2^n=rev (x/2) n:=by
    rw[Nat.add_mul_mod_self_right,Nat.mod_eq_of_lt h]
   rw[<-Yak _ n n (Qa n),this]
  have e2:(rev (x/2) n+x%2*2^n)/2^n=x%2:=by
   rw[Nat.add_mul_div_right _ _ (YY n),Nat.div_eq_of_lt h];omega
  simp only[rev,e1,e2,ih];rw[Nat.pow_succ',Nat.mod_mul];omega
theorem Yhn (x n k:Nat) (hx:x<4294967296) (hn:n<=32) (h:k<n) :
 bits .or .u32 ((rev x k:Int)*2^(n-k)) (bits .and .u32 ((x:Int)/2^k) 1*2^(n-1-k)%4294967296)=((rev x (k+1)*2^(n-(k+1)):Nat):Int):=by
 have e1:((x:Int)/2^k)=((x/2^k:Nat):Int):=by simp
 have hlt:x/2^k<4294967296:=Nat.lt_of_le_of_lt (Nat.div_le_self _ _) hx
 have e2:bits .and .u32 ((x/2^k:Nat):Int) 1=((x/2^k%2:Nat):Int):=by
  have:=u32_and_nat (x/2^k) 1 hlt (by decide);rw[Nat.and_one_is_mod] at this;exact this
 rw[e1,e2];have hb:x/2^k%2<2:=Nat.mod_lt _ (by decide);obtain⟨b,hb0⟩:∃b,x/2^k%2=b:=⟨_,rfl⟩;rw[hb0] at hb ⊢;have hp:2^(n-1-k)<=2^31:=Nat.pow_le_pow_right (by decide) (by omega);have hp2:(2:Nat)^31=2147483648:=by decide
 have hb2:b*2^(n-1-k)<=2^(n-1-k):=by
  have:=Nat.mul_le_mul_right (2^(n-1-k)) (show b<=1 by omega);omega
 have e3:((b:Int)*2^(n-1-k)%4294967296)=((b*2^(n-1-k):Nat):Int):=by
  have:((b:Int)*2^(n-1-k))=((b*2^(n-1-k):Nat):Int):=by simp
  rw[this];omega
 have e4:((rev x k:Int)*2^(n-k))=((rev x k*2^(n-k):Nat):Int):=by simp
 have hr:=YeK x k
 have h5:rev x k*2^(n-k)+2^(n-k)<=2^n:=by
  have:=Nat.mul_le_mul_right (2^(n-k)) (show rev x k+1<=2^k from hr);rw[<-Nat.pow_add,Nat.add_mul,Nat.one_mul,show k+(n-k)=n by omega] at this;exact this
 have h6:2^n<=2^32:=Nat.pow_le_pow_right (by decide) hn;have h7:(2:Nat)^32=4294967296:=by decide
 have h8:2^(n-k)=2*2^(n-1-k):=by rw[<-Nat.pow_succ'];congr 1;omega
 have hpp:=YY (n-1-k);rw[e3,e4,u32_or_nat _ _ (by omega) (by omega),Nat.or_comm,Yib _ _ _ (by omega)]
 congr 1
 rw[show n-(k+1)=n-1-k by omega,h8];simp only[rev,hb0];rw[Nat.add_mul,Nat.mul_left_comm,<-Nat.mul_assoc,Nat.add_comm]
theorem YjH (x n:Nat) (hx:x<4294967296) (hn:n<=32) (w:World) :
 Calls Tryz.prog 122 #[.int .u32 (x:Int),.int .i64 (n:Int)] w fun e w'=>e=.returned (.int .u32 (rev x n:Int))/\w'=w:=by
 go_enter Tryz.func122,Tryz.ntmps122
 go_wp2
 go_loop [5,6,8] (fun y _ i=>∃k:Nat,k<=n/\i=.int .i64 (k:Int)/\y=.int .u32 (rev x k*2^(n-k):Nat))
  (fun _ _ i=>n-(intOf i).toNat)
 case atStart=>exact⟨0,by omega,rfl,by simp[rev]⟩
 obtain⟨k,hk,rfl,rfl⟩:=hrel;by_cases hlt:k<n
 . have hst:=Yhn x n k hx hn hlt
   go_wp2
   go_round
   case rel=>exact⟨k+1,by omega,by go_num,rfl⟩
   simp[intOf];omega
 obtain rfl:k=n:=by omega
 go_wp2
 go_ret;exact⟨by simp,rfl⟩
def SinkAt (w:World) (P:Nat) (v:Value) (V c:Nat):Prop:=
 Blk w P 121 #[v,.int .u64 ((V/2^(8*(c/8)):Nat):Int),.int .i64 ((c%8:Nat):Int)]/\OwnB w (P+1) v (YB V (c/8))/\V<2^c
def Chg (w w':World) (P:Nat) (v:Value):Prop:=
 (w'.os=w.os/\w'.tape=w.tape/\w'.output=w.output)/\w.heap.size<=w'.heap.size/\∀g,g<w.heap.size->g ≠ P->v.ownBlock ≠ some g->w'.heap[g]?=w.heap[g]?
def JP (N:Int) (k:Nat):Prop:=(N<0/\k=0)\/(N=(k:Int)/\k<=32)\/(32<N/\k=32)
theorem Chg.refl (w:World) (P:Nat) (v:Value):Chg w w P v:=⟨⟨rfl,rfl,rfl⟩,Qa _,fun _ _ _ _=>rfl⟩
def Fresh (w:World) (v v':Value):Prop:=∀g,g<w.heap.size->v.ownBlock ≠ some g->v'.ownBlock ≠ some g
theorem Chg.trans {w w1 w2:World} {P:Nat} {v v1:Value} (h1:Chg w w1 P v) (hf:Fresh w v v1) (h2:Chg w1 w2 P v1):Chg w w2 P v:=
 ⟨⟨h2.1.1.trans h1.1.1,h2.1.2.1.trans h1.1.2.1,h2.1.2.2.trans h1.1.2.2⟩,Qe h1.2.1 h2.2.1,fun g hg hP hv=>(h2.2.2 g (Qb hg h1.2.1) hP (hf g hg hv)).trans (h1.2.2 g hg hP hv)⟩
theorem Chg.below {w0 w w':World} {P:Nat} {v:Value} (h:Chg w w' P v) (hb:Below w0.heap.size w0 w) (hP:w0.heap.size<=P) (hv:∀g,v.ownBlock=some g->w0.heap.size<=g):Below w0.heap.size w0 w':=
 ⟨h.1.1.trans hb.os,h.1.2.1.trans hb.tape,h.1.2.2.trans hb.output,Qe hb.size h.2.1,fun g hg=>
  (h.2.2 g (Qb hg hb.size) (by omega) (fun e=>by have:=hv g e;omega)).trans (hb.block g hg)⟩
theorem Fresh.refl (w:World) (v:Value):Fresh w v v:=fun _ _ h=>h
theorem Fresh.trans {w w1:World} {v v1 v2:Value} (h1:Fresh w v v1) (hs:w.heap.size<=w1.heap.size) (h2:Fresh w1 v1 v2):Fresh w v v2:=fun g hg h=>h2 g (Qb hg hs) (h1 g hg h)
theorem V4 {ops:Array Oper} {o:Oper} {a:Act} {K:Act->World->Prop} {Q:Exit->Act->World->Prop} {E:Prop} (w:World) (hgd:o.guard=none) (s x:Operand) {t e:TypeId}
 (ho:o.op=.call { callee:=.builtin .append,args:=#[s,x],argTypes:=#[t,t] })
 (ht:Tryz.prog.underlying t=some (.slice e)) {z:Value} {size bytes:Nat} (hI:(Tryz.prog.info? e).map (fun i=>(i.zero,i.size,i.bytes))=some (some z,size,bytes)) (hzs:z.cells.size=size) (hsz:0<size)
 (base:Nat) (v:Value) (n:Nat) (xs us:List Value) (k:Nat) (hown:w.ownsRow base e size v n xs) (hus:us.length=k*size) (h1:∀u ∈ us,u.oneCell'=true) (hs:a.eval s=v)
 {sz:Nat} (hx:a.eval x=.slice (some ⟨sz,0,none⟩) k k) (hsize:sz=w.heap.size) (hm:n+k<=maxLen) (hl:(n+k)*bytes<=140737488355328) (hbase:base<=w.heap.size)
 {w1:World} (hw1:w1=w.alloc (.cells us.toArray e))
 (h:∀v' w',w'.ownsRow base e size v' (n+k) (xs++us)->w.grownBy w' v.ownBlock->(∀g,g<w.heap.size->v.ownBlock ≠ some g->v'.ownBlock ≠ some g)->K (a.put o.dst v') w') :
 if Region.wanted o (yielded ops a.tmps)=true then Oper.wp Tryz.prog o a w1 K Q else E:=by
 have hw:Region.wanted o (yielded ops a.tmps)=true:=by simp[Region.wanted,hgd]
 rw[if_pos hw];exact Xu w s x ho ht hI hzs hsz base v n xs us k hown hus h1 hs hx hsize hm hl hbase hw1 h
def Ym (w:World) (p:Addr):Nat:=(intOf ((w.cell? p).getD undef)).toNat
theorem Yf {w:World} {p:Addr} {n:Nat} (h:w.cell? p=some (.int .i64 (n:Int))):Ym w p=n:=by unfold Ym;rw[h];simp[intOf]
theorem Ykv (x k:Nat) (hx:x<4294967296) (hk:k<=32):bits .and .u64 (x:Int) ((2:Int)^k-1)=((x%2^k:Nat):Int):=by
 have hp:=YY k;have h6:2^k<=2^32:=Nat.pow_le_pow_right (by decide) hk;have h7:(2:Nat)^32=4294967296:=by decide
 have e:(2:Int)^k-1=((2^k-1:Nat):Int):=by
  have:(2:Int)^k=((2^k:Nat):Int):=by simp
  omega
 rw[e,u64_and_nat _ _ (by omega) (by omega),Yft]
theorem Yes (k:Nat) (hk:k<=32):IntKind.u64.wrap (IntKind.u64.wrap ((2:Int)^k)-1)=(2:Int)^k-1:=by
 have hp:=YY k;have h6:2^k<=2^32:=Nat.pow_le_pow_right (by decide) hk;have h7:(2:Nat)^32=4294967296:=by decide
 have:(2:Int)^k=((2^k:Nat):Int):=by simp
 rw[this,IntKind.wrap_u64,IntKind.wrap_u64];omega
theorem XY {w:World} {base e size n:Nat} {v:Value} {xs:List Value} (h:w.ownsRow base e size v n xs) (P i:Nat) (hP:P<base) (u:Value):(w.setCell ⟨P,i,none⟩ u).ownsRow base e size v n xs:=by
 refine⟨h.1,?_⟩;rcases h.2 with hn|⟨g,cap,cur,rfl,hbb,hh,r⟩
 . exact .inl hn
 exact .inr ⟨g,cap,cur,rfl,hbb,(heap_setCell_other w ⟨P,i,none⟩ g u (by show g ≠ P;omega)).trans hh,r⟩
def YnN (w:World) (P:Nat) (v:Value) (V c j:Nat):Prop:=
 Blk w P 121 #[v,.int .u64 ((V/2^(8*j):Nat):Int),.int .i64 ((c-8*j:Nat):Int)]/\OwnB w (P+1) v (YB V j)
theorem Ykk {w:World} {base:Nat} {v:Value} {U j L:Nat} (hL:U/2^(8*j)=L) (h:w.ownsRow base 5 1 v ((YB U j).length+1) (Vg (YB U j)++[.int .u8 ((L:Int)%256)])):OwnB w base v (YB U (j+1)):=by
 unfold OwnB;rw[KA,V8,List.length_append,Xw,hL]
 have e:Vg [UInt8.ofNat (L%256)]=[.int .u8 ((L:Int)%256)]:=by
  simp[Vg]
 rw[e];exact h
theorem YkV {w wr w2:World} {P:Nat} {v v1:Value} (hC:Chg w wr P v) (hF:Fresh w v v1) (hg:wr.drew.grownBy w2 v1.ownBlock) (a b c:Value) :
 Chg w (((w2.setCell ⟨P,0,none⟩ a).setCell ⟨P,1,none⟩ b).setCell ⟨P,2,none⟩ c) P v:=by
 refine Chg.trans hC hF ⟨⟨hg.os,hg.tape,hg.output⟩,?_,fun g hg1 hP hv=>?_⟩
 . simp only[World.size_setCell];exact hg.size
 rw[heap_setCell_other _ _ _ _ (by simpa using hP),heap_setCell_other _ _ _ _ (by simpa using hP),heap_setCell_other _ _ _ _ (by simpa using hP)];exact hg.block g hg1 (fun h=>hv h.symm)
set_option maxHeartbeats 8000000 in
theorem XH (P:Nat) (v:Value) (V c x k:Nat) (N:Int) (hx:x<4294967296) (hN:JP N k) (hc:c<=1000000000) (w:World) (hS:SinkAt w P v V c) :
 Calls Tryz.prog 58 #[.pointer (some ⟨P,0,none⟩),.int .u32 (x:Int),.int .i64 N] w fun e w'=>
  e=.returned (.tuple #[])/\∃v',SinkAt w' P v' (V+x%2^k*2^c) (c+k)/\Chg w w' P v/\Fresh w v v':=by
 have hk:k<=32:=by unfold JP at hN;omega
 obtain⟨hB,hO,hV⟩:=hS;have hc1:=hB.cell 0;have hc2:=hB.cell 1;have hc3:=hB.cell 2;have hf1:=hB.frozen 0;have hf2:=hB.frozen 1;have hf3:=hB.frozen 2;have hV':=Ym8 V x k c hV;have hT:=Ym9 V (x%2^k) c (8*(c/8)) (by omega)
 have hA2:V/2^(8*(c/8))<2^(c%8):=by
  rw[Nat.div_lt_iff_lt_mul (YY _),<-Nat.pow_add,show c%8+8*(c/8)=c by omega];exact hV
 rw[show c-8*(c/8)=c%8 by omega] at hT;have hlow:=Yg1 V (x%2^k) c (c/8) (by omega);obtain⟨A,hA⟩:∃A,V/2^(8*(c/8))=A:=⟨_,rfl⟩;obtain⟨m,hm⟩:∃m,c%8=m:=⟨_,rfl⟩;obtain⟨e,he⟩:∃e,x%2^k=e:=⟨_,rfl⟩;have hmk:=Ykv x k hx hk;have hwk:=Yes k hk;rw[hA] at hA2 hT;rw[hm] at hA2 hT;rw[he] at hmk hT hlow hV' ⊢;have hm8:m<8:=by omega
 have he2:e<2^k:=by rw[<-he];exact Nat.mod_lt _ (YY k)
 have hE:e*2^m+2^m<=549755813888:=by
  have h1:=Nat.mul_le_mul_right (2^m) (show e+1<=2^k from he2);rw[<-Nat.pow_add,Nat.add_mul,Nat.one_mul] at h1;have h2:(2:Nat)^(k+m)<=2^39:=Nat.pow_le_pow_right (by decide) (by omega);have h3:(2:Nat)^39=549755813888:=by decide
  omega
 have hw1:IntKind.u64.wrap ((e:Int)*2^m)=((e*2^m:Nat):Int):=by
  have:(e:Int)*2^m=((e*2^m:Nat):Int):=by simp
  rw[this,IntKind.wrap_u64];omega
 have hor:bits .or .u64 (A:Int) ((e*2^m:Nat):Int)=((A+e*2^m:Nat):Int):=by
  rw[u64_or_nat _ _ (by omega) (by omega),Yib _ _ _ hA2]
 simp only[hA,hm] at hB hc1 hc2 hc3;simp at hc1 hc2 hc3;have HV:=Qf hV;have HV':=Qf hV';have Hlow:=Qf hlow;have HT:=Qf hT;have HA2:=Qf hA2;have HA:=Qf hA;have Hm:=Qf hm;have He:=Qf he;have He2:=Qf he2;clear hV hV' hlow hT hA2 hA hm he he2;obtain⟨E,hE0⟩:∃E,e*2^m=E:=⟨_,rfl⟩;rw[hE0] at hw1 hor hE HT;have HE:=Qf hE0;clear hE0;obtain⟨U,HU⟩:∃U,Hid (V+e*2^c=U):=⟨_,rfl⟩;rw[HU.out] at HT HV' Hlow ⊢;go_enter Tryz.func58,Tryz.ntmps58;obtain⟨K,HK,hK32⟩:∃K,Hid (K=k)/\K<=32:=⟨k,rfl,hk⟩;obtain⟨M1,HM1⟩:∃M:Int,Hid ((if (32:Int)<N then 32 else N)=M):=⟨_,Qf (Eq.refl _)⟩
 have hmin:∀W,Sem.run Tryz.prog (Builtin.min_ #[3,3] 3 #[.int .i64 N,.int .i64 32]) W=.ok (.int .i64 M1) W:=fun W=>by
  rw[<-HM1.out];show Result.ok (Value.int .i64 (if (32:Int)<N then 32 else N)) W=_;rfl
 have hmax:∀W,Sem.run Tryz.prog (Builtin.max_ #[3,3] 3 #[.int .i64 0,.int .i64 M1]) W=.ok (.int .i64 (K:Int)) W:=fun W=>by
  have e:(if M1>0 then M1 else 0)=(K:Int):=by
   rw[<-HM1.out,HK.out];unfold JP at hN;split<;>split<;>omega
  show Result.ok (Value.int .i64 (if M1>0 then M1 else 0)) W=_;rw[e]
 rw[<-HK.out] at hmk hwk;go_wp2_with fail;clear hmin hmax
 go_region
 all_goals go_wp2_with fail
 go_loopw [38] (fun _ wr=>∃j v',c/8<=j/\8*j<=c+K/\YnN wr P v' U (c+K) j/\Chg w wr P v/\Fresh w v v')
  (fun _ wr=>Ym wr ⟨P,2,none⟩)
 case atStart=>
  refine⟨c/8,v,Qa _,by omega,⟨?_,?_⟩,?_,Fresh.refl _ _⟩
  . rw[HT.out,show c+K-8*(c/8)=m+K by have:=Hm.out;omega,HK.out]
    exact(hB.set_ 1 (.int .u64 ((A+E:Nat):Int))).drew.set_ 2 _
  . rw[Hlow.out]
    exact XY (XY hO P 1 (by omega) _) P 2 (by omega) _
  exact⟨⟨rfl,rfl,rfl⟩,by simp,fun g hg hP hv=>(heap_setCell_other _ _ _ _ (by simpa using hP)).trans (heap_setCell_other _ _ _ _ (by simpa using hP))⟩
 clear hB hO hc1 hc2 hc3 hf1 hf2 hf3;obtain⟨j,v1,hj,hjc,⟨hB,hO⟩,hC,hF⟩:=hrel;have hc1:=hB.cell 0;have hc2:=hB.cell 1;have hc3:=hB.cell 2;have hf1:=hB.frozen 0;have hf2:=hB.frozen 1;have hf3:=hB.frozen 2
 have hLe:U/2^(8*j)<=A+E:=by
  rw[<-HT.out];exact Nat.div_le_div_left (Nat.pow_le_pow_right (by decide) (by omega)) (YY _)
 have HA2':=HA2.out;have hLl:U/2^(8*j)<549755813888:=by omega
 have hM:=Yf hc3;obtain⟨r,hr⟩:∃r,c+K-8*j=r:=⟨_,rfl⟩;obtain⟨L,hL⟩:∃L,U/2^(8*j)=L:=⟨_,rfl⟩;simp only[hr,hL] at hB hc1 hc2 hc3 hM;rw[hL] at hLl;have hlen:=YW U j;have Hr:=Qf hr;have HL:=Qf hL;simp at hc1 hc2 hc3;have hrl:r<=1000000032:=by omega
 have hPl:=hB.lt;clear hr hL hLe HA2' hmk hwk hw1 hor;by_cases h8:8<=r
 . go_wp2_with fail
   have hne:v1.ownBlock ≠ some P:=fun h=>by have:=(World.ownsRow.lt hO _ h).1;omega
   go_region_law (refine V4 wr.drew rfl (.tmp 51) (.tmp 57) rfl Tryz.underlying58 Yar rfl (by decide) (P+1) v1 (YB U j).length (Vg (YB U j)) [.int .u8 ((L:Int)%256)] 1 hO.drew rfl ?_ ?_ (sz:=wr.heap.size) ?_ ?_ ?_ ?_ hPl ?_ ?_;intro y hy;simp at hy;subst hy;rfl;rfl;rfl;rfl;rw[hlen];unfold maxLen;omega;rw[hlen];omega;rfl;intro v2 w2 hown2 hg2 hat2;obtain⟨g2,cap2,rfl,hg2b⟩:=World.ownsRow.form hown2 (Nat.succ_pos _);have hB2:=hB.drew.grown hg2 (fun h=>hne h.symm);have hd1:=hB2.cell 0;have hd2:=hB2.cell 1;have hd3:=hB2.cell 2;have hfd1:=hB2.frozen 0;have hfd2:=hB2.frozen 1;have hfd3:=hB2.frozen 2;simp at hd1 hd2 hd3)
   all_goals
    go_wp2_with fail;go_roundw
    case rel=>
     have hown3:=Ykk HL.out hown2;rw[hlen] at hown3;refine⟨j+1,_,by omega,by have:=Hr.out;omega,⟨?_,XY (XY (XY (hown3) P 0 (by omega) _) P 1 (by omega) _) P 2 (by omega) _⟩,YkV hC hF hg2 _ _ _,hF.trans hC.2.1 (by rw[<-hlen];exact hat2)⟩
     have e1:U/2^(8*(j+1))=L/256:=by
      rw[<-HL.out,Nat.div_div_eq_div_mul,show(256:Nat)=2^8 by decide,<-Nat.pow_add]
      congr 1
     have e2:((c+K-8*(j+1):Nat):Int)=(r:Int)-8:=by have:=Hr.out;omega
     rw[e1,e2];exact((hB2.set_ 0 _).set_ 1 _).set_ 2 _
    have hM2:Ym ((((w2.setCell ⟨P,0,none⟩ (.slice (some ⟨g2,0,none⟩) (j+1) cap2)).setCell ⟨P,1,none⟩ (.int .u64 ((L:Int)/256))).setCell ⟨P,2,none⟩ (.int .i64 ((r:Int)-8)))) ⟨P,2,none⟩=r-8:=by
     have h:=(((hB2.set_ 0 (.slice (some ⟨g2,0,none⟩) (j+1) cap2)).set_ 1 (.int .u64 ((L:Int)/256))).set_ 2 (.int .i64 ((r:Int)-8))).cell 2;refine Yf (h.trans ?_);have e:(((r-8:Nat):Int))=(r:Int)-8:=(by omega);rw[e];rfl
    rw[hM,hM2];omega
 go_wp2_with fail
 (try simp only[Exit.inBlock,Exit.then]);refine bodyPost_end (results_none rfl _ _ _) rfl ?_
 have hj2:j=(c+K)/8:=by have:=Hr.out;omega
 refine⟨rfl,v1,⟨?_,by rw[<-HK.out,<-hj2];exact hO,HV'.out⟩,hC,hF⟩
 have e2:(c+K)%8=r:=by have:=Hr.out;omega
 rw[<-HK.out,e2,<-hj2,HL.out];exact hB
theorem Ydm (N:Int) (k:Nat) (hN:JP N k):∃M:Int,(∀W,Sem.run Tryz.prog (Builtin.min_ #[3,3] 3 #[.int .i64 N,.int .i64 32]) W=.ok (.int .i64 M) W)/\∀W,Sem.run Tryz.prog (Builtin.max_ #[3,3] 3 #[.int .i64 0,.int .i64 M]) W=.ok (.int .i64 (k:Int)) W:=by
 refine⟨if (32:Int)<N then 32 else N,fun W=>rfl,fun W=>?_⟩
 have e:(if (if (32:Int)<N then 32 else N)>0 then (if (32:Int)<N then 32 else N) else 0)=(k:Int):=by
  unfold JP at hN;split<;>split<;>omega
 show Result.ok (Value.int .i64 (if (if (32:Int)<N then 32 else N)>0 then (if (32:Int)<N then 32 else N) else 0)) W=_;rw[e]
theorem YcC (P:Nat) (v:Value) (V c x k:Nat) (N:Int) (hx:x<4294967296) (hN:JP N k) (hc:c<=1000000000) (w:World) (hS:SinkAt w P v V c) :
 Calls Tryz.prog 110 #[.pointer (some ⟨P,0,none⟩),.int .u32 (x:Int),.int .i64 N] w fun e w'=>
  e=.returned (.tuple #[])/\∃v',SinkAt w' P v' (V+rev x k%2^k*2^c) (c+k)/\Chg w w' P v/\Fresh w v v':=by
 have hk:k<=32:=by unfold JP at hN;omega
 obtain⟨M1,hmin,hmax⟩:=Ydm N k hN;have CT:=Qf (fun W=>YjH x k hx hk W);obtain⟨y,Hy⟩:=Qi (rev x k);have hyl:y<4294967296:=by rw[<-Hy.out];exact Qb (YeK x k) (Qe (Nat.pow_le_pow_right (by decide) hk) (by decide))
 have CP:=Qf (fun W hS=>XH P v V c y k N hyl hN hc W hS);have HS:=Qf hS;rw[Hy.out] at CT ⊢;clear hS hN;go_enter Tryz.func110,Tryz.ntmps110;go_wp2_with fail;refine(CT.out _).mono ?_;rintro e w1 ⟨rfl,rfl⟩;go_wp2_with fail;refine(CP.out _ HS.out).mono ?_;rintro e w2 ⟨rfl,v',h1,h2,h3⟩;go_wp2_with fail
 (try simp only[Exit.inBlock,Exit.then]);refine bodyPost_end (results_none rfl _ _ _) rfl ?_
 exact⟨rfl,v',h1,h2,h3⟩
theorem YeY (l m:List UInt8):(⟨l.toArray⟩:ByteArray)++⟨m.toArray⟩=⟨(l++m).toArray⟩:=by
 have h:((⟨l.toArray⟩:ByteArray)++⟨m.toArray⟩).data=(⟨(l++m).toArray⟩:ByteArray).data:=by rw[ByteArray.data_append];simp
 cases h2:((⟨l.toArray⟩:ByteArray)++⟨m.toArray⟩) with
 |mk d=>rw[h2] at h;simp at h;subst h;rfl
theorem Yad (P:Nat) (v:Value) (V c:Nat) (hc:c<=1000000000) (w:World) (hS:SinkAt w P v V c) :
 Calls Tryz.prog 61 #[.pointer (some ⟨P,0,none⟩)] w fun e w'=>e=.returned (.string ⟨(YB V ((c+7)/8)).toArray⟩)/\Below w.heap.size w w':=by
 obtain⟨hB,hO,hV⟩:=hS;have c0:=hB.cell 0;have c1:=hB.cell 1;have c2:=hB.cell 2;have hcv:=Xh _ _ _ _ hO;have hlen:=YW V (c/8);by_cases hm:c%8=0
 . have e:YB V ((c+7)/8)=YB V (c/8):=by rw[show(c+7)/8=c/8 by omega]
   rw[e];rw[hm] at c2;simp at c0 c1 c2;obtain⟨L,HL⟩:=Qi (YB V (c/8));rw[HL.out] at hcv ⊢;clear hB hO hV hm e;go_enter Tryz.func61,Tryz.ntmps61;go_wp2_with fail;go_ret;exact⟨rfl,Below.refl _ _⟩
 have e:YB V ((c+7)/8)=YB V (c/8)++[UInt8.ofNat (V/256^(c/8)%256)]:=by rw[show(c+7)/8=c/8+1 by omega,KA]
 rw[e,<-YeY];obtain⟨m,Hm⟩:=Qi (c%8);rw[Hm.out] at c2 hm;obtain⟨l,Hl⟩:=Qi (V/2^(8*(c/8)));have hp:V/256^(c/8)=l:=by rw[Xw];exact Hl.out
 rw[Hl.out] at c1;rw[hp]
 have hll:l<256:=by
  rw[<-Hl.out,Nat.div_lt_iff_lt_mul (YY _),show(256:Nat)=2^8 by decide,<-Nat.pow_add];exact Qb hV (Nat.pow_le_pow_right (by decide) (by omega))
 have hl2:l%256=l:=by omega
 rw[hl2];simp at c0 c1 c2;have hs1:=X2 w (l:Int);rw[Int.toNat_natCast] at hs1;have hbb:=(Below.refl w.heap.size w).alloc (Qa _) (.cells #[.int .u8 (l:Int)] 5);have hm0:0<m:=by omega
 have hlw:IntKind.u8.wrap (l:Int)=(l:Int):=by rw[IntKind.wrap_u8];omega
 have hsz:(⟨(YB V (c/8)).toArray⟩:ByteArray).size=c/8:=by show(YB V (c/8)).toArray.size=_;simp[hlen]
 have hov:¬9223372036854775807<c/8+1:=by omega
 obtain⟨L,HL⟩:∃L:ByteArray,Hid ((⟨(YB V (c/8)).toArray⟩:ByteArray)=L):=⟨_,Qf (Eq.refl _)⟩;rw[HL.out] at hcv hsz ⊢;have Hbb:=Qf hbb;have hov2:¬9223372036854775807<L.size+1:=by omega
 clear hB hO hV hm e hp hl2 hbb;go_enter Tryz.func61,Tryz.ntmps61;go_wp2_with fail;go_ret;exact⟨rfl,Hbb.out⟩
theorem YcD (P:Nat) (v:Value) (V c:Nat) (hc:c<=1000000000) (w:World) (hS:SinkAt w P v V c) :
 Calls Tryz.prog 85 #[.pointer (some ⟨P,0,none⟩)] w fun e w'=>
  e=.returned (.tuple #[])/\∃v',SinkAt w' P v' V ((c+7)/8*8)/\Chg w w' P v/\Fresh w v v':=by
 have hk:JP (((8-c%8)%8:Nat):Int) ((8-c%8)%8):=.inr (.inl ⟨rfl,by omega⟩);have CP0:=fun W hS=>XH P v V c 0 ((8-c%8)%8) (((8-c%8)%8:Nat):Int) (by decide) hk hc W hS;rw[show V+0%2^((8-c%8)%8)*2^c=V by simp,show c+(8-c%8)%8=(c+7)/8*8 by omega] at CP0;have hn:=hS.1.cell 2;simp at hn;obtain⟨m,Hm⟩:=Qi (c%8)
 have hm8:m<8:=by have:=Hm.out;omega
 obtain⟨d,Hd⟩:=Qi ((8-c%8)%8)
 have hcm:((c:Int)%8)=(m:Int):=by have:=Hm.out;omega
 rw[Hd.out] at CP0
 (try rw[hcm] at hn)
 have e1:(8-(m:Int))%8=(d:Int):=by have:=Hm.out;have:=Hd.out;omega
 have e2:(8-(m:Int)).tmod 8=(d:Int):=by rw[Int.tmod_eq_emod_of_nonneg (by omega)];exact e1
 have CP:=Qf CP0;have HS:=Qf hS;clear CP0 hS hk hcm;go_enter Tryz.func85,Tryz.ntmps85;go_wp2_with fail;refine(CP.out _ HS.out).mono ?_;rintro e w2 ⟨rfl,v',h1,h2,h3⟩;go_wp2_with fail
 (try simp only[Exit.inBlock,Exit.then]);refine bodyPost_end (results_none rfl _ _ _) rfl ?_
 exact⟨rfl,v',h1,h2,h3⟩
theorem JO (ty:TypeId) (base:Nat) (v:Value) (l:List UInt8) (w:World) (h:OwnB w base v l) (s:ByteArray) (hl:l.length+s.size<=100000000000) (hb:base<=w.heap.size) :
 ∃a n cap w',(Builtin.append_ #[58,9] ty #[v,.string s]).run Tryz.prog w=.ok (.slice a n cap) w'/\OwnB w' base (.slice a n cap) (l++s.data.toList)/\w.grownBy w' v.ownBlock/\
  ∀g,g<w.heap.size->v.ownBlock ≠ some g->(Value.slice a n cap).ownBlock ≠ some g:=by
 obtain⟨i0,hi,hz0,hz1,hz2⟩:=info_parts Yar;have hm:l.length+s.size<=maxLen:=by unfold maxLen;omega
 have conv:∀{W:World} {b:Nat} {v':Value},W.ownsRow b 5 1 v' (l.length+s.size) (Vg l++Lib.strCells s)->OwnB W b v' (l++s.data.toList):=by
  intro W b v' hh;unfold OwnB;rw[List.length_append,V8,show s.data.toList.length=s.size by simp];exact hh
 have form:∀{W:World} {b:Nat} {v':Value} {L:List UInt8},OwnB W b v' L->∃a n cap,v'=.slice a n cap:=by
  intro W b v' L hh;rcases hh.2 with⟨rfl,_⟩|⟨g,cap,cur,rfl,_⟩
  . exact⟨_,_,_,rfl⟩
  exact⟨_,_,_,rfl⟩
 obtain⟨v',w',hr,h2,h3,_⟩:=Lib.run_append_own_string (P:=Tryz.prog) w base 58 9 ty 5 i0 Tryz.underlying58 Tryz.underlying9 hi hz0 hz1 hz2 v l.length (Vg l) h s hm (by omega) hb;obtain⟨a,n,cap,rfl⟩:=form (conv h2);refine⟨a,n,cap,w',hr,conv h2,h3,?_⟩;intro g hg hv e;rcases h.2 with⟨rfl,hl0⟩|⟨g0,cap0,cur,rfl,hb0,hh,hle,hcm,hsz,htk⟩
 . have h':OwnB w w.heap.size (.slice none 0 0) l:=⟨h.1,.inl ⟨rfl,hl0⟩⟩
   obtain⟨v2,w2,hr2,h22,_⟩:=Lib.run_append_own_string (P:=Tryz.prog) w w.heap.size 58 9 ty 5 i0 Tryz.underlying58 Tryz.underlying9 hi hz0 hz1 hz2 (.slice none 0 0) l.length (Vg l) h' s hm (by omega) (Qa _);rw[hr] at hr2;injection hr2 with e1 e2;subst e1;have:=(World.ownsRow.lt h22 g e).1;omega
 by_cases hroom:l.length+s.size<=cap0
 . have hr2:=Lib.run_append_room_string (P:=Tryz.prog) (w:=w) 58 9 ty 5 i0 Tryz.underlying58 Tryz.underlying9 hi hz1 g0 l.length cap0 cur hh s hroom (by omega)
   rw[hr] at hr2;injection hr2 with e1 e2;injection e1 with e1 _ _;subst e1;exact hv e
 have holds:∀j u,(Vg l)[j]?=some u->w.cell? ((⟨g0,0,none⟩:Addr).add j)=some u:=fun j u hj=>World.ownsRow.cells h (g:=g0) rfl j u hj;have hr2:=Lib.run_append_grow_string (P:=Tryz.prog) (w:=w) 58 9 ty 5 i0 _ Tryz.underlying58 Tryz.underlying9 hi hz0 ⟨g0,0,none⟩ l.length cap0 (Vg l) (by rw[hz1];simp[Vg]) holds s (by omega) (by omega) (by rw[hz2];exact growslice_fits (by omega) (by omega));rw[hr] at hr2;injection hr2 with e1 e2;injection e1 with e1 _ _;subst e1;simp[Value.ownBlock] at e;omega
theorem XT {ops:Array Oper} {rest:List Oper} {o:Oper} {a:Act} {Q:Exit->Act->World->Prop} {w:World} (hgd:o.guard=none) (sl x:Operand)
 (ho:o.op=.call { callee:=.builtin .append,args:=#[sl,x],argTypes:=#[58,9] })
 (base:Nat) (v:Value) (l:List UInt8) (hs:a.eval sl=v) (hown:OwnB w base v l) (s:ByteArray) (hx:a.eval x=.string s) (hl:l.length+s.size<=100000000000) (hb:base<=w.heap.size)
 (h:∀b n cap w',OwnB w' base (.slice b n cap) (l++s.data.toList)->w.grownBy w' v.ownBlock->(∀g,g<w.heap.size->v.ownBlock ≠ some g->(Value.slice b n cap).ownBlock ≠ some g)->wpList Tryz.prog ops Q rest (a.put o.dst (.slice b n cap)) w') :
 wpList Tryz.prog ops Q (o::rest) a w:=by
 refine wpList_plain hgd fun K hK=>?_;obtain⟨b,n,cap,w',hr,h2,h3,h4⟩:=JO o.type base v l w hown s hl hb;unfold Oper.wp execOp;simp only[ho,resolve,invoke,builtin,Sem.run_bind,Sem.run_pure,Result.andThen_ok,List.map_toArray,List.map_cons,List.map_nil,hs,hx,hr];exact hK _ _ (h b n cap w' h2 h3 h4)
theorem Ybv (V k:Nat) (hV:V<2^(8*k)) (l:List UInt8):YB (V+leN l*2^(8*k)) (k+l.length)=YB V k++l:=by
 apply YiB
 . rw[YW,List.length_append,YW]
 have h1:=Uj l
 have hX:V+leN l*2^(8*k)<256^(k+l.length):=by
  rw[Nat.pow_add,Xw k,Nat.mul_comm (2^(8*k)) (256^l.length)];have h2:=Nat.mul_le_mul_right (2^(8*k)) (show leN l+1<=256^l.length from h1);rw[Nat.add_mul,Nat.one_mul] at h2;omega
 rw[Kj,Ua,Kj,Nat.mod_eq_of_lt hX,YW,Nat.mod_eq_of_lt (by rw[Xw];exact hV),Xw k]
set_option maxHeartbeats 2000000 in
theorem JB (P:Nat) (v:Value) (V c:Nat) (s:ByteArray) (hs:s.size<=1000000) (hc:c<=900000000) (w:World) (hS:SinkAt w P v V c) :
 Calls Tryz.prog 59 #[.pointer (some ⟨P,0,none⟩),.string s] w fun e w'=>
  e=.returned (.tuple #[])/\∃v',SinkAt w' P v' (V+leN s.data.toList*2^((c+7)/8*8)) ((c+7)/8*8+8*s.size)/\Chg w w' P v/\Fresh w v v':=by
 have CE:=Qf (YcD P v V c (by omega) w hS);obtain⟨k,Hk⟩:=Qi ((c+7)/8)
 have hk:k<=1000000000:=by have:=Hk.out;omega
 rw[Hk.out] at CE ⊢;clear hS;go_enter Tryz.func59,Tryz.ntmps59;go_wp2_with fail;refine CE.out.mono ?_;rintro e w1 ⟨rfl,v1,hS1,hC1,hF1⟩;obtain⟨hB,hO,hV⟩:=hS1;rw[show k*8/8=k by omega] at hB hO;have hsz:=YW V k;have hz0:V/2^(8*k)=0:=Nat.div_eq_of_lt (by rw[Nat.mul_comm 8 k];exact hV);rw[hz0,show k*8%8=0 by omega] at hB;have hPl:=hB.lt
 have hne:v1.ownBlock ≠ some P:=fun h=>by have:=(World.ownsRow.lt hO _ h).1;omega
 have hlen:(YB V k).length+s.size<=100000000000:=by rw[hsz];omega
 have c0:=hB.cell 0;simp at c0;have HC1:=Qf hC1;have HF1:=Qf hF1;have HV:=Qf hV;have HBl:=Qf hB;have HNe:=Qf hne;have hos:=hO;clear hB hO hV hC1 hF1 hz0 hsz hne
 go_wp2_with (first
  |(at_builtin;go_must (refine XT rfl (.tmp 10) (.tmp 11) rfl (P+1) v1 (YB V k) rfl hos s rfl hlen hPl ?_;intro a2 n2 cap2 w2 hO2 hg2 hF2;have hB2:=HBl.out.grown hg2 (fun e=>HNe.out e.symm);have d0:=hB2.cell 0;have df:=hB2.frozen 0;simp at d0;have HB2:=Qf hB2;have HO2:=Qf hO2;have HF2:=Qf hF2;have HG2:=Qf hg2;clear hB2 hO2 hF2 hg2))
  |fail)
 (try simp only[Exit.inBlock,Exit.then]);refine bodyPost_end (results_none rfl _ _ _) rfl ?_
 have hV2:V<2^(8*k):=by rw[Nat.mul_comm];exact HV.out
 have happ:=Ybv V k hV2 s.data.toList;rw[show s.data.toList.length=s.size by simp,Nat.mul_comm 8 k] at happ;have hl2:=Uj s.data.toList;rw[show s.data.toList.length=s.size by simp,Xw] at hl2
 have hX:V+leN s.data.toList*2^(k*8)<2^(k*8+8*s.size):=by
  have h2:=Nat.mul_le_mul_right (2^(k*8)) (show leN s.data.toList+1<=2^(8*s.size) from hl2);rw[Nat.add_mul,Nat.one_mul,<-Nat.pow_add,Nat.add_comm (8*s.size)] at h2;have:=HV.out;omega
 refine⟨rfl,.slice a2 n2 cap2,⟨?_,?_,hX⟩,?_,?_⟩
 . have h:=HB2.out.set_ 0 (.slice a2 n2 cap2)
   rw[show(k*8+8*s.size)/8=k+s.size by omega,show(k*8+8*s.size)%8=0 by omega,Nat.div_eq_of_lt (by rw[show 8*(k+s.size)=k*8+8*s.size by omega];exact hX)]
   simpa using h
 . rw[show(k*8+8*s.size)/8=k+s.size by omega,happ]
   exact XY HO2.out P 0 (by omega) _
 . exact HC1.out.trans HF1.out ⟨⟨HG2.out.os,HG2.out.tape,HG2.out.output⟩,by simpa [World.setCell] using HG2.out.size,fun g hg hP hv=>(heap_setCell_other _ _ _ _ (by simpa using hP)).trans (HG2.out.block g hg (fun e=>hv e.symm))⟩
 exact HF1.out.trans HC1.out.2.1 HF2.out
def Ext (cd ln:Nat->Nat) (x n s:Nat):Prop:=n<=ln s/\cd s/2^(ln s-n)=x
def CellOK (cd ln:Nat->Nat) (In:Nat->Prop) (B:Nat->Nat->Int) (N:Nat) (pv pn:Nat->Nat) (a b:Nat):Prop:=
 (B a b=0/\∀s,In s->¬Ext cd ln (2*pv a+b) (pn a+1) s)\/
 (∃j:Nat,B a b=(j:Int)/\0<j/\j<N/\pv j=2*pv a+b/\pn j=pn a+1/\∃s,In s/\Ext cd ln (2*pv a+b) (pn a+1) s/\pn a+1<ln s)\/
 (∃s:Nat,B a b = -1-(s:Int)/\In s/\ln s=pn a+1/\cd s=2*pv a+b)
structure Grown (cd ln:Nat->Nat) (In:Nat->Prop) (B:Nat->Nat->Int) (N:Nat) (pv pn:Nat->Nat):Prop where
 pos:0<N
 root:pv 0=0/\pn 0=0
 cells:∀a,a<N->∀b,b<2->CellOK cd ln In B N pv pn a b
 one:∀a a',a<N->a'<N->pv a=pv a'->pn a=pn a'->a=a'
 used:∀j,0<j->j<N->∃s,In s/\Ext cd ln (pv j) (pn j) s/\pn j<ln s
structure Mid (cd ln:Nat->Nat) (In:Nat->Prop) (σ:Nat) (B:Nat->Nat->Int) (N:Nat) (pv pn:Nat->Nat) (n at_:Nat):Prop where
 pos:0<N
 root:pv 0=0/\pn 0=0
 lt:at_<N
 here:pv at_=cd σ/2^(ln σ-n)/\pn at_=n
 short:n<ln σ
 old:∀a,a<N->∀b,b<2->n<=pn a->Ext cd ln (2*pv a+b) (pn a+1) σ->CellOK cd ln In B N pv pn a b
 new:∀a,a<N->∀b,b<2->¬(n<=pn a/\Ext cd ln (2*pv a+b) (pn a+1) σ)->CellOK cd ln (fun s=>In s\/s=σ) B N pv pn a b
 one:∀a a',a<N->a'<N->pv a=pv a'->pn a=pn a'->a=a'
 used:∀j,0<j->j<N->∃s,(In s\/s=σ/\pn j<=n)/\Ext cd ln (pv j) (pn j) s/\pn j<ln s
section
variable {cd ln:Nat->Nat} {In:Nat->Prop} {σ:Nat} {B:Nat->Nat->Int} {N:Nat} {pv pn:Nat->Nat}
theorem CellOK.more {a b:Nat} (h:CellOK cd ln In B N pv pn a b) (hn:¬Ext cd ln (2*pv a+b) (pn a+1) σ):CellOK cd ln (fun s=>In s\/s=σ) B N pv pn a b:=by
 rcases h with⟨h1,h2⟩|⟨j,h1,h2,h3,h4,h5,s,h6,h7⟩|⟨s,h1,h2,h3⟩
 . refine .inl ⟨h1,fun s hs=>?_⟩
   rcases hs with hs|rfl
   . exact h2 s hs
   exact hn
 . exact .inr (.inl ⟨j,h1,h2,h3,h4,h5,s,.inl h6,h7⟩)
 exact .inr (.inr ⟨s,h1,.inl h2,h3⟩)
def nb (cd ln:Nat->Nat) (σ n:Nat):Nat:=cd σ/2^(ln σ-n-1)%2
theorem Yme (cd ln:Nat->Nat) (σ n:Nat):nb cd ln σ n<2:=Nat.mod_lt _ (by decide)
theorem K5 (n:Nat) (h:n<ln σ):cd σ/2^(ln σ-(n+1))=2*(cd σ/2^(ln σ-n))+nb cd ln σ n:=by
 have e:cd σ/2^(ln σ-n)=cd σ/2^(ln σ-(n+1))/2:=by
  rw[Nat.div_div_eq_div_mul,<-Nat.pow_succ]
  congr 2
  omega
 rw[e];unfold nb;rw[show ln σ-n-1=ln σ-(n+1) by omega];omega
theorem Mid.there {n at_ a b:Nat} (h:Mid cd ln In σ B N pv pn n at_) (ha:a<N) (hb:b<2) (hn:pn a=n) (he:Ext cd ln (2*pv a+b) (pn a+1) σ):a=at_/\b=nb cd ln σ n:=by
 have h1:=he.2;rw[hn,K5 n h.short] at h1;have h2:=Yme cd ln σ n;have h3:pv a=pv at_:=by rw[h.here.1];omega
 have h4:=h.one a at_ ha h.lt h3 (by rw[hn,h.here.2]);subst h4;exact⟨rfl,by omega⟩
theorem Mid.ext {n at_:Nat} (h:Mid cd ln In σ B N pv pn n at_):Ext cd ln (2*pv at_+nb cd ln σ n) (pn at_+1) σ:=by
 refine⟨by rw[h.here.2];exact h.short,?_⟩;rw[h.here.2,K5 n h.short,h.here.1]
theorem Mid.cell {n at_:Nat} (h:Mid cd ln In σ B N pv pn n at_):CellOK cd ln In B N pv pn at_ (nb cd ln σ n):=
 h.old at_ h.lt _ (Yme _ _ _ _) (by rw[h.here.2];exact Qa _) h.ext
theorem Grown.start (h:Grown cd ln In B N pv pn) (h0:0<ln σ) (hc:cd σ<2^ln σ):Mid cd ln In σ B N pv pn 0 0:=by
 refine⟨h.pos,h.root,h.pos,⟨?_,h.root.2⟩,h0,fun a ha b hb _ _=>h.cells a ha b hb,fun a ha b hb hn=>(h.cells a ha b hb).more (fun e=>hn ⟨Nat.zero_le _,e⟩),h.one,fun j h1 h2=>?_⟩
 . rw[h.root.1,Nat.sub_zero,Nat.div_eq_of_lt hc]
 obtain⟨s,h3,h4⟩:=h.used j h1 h2;exact⟨s,.inl h3,h4⟩
theorem Yfg {x n s m:Nat} (h:Ext cd ln x n s) (hm:m<=n):Ext cd ln (x/2^(n-m)) m s:=by
 refine⟨Qe hm h.1,?_⟩;rw[<-h.2,Nat.div_div_eq_div_mul,<-Nat.pow_add]
 congr 2
 have:=h.1;omega
theorem Mid.way {n at_:Nat} (h:Mid cd ln In σ B N pv pn n at_) (hpf:∀s,In s->¬Ext cd ln (cd s) (ln s) σ) :
 B at_ (nb cd ln σ n)=0\/∃j:Nat,B at_ (nb cd ln σ n)=(j:Int)/\0<j/\j<N/\pv j=cd σ/2^(ln σ-(n+1))/\pn j=n+1/\∃s,In s/\Ext cd ln (cd σ/2^(ln σ-(n+1))) (n+1) s/\n+1<ln s:=by
 have e:=K5 (cd:=cd) n h.short;have hp:=h.here;rcases h.cell with⟨h1,_⟩|⟨j,h1,h2,h3,h4,h5,s,h6,h7,h8⟩|⟨s,h1,h2,h3,h4⟩
 . exact .inl h1
 . rw[hp.1,hp.2,<-e] at h7
   rw[hp.2] at h8 h5;rw[hp.1,<-e] at h4;exact .inr ⟨j,h1,h2,h3,h4,h5,s,h6,h7,h8⟩
 refine absurd ?_ (hpf s h2);have:=h.ext;rw[<-h3,<-h4] at this;exact this
theorem Mid.down {n at_ j:Nat} (h:Mid cd ln In σ B N pv pn n at_) (hs:n+1<ln σ) (hB:B at_ (nb cd ln σ n)=(j:Int)) (h0:0<j) (hj:j<N) (hpv:pv j=cd σ/2^(ln σ-(n+1))) (hpn:pn j=n+1) (hex:∃s,In s/\Ext cd ln (cd σ/2^(ln σ-(n+1))) (n+1) s/\n+1<ln s):Mid cd ln In σ B N pv pn (n+1) j:=by
 have e:=K5 (cd:=cd) n h.short;refine⟨h.pos,h.root,hj,⟨hpv,hpn⟩,hs,fun a ha b hb hn he=>h.old a ha b hb (by omega) he,fun a ha b hb hn=>?_,h.one,fun i h1 h2=>?_⟩;by_cases h1:n<=pn a/\Ext cd ln (2*pv a+b) (pn a+1) σ
 . have h2:pn a=n:=by
    by_cases h3:n+1<=pn a
    . exact absurd ⟨h3,h1.2⟩ hn
    omega
   obtain⟨rfl,rfl⟩:=h.there ha hb h2 h1.2;obtain⟨s,h4,h5,h6⟩:=hex;refine .inr (.inl ⟨j,hB,h0,hj,?_,by rw[h2];exact hpn,s,.inl h4,?_,by rw[h2];exact h6⟩)
   . rw[hpv,e,h.here.1]
   rw[h2,h.here.1,<-e];exact h5
 . exact h.new a ha b hb h1
 obtain⟨s,h3,h4⟩:=h.used i h1 h2;exact⟨s,h3.imp id (fun h=>⟨h.1,by omega⟩),h4⟩
def setB (B:Nat->Nat->Int) (at_ k:Nat) (v:Int) (a b:Nat):Int:=if a=at_/\b=k then v else B a b
def addB (B:Nat->Nat->Int) (N:Nat) (a b:Nat):Int:=if a=N then 0 else B a b
def addP (p:Nat->Nat) (N v:Nat) (a:Nat):Nat:=if a=N then v else p a
theorem CellOK.wider {In':Nat->Prop} {B':Nat->Nat->Int} {N':Nat} {pv' pn':Nat->Nat} {a b:Nat} (h:CellOK cd ln In' B N pv pn a b) (hB:B' a b=B a b) (hN:N<=N') (ha:pv' a=pv a/\pn' a=pn a) (hp:∀j,j<N->pv' j=pv j/\pn' j=pn j):CellOK cd ln In' B' N' pv' pn' a b:=by
 unfold CellOK;rw[hB,ha.1,ha.2];rcases h with h|⟨j,h1,h2,h3,h4,h5,h6⟩|h
 . exact .inl h
 . exact .inr (.inl ⟨j,h1,h2,by omega,by rw[(hp j h3).1];exact h4,by rw[(hp j h3).2];exact h5,h6⟩)
 exact .inr (.inr h)
theorem Mid.fresh {n at_:Nat} (h:Mid cd ln In σ B N pv pn n at_) (hs:n+1<ln σ) (hB:B at_ (nb cd ln σ n)=0) :
 Mid cd ln In σ (addB (setB B at_ (nb cd ln σ n) (N:Int)) N) (N+1) (addP pv N (cd σ/2^(ln σ-(n+1)))) (addP pn N (n+1)) (n+1) N:=by
 have e:=K5 (cd:=cd) n h.short;have hpos:=h.pos
 have pvo:∀j,j<N->addP pv N (cd σ/2^(ln σ-(n+1))) j=pv j/\addP pn N (n+1) j=pn j:=fun j hj=>by
  unfold addP;rw[if_neg (by omega),if_neg (by omega)];exact⟨rfl,rfl⟩
 have pvn:addP pv N (cd σ/2^(ln σ-(n+1))) N=cd σ/2^(ln σ-(n+1)):=by unfold addP;rw[if_pos rfl]
 have pnn:addP pn N (n+1) N=n+1:=by unfold addP;rw[if_pos rfl]
 have hno:∀s,In s->¬Ext cd ln (cd σ/2^(ln σ-(n+1))) (n+1) s:=by
  rcases h.cell with⟨_,h2⟩|⟨j,h1,h2,_⟩|⟨s,h1,_⟩
  . intro s hs2
    have:=h2 s hs2;rw[h.here.1,h.here.2,<-e] at this;exact this
  . omega
  omega
 have hσ:Ext cd ln (cd σ/2^(ln σ-(n+1))) (n+1) σ:=⟨by omega,rfl⟩;refine⟨by omega,⟨by rw[(pvo 0 hpos).1];exact h.root.1,by rw[(pvo 0 hpos).2];exact h.root.2⟩,by omega,⟨pvn,pnn⟩,hs,?_,?_,?_,?_⟩
 . intro a ha b hb hn he
   by_cases hN:a=N
   . subst hN
     refine .inl ⟨by unfold addB;rw[if_pos rfl],fun s hs2 he2=>hno s hs2 ?_⟩;rw[pvn,pnn] at he2;have:=Yfg he2 (m:=n+1) (by omega);rw[show n+1+1-(n+1)=1 by omega,show(2*(cd σ/2^(ln σ-(n+1)))+b)/2^1=cd σ/2^(ln σ-(n+1)) by omega] at this;exact this
   have haN:a<N:=by omega
   rw[(pvo a haN).1,(pvo a haN).2] at he;rw[(pvo a haN).2] at hn;refine(h.old a haN b hb (by omega) he).wider ?_ (by omega) (pvo a haN) pvo;unfold addB setB;rw[if_neg hN,if_neg];rintro ⟨rfl,_⟩;have:=h.here.2;omega
 . intro a ha b hb hn
   by_cases hN:a=N
   . subst hN
     rw[pvn,pnn] at hn;refine .inl ⟨by unfold addB;rw[if_pos rfl],fun s hs2 he2=>?_⟩;rw[pvn,pnn] at he2;rcases hs2 with hs2|rfl
     . refine hno s hs2 ?_
       have:=Yfg he2 (m:=n+1) (by omega);rw[show n+1+1-(n+1)=1 by omega,show(2*(cd σ/2^(ln σ-(n+1)))+b)/2^1=cd σ/2^(ln σ-(n+1)) by omega] at this;exact this
     exact hn ⟨Qa _,he2⟩
   have haN:a<N:=by omega
   rw[(pvo a haN).1,(pvo a haN).2] at hn;by_cases hc:a=at_/\b=nb cd ln σ n
   . obtain⟨rfl,rfl⟩:=hc
     refine .inr (.inl ⟨N,?_,hpos,by omega,?_,?_,σ,.inr rfl,?_,?_⟩)
     . unfold addB setB;rw[if_neg hN,if_pos ⟨rfl,rfl⟩]
     . rw[pvn,(pvo a haN).1,e,h.here.1]
     . rw[pnn,(pvo a haN).2,h.here.2]
     . rw[(pvo a haN).1,(pvo a haN).2];exact h.ext
     rw[(pvo a haN).2,h.here.2];exact hs
   refine(h.new a haN b hb ?_).wider ?_ (by omega) (pvo a haN) pvo
   . rintro ⟨h1,h2⟩
     by_cases h3:n+1<=pn a
     . exact hn ⟨h3,h2⟩
     exact hc (h.there haN hb (by omega) h2)
   unfold addB setB;rw[if_neg hN,if_neg hc]
 . have key:∀a,a<N->¬(pv a=cd σ/2^(ln σ-(n+1))/\pn a=n+1):=by
    rintro a ha ⟨h1,h2⟩;by_cases h0:a=0
    . subst h0;have:=h.root.2;omega
    obtain⟨s,h3,h4,h5⟩:=h.used a (by omega) ha;rw[h1,h2] at h4;rcases h3 with h3|⟨_,h6⟩
    . exact hno s h3 h4
    omega
   intro a a' ha ha' h1 h2;by_cases hN:a=N
   . by_cases hN':a'=N
     . rw[hN,hN']
     rw[hN,pvn,(pvo a' (by omega)).1] at h1;rw[hN,pnn,(pvo a' (by omega)).2] at h2;exact absurd ⟨h1.symm,h2.symm⟩ (key a' (by omega))
   by_cases hN':a'=N
   . rw[hN',pvn,(pvo a (by omega)).1] at h1
     rw[hN',pnn,(pvo a (by omega)).2] at h2;exact absurd ⟨h1,h2⟩ (key a (by omega))
   rw[(pvo a (by omega)).1,(pvo a' (by omega)).1] at h1;rw[(pvo a (by omega)).2,(pvo a' (by omega)).2] at h2;exact h.one a a' (by omega) (by omega) h1 h2
 intro j h0 hj;by_cases hN:j=N
 . subst hN
   exact⟨σ,.inr ⟨rfl,by rw[pnn];exact Qa _⟩,by rw[pvn,pnn];exact hσ,by rw[pnn];exact hs⟩
 obtain⟨s,h1,h2⟩:=h.used j h0 (by omega);rw[(pvo j (by omega)).1,(pvo j (by omega)).2];exact⟨s,h1.imp id (fun h=>⟨h.1,by omega⟩),h2⟩
theorem Mid.leaf {n at_:Nat} (h:Mid cd ln In σ B N pv pn n at_) (hs:n+1=ln σ):Grown cd ln (fun s=>In s\/s=σ) (setB B at_ (nb cd ln σ n) (-1-(σ:Int))) N pv pn:=by
 have e:=K5 (cd:=cd) n h.short;refine⟨h.pos,h.root,fun a ha b hb=>?_,h.one,fun j h0 hj=>?_⟩
 . by_cases hc:a=at_/\b=nb cd ln σ n
   . obtain⟨rfl,rfl⟩:=hc
     refine .inr (.inr ⟨σ,by unfold setB;rw[if_pos ⟨rfl,rfl⟩],.inr rfl,by rw[h.here.2];exact hs.symm,?_⟩);rw[h.here.1,<-e,hs,Nat.sub_self,Nat.pow_zero,Nat.div_one]
   refine(h.new a ha b hb ?_).wider (by unfold setB;rw[if_neg hc]) (Qa _) ⟨rfl,rfl⟩ (fun _ _=>⟨rfl,rfl⟩);rintro ⟨h1,h2⟩;have:=h2.1;exact hc (h.there ha hb (by omega) h2)
 obtain⟨s,h1,h2⟩:=h.used j h0 hj;exact⟨s,h1.imp id (fun h=>h.1),h2⟩
theorem Grown.none (cd ln:Nat->Nat) (In:Nat->Prop) (hIn:∀s,¬In s):Grown cd ln In (fun _ _=>0) 1 (fun _=>0) (fun _=>0):=
 ⟨by decide,⟨rfl,rfl⟩,fun a _ b _=>.inl ⟨rfl,fun s hs=>absurd hs (hIn s)⟩,fun a a' ha ha' _ _=>by omega,fun j h0 hj=>by omega⟩
theorem Grown.congr {In':Nat->Prop} (h:Grown cd ln In B N pv pn) (hi:∀s,In s ↔ In' s):Grown cd ln In' B N pv pn:=by
 have e:In=In':=funext fun s=>propext (hi s);rw[<-e];exact h
end
def IRow (w:World) (a:Option Addr) (n:Nat) (m:Nat->Int):Prop:=
 n=0\/∃b off,a=some ⟨b,off,none⟩/\b<w.heap.size/\∀i,i<n->w.cell? ⟨b,off+i,none⟩=some (.int .i64 (m i))
section
variable {w w':World} {a:Option Addr} {n:Nat} {m:Nat->Int}
theorem IRow.get (h:IRow w a n m) (i:Nat) (hi:i<n):∃b off,a=some ⟨b,off,none⟩/\b<w.heap.size/\w.cell? ⟨b,off+i,none⟩=some (.int .i64 (m i)):=by
 rcases h with h|⟨b,off,h1,h2,h3⟩
 . omega
 exact⟨b,off,h1,h2,h3 i hi⟩
theorem IRow.below (h:IRow w a n m) (hb:Below w.heap.size w w'):IRow w' a n m:=by
 rcases h with h|⟨b,off,h1,h2,h3⟩
 . exact .inl h
 exact .inr ⟨b,off,h1,Qb h2 hb.size,fun i hi=>(hb.cell (p:=⟨b,off+i,none⟩) h2).trans (h3 i hi)⟩
theorem IRow.take (h:IRow w a n m) (k:Nat) (hk:k<=n):IRow w a k m:=by
 rcases h with h|⟨b,off,h1,h2,h3⟩
 . exact .inl (by omega)
 exact .inr ⟨b,off,h1,h2,fun i hi=>h3 i (by omega)⟩
end
theorem Y9:(Tryz.prog.info? 3).map (fun i=>(i.zero,i.size,i.bytes))=some (some (.int .i64 0),1,8):=by kernel_rfl
def Yt (n:Nat) (m:Nat->Int):List Value:=(List.range n).map fun i=>.int .i64 (m i)
theorem YV (n:Nat) (m:Nat->Int):(Yt n m).length=n:=by simp[Yt]
theorem Xp (n:Nat) (m:Nat->Int) (i:Nat) (h:i<n):(Yt n m)[i]?=some (.int .i64 (m i)):=by simp[Yt,h]
theorem Jl (n:Nat) (m:Nat->Int):∀u ∈ Yt n m,u.oneCell'=true:=by
 intro u hu;simp only[Yt,List.mem_map] at hu;obtain⟨i,_,rfl⟩:=hu;rfl
theorem XN (n:Nat) (m:Nat->Int):Yt (n+1) m=Yt n m++[.int .i64 (m n)]:=by simp[Yt,List.range_succ]
theorem IRow.ofOwn {w:World} {base g n cap:Nat} {m:Nat->Int} (h:w.ownsRow base 3 1 (.slice (some ⟨g,0,none⟩) n cap) n (Yt n m)):IRow w (some ⟨g,0,none⟩) n m:=by
 refine .inr ⟨g,0,rfl,(World.ownsRow.lt h g (by simp[Value.ownBlock])).2,fun i hi=>?_⟩;rw[Nat.zero_add,World.ownsRow.cellAt h i (by omega),Xp n m i hi]
theorem XU {ops:Array Oper} {rest:List Oper} {o:Oper} {a:Act} {Q:Exit->Act->World->Prop} {w:World} (hgd:o.guard=none) (s x:Operand)
 (ho:o.op=.call { callee:=.builtin .append,args:=#[s,x],argTypes:=#[113,113] })
 (base:Nat) (v:Value) (n:Nat) (m0:Nat->Int) (hown:w.ownsRow base 3 1 v n (Yt n m0)) (hs:a.eval s=v)
 (p:Option Addr) (k c:Nat) (m1:Nat->Int) (hx:a.eval x=.slice p k c) (hr:IRow w p k m1) (hnil:p=none->k=0/\c=0)
 (h63:n+k<=1000000000) (hbase:base<=w.heap.size)
 (h:∀v' w',w'.ownsRow base 3 1 v' (n+k) (Yt n m0++Yt k m1)->w.grownBy w' v.ownBlock->(v=.slice none 0 0\/v' ≠ .slice none 0 0)->wpList Tryz.prog ops Q rest (a.put o.dst v') w') :
 wpList Tryz.prog ops Q (o::rest) a w:=by
 obtain⟨i0,hi,hz0,hz1,hz2⟩:=info_parts Y9;have hi':Tryz.prog.info? 3=some i0:=hi;rcases p with _|⟨b,off,sp⟩
 . obtain⟨rfl,rfl⟩:=hnil rfl
   refine wpList_append_own_none hgd s x 113 ho base 3 i0 1 Tryz.underlying113 hi' v n _ hs hown hx (h v w ?_ ?_ ?_)
   . simpa [Yt] using hown
   . exact World.grownBy.refl w _
   by_cases e:v=.slice none 0 0
   . exact .inl e
   exact .inr e
 refine wpList_append_own w hgd s x 113 ho base 3 i0 (.int .i64 0) 1 8 Tryz.underlying113 hi' hz0 hz1 hz2 rfl (by decide) v n _ hs hown ⟨b,off,sp⟩ k c (Yt k m1) hx (by rw[YV,Nat.mul_one]) ?_ (Jl _ _) (by unfold maxLen;omega) (by omega) hbase ?_
 . intro j u hj
   have hjk:j<k:=by
    have:=(List.getElem?_eq_some_iff.1 hj).1
    rwa [YV] at this
   rw[Xp k m1 j hjk] at hj;obtain⟨b',off',he,_,hc⟩:=hr.get j hjk;injection he with he;injection he with e1 e2 e3;subst e1 e2 e3;have e:(⟨b,off,none⟩:Addr).add j=⟨b,off+j,none⟩:=by unfold Addr.add;split<;>simp_all
   rw[e,hc];exact hj
 intro v' w' h1 h2 h3;refine h v' w' h1 h2 ?_;by_cases e:v=.slice none 0 0
 . exact .inl e
 exact .inr fun e2=>e (h3.1 e2).1
def pt (L:Nat):Nat:=if 0<L then 2^(15-L) else 0
def YM (f:Nat->Nat):Nat->Nat
 |0=>0
 |k+1=>YM f k+f k
def Jq (p:Nat->Bool):Nat->Nat
 |0=>0
 |k+1=>Jq p k+if p k then 1 else 0
theorem UI (f g:Nat->Nat) (k:Nat) (h:∀j,j<k->f j<=g j):YM f k<=YM g k:=by
 induction k with
 |zero=>exact Qa _
 |succ k ih=>
  have:=ih (fun j hj=>h j (by omega));have:=h k (by omega);simp only[YM];omega
theorem Xc (f g:Nat->Nat) (k:Nat) (h:∀j,j<k->f j=g j):YM f k=YM g k:=
 Nat.le_antisymm (UI f g k fun j hj=>Nat.le_of_eq (h j hj)) (UI g f k fun j hj=>Nat.le_of_eq (h j hj).symm)
theorem KH (f g:Nat->Nat) (k:Nat):YM (fun j=>f j+g j) k=YM f k+YM g k:=by
 induction k with
 |zero=>rfl
 |succ k ih=>simp only[YM,ih];omega
theorem J8 (s v:Nat) (k:Nat) (h:s<k):YM (fun j=>if j=s then v else 0) k=v:=by
 induction k with
 |zero=>omega
 |succ k ih=>
  simp only[YM];by_cases e:k=s
  . subst e
    have h0:YM (fun j=>if j=k then v else 0) k=0:=by
     have:∀n,n<=k->YM (fun j=>if j=k then v else 0) n=0:=by
      intro n
      induction n with
      |zero=>intro _;rfl
      |succ n ih2=>intro hn;simp only[YM,ih2 (by omega)];rw[if_neg (by omega)]
     exact this k (Qa _)
    rw[h0,if_pos rfl];omega
  rw[ih (by omega),if_neg e];omega
theorem J9 (f:Nat->Nat) (B k:Nat) (h:∀j,j<k->f j<=B):YM f k<=B*k:=by
 induction k with
 |zero=>exact Nat.zero_le _
 |succ k ih=>
  have:=ih (fun j hj=>h j (by omega));have:=h k (by omega);simp only[YM,Nat.mul_succ];omega
theorem Ych (p:Nat->Bool) (k:Nat):Jq p k<=k:=by
 induction k with
 |zero=>exact Qa _
 |succ k ih=>simp only[Jq];split<;>omega
def Xa (L:Nat->Nat) (t s:Nat):Bool:=decide (0<L t)&&(decide (L t<L s)||(decide (L t=L s)&&decide (t<s)))
def pre (L:Nat->Nat) (n s:Nat):Nat:=YM (fun t=>if Xa L t s then pt (L t) else 0) n
def Ko (L:Nat->Nat) (n s:Nat):Nat:=pre L n s/2^(15-L s)
def parts (L:Nat->Nat) (n:Nat):Nat:=YM (fun t=>pt (L t)) n
def YG (L:Nat->Nat) (n:Nat):Nat:=Jq (fun t=>decide (0<L t)) n
theorem YnB (L:Nat):pt L<=16384:=by
 unfold pt;split
 . have:2^(15-L)<=2^14:=Nat.pow_le_pow_right (by decide) (by omega)
   exact this
 exact Nat.zero_le _
theorem YeQ (L:Nat->Nat) (n:Nat):parts L n<=16384*n:=J9 _ _ _ fun j _=>YnB (L j)
theorem Yl2 (L:Nat->Nat) (n s:Nat) (hs:s<n) (h0:0<L s):pre L n s+2^(15-L s)<=parts L n:=by
 have e:pre L n s+2^(15-L s)=YM (fun t=>(if Xa L t s then pt (L t) else 0)+if t=s then 2^(15-L s) else 0) n:=by
  rw[KH,J8 s _ n hs];rfl
 rw[e];refine UI _ _ _ fun t _=>?_;by_cases e:t=s
 . subst e
   have ha:Xa L t t=false:=by unfold Xa;simp
   rw[ha,if_pos rfl];unfold pt;rw[if_pos h0];simp
 rw[if_neg e];split<;>omega
theorem Ygc (L:Nat->Nat) (n s t:Nat) (hs:s<n) (h:Xa L s t=true):pre L n s+2^(15-L s)<=pre L n t:=by
 have e:pre L n s+2^(15-L s)=YM (fun r=>(if Xa L r s then pt (L r) else 0)+if r=s then 2^(15-L s) else 0) n:=by
  rw[KH,J8 s _ n hs];rfl
 rw[e];refine UI _ _ _ fun r _=>?_;by_cases e:r=s
 . subst e
   have ha:Xa L r r=false:=by unfold Xa;simp
   rw[ha,if_pos rfl,h];unfold Xa at h;simp only[Bool.and_eq_true,decide_eq_true_eq] at h;unfold pt;rw[if_pos h.1];simp
 rw[if_neg e];by_cases h2:Xa L r s=true
 . have h3:Xa L r t=true:=by
    unfold Xa at *;simp only[Bool.and_eq_true,Bool.or_eq_true,decide_eq_true_eq] at *;omega
   rw[h2,h3];simp
 simp only[Bool.not_eq_true] at h2;rw[h2];simp
theorem Ydl (L:Nat->Nat) (n s:Nat) (hs:s<n) (h0:0<L s) (h15:L s<=15) (hp:parts L n<=32768):Ko L n s<2^L s:=by
 unfold Ko;rw[Nat.div_lt_iff_lt_mul (Nat.pow_pos (by decide)),<-Nat.pow_add,show L s+(15-L s)=15 by omega];have:=Yl2 L n s hs h0;have h1:0<2^(15-L s):=Nat.pow_pos (by decide);have h2:(2:Nat)^15=32768:=by decide
 omega
theorem Ybu (L:Nat->Nat) (n s t:Nat) (hs:s<n) (h:Xa L s t=true) (h15:L t<=15):Ko L n t/2^(L t-L s) ≠ Ko L n s:=by
 have hb:=Ygc L n s t hs h
 have hle:L s<=L t:=by
  unfold Xa at h;simp only[Bool.and_eq_true,Bool.or_eq_true,decide_eq_true_eq] at h;omega
 unfold Ko;rw[Nat.div_div_eq_div_mul,<-Nat.pow_add,show 15-L t+(L t-L s)=15-L s by omega];have hp:0<2^(15-L s):=Nat.pow_pos (by decide);have h1:(pre L n s+2^(15-L s))/2^(15-L s)<=pre L n t/2^(15-L s):=Nat.div_le_div_right hb;rw[Nat.add_div_right _ hp] at h1;omega
def ahd (L:Nat->Nat) (N s t:Nat):Bool:=decide (0<L t)&&(decide (L t<N)||(decide (L t=N)&&decide (t<s)))
def nxt (L:Nat->Nat) (n N s:Nat):Nat:=YM (fun t=>if ahd L N s t then pt (L t) else 0) n
theorem Yl9 (L:Nat->Nat) (n s:Nat):nxt L n (L s) s=pre L n s:=rfl
theorem Yko (L:Nat->Nat) (n N s:Nat) (hs:s<n) (hN:0<N) (h:L s=N):nxt L n N (s+1)=nxt L n N s+2^(15-N):=by
 have e:nxt L n N s+2^(15-N)=YM (fun t=>(if ahd L N s t then pt (L t) else 0)+if t=s then 2^(15-N) else 0) n:=by
  rw[KH,J8 s _ n hs];rfl
 rw[e];refine Xc _ _ _ fun t _=>?_;by_cases e:t=s
 . subst e
   have h1:ahd L N t t=false:=by unfold ahd;simp;omega
   have h2:ahd L N (t+1) t=true:=by unfold ahd;simp;omega
   rw[h1,h2,if_pos rfl];unfold pt;rw[h,if_pos hN];simp
 have h1:ahd L N (s+1) t=ahd L N s t:=by
  unfold ahd;have:decide (t<s+1)=decide (t<s):=by simp;omega
  rw[this]
 rw[h1,if_neg e];omega
theorem Ykp (L:Nat->Nat) (n N s:Nat) (h:L s ≠ N):nxt L n N (s+1)=nxt L n N s:=by
 refine Xc _ _ _ fun t _=>?_
 have h1:ahd L N (s+1) t=ahd L N s t:=by
  unfold ahd;by_cases e:t=s
  . subst e
    have:decide (L t=N)=false:=(by simpa using h);rw[this];simp
  have:decide (t<s+1)=decide (t<s):=by simp;omega
  rw[this]
 rw[h1]
theorem Yie (L:Nat->Nat) (n N:Nat):nxt L n (N+1) 0=nxt L n N n:=by
 refine Xc _ _ _ fun t ht=>?_
 have h1:ahd L (N+1) 0 t=ahd L N n t:=by
  unfold ahd
  have:(decide (L t<N+1)||(decide (L t=N+1)&&decide (t<0)))=(decide (L t<N)||(decide (L t=N)&&decide (t<n))):=by
   rw[Bool.eq_iff_iff];simp;omega
  rw[this]
 rw[h1]
theorem Ykn (L:Nat->Nat) (n:Nat):nxt L n 1 0=0:=by
 have:∀k,YM (fun t=>if ahd L 1 0 t then pt (L t) else 0) k=0:=by
  intro k
  induction k with
  |zero=>rfl
  |succ k ih=>
   have h1:ahd L 1 0 k=false:=by unfold ahd;simp;omega
   simp only[YM,ih,h1];simp
 exact this n
theorem Ynf (L:Nat->Nat) (n N s:Nat):nxt L n N s<=parts L n:=UI _ _ _ fun t _=>by split<;>omega
def VI (L:Nat->Nat) (n N s t:Nat):Nat:=if ahd L N s t then Ko L n t else 0
def Uh (L:Nat->Nat) (N s t:Nat):Nat:=if ahd L N s t then L t else 0
def YD (L:Nat->Nat) (n t:Nat):Nat:=if 0<L t then Ko L n t else 0
def Yel (f g:Nat->Nat) (i:Nat):Value:=if i%2=0 then .int .u32 (f (i/2):Int) else .int .i64 (g (i/2):Int)
def YC (n:Nat) (f g:Nat->Nat):Array Value:=Yg (2*n) (Yel f g)
theorem YgW (n:Nat) (f g:Nat->Nat) (s b l:Nat) :
 ((YC n f g).setIfInBounds (2*s) (.int .u32 (b:Int))).setIfInBounds (2*s+1) (.int .i64 (l:Int))=YC n (fun t=>if t=s then b else f t) (fun t=>if t=s then l else g t):=by
 unfold YC;rw[YA,YA];refine Ys _ _ _ fun i _=>?_;unfold Yel;by_cases h1:i=2*s+1
 . subst h1
   have e1:(2*s+1)%2 ≠ 0:=by omega
   have e2:(2*s+1)/2=s:=by omega
   rw[if_pos rfl,if_neg e1,e2];simp
 rw[if_neg h1];by_cases h2:i=2*s
 . subst h2
   have e1:(2*s)%2=0:=by omega
   have e2:(2*s)/2=s:=by omega
   rw[if_pos rfl,if_pos e1,e2];simp
 rw[if_neg h2];have e:i/2 ≠ s:=by omega
 simp only[if_neg e]
theorem YmR (L:Nat->Nat) (n N s:Nat) (hN:0<N) (h:L s=N):(fun t=>if t=s then nxt L n N s/2^(15-N) else VI L n N s t)=VI L n N (s+1)/\(fun t=>if t=s then N else Uh L N s t)=Uh L N (s+1):=by
 constructor
 . funext t
   unfold VI;by_cases e:t=s
   . subst e
     have h2:ahd L N (t+1) t=true:=(by unfold ahd;simp;omega);rw[if_pos rfl,h2,if_pos rfl];unfold Ko;rw[<-Yl9,h]
   have h1:ahd L N (s+1) t=ahd L N s t:=by
    unfold ahd;have:decide (t<s+1)=decide (t<s):=(by simp;omega);rw[this]
   rw[if_neg e,h1]
 funext t;unfold Uh;by_cases e:t=s
 . subst e
   have h2:ahd L N (t+1) t=true:=by unfold ahd;simp;omega
   rw[if_pos rfl,h2,if_pos rfl,h]
 have h1:ahd L N (s+1) t=ahd L N s t:=by
  unfold ahd;have:decide (t<s+1)=decide (t<s):=by simp;omega
  rw[this]
 rw[if_neg e,h1]
theorem Yfv (L:Nat->Nat) (N s:Nat) (h:L s ≠ N):ahd L N (s+1)=ahd L N s:=by
 funext t;unfold ahd;by_cases e:t=s
 . subst e
   have:decide (L t=N)=false:=by simpa using h
   rw[this];simp
 have:decide (t<s+1)=decide (t<s):=by simp;omega
 rw[this]
theorem YmQ (L:Nat->Nat) (n N s:Nat) (h:L s ≠ N):VI L n N (s+1)=VI L n N s/\Uh L N (s+1)=Uh L N s:=by
 constructor
 . funext t;unfold VI;rw[Yfv L N s h]
 funext t;unfold Uh;rw[Yfv L N s h]
theorem Yjs (L:Nat->Nat) (n N t:Nat) (ht:t<n):ahd L (N+1) 0 t=ahd L N n t:=by
 unfold ahd
 have:(decide (L t<N+1)||(decide (L t=N+1)&&decide (t<0)))=(decide (L t<N)||(decide (L t=N)&&decide (t<n))):=by
  rw[Bool.eq_iff_iff];simp;omega
 rw[this]
theorem KU (n:Nat) (f g f' g':Nat->Nat) (h:∀t,t<n->f t=f' t/\g t=g' t):YC n f g=YC n f' g':=by
 refine Ys _ _ _ fun i hi=>?_;unfold Yel;have:=h (i/2) (by omega);rw[this.1,this.2]
theorem YkX (L:Nat->Nat) (n N:Nat):YC n (VI L n N n) (Uh L N n)=YC n (VI L n (N+1) 0) (Uh L (N+1) 0):=by
 refine KU _ _ _ _ _ fun t ht=>?_;unfold VI Uh;rw[Yjs L n N t ht];exact⟨rfl,rfl⟩
theorem YkW (L:Nat->Nat) (n:Nat):YC n (fun _=>0) (fun _=>0)=YC n (VI L n 1 0) (Uh L 1 0):=by
 refine KU _ _ _ _ _ fun t ht=>?_;have h1:ahd L 1 0 t=false:=by unfold ahd;simp;omega
 unfold VI Uh;rw[h1];exact⟨rfl,rfl⟩
theorem Ynu (L:Nat->Nat) (n:Nat) (h:∀t,t<n->L t<=15):YC n (VI L n 16 0) (Uh L 16 0)=YC n (YD L n) L:=by
 refine KU _ _ _ _ _ fun t ht=>?_;have:=h t ht;unfold VI Uh YD;by_cases h0:0<L t
 . have h1:ahd L 16 0 t=true:=by unfold ahd;simp;omega
   rw[h1,if_pos rfl,if_pos rfl,if_pos h0];exact⟨rfl,rfl⟩
 have h1:ahd L 16 0 t=false:=by unfold ahd;simp;omega
 rw[h1,if_neg h0];exact⟨rfl,by simp;omega⟩
def Fits (p s:Nat):Prop:=p<=32768/\(p=32768\/s=0\/s=1/\p=16384)
def OwnC (w:World) (base n:Nat) (L:Nat->Nat) (v:Value):Prop:=∃g,v=.slice (some ⟨g,0,none⟩) n n/\base<=g/\Blk w g 163 (YC n (YD L n) L)
def lens (m:Nat->Int) (i:Nat):Nat:=(m i).toNat
def bad (k:Nat):Ending:=.returned (.tuple #[.slice none 0 0,.int .i64 (k:Int)])
def Yjz (w:World) (n:Nat) (m:Nat->Int) (e:Ending) (w':World):Prop:=
 Below w.heap.size w w'/\
 (
  (320<n/\e=bad 2)\/(n<=320/\(∃i,i<n/\¬(0<=m i/\m i<=15))/\e=bad 1)\/
  (n<=320/\(∀i,i<n->0<=m i/\m i<=15)/\¬Fits (parts (lens m) n) (YG (lens m) n)/\e=bad 4)\/
  (n<=320/\(∀i,i<n->0<=m i/\m i<=15)/\Fits (parts (lens m) n) (YG (lens m) n)/\∃v,e=.returned (.tuple #[v,.int .i64 0])/\OwnC w' w.heap.size n (lens m) v))
theorem YiL:(Tryz.prog.info? 163).map (fun i=>(i.zero,i.size,i.bytes))=some (some (.agg #[.int .u32 0,.int .i64 0]),2,16):=by kernel_rfl
theorem Uy (n:Nat) (f g:Nat->Nat) (t i:Nat) (hi:i=t*2) (ht:t<n):(YC n f g)[i]?=some (.int .u32 (f t:Int)):=by
 subst hi;unfold YC;rw[Yp _ _ _ (by omega)];unfold Yel;rw[if_pos (by omega),show t*2/2=t by omega]
theorem Js (n:Nat) (f g:Nat->Nat) (t i:Nat) (hi:i=t*2+1) (ht:t<n):(YC n f g)[i]?=some (.int .i64 (g t:Int)):=by
 subst hi;unfold YC;rw[Yp _ _ _ (by omega)];unfold Yel;rw[if_neg (by omega),show(t*2+1)/2=t by omega]
theorem Yek (n:Nat):madeCells #[.int .u32 0,.int .i64 0] (n*2)=YC n (fun _=>0) (fun _=>0):=by
 apply Array.ext_getElem?;intro i;unfold YC;by_cases hi:i<2*n
 . rw[Yp _ _ i hi]
   unfold madeCells Yel;have h1:(Array.range (n*2))[i]?=some i:=by simp[Array.getElem?_range];omega
   rw[Array.getElem?_map,h1];rcases Nat.mod_two_eq_zero_or_one i with h|h
   . simp[h]
   simp[h]
 rw[Km _ _ i hi];have:(madeCells #[.int .u32 0,.int .i64 0] (n*2)).size<=i:=by rw[size_madeCells];omega
 exact Array.getElem?_eq_none this
theorem YfZ (n:Nat) (hn:n<=1000000) (w:World) :
 (Instr.makeSlice 127 (.int .i64 (n:Int)) (.int .i64 (n:Int))).run Tryz.prog w=.ok (.slice (some ⟨w.heap.size,0,none⟩) n n) (w.alloc (.cells (YC n (fun _=>0) (fun _=>0)) 163)):=by
 obtain⟨i0,hi,hz0,hz1,hz2⟩:=info_parts YiL;have hr:=run_make (P:=Tryz.prog) w 127 163 i0 _ Tryz.underlying127 hi hz0 .i64 .i64 n n (by omega) (by omega) (by rw[hz2];omega) (by omega);simp only[Int.toNat_natCast] at hr;have e:(Value.agg #[.int .u32 0,.int .i64 0]).cells=#[.int .u32 0,.int .i64 0]:=rfl;rw[hz1,e,Yek] at hr;exact hr
theorem Kg (L:Nat->Nat) (k:Nat):parts L (k+1)=parts L k+pt (L k):=rfl
theorem KK (L:Nat->Nat) (k:Nat):YG L (k+1)=YG L k+if 0<L k then 1 else 0:=by
 unfold YG;simp only[Jq,decide_eq_true_eq]
theorem YeP (c:Nat):0<2^(15-c)/\2^(15-c)<=32768:=⟨Nat.pow_pos (by decide),Nat.pow_le_pow_right (n:=2) (i:=15-c) (j:=15) (by decide) (by omega)⟩
set_option maxHeartbeats 2000000 in
theorem YaI (a:Option Addr) (n cap:Nat) (m:Nat->Int) (hn:n<=1000000) (w:World) (hr:IRow w a n m) :
 Calls Tryz.prog 63 #[.slice a n cap] w (Yjz w n m):=by
 have Hr:=Qf hr;clear hr;by_cases h320:320<n
 . go_enter Tryz.func63,Tryz.ntmps63
   go_wp2_with fail;go_ret2;exact⟨Below.refl _ _,.inl ⟨h320,rfl⟩⟩
 go_enter Tryz.func63,Tryz.ntmps63;go_wp2_with fail
 go_loop [4,5,7,18] (fun room some _ i=>∃k:Nat,k<=n/\i=.int .i64 (k:Int)/\room=.int .i64 (32768-(parts (lens m) k:Int))/\some=.int .i64 (YG (lens m) k:Int)/\∀j,j<k->0<=m j/\m j<=15)
  (fun _ _ _ i=>n-(intOf i).toNat)
 case atStart=>exact⟨0,by omega,rfl,rfl,rfl,fun j hj=>by omega⟩
 obtain⟨k,hk,rfl,rfl,rfl,hok⟩:=hrel;have Hok:=Qf hok;clear hok;by_cases hlt:k<n
 . obtain⟨b,off,rfl,hbl,hc⟩:=Hr.out.get k hlt
   by_cases h0:m k<0
   . go_wp2_with fail
     go_ret2;exact⟨Below.refl _ _,.inr (.inl ⟨by omega,⟨k,hlt,by omega⟩,rfl⟩)⟩
   by_cases h15:15<m k
   . go_wp2_with fail
     go_ret2;exact⟨Below.refl _ _,.inr (.inl ⟨by omega,⟨k,hlt,by omega⟩,rfl⟩)⟩
   obtain⟨c,hcm⟩:∃c:Nat,m k=(c:Int):=⟨(m k).toNat,by omega⟩;have HL:=Qf (show lens m k=c by unfold lens;rw[hcm];rfl);have Hp:=Qf (Kg (lens m) k);have Hs:=Qf (KK (lens m) k);have hp1:=YeQ (lens m) k;have hs1:=Ych (fun t=>decide (0<lens m t)) k;have hs1:YG (lens m) k<=k:=hs1
   have Hok2:Hid (∀j,j<k+1->0<=m j/\m j<=15):=fun j hj=>by
    by_cases e:j=k
    . subst e;omega
    exact Hok.out j (by omega)
   rw[HL.out] at Hp Hs;rw[hcm] at hc h0 h15;clear hcm;generalize parts (lens m) k=p at *;generalize YG (lens m) k=t at *;by_cases hz:c=0
   . subst hz
     go_wp2_with fail
     go_round
     case rel=>exact⟨k+1,by omega,by go_num,by rw[Hp.out];rfl,by rw[Hs.out];rfl,Hok2.out⟩
     simp[intOf];omega
   have hpm:(2:Int)^(15-c)=((2^(15-c):Nat):Int):=by simp
   have hq:=YeP c
   have Hpt:Hid (pt c=2^(15-c)):=by show _=_;unfold pt;rw[if_pos (by omega)]
   rw[Hpt.out] at Hp;rw[if_pos (by omega)] at Hs;generalize 2^(15-c)=q at *;go_wp2_with fail
   go_round
   case rel=>exact⟨k+1,by omega,by go_num,by rw[Hp.out];go_num,by rw[Hs.out];go_num,Hok2.out⟩
   simp[intOf];omega
 obtain rfl:k=n:=by omega
 have hp1:=YeQ (lens m) k;have hs1:=Ych (fun t=>decide (0<lens m t)) k;have hs1:YG (lens m) k<=k:=hs1;obtain⟨p,Hp⟩:∃p,Hid (parts (lens m) k=p):=⟨_,rfl⟩;obtain⟨t,Ht⟩:∃t,Hid (YG (lens m) k=t):=⟨_,rfl⟩;rw[Hp.out,Ht.out];rw[Hp.out] at hp1;rw[Ht.out] at hs1;by_cases hf:Fits p t
 . obtain⟨r,hr,hf2⟩:∃r:Nat,32768-(p:Int)=(r:Int)/\(r=0\/(0<r/\t=0)\/(t=1/\r=16384)):=⟨32768-p,by unfold Fits at hf;omega,by unfold Fits at hf;omega⟩
   have Hf:=Qf hf;clear hf
   have hp32:p<=32768:=by have:=Hf.out;unfold Fits at this;omega
   have hmk:=YfZ k (by omega);have Hz:=Qf (Ykn (lens m) k);have Hcs:=Qf (YkW (lens m) k);rw[hr];clear hr;rcases hf2 with rfl|⟨h1,rfl⟩|⟨rfl,rfl⟩
   all_goals
    go_wp2_with fail;have hB0:=Blk.new w 163 (YC k (fun _=>0) (fun _=>0));have hb0:=(Below.refl w.heap.size w).alloc (Qa _) (.cells (YC k (fun _=>0) (fun _=>0)) 163);generalize w.alloc (.cells (YC k (fun _=>0) (fun _=>0)) 163)=w1 at *
    go_loopw [9,10,11,12] (fun nx n _ _ wr=>∃N:Nat,1<=N/\N<=16/\n=.int .i64 (N:Int)/\nx=.int .u32 (nxt (lens m) k N 0:Int)/\Blk wr w.heap.size 163 (YC k (VI (lens m) k N 0) (Uh (lens m) N 0))/\Below w.heap.size w wr)
     (fun _ n _ _ _=>16-(intOf n).toNat)
    case atStart=>exact⟨1,by omega,by omega,rfl,by rw[Hz.out];rfl,by rw[<-Hcs.out];exact hB0,hb0⟩
    clear hB0 hb0 hmk;obtain⟨N,hN1,hN,rfl,rfl,hB,hb⟩:=hrel;by_cases hltN:N<=15
    . have hB0:=hB
      have hb0:=hb;go_wp2_with fail;clear hB hb
      go_loopw [9,11,12,65] (fun nx _ _ i wr=>∃s:Nat,s<=k/\i=.int .i64 (s:Int)/\nx=.int .u32 (nxt (lens m) k N s:Int)/\Blk wr w.heap.size 163 (YC k (VI (lens m) k N s) (Uh (lens m) N s))/\Below w.heap.size w wr)
       (fun _ _ _ i _=>k-(intOf i).toNat)
      case atStart=>exact⟨0,by omega,rfl,rfl,hB0,hb0⟩
      clear hB0 hb0;obtain⟨s,hs,rfl,rfl,hB,hb⟩:=hrel;by_cases hlts:s<k
      . obtain⟨b,off,rfl,hbl,hc⟩:=Hr.out.get s hlts
        have hc2:=(hb.cell (p:=⟨b,off+s,none⟩) hbl).trans hc;have hms:=Hok.out s hlts;obtain⟨c,hcm⟩:∃c:Nat,m s=(c:Int):=⟨(m s).toNat,by omega⟩;have HL:=Qf (show lens m s=c by unfold lens;rw[hcm];rfl);rw[hcm] at hc hc2 hms;by_cases hcN:c=N
        . subst hcN
          have hpm:(2:Int)^(15-c)=((2^(15-c):Nat):Int):=(by simp);have hq:=YeP c;have Hnx:=Qf (Yko (lens m) k c s hlts (by omega) HL.out);have Hat:=Qf (YmR (lens m) k c s (by omega) HL.out);have hxl:=Ynf (lens m) k c s;rw[Hp.out] at hxl;have hst:=YgW k (VI (lens m) k c s) (Uh (lens m) c s) s (nxt (lens m) k c s/2^(15-c)) c;rw[Hat.out.1,Hat.out.2] at hst;have Hst:=Qf hst;clear hst Hat hcm;have hdv:((nxt (lens m) k c s:Nat):Int)/((2^(15-c):Nat):Int)=((nxt (lens m) k c s/2^(15-c):Nat):Int):=(by simp);have hy:nxt (lens m) k c s/2^(15-c)<=nxt (lens m) k c s:=Nat.div_le_self _ _;generalize nxt (lens m) k c s/2^(15-c)=y at *;generalize nxt (lens m) k c s=x at *;generalize 2^(15-c)=q at *;rw[show 2*s=s*2 by omega] at Hst;have hf1:=hB.frozen (s*2);have hf2:=hB.frozen (s*2+1);have hc1:=hB.cell (s*2);have hc3:=hB.cell (s*2+1);unfold YC at hc1 hc3;rw[Yp _ _ _ (by omega)] at hc1 hc3;unfold Yel at hc1 hc3;rw[if_pos (by omega)] at hc1;rw[if_neg (by omega)] at hc3;go_wp2_with fail;go_roundw
          case rel=>
           refine⟨s+1,by omega,by go_num,by rw[Hnx.out];go_num,?_,(hb.setCell (p:=⟨w.heap.size,s*2,none⟩) (Qa _) _).setCell (p:=⟨w.heap.size,s*2+1,none⟩) (Qa _) _⟩;have:=(hB.set_ (s*2) (.int .u32 (y:Int))).set_ (s*2+1) (.int .i64 (c:Int));rw[Hst.out] at this;exact this
          simp[intOf];omega
        have hcb:((c:Int)==(N:Int))=false:=(by simp;omega);have Hcn:=Qf (show lens m s ≠ N by rw[HL.out];exact hcN);clear hcN hcm;have Hsk:=Qf (YmQ (lens m) k N s Hcn.out);have Hnk:=Qf (Ykp (lens m) k N s Hcn.out);go_wp2_with fail;go_roundw
        case rel=>exact⟨s+1,by omega,by go_num,by rw[Hnk.out],by rw[Hsk.out.1,Hsk.out.2];exact hB,hb⟩
        simp[intOf];omega
      obtain rfl:s=k:=(by omega);have Hrd:=Qf (YkX (lens m) s N);have Hnr:=Qf (Yie (lens m) s N);go_wp2_with fail;go_roundw
      case rel=>exact⟨N+1,by omega,by omega,by go_num,by rw[Hnr.out],by rw[<-Hrd.out];exact hB,hb⟩
      simp[intOf];omega
    obtain rfl:N=16:=(by omega);have Hce:=Qf (Ynu (lens m) k (fun t ht=>by have:=Hok.out t ht;unfold lens;omega));go_wp2_with fail;go_ret2;exact⟨hb,.inr (.inr (.inr ⟨by omega,Hok.out,by rw[Hp.out,Ht.out];exact Hf.out,_,rfl,_,rfl,Qa _,by rw[<-Hce.out];exact hB⟩))⟩
 have hf2:32768<p\/(p<32768/\t ≠ 0/\t ≠ 1)\/(p<32768/\t=1/\p ≠ 16384):=by unfold Fits at hf;omega
 have Hf:=Qf hf;clear hf;rcases hf2 with hf2|⟨h1,h2,h3⟩|⟨h1,rfl,h3⟩
 . go_wp2_with fail
   go_ret2;exact⟨Below.refl _ _,.inr (.inr (.inl ⟨by omega,Hok.out,by rw[Hp.out,Ht.out];exact Hf.out,rfl⟩))⟩
 . have e1:((t:Int)!=0)=true:=by simp;omega
   have e2:((t:Int)!=1)=true:=by simp;omega
   clear h2 h3;obtain⟨r,hr,hr0⟩:∃r:Nat,32768-(p:Int)=(r:Int)/\0<r:=⟨32768-p,by omega,by omega⟩;rw[hr];clear hr h1;go_wp2_with fail;go_ret2;exact⟨Below.refl _ _,.inr (.inr (.inl ⟨by omega,Hok.out,by rw[Hp.out,Ht.out];exact Hf.out,rfl⟩))⟩
 obtain⟨r,hr,hr0⟩:∃r:Nat,32768-(p:Int)=(r:Int)/\0<r:=⟨32768-p,by omega,by omega⟩;have e1:((r:Int)!=16384)=true:=by simp;omega
 rw[hr];clear hr h1 h3;go_wp2_with fail;go_ret2;exact⟨Below.refl _ _,.inr (.inr (.inl ⟨by omega,Hok.out,by rw[Hp.out,Ht.out];exact Hf.out,rfl⟩))⟩
def KF (N:Nat) (B:Nat->Nat->Int):List Value:=(List.range (N*2)).map fun i=>.int .i64 (B (i/2) (i%2))
theorem V3 (N:Nat) (B:Nat->Nat->Int):(KF N B).length=N*2:=by simp[KF]
theorem Kb (N:Nat) (B:Nat->Nat->Int) (i:Nat) (h:i<N*2):(KF N B)[i]?=some (.int .i64 (B (i/2) (i%2))):=by simp[KF,h]
theorem U6 (N:Nat) (B:Nat->Nat->Int) (i:Nat) (h:¬i<N*2):(KF N B)[i]?=none:=List.getElem?_eq_none (by rw[V3];omega)
theorem YfF (N:Nat) (B:Nat->Nat->Int) (a b:Nat) (v:Int) (ha:a<N) (hb:b<2):(KF N B).set (a*2+b) (.int .i64 v)=KF N (setB B a b v):=by
 apply List.ext_getElem?;intro i;rw[List.getElem?_set];by_cases hi:i<N*2
 . rw[Kb _ _ _ hi,Kb _ _ _ hi,V3]
   unfold setB;by_cases e:a*2+b=i
   . rw[if_pos e,if_pos (by omega),if_pos ⟨by omega,by omega⟩]
   rw[if_neg e,if_neg (fun h=>e (by omega))]
 rw[U6 _ _ _ hi,U6 _ _ _ hi,if_neg (by omega)]
theorem YdB (N:Nat) (B:Nat->Nat->Int):KF N B++[.int .i64 0,.int .i64 0]=KF (N+1) (addB B N):=by
 apply List.ext_getElem?;intro i;by_cases hi:i<N*2
 . rw[List.getElem?_append_left (by rw[V3];exact hi),Kb _ _ _ hi,Kb _ _ _ (by omega)]
   unfold addB;rw[if_neg (by omega)]
 rw[List.getElem?_append_right (by rw[V3];omega),V3];by_cases h1:i<(N+1)*2
 . rw[Kb _ _ _ h1]
   unfold addB;rw[if_pos (by omega)];have:i-N*2=0\/i-N*2=1:=by omega
   rcases this with h|h<;>rw[h]<;>rfl
 rw[U6 _ _ _ h1,List.getElem?_eq_none (by simp;omega)]
theorem Ybj:(Tryz.prog.info? 90).map (fun i=>(i.zero,i.size,i.bytes))=some (some (.agg #[.int .i64 0,.int .i64 0]),2,16):=by kernel_rfl
theorem Ykh:∀u ∈ ([.int .i64 0,.int .i64 0]:List Value),u.oneCell'=true:=by
 intro u hu;simp only[List.mem_cons,List.not_mem_nil,or_false] at hu;rcases hu with rfl|rfl<;>rfl
def TreeAt (w:World) (T g N cap:Nat) (B:Nat->Nat->Int):Prop:=Blk w T 215 #[.slice (some ⟨g,0,none⟩) N cap]/\g<w.heap.size/\∀a b,a<N->b<2->w.cell? ⟨g,a*2+b,none⟩=some (.int .i64 (B a b))
theorem TreeAt.below {w w':World} {T g N cap H:Nat} {B:Nat->Nat->Int} (h:TreeAt w T g N cap B) (hb:Below H w w') (hT:T<H) (hg:g<H):TreeAt w' T g N cap B:=
 ⟨h.1.below hb hT,Qb h.2.1 hb.size,fun a b ha hb2=>(hb.cell (p:=⟨g,a*2+b,none⟩) hg).trans (h.2.2 a b ha hb2)⟩
theorem TreeAt.grown {w w':World} {T g N cap P:Nat} {B:Nat->Nat->Int} (h:TreeAt w T g N cap B) (hg:w.grownBy w' (some P)) (hT:T ≠ P) (hgP:g ≠ P):TreeAt w' T g N cap B:=by
 refine⟨h.1.grown hg (fun e=>hT (by injection e)),Qb h.2.1 hg.size,fun a b ha hb2=>?_⟩;have hb:=hg.block g h.2.1 (fun e=>hgP (by injection e))
 have e:∀o,w'.cell? ⟨g,o,none⟩=w.cell? ⟨g,o,none⟩:=fun o=>by unfold World.cell?;simp only[hb]
 exact(e _).trans (h.2.2 a b ha hb2)
theorem KX {w:World} {b e s n P t:Nat} {v:Value} {x:List Value} {cs:Array Value} (h:w.ownsRow b e s v n x) (hB:Blk w P t cs) (hne:e ≠ t):v.ownBlock=none\/v.ownBlock ≠ some P:=by
 rcases h.2 with⟨rfl,_⟩|⟨g,cap,cur,rfl,_,hh,_⟩
 . exact .inl rfl
 right;intro e';simp only[Value.ownBlock,Option.some.injEq] at e';subst e';unfold Blk at hB;rw[hh] at hB;simp only[Option.some.injEq,Obj.cells.injEq] at hB;exact hne hB.2.1
def PT (w1 W:World) (T g N cap:Nat) (B:Nat->Nat->Int):Prop:=
 Blk W T 215 #[.slice (some ⟨g,0,none⟩) N cap]/\W.ownsRow w1.heap.size 90 2 (.slice (some ⟨g,0,none⟩) N cap) N (KF N B)/\Below w1.heap.size w1 W/\w1.heap.size<=T
section
variable {w1 W W':World} {T g N cap:Nat} {B:Nat->Nat->Int}
theorem PT.cell (h:PT w1 W T g N cap B) (a b:Nat) (ha:a<N) (hb:b<2):W.cell? ⟨g,a*2+b,none⟩=some (.int .i64 (B a b)):=by
 rw[World.ownsRow.cellAt h.2.1 (a*2+b) (by omega),Kb _ _ _ (by omega),show(a*2+b)/2=a by omega,show(a*2+b)%2=b by omega]
theorem PT.frozen (h:PT w1 W T g N cap B) (j:Nat):W.frozen? ⟨g,j,none⟩=false:=World.ownsRow.frozenAt h.2.1 j
theorem PT.ne (h:PT w1 W T g N cap B):g ≠ T:=by
 rcases KX h.2.1 h.1 (by decide) with e|e
 . simp[Value.ownBlock] at e
 exact fun e2=>e (by simp[Value.ownBlock,e2])
theorem PT.lt (h:PT w1 W T g N cap B):w1.heap.size<=g/\g<W.heap.size:=World.ownsRow.lt h.2.1 g (by simp[Value.ownBlock])
theorem PT.below (h:PT w1 W T g N cap B) (hb:Below W.heap.size W W'):PT w1 W' T g N cap B:=by
 refine⟨h.1.below hb h.1.lt,?_,h.2.2.1.trans (hb.mono h.2.2.1.size),h.2.2.2⟩;have hlt:=World.ownsRow.lt h.2.1;refine⟨h.2.1.1,?_⟩;rcases h.2.1.2 with h2|⟨g,cap,cur,e,h3,h4,h5⟩
 . exact .inl h2
 rw[e] at hlt ⊢;exact .inr ⟨g,cap,cur,rfl,h3,(hb.block g (hlt g (by simp[Value.ownBlock])).2).trans h4,h5⟩
theorem PT.store (h:PT w1 W T g N cap B) (a b:Nat) (v:Int) (ha:a<N) (hb:b<2):PT w1 (W.setCell ⟨g,a*2+b,none⟩ (.int .i64 v)) T g N cap (setB B a b v):=by
 have hs:=World.ownsRow.stored h.2.1 (a*2+b) (.int .i64 v);rw[YfF N B a b v ha hb] at hs;refine⟨h.1.grown hs.2 (fun e=>h.ne (by injection e with e;exact e.symm)),hs.1,?_,h.2.2.2⟩;exact h.2.2.1.setCell h.lt.1 _
theorem PT.more {g' cap':Nat} {W2:World} (h:PT w1 W T g N cap B) (hown:W2.ownsRow w1.heap.size 90 2 (.slice (some ⟨g',0,none⟩) (N+1) cap') (N+1) (KF N B++[.int .i64 0,.int .i64 0])) (hg:W.grownBy W2 (some g)):PT w1 (W2.setCell ⟨T,0,none⟩ (.slice (some ⟨g',0,none⟩) (N+1) cap')) T g' (N+1) cap' (addB B N):=by
 rw[YdB] at hown;have hB2:=h.1.grown hg (fun e=>h.ne (by injection e with e;exact e.symm))
 have hne:g' ≠ T:=by
  rcases KX hown hB2 (by decide) with e|e
  . simp[Value.ownBlock] at e
  exact fun e2=>e (by simp[Value.ownBlock,e2])
 refine⟨by simpa using hB2.set_ 0 (.slice (some ⟨g',0,none⟩) (N+1) cap'),?_,?_,h.2.2.2⟩
 . refine World.ownsRow.kept hown (row:=some T) ⟨rfl,rfl,rfl,by simp[World.setCell],fun k _ hk=>heap_setCell_other W2 ⟨T,0,none⟩ k _ (fun e=>hk (by simp[e]))⟩ (.inr ?_)
   simp[Value.ownBlock,hne]
 have hb2:Below w1.heap.size w1 W2:=h.2.2.1.grown hg h.2.2.1.size (fun k e=>by injection e with e;rw[<-e];exact h.lt.1);exact hb2.setCell h.2.2.2 _
theorem PT.at(h:PT w1 W T g N cap B):TreeAt W T g N cap B:=⟨h.1,h.lt.2,fun a b ha hb=>h.cell a b ha hb⟩
end
theorem YfY (w:World) :
 (Instr.makeSlice 135 (.int .i64 1) (.int .i64 1)).run Tryz.prog w=.ok (.slice (some ⟨w.heap.size,0,none⟩) 1 1) (w.alloc (.cells #[.int .i64 0,.int .i64 0] 90)):=by
 obtain⟨i0,hi,hz0,hz1,hz2⟩:=info_parts Ybj;have hr:=run_make (P:=Tryz.prog) w 135 90 i0 _ Tryz.underlying135 hi hz0 .i64 .i64 1 1 (by omega) (by omega) (by rw[hz2];omega) (by omega);rw[hz1] at hr
 have e:madeCells (Value.agg #[.int .i64 0,.int .i64 0]).cells (1*2)=#[.int .i64 0,.int .i64 0]:=by
  have e0:(Value.agg #[.int .i64 0,.int .i64 0]).cells=#[.int .i64 0,.int .i64 0]:=rfl;rw[e0];apply Array.ext_getElem?;intro i;by_cases hi:i<2
  . unfold madeCells
    have h1:(Array.range (1*2))[i]?=some i:=(by simp[Array.getElem?_range];omega);rw[Array.getElem?_map,h1];have:i=0\/i=1:=(by omega);rcases this with rfl|rfl<;>rfl
  rw[Array.getElem?_eq_none (by rw[size_madeCells];omega),Array.getElem?_eq_none (by simp;omega)]
 simp only[Int.toNat_one,e] at hr;exact hr
theorem PT.start (w1:World):PT w1 ((w1.alloc (.cells #[.int .i64 0,.int .i64 0] 90)).alloc (.cells #[.slice (some ⟨w1.heap.size,0,none⟩) 1 1] 215)) (w1.heap.size+1) w1.heap.size 1 1 (fun _ _=>0):=by
 have h1:=Blk.new (w1.alloc (.cells #[.int .i64 0,.int .i64 0] 90)) 215 #[.slice (some ⟨w1.heap.size,0,none⟩) 1 1];have h2:=World.ownsRow_lit (base:=w1.heap.size) (e:=90) (size:=2) w1 #[.int .i64 0,.int .i64 0] 1 (Qa _) (by unfold maxLen;omega) rfl;have hb:=((Below.refl w1.heap.size w1).alloc (Qa _) (.cells #[.int .i64 0,.int .i64 0] 90));refine⟨by simpa using h1,?_,hb.alloc hb.size _,by omega⟩;exact World.ownsRow.alloc h2 _
structure Tok where
 b:UInt8
 l:Int
 d:Int
instance:Inhabited Tok:=⟨⟨0,0,0⟩⟩
def tk (S:List Tok) (i:Nat):Tok:=S.getD i default
theorem J2 {S:List Tok} {i:Nat} (h:i<S.length):tk S i=S[i]:=by simp[tk,List.getD,h]
theorem Yi5 {S:List Tok} {i:Nat} (h:i<S.length):S.drop i=tk S i::S.drop (i+1):=by rw[J2 h,List.drop_eq_getElem_cons h]
def rep (d:Nat) (o:List UInt8):Nat->List UInt8
 |0=>o
 |k+1=>rep d o k++[(rep d o k).getD ((rep d o k).length-d) 0]
theorem YhQ (d:Nat) (o:List UInt8) (k:Nat):(rep d o k).length=o.length+k:=by
 induction k with
 |zero=>rfl
 |succ k ih=>show(rep d o k++[_]).length=_;rw[List.length_append,ih];rfl
def terr (most:Int) (n:Nat) (t:Tok):Nat:=
 if t.l=0 then (if t.d ≠ 0 then 4 else if most<=(n:Int) then 2 else 0)
 else if t.b ≠ 0\/t.l<3\/258<t.l\/t.d<1\/32768<t.d\/(n:Int)<t.d then 4
 else if most<(n:Int)+t.l then 2 else 0
def tout (o:List UInt8) (t:Tok):List UInt8:=if t.l=0 then o++[t.b] else rep t.d.toNat o t.l.toNat
def texp (most:Int) (o:List UInt8):List Tok->List UInt8 × Nat
 |[]=>(o,0)
 |t::r=>if terr most o.length t=0 then texp most (tout o t) r else ([],terr most o.length t)
theorem UE {most:Int} {o:List UInt8} {t:Tok} {r:List Tok} (h:terr most o.length t=0):texp most o (t::r)=texp most (tout o t) r:=if_pos h
theorem Yhv {most:Int} {o:List UInt8} {t:Tok} {r:List Tok} {e:Nat} (h:terr most o.length t=e) (he:e ≠ 0):texp most o (t::r)=([],e):=by
 show(if _ then _ else _)=_;rw[if_neg (by rw[h];exact he),h]
def TkRow (w:World) (a:Option Addr) (S:List Tok):Prop:=
 S.length=0\/∃b off,a=some ⟨b,off,none⟩/\b<w.heap.size/\∀i,i<S.length->w.cell? ⟨b,off+i*3,none⟩=some (.int .u8 ((tk S i).b.toNat:Int))/\w.cell? ⟨b,off+i*3+1,none⟩=some (.int .i64 (tk S i).l)/\w.cell? ⟨b,off+i*3+2,none⟩=some (.int .i64 (tk S i).d)
section
variable {w w':World} {a:Option Addr} {S:List Tok}
theorem TkRow.get (h:TkRow w a S) (i:Nat) (hi:i<S.length):∃b off,a=some ⟨b,off,none⟩/\b<w.heap.size/\w.cell? ⟨b,off+i*3,none⟩=some (.int .u8 ((tk S i).b.toNat:Int))/\w.cell? ⟨b,off+i*3+1,none⟩=some (.int .i64 (tk S i).l)/\w.cell? ⟨b,off+i*3+2,none⟩=some (.int .i64 (tk S i).d):=by
 rcases h with h|⟨b,off,h1,h2,h3⟩
 . omega
 exact⟨b,off,h1,h2,h3 i hi⟩
theorem TkRow.below {B:Nat} (h:TkRow w a S) (hb:Below B w w') (hB:w.heap.size<=B):TkRow w' a S:=by
 rcases h with h|⟨b,off,h1,h2,h3⟩
 . exact .inl h
 refine .inr ⟨b,off,h1,Qb h2 hb.size,fun i hi=>?_⟩;obtain⟨c0,c1,c2⟩:=h3 i hi;have e:b<B:=by omega
 exact⟨(hb.cell (p:=⟨b,off+i*3,none⟩) e).trans c0,(hb.cell (p:=⟨b,off+i*3+1,none⟩) e).trans c1,(hb.cell (p:=⟨b,off+i*3+2,none⟩) e).trans c2⟩
end
def YU (S:List Tok):List Value:=S.flatMap fun x=>[.int .u8 (x.b.toNat:Int),.int .i64 x.l,.int .i64 x.d]
theorem YaP (S T:List Tok):YU (S++T)=YU S++YU T:=by simp[YU]
theorem Ygp (S:List Tok) (i:Nat) (hi:i<S.length):(YU S)[i*3]?=some (.int .u8 ((tk S i).b.toNat:Int))/\(YU S)[i*3+1]?=some (.int .i64 (tk S i).l)/\(YU S)[i*3+2]?=some (.int .i64 (tk S i).d):=by
 induction S generalizing i with
 |nil=>cases hi
 |cons x r ih=>
  have e:YU (x::r)=.int .u8 (x.b.toNat:Int)::.int .i64 x.l::.int .i64 x.d::YU r:=rfl;rw[e]
  cases i with
  |zero=>exact⟨rfl,rfl,rfl⟩
  |succ i=>
   rw[List.length_cons] at hi;have:=ih i (by omega);rw[show(i+1)*3=i*3+1+1+1 by omega];simp only[List.getElem?_cons_succ];exact this
theorem V7:(Tryz.prog.info? 119).map (fun i=>(i.zero,i.size,i.bytes))=some (some (.agg #[.int .u8 0,.int .i64 0,.int .i64 0]),3,24):=by kernel_rfl
def OwnK (e:TypeId) (w:World) (base:Nat) (v:Value) (S:List Tok):Prop:=w.ownsRow base e 3 v S.length (YU S)
theorem OwnK.view {e:TypeId} {w:World} {base:Nat} {v:Value} {S:List Tok} (h:OwnK e w base v S):∃a cap,v=.slice a S.length cap/\TkRow w a S:=by
 have hlt:=World.ownsRow.lt h;have hc:=fun g hg=>World.ownsRow.cells h (g:=g) hg;rcases h.2 with⟨rfl,hl⟩|⟨g,cap,cur,rfl,h1,h2,h3,h4⟩
 . rw[hl]
   exact⟨_,_,rfl,.inl hl⟩
 refine⟨_,_,rfl,.inr ⟨g,0,rfl,(hlt g rfl).2,fun i hi=>?_⟩⟩;obtain⟨c0,c1,c2⟩:=Ygp S i hi;rw[Nat.zero_add]
 have e0:∀j,(⟨g,0,none⟩:Addr).add j=⟨g,j,none⟩:=fun j=>by unfold Addr.add;split<;>simp_all
 refine⟨?_,?_,?_⟩
 . have:=hc g rfl (i*3) _ c0;rwa [e0] at this
 . have:=hc g rfl (i*3+1) _ c1;rwa [e0] at this
 have:=hc g rfl (i*3+2) _ c2;rwa [e0] at this
theorem OwnK.below {e:TypeId} {w w':World} {base B:Nat} {v:Value} {S:List Tok} (h:OwnK e w base v S) (hb:Below B w w') (hB:w.heap.size<=B):OwnK e w' base v S:=by
 have hlt:=World.ownsRow.lt h;refine⟨h.1,?_⟩;rcases h.2 with h2|⟨g,cap,cur,rfl,h3,h4,h5⟩
 . exact .inl h2
 exact .inr ⟨g,cap,cur,rfl,h3,(hb.block g (Qb (hlt g rfl).2 hB)).trans h4,h5⟩
theorem OwnB.below {w w':World} {base B:Nat} {v:Value} {l:List UInt8} (h:OwnB w base v l) (hb:Below B w w') (hB:w.heap.size<=B):OwnB w' base v l:=by
 have hlt:=World.ownsRow.lt h;refine⟨h.1,?_⟩;rcases h.2 with h2|⟨g,cap,cur,rfl,h3,h4,h5⟩
 . exact .inl h2
 exact .inr ⟨g,cap,cur,rfl,h3,(hb.block g (Qb (hlt g rfl).2 hB)).trans h4,h5⟩
theorem X3 {w:World} {b e s n P t:Nat} {v:Value} {x:List Value} {cs:Array Value} (h:w.ownsRow b e s v n x) (hB:Blk w P t cs) (hne:e ≠ t):v.ownBlock=none\/v.ownBlock ≠ some P:=by
 rcases h.2 with⟨rfl,_⟩|⟨g,cap,cur,rfl,_,hh,_⟩
 . exact .inl rfl
 right;intro e';simp only[Value.ownBlock,Option.some.injEq] at e';subst e';unfold Blk at hB;rw[hh] at hB;simp only[Option.some.injEq,Obj.cells.injEq] at hB;exact hne hB.2.1
theorem OwnB.slice {w:World} {base:Nat} {v:Value} {l:List UInt8} (h:OwnB w base v l):∃a cap,v=.slice a l.length cap:=by
 rcases h.2 with⟨rfl,hl⟩|⟨g,cap,cur,rfl,_⟩
 . exact⟨_,_,by rw[hl]⟩
 exact⟨_,_,rfl⟩
def BldAt (W:World) (B:Nat) (v:Value) (l:List UInt8):Prop:=
 (∃p,(p=.pointer none\/p=.pointer (some ⟨B,0,none⟩))/\Blk W B 60 #[p,v])/\OwnB W (B+1) v l
theorem BldAt.new (w:World):BldAt (w.alloc (.cells #[.pointer none,.slice none 0 0] 60)) w.heap.size (.slice none 0 0) []:=
 ⟨⟨_,.inl rfl,Blk.new w _ _⟩,OwnB.nil _ _⟩
theorem BldAt.lt {W:World} {B:Nat} {v:Value} {l:List UInt8} (h:BldAt W B v l):B<W.heap.size:=by
 obtain⟨⟨p,_,hb⟩,_⟩:=h;exact hb.lt
theorem BldAt.ne {W:World} {B:Nat} {v:Value} {l:List UInt8} (h:BldAt W B v l):v.ownBlock ≠ some B:=fun e=>by
 have:=(World.ownsRow.lt h.2 B e).1;omega
theorem BldAt.below {W W':World} {B:Nat} {v:Value} {l:List UInt8} (h:BldAt W B v l) (hb:Below W.heap.size W W'):BldAt W' B v l:=by
 obtain⟨⟨p,hp,hB⟩,hO⟩:=h;refine⟨⟨p,hp,hB.below hb hB.lt⟩,?_⟩;have hlt:=World.ownsRow.lt hO;refine⟨hO.1,?_⟩;rcases hO.2 with h2|⟨g,cap,cur,rfl,h3,h4,h5⟩
 . exact .inl h2
 exact .inr ⟨g,cap,cur,rfl,h3,(hb.block g (hlt g rfl).2).trans h4,h5⟩
theorem Ycf (B:Nat) (v:Value) (l:List UInt8) (W:World) (h:BldAt W B v l) :
 Calls Tryz.prog 42 #[.pointer (some ⟨B,0,none⟩)] W fun e W'=>e=.returned (.tuple #[])/\Blk W' B 60 #[.pointer (some ⟨B,0,none⟩),v]/\OwnB W' (B+1) v l/\Chg W W' B v/\W'.heap.size=W.heap.size:=by
 obtain⟨⟨p,hp,hB⟩,hO⟩:=h;have c0:=hB.cell 0;have f0:=hB.frozen 0;simp only[List.getElem?_toArray,List.getElem?_cons_zero] at c0
 have hne:v.ownBlock ≠ some B:=fun e=>by have:=(World.ownsRow.lt hO B e).1;omega
 rcases hp with rfl|rfl
 . have hinf:(Tryz.prog.info? 60).map (fun i=>i.size)=some 2:=by kernel_rfl
   obtain⟨j,hj,hjs⟩:=Option.map_eq_some_iff.1 hinf
   have hsh:W.shape? B=some (60,2):=by
    have:W.heap[B]?=some (.cells #[.pointer none,v] 60 (0,0)):=hB;simp[World.shape?,this]
   have hlies:liesAt Tryz.prog Tryz.prog.depth 60 (2/Tryz.prog.cellsOf 60) 0 60 1=true:=by kernel_rfl
   have HB:=Qf hB;have HO:=Qf hO;have HN:=Qf hne;clear hB hO hne hinf;go_enter Tryz.func42,Tryz.ntmps42;go_wp2_with fail;rw[Lib.run_to_unsafe W ⟨B,0,none⟩ Tryz.underlying57 Tryz.underlying133 hj (by rw[hjs];decide) hsh (Nat.zero_lt_succ 1)];simp only[Result.andThen];rw[Oper.upon_value]
   go_wp2
   rw[run_callFunc_extern Tryz.func66 (by kernel_rfl) (by kernel_rfl) (by kernel_rfl) (e:=Extern.AbiNoEscape.same) (by kernel_rfl)];rw[Lib.run_noEscape];simp only[Result.andThen];rw[Oper.upon_value]
   go_wp2
   rw[Lib.run_from_unsafe W ⟨B,0,none⟩ Tryz.underlying133 Tryz.underlying57 hj hsh hlies];simp only[Result.andThen];rw[Oper.upon_value]
   go_wp2
   (try simp only[Exit.inBlock,Exit.then]);refine bodyPost_end (results_none rfl _ _ _) rfl ?_
   refine⟨rfl,?_,XY HO.out B 0 (Nat.lt_succ_self B) _,⟨⟨rfl,rfl,rfl⟩,by simp[World.setCell],fun g _ hg _=>heap_setCell_other _ _ _ _ (by simpa using hg)⟩,by simp[World.setCell]⟩;have:=HB.out.set_ 0 (.pointer (some ⟨B,0,none⟩))
   simpa using this
 have hinf:(Tryz.prog.info? 60).isSome=true:=by kernel_rfl
 obtain⟨j,hj⟩:=Option.isSome_iff_exists.1 hinf;have hq:=fun W=>Lib.run_neq_ptr_same (P:=Tryz.prog) W ⟨B,0,none⟩ Tryz.underlying57 hj;have HB:=Qf hB;have HO:=Qf hO;clear hB hO hne hinf hj;go_enter Tryz.func42,Tryz.ntmps42;go_wp2_with fail
 (try simp only[Exit.inBlock,Exit.then]);refine bodyPost_end (results_none rfl _ _ _) rfl ?_
 exact⟨rfl,HB.out,HO.out,Chg.refl _ _ _,rfl⟩
set_option maxHeartbeats 2000000 in
theorem Xt (B:Nat) (v:Value) (l:List UInt8) (s:ByteArray) (hl:l.length+s.size<=100000000000) (W:World) (h:BldAt W B v l) :
 Calls Tryz.prog 25 #[.pointer (some ⟨B,0,none⟩),.string s] W fun e W'=>e=.returned (.tuple #[.int .i64 (s.size:Int),.nilIface])/\∃v',BldAt W' B v' (l++s.data.toList)/\Chg W W' B v/\Fresh W v v':=by
 have CC:=Qf (Ycf B v l W h);clear h;go_enter Tryz.func25,Tryz.ntmps25;go_wp2_with fail;refine CC.out.mono ?_;rintro e w1 ⟨rfl,hB,hO,hC,hz⟩
 have hne:v.ownBlock ≠ some B:=fun e=>by have:=(World.ownsRow.lt hO B e).1;omega
 have hPl:=hB.lt;have c1:=hB.cell 1;simp at c1;have HC:=Qf hC;have HB:=Qf hB;have HZ:=Qf hz;have hos:=hO;have HNe:=Qf hne;clear hB hO hC hne hz
 go_wp2_with (first
  |(at_builtin;go_must (refine XT rfl (.tmp 12) (.tmp 13) rfl (B+1) v l rfl hos s rfl hl hPl ?_;intro a2 n2 cap2 w2 hO2 hg2 hF2;have hB2:=HB.out.grown hg2 (fun e=>HNe.out e.symm);have d1:=hB2.cell 1;have df:=hB2.frozen 1;simp at d1;have HB2:=Qf hB2;have HO2:=Qf hO2;have HF2:=Qf hF2;have HG2:=Qf hg2;clear hB2 hO2 hF2 hg2))
  |fail)
 go_ret2;refine⟨rfl,.slice a2 n2 cap2,⟨⟨_,.inr rfl,?_⟩,XY HO2.out B 1 (Nat.lt_succ_self B) _⟩,?_,?_⟩
 . have:=HB2.out.set_ 1 (.slice a2 n2 cap2)
   simpa using this
 . exact HC.out.trans (Fresh.refl _ _) ⟨⟨HG2.out.os,HG2.out.tape,HG2.out.output⟩,by simpa [World.setCell] using HG2.out.size,fun g hg hP hv=>(heap_setCell_other _ _ _ _ (by simpa using hP)).trans (HG2.out.block g hg (fun e=>hv e.symm))⟩
 exact fun g hg hv=>HF2.out g (by rw[HZ.out];exact hg) hv
theorem Ybx (B:Nat) (v:Value) (l:List UInt8) (_hl:l.length<=100000000000) (W:World) (h:BldAt W B v l) :
 Calls Tryz.prog 23 #[.pointer (some ⟨B,0,none⟩)] W fun e W'=>e=.returned (.int .i64 (l.length:Int))/\W=W':=by
 obtain⟨⟨p,hp,hB⟩,hO⟩:=h;obtain⟨a,cap,rfl⟩:=OwnB.slice hO;have c1:=hB.cell 1;simp at c1;clear hB hO hp;go_enter Tryz.func23,Tryz.ntmps23;go_wp2_with fail;go_ret;exact⟨rfl,rfl⟩
theorem YgA {W:World} {A t:Nat} {cs:Array Value} {p:Addr} (h:Blk W A t cs) (hne:A ≠ p.block) (n:Nat):Blk (W.freeze p n) A t cs:=by
 unfold Blk World.freeze at *;split
 . exact h
 simp only[Array.getElem?_modify];rw[if_neg (Ne.symm hne)];exact h
theorem Yd6 (W:World) (p:Addr) (n:Nat):W.heap.size<=(W.freeze p n).heap.size:=by
 unfold World.freeze;split
 . exact Qa _
 simp
theorem YgV:Tryz.prog.cellsOf 5=1:=by kernel_rfl
def Yny (W W':World):Prop:=∀B t cs,t ≠ 60->t ≠ 5->Blk W B t cs->Blk W' B t cs
theorem Yjn {w:World} {A t u:Nat} {cs ds:Array Value} (h:Blk w A t cs) (k:Blk w A u ds):t=u:=by
 have h1:w.heap[A]?=some (.cells cs t):=h;have h2:w.heap[A]?=some (.cells ds u):=k;rw[h1] at h2;simp only[Option.some.injEq,Obj.cells.injEq] at h2;exact h2.2.1
set_option maxHeartbeats 2000000 in
theorem KE (w0:World) (B:Nat) (v:Value) (l:List UInt8) (hl:l.length<=100000000000) (W:World) (h:BldAt W B v l) (hw0:Below w0.heap.size w0 W) (hB0:w0.heap.size<=B) (hnil:l ≠ []\/v=.slice none 0 0) :
 Calls Tryz.prog 27 #[.pointer (some ⟨B,0,none⟩)] W fun e W'=>e=.returned (.string ⟨l.toArray⟩)/\Below w0.heap.size w0 W'/\Yny W W'/\W.heap.size<=W'.heap.size/\(∃p,Blk W' B 60 #[p,v]):=by
 obtain⟨⟨p,hp,hB⟩,hO⟩:=h;have c1:W.drew.cell? ⟨B,1,none⟩=some v:=by rw[hB.drew.cell 1];rfl
 by_cases h0:l=[]
 . subst h0
   obtain rfl:v=.slice none 0 0:=hnil.resolve_left (fun h=>h rfl);have hUS:=fun (W:World) (q:Option Addr)=>Lib.run_unsafeString_none (P:=Tryz.prog) W 88 3 9 q;have HB:=Qf hB;have Hw:=Qf hw0;have hSD:∀W:World,(Builtin.unsafeSliceData_ #[58] 88 #[.slice none 0 0]).run Tryz.prog W=.ok (.pointer none) W:=fun W=>Lib.run_unsafeSliceData_nil W _ _ _ _;clear hB hO hw0 hp hnil;go_enter Tryz.func27,Tryz.ntmps27;go_wp2_with fail
   go_region
   all_goals
    go_wp2_with fail;go_ret;exact⟨rfl,Yh Hw.out 1,fun _ _ _ _ _ h=>h,Qa _,p,HB.out⟩
 have hl0:l.length ≠ 0:=by simpa using h0
 obtain⟨g,cap,cur,rfl,hbg,hg,hnc,hcm,hcs,htake⟩:∃g cap cur,v=.slice (some ⟨g,0,none⟩) l.length cap/\B+1<=g/\W.heap[g]?=some (.cells cur 5 (0,0))/\l.length<=cap/\cap<=maxLen/\cur.size=cap*1/\cur.toList.take (l.length*1)=Vg l:=by
  rcases hO.2 with⟨_,hz⟩|⟨g,cap,cur,hv,r⟩
  . exact absurd hz hl0
  exact⟨g,cap,cur,hv,r⟩
 have hSD:=fun W:World=>Lib.run_unsafeSliceData_row (P:=Tryz.prog) W #[58] 88 ⟨g,0,none⟩ l.length cap (by omega)
 have hUS:=Lib.run_unsafeString_row (P:=Tryz.prog) W.drew 88 3 9 5 Tryz.underlying88 YgV g cur.size (by have hg':W.drew.heap[g]?=some (.cells cur 5 (0,0)):=hg;simp[World.shape?,hg']) l h0 (by omega) (by unfold maxLen at hcm;omega) (by
  intro j x hx
  exact World.ownsRow.cells hO (g:=g) rfl j (.int .u8 x.toNat) (by simp[Vg,hx]))
 have hgB:g ≠ B:=by omega
 have HB:=Qf hB;have Hw:=Qf hw0;have Hg:=Qf hg;have HgB:=Qf hgB;have hbg2:w0.heap.size<=g:=by omega
 have Hbg:=Qf hbg2;clear hB hO hw0 hp hnc hcs htake hg hgB hbg hbg2;go_enter Tryz.func27,Tryz.ntmps27;go_wp2_with fail
 go_region
 all_goals
  go_wp2_with fail;go_ret
  have hblk:∀A t cs,t ≠ 5->Blk W A t cs->Blk (W.drew.freeze ⟨g,0,none⟩ l.length) A t cs:=fun A t cs h2 h3=>by
   have hne:A ≠ g:=fun e=>by
    have h4:Blk W A 5 cur:=(by rw[e];exact Hg.out);exact h2 (Yjn h3 h4)
   exact YgA (W:=W.drew) (p:=⟨g,0,none⟩) h3 hne _
  exact⟨rfl,Lib.below_freeze (Yh Hw.out 1) (p:=⟨g,0,none⟩) Hbg.out _,fun A t cs _ h2 h3=>hblk A t cs h2 h3,Yd6 W.drew _ _,p,hblk B _ _ (by decide) HB.out⟩
def putL (x:Nat):Nat->List UInt8
 |0=>[]
 |n+1=>putL x n++[UInt8.ofNat (x/256^n%256)]
theorem Yq (x n:Nat):(putL x n).length=n:=by
 induction n with
 |zero=>rfl
 |succ n ih=>simp[putL,ih]
theorem YeO (x n:Nat):putL x (n+1)=putL x n++[UInt8.ofNat (((x:Int)/256^n%256)).toNat]:=by
 have:(((x:Int)/256^n%256)).toNat=x/256^n%256:=by
  have h:(((x/256^n%256:Nat)):Int)=((x:Int)/256^n%256):=by simp only[Int.natCast_emod,Int.natCast_ediv,Int.natCast_pow];rfl
  rw[<-h,Int.toNat_natCast]
 rw[this];rfl
theorem JH (x:Int) (k:Nat):x/256^k/256=x/256^(k+1):=by
 rw[Int.pow_succ,Int.ediv_ediv_of_nonneg (Int.le_of_lt (Int.pow_pos (by decide)))]
theorem Yam (x:Nat) (n:Nat) (_hx:x<18446744073709551616) (hn:n<=1000) (w:World) :
 Calls Tryz.prog 60 #[.int .u64 (x:Int),.int .i64 (n:Int)] w fun e w'=>e=.returned (.string ⟨(putL x n).toArray⟩)/\Below w.heap.size w w':=by
 have hn0:(0:Int)<=(n:Int):=by omega
 go_enter Tryz.func60,Tryz.ntmps60
 go_wp2
 go_loopw [0,5,8] (fun y v i wr=>∃k:Nat,k<=n/\i=.int .i64 k/\y=.int .u64 ((x:Int)/256^k)/\OwnB wr w.heap.size v (putL x k)/\Below w.heap.size w wr)
  (fun _ _ i _=>n-(intOf i).toNat)
 case atStart=>exact⟨0,Nat.zero_le _,rfl,by simp,OwnB.nil _ _,Below.refl _ _⟩
 obtain⟨k,hk,rfl,rfl,hown,hb⟩:=hrel;have hl:=Yq x k;have hll:(putL x k).length<140737488355328:=by omega
 clear hl;have hbs:=hb.size;have hst:=Qf (YeO x k);by_cases hlt:k<n
 . go_wp2_with (at_builtin;go_must (refine VZ _ rfl _ _ rfl w.heap.size _ (putL x k) _ hown rfl rfl rfl ?_ ?_ hll hbs ?_;omega;omega;intro v' w1 hown1 hb1))
   go_roundw
   case rel=>
    exact⟨k+1,by omega,by go_num,by rw[JH],by rw[hst.out];exact hown1,hb.trans hb1⟩
   simp[intOf];omega
 have hs:=Xh wr _ _ _ hown;go_wp2_with fail;go_ret;obtain rfl:k=n:=by omega
 exact⟨rfl,hb⟩
def u64 (x:Int):Nat:=(x%18446744073709551616).toNat
theorem Yhj (x:Int):u64 x<18446744073709551616:=by unfold u64;omega
theorem YbC (x:Int):IntKind.u64.wrap x=(u64 x:Int):=by rw[IntKind.wrap_u64];unfold u64;omega
def fldL (L:List (Int × Nat)):List UInt8:=L.flatMap fun p=>putL (u64 p.1) p.2
theorem Yde (L:List (Int × Nat)) (j:Nat) (h:j<L.length):fldL (L.take (j+1))=fldL (L.take j)++putL (u64 (L[j]).1) (L[j]).2:=by
 unfold fldL;rw[List.take_succ_eq_append_getElem h,List.flatMap_append];simp
theorem YiT (L:List (Int × Nat)) (h:∀p ∈ L,p.2<=10):(fldL L).length<=10*L.length:=by
 unfold fldL
 induction L with
 |nil=>exact Qa _
 |cons p L ih=>
  rw[List.flatMap_cons,List.length_append,Yq,List.length_cons];have h1:=h p (List.mem_cons_self ..);have h2:=ih fun q hq=>h q (List.mem_cons_of_mem _ hq);omega
def pcs (L:List (Int × Nat)):Array Value:=(L.flatMap fun p=>[Value.int .i64 p.1,.int .i64 (p.2:Int)]).toArray
theorem Ync (L:List (Int × Nat)) (i:Nat) (h:i<L.length):(pcs L)[i*2]?=some (.int .i64 (L[i]).1)/\(pcs L)[i*2+1]?=some (.int .i64 ((L[i]).2:Int)):=by
 unfold pcs;simp only[List.getElem?_toArray]
 induction L generalizing i with
 |nil=>cases h
 |cons p L ih=>
  rw[List.flatMap_cons]
  cases i with
  |zero=>exact⟨rfl,rfl⟩
  |succ i=>
   rw[List.length_cons] at h;have:=ih i (by omega);rw[show(i+1)*2=i*2+1+1 by omega];simp only[List.cons_append,List.nil_append,List.getElem?_cons_succ,List.getElem_cons_succ];exact this
set_option maxHeartbeats 8000000 in
theorem Ybs (g cap:Nat) (L:List (Int × Nat)) (hL:L.length<=20) (hk:∀p ∈ L,1<=p.2/\p.2<=10) (w:World) (h:Blk w g 90 (pcs L)) :
 Calls Tryz.prog 44 #[.slice (some ⟨g,0,none⟩) L.length cap] w fun e w'=>e=.returned (.string ⟨(fldL L).toArray⟩)/\Below w.heap.size w w':=by
 have HR:=Qf h;have Hk:=Qf hk;have hb0:=(Below.refl w.heap.size w).alloc (Qa _) (.cells #[.pointer none,.slice none 0 0] 60);have hn0:=BldAt.new w;obtain⟨M,HM⟩:=Qi (L.length);rw[HM.out] at hL ⊢;obtain⟨B,HB⟩:=Qi (w.heap.size);have hBw:w.heap.size<=B:=by rw[HB.out];exact Qa _
 have HN0:Hid (BldAt (w.alloc (.cells #[.pointer none,.slice none 0 0] 60)) B (.slice none 0 0) (fldL (L.take 0))):=by rw[<-HB.out];exact hn0
 have HB0:=Qf hb0;have Hv0:Hid (fldL (L.take 0) ≠ []\/(.slice none 0 0:Value)=.slice none 0 0):=.inr rfl;clear h hk hb0 hn0;go_enter Tryz.func44,Tryz.ntmps44;go_wp2_with fail;rw[HB.out];obtain⟨w1,HW1⟩:=Qi (w.alloc (.cells #[.pointer none,.slice none 0 0] 60));rw[HW1.out] at HN0 HB0 ⊢;clear HW1
 go_loopw [8] (fun j_ wr=>∃(j:Nat) (v:Value),j<=M/\j_=.int .i64 (j:Int)/\Hid (BldAt wr B v (fldL (L.take j)))/\Hid (Below w.heap.size w wr)/\Hid (j=0->v=.slice none 0 0)) (fun j _=>M-(intOf j).toNat)
 case atStart=>exact⟨0,.slice none 0 0,Nat.zero_le _,rfl,HN0,HB0,fun _=>rfl⟩
 clear HN0 HB0 Hv0;obtain⟨j,v,hj,rfl,HN,HBl,Hv⟩:=hrel;by_cases hlt:j<M
 . obtain⟨dj,djb⟩:=Qj (show j<M by omega)
   have hjI:(j:Int)<(M:Int):=by omega
   have hjL:j<L.length:=by rw[HM.out];exact hlt
   obtain⟨q0,q1⟩:=Ync L j hjL;have hRw:Blk wr g 90 (pcs L):=HR.out.below HBl.out HR.out.lt;have c0:=(Blk.cell hRw (j*2)).trans q0;have c1:=(Blk.cell hRw (j*2+1)).trans q1;have hk1:=(Hk.out (L[j]) (List.getElem_mem hjL)).2;have hsn:=Yde L j hjL;have hle:=YiT (L.take j) (fun p hp=>(Hk.out p (List.mem_of_mem_take hp)).2);have htl:(L.take j).length<=20:=by rw[List.length_take];omega
   obtain⟨⟨x,k⟩,Hxk⟩:∃R,Hid (L[j]=R):=⟨_,Qf (Eq.refl _)⟩;rw[Hxk.out] at c0 c1 hk1 hsn;dsimp only at c0 c1 hk1 hsn;have hal:=(Below.refl wr.heap.size wr).alloc (Qa _) (.cells #[.int .i64 x,.int .i64 (k:Int)] 90);have hbn:=Blk.new wr 90 #[.int .i64 x,.int .i64 (k:Int)];have HNa:=Qf (HN.out.below hal);have HBa:=Qf (HBl.out.trans (hal.mono HBl.out.size));have t0:(wr.alloc (.cells #[.int .i64 x,.int .i64 (k:Int)] 90)).cell? ⟨wr.heap.size,0,none⟩=some (.int .i64 x):=hbn.cell 0;have t1:(wr.alloc (.cells #[.int .i64 x,.int .i64 (k:Int)] 90)).cell? ⟨wr.heap.size,1,none⟩=some (.int .i64 (k:Int)):=hbn.cell 1;have hwx:=YbC x;have CPt:=Qf (fun W=>Yam (u64 x) k (Yhj x) (by omega) W);obtain⟨u,Hu⟩:=Qi (u64 x);rw[Hu.out] at hwx CPt hsn;obtain⟨l0,Hl0⟩:=Qi (fldL (L.take j));rw[Hl0.out] at HNa hsn hle;have hl0:l0.length<=200:=by omega
   have hps:(⟨(putL u k).toArray⟩:ByteArray).size=k:=by show(putL u k).toArray.size=k;rw[List.size_toArray,Yq]
   have hpd:(⟨(putL u k).toArray⟩:ByteArray).data.toList=putL u k:=rfl;have Hps:=Qf hps;have Hsn:=Qf hsn;have CW:=Qf (fun (W:World) (h:BldAt W B v l0)=>Xt B v l0 ⟨(putL u k).toArray⟩ (by rw[hps];omega) W h);obtain⟨y,Hy⟩:=Qi ((⟨(putL u k).toArray⟩:ByteArray))
   have Hyl:Hid (y.data.toList=putL u k):=by show _=_;rw[<-Hy.out]
   rw[Hy.out] at CPt CW;clear hal hbn hRw q0 q1 hsn hps hpd htl hle HN HBl;go_wp2_with fail;refine(CPt.out _).mono ?_;rintro e w3 ⟨rfl,hb3⟩;have HN3:=Qf (HNa.out.below hb3);have HB3:=Qf (Yk HBa.out hb3);clear hb3 HNa HBa t0 t1 CPt;go_wp2_with fail;refine(CW.out _ HN3.out).mono ?_;rintro e w4 ⟨rfl,v4,hn4,hc4,hf4⟩;have HN4:Hid (BldAt w4 B v4 (fldL (L.take (j+1)))):=by show BldAt _ _ _ _;rw[Hsn.out,<-Hyl.out];exact hn4
   have HB4:=Qf (hc4.below HB3.out hBw (fun g e=>by have:=(World.ownsRow.lt HN3.out.2 g e).1;omega));clear hn4 hc4 hf4 CW;go_wp2_with fail;go_roundw
   case rel=>exact⟨j+1,v4,by omega,by go_num,HN4,HB4,Qf (fun h=>by omega)⟩
   simp[intOf];omega
 obtain rfl:j=M:=by omega
 obtain⟨dj,djb⟩:=Ql (show j<=j by omega);have hall:L.take j=L:=by rw[<-HM.out];exact List.take_length
 rw[hall] at HN;have hle:=YiT L (fun p hp=>(Hk.out p hp).2)
 have hh:fldL L ≠ []\/v=.slice none 0 0:=by
  by_cases h0:j=0
  . exact .inr (Hv.out h0)
  left;intro e;have h1:0<L.length:=by rw[HM.out];omega
  have h2:=Yde L 0 h1;have h3:=(Hk.out (L[0]) (List.getElem_mem h1)).1
  have h4:(fldL (L.take 1)).length<=(fldL L).length:=by
   conv=>rhs;rw[<-List.take_append_drop 1 L]
   unfold fldL;rw[List.flatMap_append,List.length_append];omega
  rw[h2,e,List.length_append,Yq] at h4;simp at h4;omega
 have CS:=Qf (KE w B v (fldL L) (by have:=HM.out;omega) wr HN.out HBl.out hBw hh);clear hh hle hall;go_wp2_with fail;refine CS.out.mono ?_;rintro e w5 ⟨rfl,hb5,-,-,-⟩;have HB5:=Qf hb5;clear hb5;go_wp2_with fail;go_ret;exact⟨rfl,HB5.out⟩
structure Hd where
 name:ByteArray
 method:Int
 crc:Nat
 packed:Int
 size:Int
 place:Int
def Hd.cells (h:Hd):Array Value:=#[.string h.name,.int .i64 h.method,.int .u32 (h.crc:Int),.int .i64 h.packed,.int .i64 h.size,.int .i64 h.place]
def Hd.val (h:Hd):Value:=.agg h.cells
def Hd.nums (h:Hd):List (Int × Nat):=[(20,2),(0,2),(h.method,2),(0,4),((h.crc:Int),4),(h.packed,4),(h.size,4),((h.name.size:Int),2),(0,2)]
def Va (h:Hd):List UInt8:=fldL h.nums
theorem XD (h:Hd):(Va h).length=26:=by
 unfold Va fldL Hd.nums;simp only[List.flatMap_cons,List.flatMap_nil,List.length_append,Yq,List.length_nil]
def Vj (h:Hd):List UInt8:=[80,75,3,4]++Va h++h.name.data.toList
set_option maxHeartbeats 4000000 in
theorem Ydg (h:Hd) (hc:h.crc<4294967296) (w:World):Calls Tryz.prog 43 #[h.val] w fun e w'=>e=.returned (.string ⟨(Va h).toArray⟩)/\Below w.heap.size w w':=by
 have CF:Hid (∀W g,Blk W g 90 (pcs h.nums)->Calls Tryz.prog 44 #[.slice (some ⟨g,0,none⟩) 9 9] W fun e w'=>e=.returned (.string ⟨(Va h).toArray⟩)/\Below W.heap.size W w'):=
  fun W g hB=>Ybs g 9 h.nums (show 9<=20 by decide) (by intro p hp;unfold Hd.nums at hp;simp only[List.mem_cons,List.not_mem_nil,or_false] at hp;rcases hp with rfl|rfl|rfl|rfl|rfl|rfl|rfl|rfl|rfl<;>exact⟨by show 1<=_;omega,by show _<=10;omega⟩) W hB
 obtain⟨FL,HFL⟩:=Qi ((⟨(Va h).toArray⟩:ByteArray));rw[HFL.out] at CF ⊢;obtain⟨nm,me,cr,pk,sz,pl⟩:=h;unfold Hd.nums at CF;unfold Hd.val Hd.cells;dsimp only at CF hc ⊢;have hwc:IntKind.i64.wrap (cr:Int)=(cr:Int):=by rw[IntKind.wrap_i64];omega
 clear HFL;go_enter Tryz.func43,Tryz.ntmps43;go_wp2_with fail;refine(CF.out _ _ (by exact heap_alloc2_new w _ _)).mono ?_;rintro e w1 ⟨rfl,hb1⟩;have hbb:=((Below.refl w.heap.size w).alloc (Qa _) (.cells #[.string nm,.int .i64 me,.int .u32 (cr:Int),.int .i64 pk,.int .i64 sz,.int .i64 pl] 49)).alloc (by simp) (.cells #[.int .i64 20,.int .i64 2,.int .i64 0,.int .i64 2,.int .i64 me,.int .i64 2,.int .i64 0,.int .i64 4,.int .i64 (cr:Int),.int .i64 4,.int .i64 pk,.int .i64 4,.int .i64 sz,.int .i64 4,.int .i64 (nm.size:Int),.int .i64 2,.int .i64 0,.int .i64 2] 90);have HB1:=Qf (hbb.trans (hb1.mono hbb.size));clear hb1 hbb;go_wp2_with fail;go_ret;exact⟨rfl,HB1.out⟩
set_option maxHeartbeats 8000000 in
theorem Yaq (h:Hd) (hc:h.crc<4294967296) (hn:h.name.size<=9223372036854775000) (w:World):Calls Tryz.prog 26 #[h.val] w fun e w'=>e=.returned (.string ⟨(Vj h).toArray⟩)/\Below w.heap.size w w':=by
 have CF:=Qf (fun W=>Ydg h hc W)
 have hfl:(⟨(Va h).toArray⟩:ByteArray).size=26:=by show(Va h).toArray.size=26;rw[List.size_toArray,XD]
 have hlo:Hid ((⟨#[80,75,3,4]⟩:ByteArray)++⟨(Va h).toArray⟩++h.name=⟨(Vj h).toArray⟩):=by
  show _=_;unfold Vj;apply ByteArray.ext;apply Array.ext';simp only[ByteArray.data_append,Array.toList_append]
 obtain⟨FL,HFL⟩:=Qi ((⟨(Va h).toArray⟩:ByteArray));obtain⟨LL,HLL⟩:=Qi ((⟨(Vj h).toArray⟩:ByteArray));rw[HFL.out] at CF hfl hlo;rw[HLL.out] at hlo ⊢;obtain⟨nm,me,cr,pk,sz,pl⟩:=h;dsimp only at hlo hn;unfold Hd.val Hd.cells at CF ⊢;dsimp only at CF ⊢;have hbx:=Blk.new w 49 #[.string nm,.int .i64 me,.int .u32 (cr:Int),.int .i64 pk,.int .i64 sz,.int .i64 pl];have hbb:=(Below.refl w.heap.size w).alloc (Qa _) (.cells #[.string nm,.int .i64 me,.int .u32 (cr:Int),.int .i64 pk,.int .i64 sz,.int .i64 pl] 49);have hov1:¬9223372036854775807<(⟨#[80,75,3,4]⟩:ByteArray).size+FL.size:=by rw[hfl];decide
 have hov2:¬9223372036854775807<4+FL.size:=by rw[hfl];decide
 have hov3:¬9223372036854775807<((⟨#[80,75,3,4]⟩:ByteArray)++FL).size+nm.size:=by rw[ByteArray.size_append,hfl];show ¬9223372036854775807<4+26+_;omega
 have hov4:¬9223372036854775807<4+FL.size+nm.size:=by rw[hfl];omega
 have hov5:¬9223372036854775807<4+26+nm.size:=by omega
 have hov6:¬9223372036854775807<30+nm.size:=by omega
 have HFl:=Qf hfl;obtain⟨G,HG⟩:=Qi (w.heap.size);rw[HG.out] at hbx;have HBX:=Qf hbx;have HBB:=Qf hbb;clear hbx hbb HFL HLL hn;go_enter Tryz.func26,Tryz.ntmps26;go_wp2_with fail;rw[HG.out];obtain⟨w1,HW1⟩:=Qi (w.alloc (.cells #[.string nm,.int .i64 me,.int .u32 (cr:Int),.int .i64 pk,.int .i64 sz,.int .i64 pl] 49));rw[HW1.out] at HBX HBB ⊢;clear HW1;have k0:w1.drew.cell? ⟨G,0,none⟩=some (.string nm):=HBX.out.cell 0;have k1:w1.drew.cell? ⟨G,1,none⟩=some (.int .i64 me):=HBX.out.cell 1;have k2:w1.drew.cell? ⟨G,2,none⟩=some (.int .u32 (cr:Int)):=HBX.out.cell 2;have k3:w1.drew.cell? ⟨G,3,none⟩=some (.int .i64 pk):=HBX.out.cell 3;have k4:w1.drew.cell? ⟨G,4,none⟩=some (.int .i64 sz):=HBX.out.cell 4;have k5:w1.drew.cell? ⟨G,5,none⟩=some (.int .i64 pl):=HBX.out.cell 5;have CFd:=Qf (CF.out w1.drew)
 go_region_held3 (fun W=>W.cell? ⟨G,0,none⟩=some (.string nm)/\W.cell? ⟨G,1,none⟩=some (.int .i64 me)/\W.cell? ⟨G,2,none⟩=some (.int .u32 (cr:Int))/\W.cell? ⟨G,3,none⟩=some (.int .i64 pk)/\W.cell? ⟨G,4,none⟩=some (.int .i64 sz)/\W.cell? ⟨G,5,none⟩=some (.int .i64 pl))
  (first|exact⟨by assumption,by assumption,by assumption,by assumption,by assumption,by assumption⟩|go_keep)
  (first
   |(go_at_call 43;refine CFd.out.mono ?_;rintro e w8 ⟨rfl,hb8⟩;have HX8:=Qf (Blk.below (w:=w1.drew) HBX.out hb8 HBX.out.lt);have HB8:=Qf (Yk HBB.out.drew hb8);have q0:w8.cell? ⟨G,0,none⟩=some (.string nm):=HX8.out.cell 0;have q1:w8.cell? ⟨G,1,none⟩=some (.int .i64 me):=HX8.out.cell 1;have q2:w8.cell? ⟨G,2,none⟩=some (.int .u32 (cr:Int)):=HX8.out.cell 2;have q3:w8.cell? ⟨G,3,none⟩=some (.int .i64 pk):=HX8.out.cell 3;have q4:w8.cell? ⟨G,4,none⟩=some (.int .i64 sz):=HX8.out.cell 4;have q5:w8.cell? ⟨G,5,none⟩=some (.int .i64 pl):=HX8.out.cell 5;clear hb8))
 all_goals
  go_wp2_with fail;go_ret;exact⟨by rw[<-hlo.out];rfl,HB8.out⟩
def X6 (h:Hd):List UInt8:=[80,75,1,2]++fldL [(20,2)]++Va h++fldL [(0,10),(h.place,4)]++h.name.data.toList
def idxH (L:List Hd):List UInt8:=L.flatMap X6
def endL (n k:Nat) (at':Int):List UInt8:=[80,75,5,6]++fldL [(0,4),((k:Int),2),((k:Int),2),((n:Int),4),(at',4),(0,2)]
def YJ (L:List Hd) (at':Int):List UInt8:=idxH L++endL (idxH L).length L.length at'
theorem VC (h:Hd):(X6 h).length=46+h.name.size:=by
 unfold X6 fldL;simp only[List.flatMap_cons,List.flatMap_nil,List.length_append,Yq,List.length_nil,XD,List.length_cons];have:h.name.data.toList.length=h.name.size:=by simp
 omega
theorem Ycc (n k:Nat) (a:Int):(endL n k a).length=22:=by
 unfold endL fldL;simp only[List.flatMap_cons,List.flatMap_nil,List.length_append,Yq,List.length_nil,List.length_cons]
theorem Yc9 (L:List Hd) (j:Nat) (h:j<L.length):idxH (L.take (j+1))=idxH (L.take j)++X6 L[j]:=by
 unfold idxH;rw[List.take_succ_eq_append_getElem h,List.flatMap_append];simp
theorem YiN (L:List Hd) (j:Nat):(idxH (L.take j)).length<=(idxH L).length:=by
 have:idxH L=idxH (L.take j)++idxH (L.drop j):=by unfold idxH;rw[<-List.flatMap_append,List.take_append_drop]
 rw[this,List.length_append];omega
def HRow (w:World) (a:Option Addr) (L:List Hd):Prop:=∀k (hk:k<L.length),∃b off,a=some ⟨b,off,none⟩/\b<w.heap.size/\∀i v,(L[k]).cells[i]?=some v->w.cell? ⟨b,off+k*6+i,none⟩=some v
theorem HRow.below {B:Nat} {w w':World} {a:Option Addr} {L:List Hd} (h:HRow w a L) (hb:Below B w w') (hB:w.heap.size<=B):HRow w' a L:=fun k hk=>by
 obtain⟨b,off,rfl,hbl,hc⟩:=h k hk;exact⟨b,off,rfl,Qb hbl hb.size,fun i v hv=>(hb.cell (p:=⟨b,off+k*6+i,none⟩) (Qb hbl hB)).trans (hc i v hv)⟩
theorem Yo {w W:World} (h:Below w.heap.size w W) (o:Obj):Below w.heap.size w (W.alloc o):=h.alloc h.size o
theorem Ylt {W:World} {g t:Nat} {cs:Array Value} (h:Blk W g t cs) (o:Obj):Blk (W.alloc o) g t cs:=h.below ((Below.refl W.heap.size W).alloc (Qa _) o) h.lt
theorem Jp (g:Nat) (L:List (Int × Nat)) (n:Nat) (hn:L.length=n) (hL:n<=20) (hk:∀p ∈ L,1<=p.2/\p.2<=10) (w:World) (h:Blk w g 90 (pcs L)) :
 Calls Tryz.prog 44 #[.slice (some ⟨g,0,none⟩) n n] w fun e w'=>e=.returned (.string ⟨(fldL L).toArray⟩)/\Below w.heap.size w w':=by
 subst hn;exact Ybs g _ L hL hk w h
set_option maxHeartbeats 8000000 in
theorem Yc8 (L:List Hd) (a:Option Addr) (cap:Nat) (at':Int) (hL:L.length<=1000000) (hc:∀h ∈ L,h.crc<4294967296) (hn:∀h ∈ L,h.name.size<=1000000000) (ht:(idxH L).length<=50000000000) (w:World) (hr:HRow w a L) :
 Calls Tryz.prog 28 #[.slice a L.length cap,.int .i64 at'] w fun e w'=>e=.returned (.string ⟨(YJ L at').toArray⟩)/\Below w.heap.size w w':=by
 have HR:=Qf hr;have Hc:=Qf hc;have Hn:=Qf hn;have hb0:=(Below.refl w.heap.size w).alloc (Qa _) (.cells #[.pointer none,.slice none 0 0] 60);have hn0:=BldAt.new w;obtain⟨M,HM⟩:=Qi (L.length);rw[HM.out] at hL ⊢;obtain⟨B,HB⟩:=Qi (w.heap.size);have hBw:w.heap.size<=B:=by rw[HB.out];exact Qa _
 have HN0:Hid (BldAt (w.alloc (.cells #[.pointer none,.slice none 0 0] 60)) B (.slice none 0 0) (idxH (L.take 0))):=by rw[<-HB.out];exact hn0
 have HB0:=Qf hb0;clear hr hc hn hb0 hn0;go_enter Tryz.func28,Tryz.ntmps28;go_wp2_with fail;rw[HB.out];obtain⟨w1,HW1⟩:=Qi (w.alloc (.cells #[.pointer none,.slice none 0 0] 60));rw[HW1.out] at HN0 HB0 ⊢;clear HW1
 go_loopw [11] (fun j_ wr=>∃(j:Nat) (v:Value),j<=M/\j_=.int .i64 (j:Int)/\Hid (BldAt wr B v (idxH (L.take j)))/\Hid (Below w.heap.size w wr)) (fun j _=>M-(intOf j).toNat)
 case atStart=>exact⟨0,.slice none 0 0,Nat.zero_le _,rfl,HN0,HB0⟩
 clear HN0 HB0;obtain⟨j,v,hj,rfl,HN,HBl⟩:=hrel;by_cases hlt:j<M
 . obtain⟨dj,djb⟩:=Qj (show j<M by omega)
   have hjI:(j:Int)<(M:Int):=by omega
   have hjL:j<L.length:=by rw[HM.out];exact hlt
   obtain⟨b,off,rfl,hbl,hcl⟩:=(HR.out.below HBl.out (Qa _)) j hjL;have hmem:=List.getElem_mem hjL;have hcr:=Hc.out _ hmem;have hnm:=Hn.out _ hmem;have hsn:=Yc9 L j hjL;have hle:=YiN L (j+1);obtain⟨h,Hh⟩:=Qi (L[j]);rw[Hh.out] at hcl hcr hnm hsn;rw[hsn,List.length_append,VC] at hle;have CFa:=Qf (fun W=>Ydg h hcr W)
   have hfl:(⟨(Va h).toArray⟩:ByteArray).size=26:=by show(Va h).toArray.size=26;rw[List.size_toArray,XD]
   have CF1:Hid (∀W g,Blk W g 90 (pcs [(20,2)])->Calls Tryz.prog 44 #[.slice (some ⟨g,0,none⟩) 1 1] W fun e w'=>e=.returned (.string ⟨(fldL [(20,2)]).toArray⟩)/\Below W.heap.size W w'):=
    fun W g hB=>Jp g [(20,2)] 1 rfl (by decide) (by intro p hp;simp only[List.mem_cons,List.not_mem_nil,or_false] at hp;subst hp;exact⟨by decide,by decide⟩) W hB
   have CF2:Hid (∀W g,Blk W g 90 (pcs [(0,10),(h.place,4)])->Calls Tryz.prog 44 #[.slice (some ⟨g,0,none⟩) 2 2] W fun e w'=>e=.returned (.string ⟨(fldL [(0,10),(h.place,4)]).toArray⟩)/\Below W.heap.size W w'):=
    fun W g hB=>Jp g [(0,10),(h.place,4)] 2 rfl (by decide) (by intro p hp;simp only[List.mem_cons,List.not_mem_nil,or_false] at hp;rcases hp with rfl|rfl<;>exact⟨by show 1<=_;omega,by show _<=10;omega⟩) W hB
   have hf1:(⟨(fldL [(20,2)]).toArray⟩:ByteArray).size=2:=by show(fldL [(20,2)]).toArray.size=2;rw[List.size_toArray];unfold fldL;simp only[List.flatMap_cons,List.flatMap_nil,List.length_append,Yq,List.length_nil]
   have hf2:(⟨(fldL [(0,10),(h.place,4)]).toArray⟩:ByteArray).size=14:=by show(fldL [(0,10),(h.place,4)]).toArray.size=14;rw[List.size_toArray];unfold fldL;simp only[List.flatMap_cons,List.flatMap_nil,List.length_append,Yq,List.length_nil]
   have hall:Hid ((⟨#[80,75,1,2]⟩:ByteArray)++⟨(fldL [(20,2)]).toArray⟩++⟨(Va h).toArray⟩++⟨(fldL [(0,10),(h.place,4)]).toArray⟩++h.name=⟨(X6 h).toArray⟩):=by
    show _=_;unfold X6;apply ByteArray.ext;apply Array.ext';simp only[ByteArray.data_append,Array.toList_append]
   obtain⟨x1,Hx1⟩:=Qi ((⟨(fldL [(20,2)]).toArray⟩:ByteArray));obtain⟨x2,Hx2⟩:=Qi ((⟨(Va h).toArray⟩:ByteArray));obtain⟨x3,Hx3⟩:=Qi ((⟨(fldL [(0,10),(h.place,4)]).toArray⟩:ByteArray));obtain⟨x5,Hx5⟩:=Qi ((⟨(X6 h).toArray⟩:ByteArray))
   have Hx5d:Hid (x5.data.toList=X6 h):=by show _=_;rw[<-Hx5.out]
   have Hx5s:x5.size=46+h.name.size:=by rw[<-Hx5.out];show(X6 h).toArray.size=_;rw[List.size_toArray,VC]
   rw[Hx1.out] at CF1 hf1 hall;rw[Hx2.out] at CFa hfl hall;rw[Hx3.out] at CF2 hf2 hall;rw[Hx5.out] at hall;obtain⟨l0,Hl0⟩:=Qi (idxH (L.take j));rw[Hl0.out] at HN hsn hle;have CW:=Qf (fun (W:World) (hh:BldAt W B v l0)=>Xt B v l0 x5 (by rw[Hx5s];omega) W hh);have Hsn:=Qf hsn;obtain⟨nm,me,cr,pk,sz,pl⟩:=h;dsimp only at hcr hnm hall Hx5s hle CF2;unfold Hd.val at CFa;unfold Hd.cells at CFa hcl;dsimp only at CFa hcl;have k0:=hcl 0 _ rfl;have k1:=hcl 1 _ rfl;have k2:=hcl 2 _ rfl;have k3:=hcl 3 _ rfl;have k4:=hcl 4 _ rfl;have k5:=hcl 5 _ rfl;simp only[Nat.add_zero] at k0;have hal:=HBl.out.alloc HBl.out.size (.cells #[.string nm,.int .i64 me,.int .u32 (cr:Int),.int .i64 pk,.int .i64 sz,.int .i64 pl] 49);have hbn:=Blk.new wr 49 #[.string nm,.int .i64 me,.int .u32 (cr:Int),.int .i64 pk,.int .i64 sz,.int .i64 pl];have hna:=HN.out.below ((Below.refl wr.heap.size wr).alloc (Qa _) (.cells #[.string nm,.int .i64 me,.int .u32 (cr:Int),.int .i64 pk,.int .i64 sz,.int .i64 pl] 49));have HNa:=Qf hna;have hltv:=HN.out.lt;have hGB0:wr.heap.size ≠ B:=by omega
   have hvG0:v.ownBlock ≠ some wr.heap.size:=fun e=>by have:=(World.ownsRow.lt HN.out.2 _ e).2;omega
   have HGB0:=Qf hGB0;have HVG0:=Qf hvG0;have hov1:¬9223372036854775807<46+nm.size:=by omega
   have hov2:¬9223372036854775807<4+2+26+14+nm.size:=by omega
   clear hltv hGB0 hvG0;have HBa:=Qf hal;have HBn:=Qf hbn;clear hcl hbl hjL hmem hsn hal hbn hna HN HBl Hh Hx1 Hx2 Hx3 Hx5;obtain⟨G,HG⟩:=Qi (wr.heap.size);go_upto_region 5 with fail;rw[HG.out] at HBn HGB0 HVG0 ⊢;have hGB:G ≠ B:=HGB0.out;have hvG:v.ownBlock ≠ some G:=HVG0.out;clear HGB0 HVG0;obtain⟨w2,HW2⟩:=Qi (wr.alloc (.cells #[.string nm,.int .i64 me,.int .u32 (cr:Int),.int .i64 pk,.int .i64 sz,.int .i64 pl] 49));rw[HW2.out] at HNa HBa HBn ⊢;clear HW2 k0 k1 k2 k3 k4 k5;have q0:w2.drew.cell? ⟨G,0,none⟩=some (.string nm):=HBn.out.cell 0;have q1:w2.drew.cell? ⟨G,1,none⟩=some (.int .i64 me):=HBn.out.cell 1;have q2:w2.drew.cell? ⟨G,2,none⟩=some (.int .u32 (cr:Int)):=HBn.out.cell 2;have q3:w2.drew.cell? ⟨G,3,none⟩=some (.int .i64 pk):=HBn.out.cell 3;have q4:w2.drew.cell? ⟨G,4,none⟩=some (.int .i64 sz):=HBn.out.cell 4;have q5:w2.drew.cell? ⟨G,5,none⟩=some (.int .i64 pl):=HBn.out.cell 5;obtain⟨F,hF1,hF2⟩:∃F:Array Value->ByteArray,F #[.int .i64 20,.int .i64 2]=x1/\F #[.int .i64 0,.int .i64 10,.int .i64 pl,.int .i64 4]=x3:=⟨fun cs=>if cs.size=2 then x1 else x3,rfl,rfl⟩;have HF1:=Qf hF1;have HF2:=Qf hF2
   have CFg:Hid (∀(W:World) (g n:Nat) (cs:Array Value),Blk W g 90 cs->(n=1/\cs=#[.int .i64 20,.int .i64 2]\/n=2/\cs=#[.int .i64 0,.int .i64 10,.int .i64 pl,.int .i64 4])->Calls Tryz.prog 44 #[.slice (some ⟨g,0,none⟩) n n] W fun e w'=>e=.returned (.string (F cs))/\Below W.heap.size W w'):=by
    intro W g n cs hB h;rcases h with⟨rfl,rfl⟩|⟨rfl,rfl⟩
    . rw[hF1];exact CF1.out W g hB
    rw[hF2];exact CF2.out W g hB
   clear hF1 hF2 CF1 CF2
   have HS:Hid (∀W,Below w2.heap.size w2 W->W.cell? ⟨G,0,none⟩=some (.string nm)/\W.cell? ⟨G,1,none⟩=some (.int .i64 me)/\W.cell? ⟨G,2,none⟩=some (.int .u32 (cr:Int))/\W.cell? ⟨G,3,none⟩=some (.int .i64 pk)/\W.cell? ⟨G,4,none⟩=some (.int .i64 sz)/\W.cell? ⟨G,5,none⟩=some (.int .i64 pl)):=fun W hb=>by
    have h:=HBn.out.below hb HBn.out.lt;exact⟨h.cell 0,h.cell 1,h.cell 2,h.cell 3,h.cell 4,h.cell 5⟩
   have HS2:Hid (∀W,Blk W G 49 #[.string nm,.int .i64 me,.int .u32 (cr:Int),.int .i64 pk,.int .i64 sz,.int .i64 pl]->W.cell? ⟨G,0,none⟩=some (.string nm)/\W.cell? ⟨G,1,none⟩=some (.int .i64 me)/\W.cell? ⟨G,2,none⟩=some (.int .u32 (cr:Int))/\W.cell? ⟨G,3,none⟩=some (.int .i64 pk)/\W.cell? ⟨G,4,none⟩=some (.int .i64 sz)/\W.cell? ⟨G,5,none⟩=some (.int .i64 pl)):=fun W h=>⟨h.cell 0,h.cell 1,h.cell 2,h.cell 3,h.cell 4,h.cell 5⟩
   have CWc:Hid (∀(W:World),BldAt W B v l0->Calls Tryz.prog 25 #[.pointer (some ⟨B,0,none⟩),.string ((⟨#[80,75,1,2]⟩:ByteArray)++x1++x2++x3++nm)] W fun e W'=>e=.returned (.tuple #[.int .i64 (x5.size:Int),.nilIface])/\∃v',BldAt W' B v' (l0++x5.data.toList)/\Chg W W' B v/\Fresh W v v'):=by
    intro W hW;rw[hall.out];exact CW.out W hW
   clear CW Hx5s hle
   go_region_held3 (fun W=>W.cell? ⟨G,0,none⟩=some (.string nm)/\W.cell? ⟨G,1,none⟩=some (.int .i64 me)/\W.cell? ⟨G,2,none⟩=some (.int .u32 (cr:Int))/\W.cell? ⟨G,3,none⟩=some (.int .i64 pk)/\W.cell? ⟨G,4,none⟩=some (.int .i64 sz)/\W.cell? ⟨G,5,none⟩=some (.int .i64 pl))
    (first|exact HS2.out _ HX6|(refine HS.out _ ?_;(repeat' (first|with_reducible exact Below.refl _ _|with_reducible assumption|with_reducible apply Below.drew|with_reducible apply Yo))))
    (first
     |(go_at_call 43;refine(CFa.out _).mono ?_;rintro e w4 ⟨rfl,hb4⟩;have HB4:Below w2.heap.size w2 w4:=Yk (by(repeat' (first|with_reducible exact Below.refl _ _|with_reducible assumption|with_reducible apply Below.drew|with_reducible apply Yo))) hb4;have HK4:=(fun g t cs (hk:Blk _ g t cs)=>Blk.below hk hb4 hk.lt);clear hb4)
     |(go_at_call 25;refine(CWc.out _ (HNa.out.below (by(repeat' (first|with_reducible exact Below.refl _ _|with_reducible assumption|with_reducible apply Below.drew|with_reducible apply Yo))))).mono ?_;rintro e w6 ⟨rfl,v6,hn6,hc6,hf6⟩;have HN6:Hid (BldAt w6 B v6 (idxH (L.take (j+1)))):=(by show BldAt _ _ _ _;rw[Hsn.out,<-Hx5d.out];exact hn6);have HB6:=Qf (hc6.below (Yk HBa.out (by(repeat' (first|with_reducible exact Below.refl _ _|with_reducible assumption|with_reducible apply Below.drew|with_reducible apply Yo)))) hBw (fun g e=>by have:=(World.ownsRow.lt HNa.out.2 g e).1;omega));have HX6:Blk w6 G 49 #[.string nm,.int .i64 me,.int .u32 (cr:Int),.int .i64 pk,.int .i64 sz,.int .i64 pl]:=(hc6.2.2 G (Blk.lt (HBn.out.below (by(repeat' (first|with_reducible exact Below.refl _ _|with_reducible assumption|with_reducible apply Below.drew|with_reducible apply Yo))) HBn.out.lt)) hGB hvG).trans (HBn.out.below (by(repeat' (first|with_reducible exact Below.refl _ _|with_reducible assumption|with_reducible apply Below.drew|with_reducible apply Yo))) HBn.out.lt);clear hn6 hc6 hf6)
     |(go_at_call 44;refine(CFg.out _ _ _ _ (by(first|exact Blk.new _ _ _|exact heap_alloc2_new _ _ _|exact Blk.drew (Ylt (Blk.new _ _ _) _)|exact HK4 _ _ _ (Blk.new _ _ _)|exact HK4 _ _ _ (HK3 _ _ _ (heap_alloc2_new _ _ _))|exact HK4 _ _ _ (HK3 _ _ _ (Blk.drew (Ylt (Blk.new _ _ _) _))))) (by first|exact .inl ⟨rfl,rfl⟩|exact .inr ⟨rfl,rfl⟩)).mono ?_;rintro e w3 ⟨rfl,hb3⟩;(first|rw[HF1.out]|rw[HF2.out]);have HB3:Below w2.heap.size w2 w3:=Yk (by(repeat' (first|with_reducible exact Below.refl _ _|with_reducible assumption|with_reducible apply Below.drew|with_reducible apply Yo))) hb3;have HK3:=(fun g t cs (hk:Blk _ g t cs)=>Blk.below hk hb3 hk.lt);clear hb3))
   all_goals
    go_wp2_with fail;go_roundw
    case rel=>exact⟨j+1,v6,by omega,by go_num,HN6,HB6⟩
    simp[intOf];omega
 obtain rfl:j=M:=by omega
 have dj:decide ((j:Int)<(j:Int))=false:=Qh (by omega);have htk:idxH (L.take j)=idxH L:=by rw[<-HM.out,List.take_length]
 rw[htk] at HN;obtain⟨l0,Hl0⟩:=Qi (idxH L)
 have hend:Hid ((YJ L at')=l0++endL l0.length j at'):=by show _=_;unfold YJ;rw[Hl0.out,HM.out]
 rw[Hl0.out] at HN ht;have hl0:(l0.length:Int)<=50000000000:=by omega
 have CL:=Qf (Ybx B v l0 (by omega))
 have CF:Hid (∀W g,Blk W g 90 (pcs [(0,4),((j:Int),2),((j:Int),2),((l0.length:Int),4),(at',4),(0,2)])->Calls Tryz.prog 44 #[.slice (some ⟨g,0,none⟩) 6 6] W fun e w'=>e=.returned (.string ⟨(fldL [(0,4),((j:Int),2),((j:Int),2),((l0.length:Int),4),(at',4),(0,2)]).toArray⟩)/\Below W.heap.size W w'):=
  fun W g hB=>Jp g _ 6 rfl (by decide) (by intro p hp;simp only[List.mem_cons,List.not_mem_nil,or_false] at hp;rcases hp with rfl|rfl|rfl|rfl|rfl|rfl<;>exact⟨by show 1<=_;omega,by show _<=10;omega⟩) W hB
 have hfs:(⟨(fldL [(0,4),((j:Int),2),((j:Int),2),((l0.length:Int),4),(at',4),(0,2)]).toArray⟩:ByteArray).size=18:=by
  show(fldL _).toArray.size=18;rw[List.size_toArray];unfold fldL;simp only[List.flatMap_cons,List.flatMap_nil,List.length_append,Yq,List.length_nil]
 have hx5:Hid (((⟨#[80,75,5,6]⟩:ByteArray)++⟨(fldL [(0,4),((j:Int),2),((j:Int),2),((l0.length:Int),4),(at',4),(0,2)]).toArray⟩).data.toList=endL l0.length j at'):=by
  show _=_;unfold endL;simp only[ByteArray.data_append,Array.toList_append]
 obtain⟨x1,Hx1⟩:=Qi ((⟨(fldL [(0,4),((j:Int),2),((j:Int),2),((l0.length:Int),4),(at',4),(0,2)]).toArray⟩:ByteArray));rw[Hx1.out] at CF hfs hx5;obtain⟨EL,HEL⟩:=Qi (endL l0.length j at');rw[HEL.out] at hx5 hend;have hels:EL.length=22:=by rw[<-HEL.out,Ycc]
 have CW:Hid (∀(W:World),BldAt W B v l0->Calls Tryz.prog 25 #[.pointer (some ⟨B,0,none⟩),.string ((⟨#[80,75,5,6]⟩:ByteArray)++x1)] W fun e W'=>e=.returned (.tuple #[.int .i64 22,.nilIface])/\∃v',BldAt W' B v' (l0++EL)/\Chg W W' B v/\Fresh W v v'):=by
  intro W hW;have hz:((⟨#[80,75,5,6]⟩:ByteArray)++x1).size=22:=by rw[ByteArray.size_append,hfs];rfl
  have:=Xt B v l0 ((⟨#[80,75,5,6]⟩:ByteArray)++x1) (by rw[hz];omega) W hW;rw[hz,hx5.out] at this;exact this
 have hov1:¬9223372036854775807<(⟨#[80,75,5,6]⟩:ByteArray).size+x1.size:=by rw[hfs];decide
 obtain⟨n0,Hn0⟩:=Qi (l0.length);rw[Hn0.out] at CL CF hl0;have CSt:=Qf (fun v' W (h:BldAt W B v' (l0++EL)) (hb:Below w.heap.size w W)=>KE w B v' (l0++EL) (by rw[List.length_append];omega) W h hb hBw (.inl (by intro h;have:=congrArg List.length h;rw[List.length_append,hels] at this;simp at this)));have hpcs:pcs [(0,4),((j:Int),2),((j:Int),2),((n0:Int),4),(at',4),(0,2)]=#[.int .i64 0,.int .i64 4,.int .i64 (j:Int),.int .i64 2,.int .i64 (j:Int),.int .i64 2,.int .i64 (n0:Int),.int .i64 4,.int .i64 at',.int .i64 4,.int .i64 0,.int .i64 2]:=rfl;rw[hpcs] at CF;clear htk hx5 HEL Hx1 Hl0 hels hpcs;go_wp2_with fail;refine(CL.out _ HN.out).mono ?_;rintro e w2 ⟨rfl,rfl⟩;go_wp2_with fail;refine(CF.out _ _ (by exact Blk.new _ _ _)).mono ?_;rintro e w3 ⟨rfl,hb3⟩;have HB3:=Qf (Yk (Yo (Below.refl wr.heap.size wr) _) hb3);clear hb3;go_wp2_with fail;refine(CW.out _ (HN.out.below HB3.out)).mono ?_;rintro e w4 ⟨rfl,v4,hn4,hc4,hf4⟩;have HN4:=Qf hn4;have HB4:=Qf (hc4.below (Yk HBl.out HB3.out) hBw (fun g e=>by have:=(World.ownsRow.lt HN.out.2 g e).1;omega));clear hn4 hc4 hf4;go_wp2_with fail;refine(CSt.out v4 w4 HN4.out HB4.out).mono ?_;rintro e w5 ⟨rfl,hb5,_,_,_⟩;have HB5:=Qf hb5;clear hb5;go_wp2_with fail;go_ret;exact⟨by rw[hend.out];rfl,HB5.out⟩
open Go.RowKit Go.Lib
set_option maxRecDepth 100000
def prn (b:UInt8):Bool:=decide (33<=b.toNat)&&decide (b.toNat<=126)
def outR (r:Nat):Bool:=decide (r<=32)||decide (126<r)
theorem Yeh (n b0 b1 b2 b3:Nat) (h:126<b0):126<(decodeN n b0 b1 b2 b3).1:=by
 unfold decodeN
 repeat' split
 all_goals (dsimp only;omega)
theorem YgH (s:ByteArray) (i:Nat) (h:prn (s.get! i)=true):Utf8.decode s i=((s.get! i).toNat,1)/\outR (s.get! i).toNat=false:=by
 unfold prn at h;rw[Bool.and_eq_true,decide_eq_true_eq,decide_eq_true_eq] at h;refine⟨?_,?_⟩
 . rw[decode_at];unfold decodeN;rw[if_pos (by omega)]
 unfold outR;rw[Bool.or_eq_false_iff,decide_eq_false_iff_not,decide_eq_false_iff_not];omega
theorem YgI (s:ByteArray) (i:Nat) (h:prn (s.get! i)=false):outR (Utf8.decode s i).1=true:=by
 unfold prn at h;rw[Bool.and_eq_false_iff,decide_eq_false_iff_not,decide_eq_false_iff_not] at h;unfold outR;rw[Bool.or_eq_true,decide_eq_true_eq,decide_eq_true_eq];by_cases hb:126<(s.get! i).toNat
 . right;rw[decode_at];exact Yeh _ _ _ _ _ hb
 left;rw[decode_at];unfold decodeN;rw[if_pos (by omega)];show(s.get! i).toNat<=32;omega
open Go.RowKit Go.Lib Go.Shelf
set_option maxRecDepth 100000
theorem Yik (R:Nat) (hR:R<=1114111) (w:World):Calls Tryz.prog 31 #[.int .i32 (R:Int)] w fun e w'=>e=.returned (.bool (outR R))/\w=w':=by
 obtain⟨b1,h1⟩:∃b,decide (R<=32)=b:=⟨_,rfl⟩;obtain⟨b2,h2⟩:∃b,decide (126<R)=b:=⟨_,rfl⟩;have h1I:decide ((R:Int)<=32)=b1:=by rw[<-h1];congr 1;exact propext ⟨fun h=>by omega,fun h=>by omega⟩
 have h2I:decide ((126:Int)<(R:Int))=b2:=by rw[<-h2];congr 1;exact propext ⟨fun h=>by omega,fun h=>by omega⟩
 have hO:outR R=(b1||b2):=by rw[<-h1,<-h2];rfl
 rw[hO];clear hO;cases b1<;>cases b2
 all_goals
  go_enter Tryz.func31,Tryz.ntmps31;go_wp2_with fail;go_ret;exact⟨rfl,rfl⟩
set_option maxHeartbeats 2000000 in
theorem Ygt (s:ByteArray) (hs:s.size<=140737488351232) (w:World):Calls Tryz.prog 69 #[.string s,.func (.func 31) #[] #[],.bool true] w fun e w'=>Below w.heap.size w w'/\
 (((∀i,i<s.size->prn (s.get! i)=true)/\e=.returned (.int .i64 (-1)))\/(¬(∀i,i<s.size->prn (s.get! i)=true)/\∃n:Nat,n<s.size/\e=.returned (.int .i64 (n:Int)))):=by
 have e199:∀args w,(callFunc 31 args).run Tryz.prog w=.ok (.enter 31 args) w:=enters_of Tryz.func31 (by kernel_rfl) rfl;go_enter Tryz.func69,Tryz.ntmps69
 go_wp2
 go_loopg [] s.size (fun g wx=>∃pos:Nat,wx.heap[w.heap.size]?=some (.stringIter s pos)/\Below w.heap.size w wx/\(∀i,i<pos->prn (s.get! i)=true)/\pos<=s.size/\s.size<=pos+g)
 case atStart=>exact⟨0,World.iter_heap w s 0,(Below.refl _ w).alloc (Qa _) _,fun i hi=>by omega,by omega,by omega⟩
 obtain⟨pos,hit,hbw,hall,hps,hfu⟩:=hrel;have hsz:w.heap.size<wr.heap.size:=(Array.getElem?_eq_some_iff.1 hit).1;have Hall:=Qf hall;clear hall;by_cases hp:pos<s.size
 . obtain⟨g,rfl⟩:∃g,gk=g+1:=⟨gk-1,by omega⟩
   have hnx:∀ty,(Instr.next (.pointer (some ⟨w.heap.size,0,none⟩)) true ty).run Tryz.prog wr=_:=fun ty=>Lib.run_next_any_at wr w.heap.size s pos ty hit hp;have hr1:=Lib.rune_le s pos;obtain⟨R,hR⟩:∃R,(Utf8.decode s pos).1=R:=⟨_,rfl⟩;obtain⟨K,hK⟩:∃K,(Utf8.decode s pos).2=K:=⟨_,rfl⟩;rw[hR,hK] at hnx;rw[hR] at hr1;have hit2:=Lib.iterAt_heap wr w.heap.size s pos (pos+K) hit;have hbw2:=Lib.below_iterAt hbw (k:=w.heap.size) (Qa _) s (pos+K);obtain⟨W,hWd⟩:∃W,wr.iterAt w.heap.size s (pos+K)=W:=⟨_,rfl⟩;rw[hWd] at hnx hit2 hbw2;have cS:=Yik R hr1 W
   cases hsp:prn (s.get! pos) with
   |true=>
    obtain⟨hd,ho⟩:=YgH s pos hsp;obtain rfl:K=1:=(by rw[<-hK,hd]);have hRo:outR R=false:=(by rw[<-hR,hd];exact ho);rw[hRo] at cS;clear hd ho hRo hR hK
    go_wp2_with (go_at_fn 31;go_fit cS;rintro e W' ⟨rfl,rfl⟩)
    go_roundg g
    case measure=>omega
    exact⟨pos+1,hit2,hbw2,fun i hi=>by
     rcases Nat.lt_or_ge i pos with h|h
     . exact Hall.out i h
     obtain rfl:i=pos:=by omega
     exact hsp,by omega,by omega⟩
   |false=>
    have hRo:outR R=true:=(by rw[<-hR];exact YgI s pos hsp);rw[hRo] at cS;clear hRo hR hK
    go_wp2_with (go_at_fn 31;go_fit cS;rintro e W' ⟨rfl,rfl⟩)
    go_ret;exact⟨hbw2,.inr ⟨(fun h=>by rw[h pos hp] at hsp;cases hsp),pos,hp,rfl⟩⟩
 have hnx:∀ty,(Instr.next (.pointer (some ⟨w.heap.size,0,none⟩)) true ty).run Tryz.prog wr=_:=fun ty=>Lib.run_next_end_at wr w.heap.size s pos ty hit hp
 go_wp2
 go_ret;exact⟨hbw,.inl ⟨fun i hi=>Hall.out i (by omega),rfl⟩⟩
def nmOK (s:ByteArray):Prop:=s.size ≠ 0/\s.size<=64/\∀i,i<s.size->prn (s.get! i)=true
open Classical in
noncomputable def nmB (s:ByteArray):Bool:=decide (nmOK s)
open Classical in
theorem Ycg (s:ByteArray) (hs:s.size<=140737488351232) (w:World):Calls Tryz.prog 32 #[.string s,.func (.func 31) #[] #[]] w fun e w'=>Below w.heap.size w w'/\e=.returned (.bool (! decide (∀i,i<s.size->prn (s.get! i)=true))):=by
 have C1:=Qf (fun W=>Ygt s hs W);obtain⟨D,HD⟩:=Qi (decide (∀i,i<s.size->prn (s.get! i)=true));rw[HD.out];go_enter Tryz.func32,Tryz.ntmps32;go_wp2_with fail
 have C2:Calls Tryz.prog 48 #[.string s,.func (.func 31) #[] #[]] w fun e w'=>Below w.heap.size w w'/\
  (((∀i,i<s.size->prn (s.get! i)=true)/\e=.returned (.int .i64 (-1)))\/(¬(∀i,i<s.size->prn (s.get! i)=true)/\∃n:Nat,n<s.size/\e=.returned (.int .i64 (n:Int)))):=by
  go_enter Tryz.func48,Tryz.ntmps48;go_wp2_with fail;refine(C1.out w).mono ?_;rintro e w1 ⟨hb,h⟩;have Hb:=Qf hb;rcases h with⟨h,rfl⟩|⟨h,n,hn,rfl⟩
  . have H:=Qf h
    clear h hb;go_wp2_with fail;go_ret;exact⟨Hb.out,.inl ⟨H.out,rfl⟩⟩
  have H:=Qf h;clear h hb;go_wp2_with fail;go_ret;exact⟨Hb.out,.inr ⟨H.out,n,hn,rfl⟩⟩
 refine C2.mono ?_;rintro e w1 ⟨hb,h⟩;have Hb:=Qf hb;have HDo:=HD.out;rcases h with⟨h,rfl⟩|⟨h,n,hn,rfl⟩
 . have hD:D=true:=by rw[<-HDo];exact decide_eq_true h
   subst hD;clear h hb HDo HD;go_wp2_with fail;go_ret;exact⟨Hb.out,rfl⟩
 have hD:D=false:=by rw[<-HDo];exact decide_eq_false h
 subst hD;clear h hb HDo HD;go_wp2_with fail;go_ret;exact⟨Hb.out,rfl⟩
theorem Yb0 (s:ByteArray) (w:World):Calls Tryz.prog 17 #[.string s] w fun e w'=>Below w.heap.size w w'/\e=.returned (.bool (nmB s)):=by
 have Hb0:=Qf (Below.refl w.heap.size w);by_cases h0:s=⟨#[]⟩
 . subst h0
   have e:nmB ⟨#[]⟩=false:=by unfold nmB;rw[decide_eq_false_iff_not];exact fun h=>h.1 rfl
   rw[e];go_enter Tryz.func17,Tryz.ntmps17;go_wp2_with fail;go_ret;exact⟨Hb0.out,rfl⟩
 have hne:(s.toList==(⟨#[]⟩:ByteArray).toList)=false:=(bytes_beq_false_iff s ⟨#[]⟩).2 h0
 have hne2:¬s.toList=[]:=fun h=>by rw[h] at hne;exact absurd hne (by decide +kernel)
 have hne3:s.toList.isEmpty=false:=by cases hh:s.toList with|nil=>exact absurd hh hne2|cons _ _=>rfl
 have hz:s.size ≠ 0:=fun h=>h0 (by apply ByteArray.ext;exact Array.eq_empty_of_size_eq_zero h);by_cases h1:s.size<=64
 . have C1:=Qf (Ycg s (by omega))
   have d1:decide ((s.size:Int)<=64)=true:=Qg (by omega);have d2:decide (s.size<=64)=true:=Qg (by omega)
   have e:nmB s=decide (∀i,i<s.size->prn (s.get! i)=true):=by
    unfold nmB nmOK;congr 1;exact propext ⟨fun h=>h.2.2,fun h=>⟨hz,h1,h⟩⟩
   rw[e];obtain⟨D,HD⟩:=Qi (decide (∀i,i<s.size->prn (s.get! i)=true));rw[HD.out] at C1 ⊢;clear e;go_enter Tryz.func17,Tryz.ntmps17;go_wp2_with fail;refine(C1.out w).mono ?_;rintro e w1 ⟨hb,rfl⟩;have Hb:=Qf hb;clear hb;go_wp2_with fail;go_ret;exact⟨Hb.out,by cases D<;>rfl⟩
 have d1:decide ((s.size:Int)<=64)=false:=Qh (by omega);have d2:decide (s.size<=64)=false:=Qh (by omega)
 have e:nmB s=false:=by unfold nmB;rw[decide_eq_false_iff_not];exact fun h=>h1 h.2.1
 rw[e];go_enter Tryz.func17,Tryz.ntmps17;go_wp2_with fail;go_ret;exact⟨Hb0.out,rfl⟩
abbrev Fl:=ByteArray × ByteArray
def FRow (w:World) (a:Option Addr) (L:List Fl):Prop:=∀k (hk:k<L.length),∃b off,a=some ⟨b,off,none⟩/\b<w.heap.size/\w.cell? ⟨b,off+k*2,none⟩=some (.string (L[k]).1)/\w.cell? ⟨b,off+k*2+1,none⟩=some (.string (L[k]).2)
theorem FRow.below {B:Nat} {w w':World} {a:Option Addr} {L:List Fl} (h:FRow w a L) (hb:Below B w w') (hB:w.heap.size<=B):FRow w' a L:=fun k hk=>by
 obtain⟨b,off,rfl,hbl,c0,c1⟩:=h k hk;exact⟨b,off,rfl,Qb hbl hb.size,(hb.cell (p:=⟨b,off+k*2,none⟩) (Qb hbl hB)).trans c0,(hb.cell (p:=⟨b,off+k*2+1,none⟩) (Qb hbl hB)).trans c1⟩
def Xy (a b:ByteArray):Bool:=Op.bytesLess a.toList b.toList||(a.toList==b.toList)
noncomputable def chkL:ByteArray->List Fl->Nat
 |_,[]=>0
 |last,f::r=>if 65536<f.2.size then 2 else if !nmB f.1||Xy f.1 last then 4 else chkL f.1 r
noncomputable def chkF (L:List Fl):Nat:=if 200<L.length then 2 else chkL ⟨#[]⟩ L
set_option maxHeartbeats 4000000 in
theorem Ydn (L:List Fl) (a:Option Addr) (cap:Nat) (hL:L.length<=100000000) (w:World) (hr:FRow w a L) :
 Calls Tryz.prog 10 #[.slice a L.length cap] w fun e w'=>e=.returned (.int .i64 (chkF L:Int))/\Below w.heap.size w w':=by
 have HR:=Qf hr;have HB0:=Qf (Below.refl w.heap.size w);have HF:Hid (chkF L=if 200<L.length then 2 else chkL ⟨#[]⟩ L):=rfl;obtain⟨res,Hres⟩:=Qi (chkF L);rw[Hres.out] at HF ⊢;obtain⟨M,HM⟩:=Qi (L.length);rw[HM.out] at hL HF ⊢;clear hr;by_cases h200:200<M
 . have d1:decide ((200:Int)<(M:Int))=true:=Qg (by omega)
   have d1b:decide (200<M)=true:=Qg (by omega);have hres:res=2:=by rw[HF.out,if_pos h200]
   subst hres;clear HF;go_enter Tryz.func10,Tryz.ntmps10;go_wp2_with fail;go_ret;exact⟨rfl,HB0.out⟩
 have d1:decide ((200:Int)<(M:Int))=false:=Qh (by omega);have d1b:decide (200<M)=false:=Qh (by omega)
 have HF2:Hid (res=chkL ⟨#[]⟩ (L.drop 0)):=by show _=_;rw[HF.out,if_neg h200];rfl
 clear HF;go_enter Tryz.func10,Tryz.ntmps10;go_wp2_with fail
 go_loopw [3,11] (fun l_ j_ wr=>∃(j:Nat) (last:ByteArray),j<=M/\j_=.int .i64 (j:Int)/\l_=.string last/\Hid (res=chkL last (L.drop j))/\Hid (Below w.heap.size w wr)) (fun _ j _=>M-(intOf j).toNat)
 case atStart=>exact⟨0,⟨#[]⟩,Nat.zero_le _,rfl,rfl,HF2,HB0⟩
 clear HF2 HB0;obtain⟨j,last,hj,rfl,rfl,HC,HBl⟩:=hrel;by_cases hlt:j<M
 . have dj:decide ((j:Int)<(M:Int))=true:=Qg (by omega)
   have hjI:(j:Int)<(M:Int):=by omega
   have hjL:j<L.length:=by rw[HM.out];exact hlt
   obtain⟨b,off,rfl,hbl,c0,c1⟩:=(HR.out.below HBl.out (Qa _)) j hjL;have hC:=HC.out;rw[List.drop_eq_getElem_cons hjL] at hC;obtain⟨⟨nm,dt⟩,Hf⟩:∃R,Hid (L[j]=R):=⟨_,Qf (Eq.refl _)⟩;rw[Hf.out] at c0 c1 hC;dsimp only at c0 c1;have HC2:Hid (res=if 65536<dt.size then 2 else if !nmB nm||Xy nm last then 4 else chkL nm (L.drop (j+1))):=hC;have CN:=Qf (Yb0 nm);have hal:=HBl.out.alloc HBl.out.size (.cells #[.string nm,.string dt] 44);have hbn:=Blk.new wr 44 #[.string nm,.string dt];obtain⟨nb,Hnb⟩:=Qi (nmB nm);rw[Hnb.out] at CN HC2;obtain⟨x,hx⟩:∃R,Op.bytesLess nm.toList last.toList=R:=⟨_,rfl⟩;obtain⟨y,hy⟩:∃R,(nm.toList==last.toList)=R:=⟨_,rfl⟩;have hxy:Xy nm last=(x||y):=by unfold Xy;rw[hx,hy]
   rw[hxy] at HC2;have t0:(wr.alloc (.cells #[.string nm,.string dt] 44)).cell? ⟨wr.heap.size,0,none⟩=some (.string nm):=hbn.cell 0;have t1:(wr.alloc (.cells #[.string nm,.string dt] 44)).cell? ⟨wr.heap.size,1,none⟩=some (.string dt):=hbn.cell 1;have HBa:=Qf hal;have HBn:=Qf hbn;clear hC HC hxy hal hbn hjL hbl Hf;by_cases hbig:65536<dt.size
   . have d2:decide ((65536:Int)<(dt.size:Int))=true:=Qg (by omega)
     have d2b:decide (65536<dt.size)=true:=Qg (by omega);have hres:res=2:=(by rw[HC2.out,if_pos hbig]);subst hres;clear HC2;go_wp2_with fail;go_ret;exact⟨rfl,HBa.out⟩
   have d2:decide ((65536:Int)<(dt.size:Int))=false:=Qh (by omega);have d2b:decide (65536<dt.size)=false:=Qh (by omega)
   have HC3:Hid (res=if (!nb||(x||y))=true then 4 else chkL nm (L.drop (j+1))):=by show _=_;rw[HC2.out,if_neg hbig]
   clear HC2;go_wp2_with fail;refine(CN.out _).mono ?_;rintro e w3 ⟨hb3,rfl⟩;have HB3:=Qf (Yk HBa.out hb3);have h3:=HBn.out.below hb3 HBn.out.lt;have u0:w3.cell? ⟨wr.heap.size,0,none⟩=some (.string nm):=h3.cell 0;clear hb3 h3 t0 t1
   cases nb with
   |false=>
    have hres:res=4:=(by rw[HC3.out];rfl);subst hres;clear HC3;go_wp2_with fail;go_ret;exact⟨rfl,HB3.out⟩
   |true=>
    have HC4:Hid (res=if (x||y)=true then 4 else chkL nm (L.drop (j+1))):=HC3.out;clear HC3;by_cases hv:(x||y)=true
    . have hres:res=4:=by rw[HC4.out,if_pos hv]
      subst hres;clear HC4;cases x<;>cases y<;>simp at hv
      all_goals
       go_wp2_with fail;go_ret;exact⟨rfl,HB3.out⟩
    have hx2:x=false:=(by cases x<;>simp_all);have hy2:y=false:=by cases y<;>simp_all
    have HC5:Hid (res=chkL nm (L.drop (j+1))):=by show _=_;rw[HC4.out,if_neg hv]
    subst hx2 hy2;clear HC4 hv;go_wp2_with fail;go_roundw
    case rel=>exact⟨j+1,nm,by omega,by go_num,rfl,HC5,HB3⟩
    simp[intOf];omega
 obtain rfl:j=M:=by omega
 have dj:decide ((j:Int)<(j:Int))=false:=Qh (by omega);have hres:res=0:=by rw[HC.out,List.drop_of_length_le (by rw[HM.out];exact Qa _)];rfl
 subst hres;go_wp2_with fail;go_ret;exact⟨rfl,HBl.out⟩
def XP (s:ByteArray) (i:Nat):Hd:=⟨s.extract (i+46) (i+46+atN s (i+28) 2),(atN s (i+10) 2:Int),atN s (i+16) 4,(atN s (i+20) 4:Int),(atN s (i+24) 4:Int),(atN s (i+42) 4:Int)⟩
def XZ (s:ByteArray) (e:Nat):Nat->Nat->List Hd->Option (List Hd)
 |0,_,out=>some out
 |n+1,i,out=>if i<e then (if e-i<46\/e-(i+46)<atN s (i+28) 2 then none else XZ s e n (i+46+atN s (i+28) 2) (out++[XP s i])) else some out
noncomputable def Vx:ByteArray->List Hd->Bool
 |_,[]=>true
 |last,h::r=>if !nmB h.name||Xy h.name last then false else Vx h.name r
noncomputable def Yv (s:ByteArray):Except Nat (List Hd):=
 if 262144<s.size then .error 2 else if s.size<22 then .error 3 else
 if s.size-22<atN s (s.size-22+16) 4 then .error 3 else
 match XZ s (s.size-22) (atN s (s.size-22+8) 2) (atN s (s.size-22+16) 4) [] with
 |none=>.error 3
 |some l=>if l.length ≠ atN s (s.size-22+8) 2\/(YJ l (atN s (s.size-22+16) 4:Int)) ≠ (s.extract (atN s (s.size-22+16) 4) s.size).data.toList then .error 3 else
  if !Vx ⟨#[]⟩ l then .error 4 else if 200<atN s (s.size-22+8) 2 then .error 2 else .ok l
def Vf (L:List Hd):List Value:=L.flatMap fun h=>h.cells.toList
theorem Kx (L M:List Hd):Vf (L++M)=Vf L++Vf M:=by simp[Vf]
theorem UU:(Tryz.prog.info? 49).map (fun i=>(i.zero,i.size,i.bytes))=some (some (.agg #[.string ⟨#[]⟩,.int .i64 0,.int .u32 0,.int .i64 0,.int .i64 0,.int .i64 0]),6,56):=by kernel_rfl
def OwnH (w:World) (base:Nat) (v:Value) (L:List Hd):Prop:=w.ownsRow base 49 6 v L.length (Vf L)
theorem Ybq (h:Hd):∀u ∈ h.cells.toList,u.oneCell'=true:=by
 intro u hu;unfold Hd.cells at hu;simp only[List.mem_cons,List.not_mem_nil,or_false] at hu;rcases hu with rfl|rfl|rfl|rfl|rfl|rfl<;>rfl
theorem OwnH.snoc {w:World} {base:Nat} {v:Value} {L:List Hd} {h:Hd} (ho:w.ownsRow base 49 6 v (L.length+1) (Vf L++h.cells.toList)):OwnH w base v (L++[h]):=by
 unfold OwnH;rw[List.length_append,Kx];have e:Vf [h]=h.cells.toList:=by simp[Vf]
 rw[e];exact ho
theorem Ydc (L:List Hd) (k i:Nat) (v:Value) (hk:k<L.length) (h:(L[k]).cells[i]?=some v):(Vf L)[k*6+i]?=some v:=by
 induction L generalizing k with
 |nil=>cases hk
 |cons x r ih=>
  have e:Vf (x::r)=x.cells.toList++Vf r:=rfl;have hl:x.cells.toList.length=6:=rfl;rw[e]
  cases k with
  |zero=>
   have hi:i<6:=by
    rcases Nat.lt_or_ge i 6 with h1|h1
    . exact h1
    rw[Array.getElem?_eq_none (by exact h1)] at h;cases h
   rw[List.getElem?_append_left (by rw[hl];omega)];have h':x.cells[i]?=some v:=h;rw[Nat.zero_mul,Nat.zero_add,Array.getElem?_toList];exact h'
  |succ k=>
   rw[List.getElem?_append_right (by rw[hl];omega),hl,show(k+1)*6+i-6=k*6+i by omega];exact ih k (by simpa using hk) h
theorem OwnH.view {w:World} {base:Nat} {v:Value} {L:List Hd} (h:OwnH w base v L):∃a cap,v=.slice a L.length cap/\HRow w a L:=by
 have hlt:=World.ownsRow.lt h;have hc:=fun g hg=>World.ownsRow.cells h (g:=g) hg;rcases h.2 with⟨rfl,h0⟩|⟨G,cap,cur,rfl,_⟩
 . exact⟨none,0,by rw[h0],fun k hk=>by omega⟩
 refine⟨_,_,rfl,fun k hk=>⟨G,0,rfl,(hlt G rfl).2,fun i u hu=>?_⟩⟩
 have e0:∀j,(⟨G,0,none⟩:Addr).add j=⟨G,j,none⟩:=fun j=>by unfold Addr.add;split<;>simp_all
 have:=hc G rfl (k*6+i) u (Ydc L k i u hk hu);rw[e0] at this
 rwa [Nat.zero_add]
theorem YiS (x n:Nat):getN (putL x n)=x%256^n:=by
 induction n with
 |zero=>simp[getN,putL,Nat.mod_one]
 |succ n ih=>
  rw[putL,Ydd,ih,Yq,Nat.pow_succ,Nat.mod_mul]
  congr 2
  simp
theorem VO (s:ByteArray) (a b:Nat):(s.extract a b).data.toList=(s.data.toList.drop a).take (b-a):=by
 simp[List.extract_eq_take_drop]
theorem Ycl (s:ByteArray) (i n:Nat) (hn:n<=8):atN s i n=getN ((s.data.toList.drop i).take n):=by
 unfold atN;rw[VO,Nat.add_sub_cancel_left,List.take_take,Nat.min_eq_right hn]
theorem YmS {s:ByteArray} {i n x:Nat} {p q:List UInt8} (hn:n<=8) (h:s.data.toList=p++putL x n++q) (hp:p.length=i):atN s i n=x%256^n:=by
 rw[Ycl s i n hn,h,List.append_assoc,<-hp,List.drop_left,List.take_left' (Yq x n),YiS]
theorem YaD {s:ByteArray} {i:Nat} {p q:List UInt8} {m:ByteArray} (h:s.data.toList=p++m.data.toList++q) (hp:p.length=i):s.extract i (i+m.size)=m:=by
 apply ByteArray.ext;apply Array.ext';have hm:m.data.toList.length=m.size:=by simp
 rw[VO,Nat.add_sub_cancel_left,h,List.append_assoc,<-hp,List.drop_left,List.take_left' hm]
def Hd.Fit (h:Hd):Prop:=(0<=h.method/\h.method<65536)/\h.crc<4294967296/\(0<=h.packed/\h.packed<4294967296)/\(0<=h.size/\h.size<4294967296)/\(0<=h.place/\h.place<4294967296)/\h.name.size<65536
theorem Yhk {x:Int} (h:0<=x) (h2:x<18446744073709551616):u64 x=x.toNat:=by unfold u64;rw[Int.emod_eq_of_lt h h2]
theorem Yaz (x:Int) (n:Nat) (L:List (Int × Nat)):fldL ((x,n)::L)=putL (u64 x) n++fldL L:=rfl
theorem Yb9:fldL []=[]:=rfl
theorem JJ {s:ByteArray} {p:List UInt8} {i:Nat} (l r:List UInt8) (x n k:Nat) (hh:s.data.toList=p++(l++(putL x n++r))) (hn:n<=8) (hp:p.length=i) (hl:l.length=k):atN s (i+k) n=x%256^n:=
 YmS (p:=p++l) (q:=r) hn (by rw[hh];simp only[List.append_assoc]) (by rw[List.length_append,hp,hl])
theorem Ye7 {s:ByteArray} {i:Nat} {h:Hd} {p q:List UInt8} (hf:h.Fit) (hs:s.data.toList=p++X6 h++q) (hp:p.length=i):XP s i=h/\atN s (i+28) 2=h.name.size:=by
 obtain⟨nm,me,cr,pk,sz,pl⟩:=h;obtain⟨⟨a1,a2⟩,a3,⟨a4,a5⟩,⟨a6,a7⟩,⟨a8,a9⟩,a10⟩:=hf;dsimp only at a1 a2 a3 a4 a5 a6 a7 a8 a9 a10;unfold X6 Va Hd.nums at hs;simp only[Yaz,Yb9,List.append_nil,List.append_assoc] at hs;have n10:=JJ ([80,75,1,2]++putL (u64 20) 2++putL (u64 20) 2++putL (u64 0) 2) _ (u64 me) 2 10 (by simp only[List.append_assoc];exact hs) (by decide) hp (by simp only[List.length_append,Yq];rfl);have n16:=JJ ([80,75,1,2]++putL (u64 20) 2++putL (u64 20) 2++putL (u64 0) 2++putL (u64 me) 2++putL (u64 0) 4) _ (u64 (cr:Int)) 4 16 (by simp only[List.append_assoc];exact hs) (by decide) hp (by simp only[List.length_append,Yq];rfl);have n20:=JJ ([80,75,1,2]++putL (u64 20) 2++putL (u64 20) 2++putL (u64 0) 2++putL (u64 me) 2++putL (u64 0) 4++putL (u64 (cr:Int)) 4) _ (u64 pk) 4 20 (by simp only[List.append_assoc];exact hs) (by decide) hp (by simp only[List.length_append,Yq];rfl);have n24:=JJ ([80,75,1,2]++putL (u64 20) 2++putL (u64 20) 2++putL (u64 0) 2++putL (u64 me) 2++putL (u64 0) 4++putL (u64 (cr:Int)) 4++putL (u64 pk) 4) _ (u64 sz) 4 24 (by simp only[List.append_assoc];exact hs) (by decide) hp (by simp only[List.length_append,Yq];rfl);have n28:=JJ ([80,75,1,2]++putL (u64 20) 2++putL (u64 20) 2++putL (u64 0) 2++putL (u64 me) 2++putL (u64 0) 4++putL (u64 (cr:Int)) 4++putL (u64 pk) 4++putL (u64 sz) 4) _ (u64 (nm.size:Int)) 2 28 (by simp only[List.append_assoc];exact hs) (by decide) hp (by simp only[List.length_append,Yq];rfl);have n42:=JJ ([80,75,1,2]++putL (u64 20) 2++putL (u64 20) 2++putL (u64 0) 2++putL (u64 me) 2++putL (u64 0) 4++putL (u64 (cr:Int)) 4++putL (u64 pk) 4++putL (u64 sz) 4++putL (u64 (nm.size:Int)) 2++putL (u64 0) 2++putL (u64 0) 10) _ (u64 pl) 4 42 (by simp only[List.append_assoc];exact hs) (by decide) hp (by simp only[List.length_append,Yq];rfl);rw[Yhk (by omega) (by omega)] at n10 n16 n20 n24 n28 n42;have b2:(256:Nat)^2=65536:=rfl;have b4:(256:Nat)^4=4294967296:=rfl;rw[b2] at n10 n28;rw[b4] at n16 n20 n24 n42;have hn:atN s (i+28) 2=nm.size:=by rw[n28];omega
 refine⟨?_,hn⟩
 have hx:s.extract (i+46) (i+46+nm.size)=nm:=
  YaD (p:=p++([80,75,1,2]++putL (u64 20) 2++putL (u64 20) 2++putL (u64 0) 2++putL (u64 me) 2++putL (u64 0) 4++putL (u64 (cr:Int)) 4++putL (u64 pk) 4++putL (u64 sz) 4++putL (u64 (nm.size:Int)) 2++putL (u64 0) 2++putL (u64 0) 10++putL (u64 pl) 4)) (q:=q) (by rw[hs];simp only[List.append_assoc]) (by simp only[List.length_append,Yq,hp];rfl)
 unfold XP;rw[hn,hx,n10,n16,n20,n24,n42];have d1:((me.toNat%65536:Nat):Int)=me:=by omega
 have d2:((cr:Int)).toNat%4294967296=cr:=by omega
 have d3:((pk.toNat%4294967296:Nat):Int)=pk:=by omega
 have d4:((sz.toNat%4294967296:Nat):Int)=sz:=by omega
 have d5:((pl.toNat%4294967296:Nat):Int)=pl:=by omega
 rw[d1,d2,d3,d4,d5]
theorem YmF {s:ByteArray} {p:List UInt8} {n k:Nat} {a:Int} (hs:s.data.toList=p++endL n k a):s.size=p.length+22/\atN s (p.length+8) 2=k%65536/\atN s (p.length+16) 4=u64 a%4294967296:=by
 have hl:s.data.toList.length=s.size:=by simp
 refine⟨by rw[<-hl,hs,List.length_append,Ycc],?_,?_⟩
 . unfold endL at hs
   simp only[Yaz,Yb9,List.append_nil] at hs;have:=JJ ([80,75,5,6]++putL (u64 0) 4) _ (u64 (k:Int)) 2 8 (by simp only[List.append_assoc];exact hs) (by decide) rfl (by simp only[List.length_append,Yq];rfl);rw[this];show u64 (k:Int)%65536=_;unfold u64;omega
 unfold endL at hs;simp only[Yaz,Yb9,List.append_nil] at hs;have:=JJ ([80,75,5,6]++putL (u64 0) 4++putL (u64 (k:Int)) 2++putL (u64 (k:Int)) 2++putL (u64 (n:Int)) 4) _ (u64 a) 4 16 (by simp only[List.append_assoc];exact hs) (by decide) rfl (by simp only[List.length_append,Yq];rfl);rw[this]
theorem Ygv (s:ByteArray) (e:Nat):∀(M:List Hd) (i:Nat) (out:List Hd) (p q:List UInt8),(∀h ∈ M,h.Fit)->s.data.toList=p++idxH M++q->p.length=i->i+(idxH M).length=e->XZ s e M.length i out=some (out++M):=by
 intro M
 induction M with
 |nil=>intro i out p q _ _ _ _;simp[XZ]
 |cons h M ih=>
  intro i out p q hf hs hp he;have e1:idxH (h::M)=X6 h++idxH M:=rfl;rw[e1] at hs he;rw[List.length_append,VC] at he;obtain⟨g1,g2⟩:=Ye7 (s:=s) (i:=i) (p:=p) (q:=idxH M++q) (hf h (List.mem_cons_self ..)) (by rw[hs];simp only[List.append_assoc]) hp;show(if i<e then _ else _)=_;rw[if_pos (by omega),g2,g1,if_neg (by omega),ih _ (out++[h]) (p++X6 h) q (fun x hx=>hf x (List.mem_cons_of_mem _ hx)) (by rw[hs];simp only[List.append_assoc]) (by rw[List.length_append,hp,VC];omega) (by omega)];simp
theorem Jn (s:ByteArray) (i:Nat):(XP s i).Fit:=by
 have b2:∀j,atN s j 2<65536:=fun j=>by
  rw[Ycl s j 2 (by decide)];refine Qb (Yay _) (Qe (Nat.pow_le_pow_right (by decide) (?_:_<=2)) (by decide));rw[List.length_take];omega
 have b4:∀j,atN s j 4<4294967296:=fun j=>YaL s j 4 (by decide);have h10:=b2 (i+10);have h28:=b2 (i+28);have h16:=b4 (i+16);have h20:=b4 (i+20);have h24:=b4 (i+24);have h42:=b4 (i+42);unfold Hd.Fit XP;dsimp only;refine⟨⟨by omega,by omega⟩,h16,⟨by omega,by omega⟩,⟨by omega,by omega⟩,⟨by omega,by omega⟩,?_⟩;rw[ByteArray.size_extract];omega
theorem Jm (s:ByteArray) (e:Nat):∀(n i:Nat) (out l:List Hd),(∀h ∈ out,h.Fit)->XZ s e n i out=some l->∀h ∈ l,h.Fit:=by
 intro n
 induction n with
 |zero=>intro i out l ho h;injection h with h;subst h;exact ho
 |succ n ih=>
  intro i out l ho h;have h2:(if i<e then (if e-i<46\/e-(i+46)<atN s (i+28) 2 then none else XZ s e n (i+46+atN s (i+28) 2) (out++[XP s i])) else some out)=some l:=h;split at h2
  . split at h2
    . cases h2
    refine ih _ _ _ (fun x hx=>?_) h2;rw[List.mem_append,List.mem_singleton] at hx;rcases hx with hx|rfl
    . exact ho x hx
    exact Jn s i
  injection h2 with h2;subst h2;exact ho
theorem Yd4 (L:List Hd):46*L.length<=(idxH L).length:=by
 induction L with
 |nil=>exact Nat.zero_le _
 |cons h M ih=>
  have e1:idxH (h::M)=X6 h++idxH M:=rfl;rw[e1,List.length_append,VC,List.length_cons];omega
theorem YZ (L:List Hd) (a:Int):(YJ L a).length=(idxH L).length+22:=by
 unfold YJ;rw[List.length_append,Ycc]
theorem Ybo {s:ByteArray} {p:List UInt8} {L:List Hd} (hs:s.data.toList=p++YJ L (p.length:Int)) (hsz:s.size<=262144) (hf:∀h ∈ L,h.Fit) :
 Yv s=if !Vx ⟨#[]⟩ L then .error 4 else if 200<L.length then .error 2 else .ok L:=by
 have hl:s.data.toList.length=s.size:=by simp
 have hz:s.size=p.length+(idxH L).length+22:=by rw[<-hl,hs,List.length_append,YZ];omega
 have hge:=Yd4 L;obtain⟨h1,h2,h3⟩:=YmF (s:=s) (p:=p++idxH L) (n:=(idxH L).length) (k:=L.length) (a:=(p.length:Int)) (by rw[hs];unfold YJ;simp only[List.append_assoc]);rw[List.length_append] at h1 h2 h3;have he:s.size-22=p.length+(idxH L).length:=by omega
 rw[Yhk (by omega) (by omega)] at h3;have h2':atN s (s.size-22+8) 2=L.length:=by rw[he,h2];omega
 have h3':atN s (s.size-22+16) 4=p.length:=by rw[he,h3];omega
 have hx:(s.extract p.length s.size).data.toList=YJ L (p.length:Int):=by
  rw[VO,hs,List.drop_left,List.take_of_length_le];rw[YZ];omega
 unfold Yv;rw[if_neg (by omega),if_neg (by omega),h2',h3',if_neg (by omega),he];rw[Ygv s _ L p.length [] p (endL (idxH L).length L.length (p.length:Int)) hf (by rw[hs];unfold YJ;simp only[List.append_assoc]) rfl rfl];simp only[List.nil_append];rw[hx,if_neg (by intro h;rcases h with h|h<;>exact h rfl)]
theorem XO {s:ByteArray} {L:List Hd} (h:Yv s=.ok L):s.size<=262144/\(∀x ∈ L,x.Fit)/\Vx ⟨#[]⟩ L=true/\L.length<=200/\∃p,s.data.toList=p++YJ L (p.length:Int)/\atN s (s.size-22+16) 4=p.length:=by
 unfold Yv at h;by_cases c1:262144<s.size
 . rw[if_pos c1] at h;cases h
 rw[if_neg c1] at h;by_cases c2:s.size<22
 . rw[if_pos c2] at h;cases h
 rw[if_neg c2] at h;by_cases c3:s.size-22<atN s (s.size-22+16) 4
 . rw[if_pos c3] at h;cases h
 rw[if_neg c3] at h;generalize hfr:atN s (s.size-22+16) 4=fr at *;generalize hn:atN s (s.size-22+8) 2=n at *
 cases hL:XZ s (s.size-22) n fr [] with
 |none=>rw[hL] at h;cases h
 |some l=>
  rw[hL] at h;dsimp only at h;by_cases c4:l.length ≠ n\/YJ l (fr:Int) ≠ (s.extract fr s.size).data.toList
  . rw[if_pos c4] at h;cases h
  rw[if_neg c4] at h;by_cases c5:(!Vx ⟨#[]⟩ l)=true
  . rw[if_pos c5] at h;cases h
  rw[if_neg c5] at h;by_cases c6:200<n
  . rw[if_pos c6] at h;cases h
  rw[if_neg c6] at h;injection h with h;subst h;have c41:l.length=n:=Classical.byContradiction fun g=>c4 (.inl g);have c42:YJ l (fr:Int)=(s.extract fr s.size).data.toList:=Classical.byContradiction fun g=>c4 (.inr g);have hl:s.data.toList.length=s.size:=by simp
  have hpl:(s.data.toList.take fr).length=fr:=by rw[List.length_take];omega
  refine⟨by omega,Jm s _ _ _ [] l (fun _ hx=>by cases hx) hL,by simpa using c5,by omega,s.data.toList.take fr,?_,?_⟩
  . have e1:(s.data.toList.drop fr).take (s.size-fr)=s.data.toList.drop fr:=List.take_of_length_le (by rw[List.length_drop];omega)
    rw[hpl,c42,VO,e1,List.take_append_drop]
  rw[hpl]
def rget (s:ByteArray) (i n:Nat):Nat:=if s.size<i+n then 0 else atN s i n
def VR (s:ByteArray):Nat->Nat->List Hd->List Hd
 |0,_,out=>out
 |f+1,i,out=>if i+4<=s.size/\s.extract i (i+4)=⟨#[80,75,1,2]⟩/\i+46+rget s (i+28) 2<=s.size then VR s f (i+46+rget s (i+28) 2) (out++[XP s i]) else out
def YO (s:ByteArray):Nat:=if s.size<6 then 0 else atN s (s.size-6) 4
noncomputable def Yaj (s:ByteArray):Except Nat (List Hd):=
 if 262144<s.size then .error 2 else if s.size<YO s then .error 3 else
 if YJ (VR s (s.size+1) (YO s) []) (YO s:Int) ≠ (s.extract (YO s) s.size).data.toList then .error 3 else
 if !Vx ⟨#[]⟩ (VR s (s.size+1) (YO s) []) then .error 4 else if 200<(VR s (s.size+1) (YO s) []).length then .error 2 else .ok (VR s (s.size+1) (YO s) [])
theorem Yli (s:ByteArray) (i:Nat) (p q:List UInt8) (a b c d:UInt8) (h:s.data.toList=p++([a,b,c,d]++q)) (hp:p.length=i):s.extract i (i+4)=⟨#[a,b,c,d]⟩:=
 YaD (m:=⟨#[a,b,c,d]⟩) (p:=p) (q:=q) (by rw[h];simp only[List.append_assoc]) hp
theorem Yf3 (s:ByteArray):∀(M:List Hd) (f i:Nat) (out:List Hd) (p q:List UInt8),(∀h ∈ M,h.Fit)->s.data.toList=p++idxH M++([80,75,5,6]++q)->p.length=i->M.length<f->VR s f i out=out++M:=by
 intro M
 induction M with
 |nil=>
  intro f i out p q _ hs hp hf;obtain⟨f,rfl⟩:∃g,f=g+1:=⟨f-1,by simp at hf;omega⟩;have e1:idxH []=[]:=rfl;rw[e1,List.append_nil] at hs;show(if _ then _ else _)=_;rw[if_neg,List.append_nil];rw[Yli s i p q 80 75 5 6 hs hp];rintro ⟨_,h,_⟩;injection h with h;cases h
 |cons h M ih=>
  intro f i out p q hf hs hp hl;obtain⟨f,rfl⟩:∃g,f=g+1:=⟨f-1,by simp at hl;omega⟩;have e1:idxH (h::M)=X6 h++idxH M:=rfl;rw[e1] at hs;obtain⟨g1,g2⟩:=Ye7 (s:=s) (i:=i) (p:=p) (q:=idxH M++([80,75,5,6]++q)) (hf h (List.mem_cons_self ..)) (by rw[hs];simp only[List.append_assoc]) hp
  have hz:s.size=i+(46+h.name.size)+((idxH M).length+(4+q.length)):=by
   have hl:s.data.toList.length=s.size:=by simp
   rw[<-hl,hs];simp only[List.length_append,VC,hp,List.length_cons,List.length_nil];omega
  have g3:rget s (i+28) 2=h.name.size:=by unfold rget;rw[if_neg (by omega),g2]
  have g4:s.extract i (i+4)=⟨#[80,75,1,2]⟩:=by
   have e2:X6 h=[80,75,1,2]++(fldL [(20,2)]++Va h++fldL [(0,10),(h.place,4)]++h.name.data.toList):=by unfold X6;simp only[List.append_assoc]
   rw[e2] at hs;exact Yli s i p _ 80 75 1 2 (by rw[hs];simp only[List.append_assoc];rfl) hp
  show(if _ then _ else _)=_;rw[g3,if_pos ⟨by omega,g4,by omega⟩,g1,ih f _ (out++[h]) (p++X6 h) q (fun x hx=>hf x (List.mem_cons_of_mem _ hx)) (by rw[hs];simp only[List.append_assoc]) (by rw[List.length_append,hp,VC];omega) (by simpa using hl)];simp
theorem Ya6 (s:ByteArray):∀(f i:Nat) (out:List Hd),(∀h ∈ out,h.Fit)->∀h ∈ VR s f i out,h.Fit:=by
 intro f
 induction f with
 |zero=>intro i out ho;exact ho
 |succ f ih=>
  intro i out ho;rw[VR];split
  . refine ih _ _ fun x hx=>?_
    rw[List.mem_append,List.mem_singleton] at hx;rcases hx with hx|rfl
    . exact ho x hx
    exact Jn s i
  exact ho
theorem YgE (n k:Nat) (a:Int):endL n k a=[80,75,5,6]++fldL [(0,4),((k:Int),2),((k:Int),2),((n:Int),4),(a,4),(0,2)]:=rfl
theorem Yf6 (s:ByteArray):Yaj s=Yv s:=by
 have hl:s.data.toList.length=s.size:=by simp
 by_cases c1:262144<s.size
 . unfold Yaj Yv;rw[if_pos c1,if_pos c1]
 have hbad:∀(L:List Hd) (a:Nat),s.size<a+22->YJ L (a:Int) ≠ (s.extract a s.size).data.toList:=fun L a h e=>by
  have:=congrArg List.length e;rw[YZ,VO,List.length_take,List.length_drop] at this;omega
 by_cases c2:s.size<22
 . unfold Yaj Yv
   rw[if_neg c1,if_neg c1,if_pos c2];split
   . rfl
   rw[if_pos (hbad _ _ (by omega))]
 have hpl:YO s=atN s (s.size-22+16) 4:=by unfold YO;rw[if_neg (by omega),show s.size-22+16=s.size-6 by omega]
 unfold Yaj;rw[hpl];by_cases c3:s.size-22<atN s (s.size-22+16) 4
 . unfold Yv
   rw[if_neg c1,if_neg c1,if_neg c2,if_pos c3];split
   . rfl
   rw[if_pos (hbad _ _ (by omega))]
 generalize hfr:atN s (s.size-22+16) 4=fr at *;rw[if_neg c1,if_neg (by omega)];have hx:(s.extract fr s.size).data.toList=s.data.toList.drop fr:=by rw[VO,List.take_of_length_le (by rw[List.length_drop];omega)]
 by_cases hex:∃M:List Hd,(∀h ∈ M,h.Fit)/\YJ M (fr:Int)=(s.extract fr s.size).data.toList
 . obtain⟨M,hf,hM⟩:=hex
   have htl:(s.data.toList.take fr).length=fr:=by rw[List.length_take];omega
   have hs:s.data.toList=s.data.toList.take fr++YJ M ((s.data.toList.take fr).length:Int):=by rw[htl,hM,hx,List.take_append_drop]
   have hge:=Yd4 M;have hlen:=congrArg List.length hM;rw[YZ,hx,List.length_drop,hl] at hlen
   have hr:VR s (s.size+1) fr []=M:=by
    rw[Yf3 s M (s.size+1) fr [] (s.data.toList.take fr) (fldL [(0,4),((M.length:Int),2),((M.length:Int),2),(((idxH M).length:Int),4),(((s.data.toList.take fr).length:Int),4),(0,2)]) hf (by
     conv=>lhs;rw[hs]
     unfold YJ
     rw[YgE];simp only[List.append_assoc]) htl (by omega)]
    rfl
   rw[hr,Ybo hs (by omega) hf,hM,if_neg (fun h=>h rfl)]
 rw[if_pos (fun h=>hex ⟨_,Ya6 s _ _ [] (fun _ hx=>by cases hx),h⟩)];unfold Yv;rw[if_neg c1,if_neg c2,hfr,if_neg c3]
 cases hL:XZ s (s.size-22) (atN s (s.size-22+8) 2) fr [] with
 |none=>rfl
 |some l=>
  dsimp only;rw[if_pos (.inr fun h=>hex ⟨l,Jm s _ _ _ [] l (fun _ hx=>by cases hx) hL,h⟩)]
def SrcAt (w:World) (P:Nat) (s:ByteArray) (p:Nat):Prop:=Blk w P 176 #[.string s,.int .i64 (p:Int)]
def num (s:ByteArray):Nat:=leN s.data.toList
def YI (s:ByteArray) (p k:Nat):Nat:=num s/2^p%2^k
theorem YbW (s:ByteArray) (i:Nat) (h:i<s.size):num s/256^i%256=(s[i]).toNat:=by
 unfold num;rw[YkD _ i (by simpa using h)];rfl
theorem Ymb (s:ByteArray) (i:Nat) (h:¬i<s.size):num s/256^i%256=0:=Ymm s.data.toList i (by simpa using h)
theorem Yk7 (X q i:Nat):X/256^q%256^(i+1)=X/256^q%256^i+X/256^(q+i)%256*256^i:=by
 rw[Nat.pow_succ,Nat.mod_mul,Nat.div_div_eq_div_mul,<-Nat.pow_add,Nat.mul_comm (256^i)]
theorem Yll (z k:Nat) (hz:z<18446744073709551616) (hk:k<=32):bits .and .u64 (z:Int) ((2:Int)^k-1)=((z%2^k:Nat):Int):=by
 have hp:=YY k;have h6:2^k<=2^32:=Nat.pow_le_pow_right (by decide) hk;have h7:(2:Nat)^32=4294967296:=by decide
 have e:(2:Int)^k-1=((2^k-1:Nat):Int):=by
  have:(2:Int)^k=((2^k:Nat):Int):=by simp
  omega
 rw[e,u64_and_nat _ _ (by omega) (by omega),Yft]
theorem YjP (X p k:Nat) (hk:k<=32):(X/256^(p/8)%256^5)/2^(p%8)%2^k=X/2^p%2^k:=by
 have e:X/2^p=X/256^(p/8)/2^(p%8):=by
  rw[Nat.div_div_eq_div_mul,Xw,<-Nat.pow_add]
  congr 2
  omega
 rw[e];generalize X/256^(p/8)=Y;have h5:(256:Nat)^5=2^(p%8)*2^(40-p%8):=by rw[<-Nat.pow_add,show p%8+(40-p%8)=40 by omega]
 rw[h5,Nat.mod_mul_right_div_self];have h6:(2:Nat)^(40-p%8)=2^k*2^(40-p%8-k):=by rw[<-Nat.pow_add];congr 1;omega
 rw[h6,Nat.mod_mul_right_mod]
set_option maxHeartbeats 4000000 in
theorem Yaa (P:Nat) (s:ByteArray) (p k:Nat) (N:Int) (hN:JP N k) (hs:s.size<=100000000) (hp:p<=1000000000) (w:World) (hS:SrcAt w P s p) :
 Calls Tryz.prog 94 #[.pointer (some ⟨P,0,none⟩),.int .i64 N] w fun e w'=>e=.returned (.int .u32 (YI s p k:Int))/\SrcAt w' P s (p+k)/\w.grownBy w' (some P)/\w'.heap.size=w.heap.size:=by
 have hk:k<=32:=by unfold JP at hN;omega
 obtain⟨M1,hmin,hmax⟩:=Ydm N k hN;have c0:=hS.cell 0;have c1:=hS.cell 1;have cf:=hS.frozen 1;simp at c0 c1;have HS:=Qf hS;obtain⟨q,Hq⟩:=Qi (p/8);obtain⟨m,Hm⟩:=Qi (p%8)
 have hm8:m<8:=by have:=Hm.out;omega
 have e1:(p:Int)/8=(q:Int):=by have:=Hq.out;omega
 have e2:(p:Int).tdiv 8=(q:Int):=by rw[Int.tdiv_eq_ediv_of_nonneg (by omega)];exact e1
 have e3:(p:Int)%8=(m:Int):=by have:=Hm.out;omega
 have e4:(p:Int).tmod 8=(m:Int):=by rw[Int.tmod_eq_emod_of_nonneg (by omega)];exact e3
 have hq:q<=1000000000:=by have:=Hq.out;omega
 obtain⟨R,HR⟩:=Qi (YI s p k)
 have HR2:Hid ((num s/256^q%256^5)/2^m%2^k=R):=by show _=_;rw[<-Hq.out,<-Hm.out,YjP _ _ _ hk];exact HR.out
 rw[HR.out];clear hS hN;go_enter Tryz.func94,Tryz.ntmps94;go_wp2_with fail;clear hmin hmax
 go_loop [5,11] (fun u i=>∃j A:Nat,j<=5/\i=.int .i64 (j:Int)/\u=.int .u64 (A:Int)/\A<256^j/\Hid (A=num s/256^q%256^j)) (fun _ i=>5-(intOf i).toNat)
 case atStart=>exact⟨0,0,by omega,rfl,rfl,by decide,by show _=_;simp[Nat.mod_one]⟩
 obtain⟨j,A,hj,rfl,rfl,hA,HA⟩:=hrel;by_cases hlt:j<5
 . have h40:(256:Nat)^(j+1)<=256^5:=Nat.pow_le_pow_right (by decide) (by omega)
   have h41:(256:Nat)^5=1099511627776:=by decide
   have Hacc:=Qf (Yk7 (num s) q j);have Hlt2:Hid (num s/256^q%256^(j+1)<256^(j+1)):=Nat.mod_lt _ (Nat.pow_pos (by decide));by_cases hin:q+j<s.size
   . obtain⟨c,Hc⟩:=Qi ((s[q+j]).toNat)
     have hcl:c<256:=(by rw[<-Hc.out];exact UInt8.toNat_lt _);have Hn:=Qf ((YbW s (q+j) hin).trans Hc.out);obtain⟨t,Ht⟩:=Qi (8*j)
     have ht1:8*(j:Int)=(t:Int):=by have:=Ht.out;omega
     have htl:t<=32:=by have:=Ht.out;omega
     have hpt:(256:Nat)^j=2^t:=(by rw[Xw,Ht.out]);obtain⟨E,HE⟩:=Qi (c*2^t)
     have hEl:A+E<1099511627776:=by
      have h1:=Hlt2.out;rw[Hacc.out,<-HA.out,Hn.out,hpt,HE.out] at h1;omega
     have hw1:IntKind.u64.wrap ((c:Int)*2^t)=(E:Int):=by
      have e:(c:Int)*2^t=((c*2^t:Nat):Int):=(by simp);rw[e,HE.out,IntKind.wrap_u64];omega
     have hor:bits .or .u64 (A:Int) (E:Int)=((A+E:Nat):Int):=by
      rw[u64_or_nat _ _ (by omega) (by omega),<-HE.out,Yib _ _ _ (by rw[<-hpt];exact hA)]
     have HA2:Hid (A+E=num s/256^q%256^(j+1)):=by show _=_;rw[Hacc.out,<-HA.out,Hn.out,hpt,HE.out]
     have hin2:(q:Int)+(j:Int)<(s.size:Int):=by omega
     have hix:∀W,(Instr.index 9 (.string s) (.int .i64 ((q:Int)+(j:Int)))).run Tryz.prog W=.ok (.int .u8 (c:Int)) W:=fun W=>by
      have e:((q:Int)+(j:Int)).toNat=q+j:=(by omega);rw[run_index_string W 9 s .i64 ((q:Int)+(j:Int)) Tryz.underlying9,dif_pos ⟨by omega,by omega⟩];simp only[e,Hc.out]
     have hA3:A+E<256^(j+1):=(by rw[HA2.out];exact Hlt2.out);clear hpt hA;go_wp2_with fail
     go_round
     case rel=>exact⟨j+1,A+E,by omega,by go_num,by go_num,hA3,HA2⟩
     simp[intOf];omega
   have Hn:=Qf (Ymb s (q+j) hin)
   have HA2:Hid (A=num s/256^q%256^(j+1)):=by show _=_;rw[Hacc.out,<-HA.out,Hn.out];simp
   have hin2:¬(q:Int)+(j:Int)<(s.size:Int):=by omega
   have hA3:A<256^(j+1):=by rw[HA2.out];exact Hlt2.out
   go_wp2_with fail
   go_round
   case rel=>exact⟨j+1,A,by omega,by go_num,rfl,hA3,HA2⟩
   simp[intOf];omega
 obtain rfl:j=5:=by omega
 have h41:(256:Nat)^5=1099511627776:=by decide
 rw[h41] at hA;have hsh:(A:Int)/2^m=((A/2^m:Nat):Int):=by simp
 have hZl:A/2^m<18446744073709551616:=Nat.lt_of_le_of_lt (Nat.div_le_self _ _) (by omega);obtain⟨Z,HZ⟩:=Qi (A/2^m);have hmk:=Yll Z k (by rw[<-HZ.out];exact hZl) hk;have hZR:Z%2^k=R:=by rw[<-HZ.out,HA.out];exact HR2.out
 rw[hZR] at hmk;rw[HZ.out] at hsh;have hwk:=Yes k hk
 have hRl:R<4294967296:=by
  rw[<-hZR];exact Qb (Nat.mod_lt _ (Nat.pow_pos (by decide))) (Qe (Nat.pow_le_pow_right (by decide) hk) (by decide))
 have hwr:IntKind.u32.wrap (R:Int)=(R:Int):=by rw[IntKind.wrap_u32];omega
 have HGs:Hid (∀n,w.grownBy ((w.drewN n).setCell ⟨P,1,none⟩ (.int .i64 ((p:Int)+(k:Int)))) (some P)):=fun n=>
  ⟨rfl,rfl,rfl,by simp[World.setCell,World.drewN],fun g hg hne=>(heap_setCell_other (w.drewN n) _ _ _ (fun e=>hne (by rw[e])))⟩
 have HS2:Hid (∀n,SrcAt ((w.drewN n).setCell ⟨P,1,none⟩ (.int .i64 ((p:Int)+(k:Int)))) P s (p+k)):=by
  intro n;have HSs:=(HS.out.drewN n).set_ 1 (.int .i64 ((p:Int)+(k:Int)));show Blk _ _ _ _;have e:((p+k:Nat):Int)=(p:Int)+(k:Int):=by omega
  rw[e]
  simpa using HSs
 have HZs:Hid (∀n,((w.drewN n).setCell ⟨P,1,none⟩ (.int .i64 ((p:Int)+(k:Int)))).heap.size=w.heap.size):=fun n=>by simp[World.setCell,World.drewN]
 clear hZR hZl hA h41;go_wp2_with fail
 go_quiet (fail)
 all_goals
  go_wp2_with fail;go_ret;exact⟨rfl,HS2.out _,HGs.out _,HZs.out _⟩
theorem KV {w w1:World} {o:Obj} (h:Below (w.alloc o).heap.size (w.alloc o) w1):Below w.heap.size w w1:=
 ((Below.refl w.heap.size w).alloc (Qa _) o).trans (h.mono (by simp))
theorem Vm (w:World) (o:Obj):(w.alloc o).heap.size=w.heap.size+1:=by simp
theorem Yin (c:Nat) (hc:c<4294967296) (w:World):Calls Tryz.prog 121 #[.int .u64 1,.int .u64 (c:Int)] w fun e w'=>e=.returned (.tuple #[.int .u64 0,.int .u64 (c:Int)])/\w=w':=by
 have h1:bits .and .u64 (c:Int) 4294967295=(c:Int):=by
  have h:=Yll c 32 (by omega) (by decide);rw[show((2:Int)^32-1)=4294967295 by decide] at h;rw[h,Nat.mod_eq_of_lt (by omega)]
 have h2:bits .and .u64 1 4294967295=1:=by decide
 have h3:(c:Int)/4294967296=0:=by omega
 have h4:(c:Int)%18446744073709551616=(c:Int):=by omega
 have hw:IntKind.u64.wrap (c:Int)=(c:Int):=by rw[IntKind.wrap_u64];omega
 go_enter Tryz.func121,Tryz.ntmps121;go_wp2_with fail;go_ret2;exact⟨rfl,rfl⟩
theorem Yc6:(Tryz.prog.info? 107).map (fun i=>(i.zero,i.size,i.bytes))=some (some (.agg #[.int .u8 0,.int .i64 0,.int .i64 0]),3,24):=by kernel_rfl
end Go.Proofs.YthehocmfpoglgaaGreat
