/- Lemmas for ModelOrs (1 of 15). No conditions. -/
import Derived.Test.YthnogncknmhgoaaGreatRows
import Derived.WalkKit
import Derived.ProofKit
import Derived.OpenShut
import Derived.JoinedCond
import Derived.Lib.Hide
import Derived.Deep.QuietTactic
import Derived.BigQuiet
import Derived.StillTailTactics
import Derived.Laws.AppendOwnNone
import Derived.Deep.RegionHeld3
import Derived.WalkSpells
import Derived.Deep.DeepCutAuto
import Derived.Laws.Cover1
import Derived.Deep.LoopGhost
set_option linter.all false
set_option maxRecDepth 100000
set_option maxHeartbeats 485000000
open Go.Proofs.Tryz
namespace Go.Proofs.YthnogncknmhgoaaGreat
open Go
abbrev LV:=List Value
abbrev OA:=Option Addr
abbrev BA:=ByteArray
abbrev Wd:=World
abbrev Vl:=Value
abbrev a9:=@Nat.le_refl
abbrev b2:=@Nat.zero_le
abbrev hP:=@Nat.le_of_ble_eq_true
abbrev dS:=@Nat.le_trans
abbrev eH:=@List.nil_sublist
abbrev fL:=@List.getElem_mem
abbrev mR:=@List.eq_nil_of_length_eq_zero
abbrev g7:=@Nat.eq_of_beq_eq_true
abbrev hD:=@List.mem_cons_self
abbrev lA:=@Nat.lt_of_lt_of_le
abbrev iT:=@List.mem_cons_of_mem
abbrev jZ:=@List.mem_append_right
abbrev lz:=@List.mem_append_left
abbrev dX:=@List.mem_cons
abbrev fM:=@List.mem_append
abbrev tO:=@List.mem_singleton
end Go.Proofs.YthnogncknmhgoaaGreat
namespace Go.Proofs.YthnogncknmhgoaaGreat.bq
open ChangeShapes WideShapes ChangeAt RowKit
variable{uP:ChangeSpec}{dx:Func}{aj:LV}{OE:List MemPlace}{ae ao aX eO:Nat}{aA:OA}{fH D2:Obj}{az:Vl}{ah bR jU:Wd}
theorem own:ownKnob prog.godebug=none:=by kernel_rfl
theorem laidOut:laidOutB prog=true:=by kernel_rfl
def sq (P:Program) (ts:List TypeId):Bool:=ts.all fun t=>P.readableRec t&& decide (t<P.types.size)
theorem _root_.Go.RowKit.Below.drewN{B:Nat}{a w:Wd}(h:Below B a w)(n:Nat):Below B a (w.drewN n):=⟨h.os,h.tape,h.output,h.size,h.block⟩
theorem _root_.Go.RowKit.Below.after(b:Below ae ah bR)(a:ae≤bR.heap.size)(o:Obj)(h:Below (bR.alloc o).heap.size (bR.alloc o) jU):Below ae ah jU:=
 b.trans (((Below.refl ae bR).alloc a o).trans (h.mono (by simp;omega)))
theorem _root_.Go.RowKit.Below.yv(h:Below (ah.alloc fH).heap.size (ah.alloc fH) bR):Below ah.heap.size ah bR:=(Below.refl _ _).after (a9 _) fH h
theorem _root_.Go.RowKit.Below.call2(h:Below ((ah.alloc fH).alloc D2).heap.size ((ah.alloc fH).alloc D2) bR):Below ah.heap.size ah bR:=Below.yv (Below.yv h)
theorem _root_.Go.RowKit.Below.OD{n:Nat}(h:Below (ah.drewN n).heap.size (ah.drewN n) bR):Below ah.heap.size ah bR:=((Below.refl _ _).drewN n).trans h
theorem _root_.Go.RowKit.Below.jx(b:Below ae ah bR)(a:ae≤bR.heap.size)(h:Below bR.heap.size bR jU):Below ae ah jU:=b.trans (h.mono a)
section
variable{H:Type}{g5:TypeId×Vl→H}{P:Program}
theorem yw(g:laidOutB P=true){W W':Wd}(e:Below W.heap.size W W')(c:Nat→Bool):∀(ts:List TypeId) (vs:LV) (ds:List (DataW H)) (ps:List MemPlace),
 sq P ts=true→DataW.TrodAll g5 P W 0 (fun _=>true) true ts vs ds ps→(∀x∈ps,x.block<W.heap.size)→(∀x∈ps,c x.block=true)→DataW.TrodAll g5 P W' 0 c true ts vs ds ps
 |[],vs,ds,ps,_,h,_,_=>by
  obtain⟨rfl,rfl,rfl⟩:=trodAll_nil h
  exact trodAll_mk0
 |t::ts,vs,ds,ps,b,h,f,i=>by
  obtain⟨v,vs,d,ds,p,q,rfl,rfl,rfl,j,k⟩:=trodAll_cons h
  simp only[sq,List.all_cons,Bool.and_eq_true,decide_eq_true_eq] at b
  refine trodAll_cons_mk (WideElems.Trod_stays g b.1.1 b.1.2 j (fun x a=>e.same (f x (lz _ a))) (fun x a=>i x (lz _ a))) ?_
  exact yw g e c ts vs ds q (by simpa[sq] using b.2) k (fun x a=>f x (List.mem_append_right _ a)) (fun x a=>i x (List.mem_append_right _ a))
theorem D3(r:laidOutB P=true){args:Array Vl}{ds gs:List (DataW H)}
 (i:DataW.Whole g5 P dx.params.toList uP.vars false ah args.toList ds gs OE)
 (l:uP.vars=[]) (s:sq P dx.params.toList=true) (t:TypeId) (w:P.underlying t=some .bool) (u:dx.resultTypes=#[t])
 (n:ds.length=dx.params.toList.length→uP.fn H ds={results:=[.lit (.bool true)],args:=ds}) (j:Below ah.heap.size ah bR):
 uP.post g5 P dx false true false false ah args (.bool true) bR:=by
 have c:=i
 obtain⟨p,q,f,g,rfl,B,A⟩:=i
 rw[l] at g
 obtain⟨rfl,rfl⟩:=trodVars_none g
 have o:ds.length=dx.params.toList.length:=by
  have go:∀(ts:List TypeId) (vs:LV) (ds:List (DataW H)) (ps:List MemPlace),DataW.TrodAll g5 P ah 0 (fun _=>true) true ts vs ds ps→ds.length=ts.length:=by
   intro ts
   induction ts with
   |nil=>intro vs ds ps h;obtain⟨rfl,rfl,rfl⟩:=trodAll_nil h;rfl
   |cons t ts y=>
    intro vs ds ps h
    obtain⟨v,vs,d,ds,p,q,rfl,rfl,rfl,z,m⟩:=trodAll_cons h
    simp[y _ _ _ m]
  exact go _ _ _ _ f
 have e:=n o
 simp only[List.append_nil] at c
 have k:∀x∈p,x.block<ah.heap.size:=fun x a=>by simpa using c.lt x a
 have hold:∀x∈p,(fun b=>decide (b<ah.heap.size)) x.block=true:=fun x a=>by simpa using k x a
 refine⟨ds,[],p,[],p,[],c,?_,?_,?_,World.keptBut_mono (fun x a=>⟨a,?_⟩) (j.frame (·∈p)),fun h=>by cases h⟩
 ·simp only[List.append_nil,e,u]
  exact trodAll_cons_mk (shut_bool w _) trodAll_mk0
 ·simp only[List.append_nil,e]
  exact yw r j _ _ _ _ _ s f k hold
 ·simp only[List.append_nil,e,l]
  exact rfl
 ·simp[a]
end
def Src (w:World) (size:Nat) (A:Option Addr) (m:Nat) (xs:List Value):Prop:=
 xs.length=m*size∧(m=0∨∃b o,A=some ⟨b,o,none⟩∧∀j u,xs[j]?=some u→w.cell? ⟨b,o+j,none⟩=some u)
theorem Src.cells(h:Src ah ae (some ⟨ao,aX,none⟩) eO aj):∀j u,aj[j]?=some u→ah.cell? ((⟨ao,aX,none⟩:Addr).add j)=some u:=by
 intro j u hu
 rcases h.2 with a|⟨b',c,e,b⟩
 ·have:aj=[]:=List.eq_nil_of_length_eq_zero (by rw[h.1,a,Nat.zero_mul])
  subst this
  simp at hu
 ·injection e with e
  injection e with e1 e2
  subst e1 e2
  rw[show(⟨ao,aX,none⟩:Addr).add j=⟨ao,aX+j,none⟩ by unfold Addr.add;split<;>simp_all]
  exact b j u hu
theorem Src.k0{base e size n:Nat}{c:Nat}(h:ah.ownsRow base e size (.slice aA n c) n aj):Src ah size aA n aj:=by
 refine⟨h.1,?_⟩
 rcases h.2 with⟨_,b⟩|⟨g,cap,d,a,_⟩
 ·exact .inl b
 ·injection a with a
  subst a
  refine .inr ⟨g,0,rfl,fun j u hu=> ?_⟩
  have:=h.cells (g:=g) rfl j u hu
  rw[show(⟨g,0,none⟩:Addr).add j=⟨g,0+j,none⟩ by unfold Addr.add;split<;>simp_all] at this
  exact this
theorem oU{base e size n:Nat}(h:ah.ownsRow base e size az n aj):∃A cap,az= .slice A n cap∧n≤cap∧cap≤9223372036854775807:=by
 rcases h.2 with⟨rfl,rfl⟩|⟨g,cap,c,rfl,_,_,a,b,_⟩
 ·exact⟨none,0,rfl,a9 _,by omega⟩
 ·exact⟨_,cap,rfl,a,by unfold maxLen at b;omega⟩
theorem oV{base e size n:Nat}{c:Nat}(h:ah.ownsRow base e size (.slice aA n c) n aj):aA=none→c=0:=by
 rintro rfl
 rcases h.2 with⟨a,_⟩|⟨g,cap,b,a,_⟩
 ·injection a
 ·injection a with a
  cases a
theorem mg{base e size n B:Nat}(h:ah.ownsRow base e size az n aj)(j:Below B ah bR)(i:ah.heap.size≤B):bR.ownsRow base e size az n aj:=by
 refine⟨h.1,?_⟩
 rcases h.2 with b|⟨g,cap,a,c,d,h3,f⟩
 ·exact .inl b
 ·exact .inr ⟨g,cap,a,c,d,(j.block _ (lA (Array.getElem?_eq_some_iff.1 h3).1 i)).trans h3,f⟩
theorem yx{base a e size n:Nat}(h:ah.ownsRow base e size az n aj)(i:a≤base):ah.ownsRow a e size az n aj:=by
 refine⟨h.1,?_⟩
 rcases h.2 with c|⟨g,cap,b,d,f,h3⟩
 ·exact .inl c
 ·exact .inr ⟨g,cap,b,d,dS i f,h3⟩
theorem nL(w:Wd)(e size n:Nat)(cs:Array Vl)(a:cs.size=n*size)(b:n≤1048576):(w.alloc (.cells cs e)).ownsRow w.heap.size e size (.slice (some ⟨w.heap.size,0,none⟩) n n) n cs.toList:=
 ⟨by simp[a],.inr ⟨w.heap.size,n,cs,rfl,Nat.le_refl _,heap_alloc_new w _,Nat.le_refl _,by unfold maxLen;omega,a,by rw[←a,←Array.length_toList,List.take_length]⟩⟩
theorem sr{base e size n:Nat}(h:ah.ownsRow base e size az n aj)(b:ah.grownBy bR az.ownBlock)(a:base≤ah.heap.size):Below base ah bR:=
 (Below.refl _ _).grown b a fun k c=>(h.lt k c).1
end Go.Proofs.YthnogncknmhgoaaGreat.bq
namespace Go.Proofs.YthnogncknmhgoaaGreat.Data
open ChangeShapes WideShapes ChangeAt RowKit bq
variable{aj:LV}{ae ao aX:Nat}{aA:OA}{az:Vl}{ah bR:Wd}
inductive Ex where
 |mk (k:Int) (s:ByteArray) (n:Int) (ys:List Ex) (l:Int) (c:Int)
def Ex.k:Ex→Int| .mk k s n ys l c=>k
def Ex.s:Ex→ByteArray| .mk k s n ys l c=>s
def Ex.n:Ex→Int| .mk k s n ys l c=>n
def Ex.ys:Ex→List Ex| .mk k s n ys l c=>ys
def Ex.l:Ex→Int| .mk k s n ys l c=>l
def Ex.c:Ex→Int| .mk k s n ys l c=>c
def oW (A:Option Addr) (len cap:Nat):Prop:=len≤cap∧cap≤9223372036854775807∧len≤490000000∧(A=none→cap=0)
mutual
def Ex.At (w:World):Ex→Nat→Nat→Prop
 | .mk k s n ys l c,b,o=>∃(A:Option Addr) (cap:Nat),w.cell? ⟨b,o,none⟩=some (.int .i64 k)∧w.cell? ⟨b,o+1,none⟩=some (.string s)∧w.cell? ⟨b,o+2,none⟩=some (.int .i64 n)∧w.cell? ⟨b,o+3,none⟩=some (.slice A ys.length cap)∧w.cell? ⟨b,o+4,none⟩=some (.int .i64 l)∧w.cell? ⟨b,o+5,none⟩=some (.int .i64 c)∧
     oW A ys.length cap∧(ys=[]∨∃b' a,A=some ⟨b',a,none⟩∧gK w ys b' a)
def gK (w:World):List Ex→Nat→Nat→Prop
 |[],_,_=>True
 |e::r,b,o=>e.At w b o∧gK w r b (o+6)
end
def eG (w:World) (A:Option Addr) (es:List Ex):Prop:=es=[]∨∃b o,A=some ⟨b,o,none⟩∧gK w es b o
def Ex.jy (w:World) (v:Value):Ex→Prop
 | .mk k s n ys l c=>∃(A:Option Addr) (cap:Nat),v= .agg #[.int .i64 k,.string s,.int .i64 n,.slice A ys.length cap,.int .i64 l,.int .i64 c]∧oW A ys.length cap∧eG w A ys
theorem jz(b:Below ae ah bR)(a:ah.heap.size≤ae)(h:ah.cell? ⟨ao,aX,none⟩=some az):bR.cell? ⟨ao,aX,none⟩=some az:=
 (b.cell (p:=⟨ao,aX,none⟩) (lA (World.block_lt_of_cell? ah _ h) a)).trans h
mutual
theorem Ex.At.below{w g:Wd}{B:Nat}(d:Below B w g)(a:w.heap.size≤B):∀(e:Ex) (b o:Nat),e.At w b o→e.At g b o
 | .mk k s n ys l c,b,o,h=>by
   rw[Ex.At] at h⊢
   obtain⟨A,cap,i,c1,c2,c3,j,c5,hh,r⟩:=h
   refine⟨A,cap,jz d a i,jz d a c1,jz d a c2,jz d a c3,jz d a j,jz d a c5,hh,?_⟩
   rcases r with m|⟨b',f,p,q⟩
   ·exact .inl m
   ·exact .inr ⟨b',f,p,gK.below d a ys b' f q⟩
theorem gK.below{w d:Wd}{B:Nat}(c:Below B w d)(a:w.heap.size≤B):∀(es:List Ex) (b o:Nat),gK w es b o→gK d es b o
 |[],_,_,_=>by rw[gK];trivial
 |e::r,b,o,h=>by
  rw[gK] at h⊢
  exact⟨Ex.At.below c a e b o h.1,gK.below c a r b _ h.2⟩
end
mutual
def Ex.size:Ex→Nat
 | .mk k s n ys l c=>aO ys+1
def aO:List Ex→Nat
 |[]=>0
 |e::r=>e.size+aO r
end
theorem k1:∀es:List Ex,es.length≤aO es
 |[]=>by simp
 |e::r=>by
  have:=k1 r
  cases e
  simp only[aO,Ex.size,List.length_cons]
  omega
theorem Ex.size_mk(k:Int)(s:BA)(n:Int)(ys:List Ex)(l:Int)(c:Int):(Ex.mk k s n ys l c).size=aO ys+1:=by rw[Ex.size]
abbrev fh:=@Ex.size_mk
theorem oX:∀{es:List Ex} {i:Nat} (h:i<es.length),(es[i]).size≤aO es
 |[],i,h=>by simp at h
 |e::r,0,_=>by simp only[List.getElem_cons_zero,aO];omega
 |e::r,i+1,h=>by
  have:=oX (es:=r) (i:=i) (by simpa using h)
  simp only[List.getElem_cons_succ,aO];omega
theorem gL{ys:List Ex}{j:Nat}(h:j<ys.length):aO (ys.take (j+1))=aO (ys.take j)+(ys[j]).size:=by
 induction ys generalizing j with
 |nil=>simp at h
 |cons y r a=>
  cases j with
  |zero=>simp[aO]
  |succ j=>
   simp only[List.take_succ_cons,aO,List.getElem_cons_succ]
   rw[a (by simpa using h)]
   omega
def Ex.Cs (w:World):Ex→List Value→Prop
 | .mk k s n ys l c,cs=>∃(A:Option Addr) (cap:Nat),cs=[.int .i64 k,.string s,.int .i64 n,.slice A ys.length cap,.int .i64 l,.int .i64 c]∧oW A ys.length cap∧eG w A ys
def ee (w:World):List Ex→List Value→Prop
 |[],xs=>xs=[]
 |e::r,xs=>∃c rest,xs=c++rest∧e.Cs w c∧ee w r rest
variable{aM:Ex}
theorem Ex.Cs.len{c:LV}(h:aM.Cs ah c):c.length=6:=by
 cases aM
 obtain⟨A,cap,rfl,_⟩:=h
 rfl
theorem Ex.Cs.one{w:Wd}{e:Ex}{c:LV}(h:e.Cs w c):∀u∈c,u.oneCell'=true:=by
 cases e
 obtain⟨A,cap,rfl,_⟩:=h
 intro u hu
 simp at hu
 rcases hu with rfl|rfl|rfl|rfl|rfl|rfl<;>rfl
theorem ee.len{w:Wd}:∀{es:List Ex} {xs:LV},ee w es xs→xs.length=es.length*6
 |[],xs,h=>by rw[ee] at h;subst h;simp
 |e::r,xs,h=>by
  rw[ee] at h
  obtain⟨c,rest,rfl,a,b⟩:=h
  rw[List.length_append,a.len,b.len,List.length_cons];omega
theorem ee.append{w:Wd}:∀{es fs:List Ex} {xs zs:LV},ee w es xs→ee w fs zs→ee w (es++fs) (xs++zs)
 |[],fs,xs,zs,h,g=>by rw[ee] at h;subst h;exact g
 |e::r,fs,xs,zs,h,g=>by
  rw[ee] at h
  obtain⟨c,rest,rfl,a,b⟩:=h
  rw[List.cons_append,ee]
  exact⟨c,rest++zs,by rw[List.append_assoc],a,b.append g⟩
theorem ee.single{w:Wd}{e:Ex}{c:LV}(h:e.Cs w c):ee w [e] c:=by
 rw[ee]
 exact⟨c,[],by simp,h,by rw[ee]⟩
theorem gK.cells{w:Wd}{b:Nat}:∀{es:List Ex} {o:Nat},gK w es b o→∃xs,(∀j u,xs[j]?=some u→w.cell? ⟨b,o+j,none⟩=some u)∧ee w es xs
 |[],o,_=>⟨[],by simp,by rw[ee]⟩
 |e::r,o,h=>by
  rw[gK] at h
  obtain⟨a,g⟩:=h
  obtain⟨xs,g1,g2⟩:=gK.cells g
  cases e with
  |mk k s n ys l c=>
  rw[Ex.At] at a
  obtain⟨A,cap,d,c1,c2,c3,f,c5,hh,i⟩:=a
  refine⟨[.int .i64 k,.string s,.int .i64 n,.slice A ys.length cap,.int .i64 l,.int .i64 c]++xs,?_,by rw[ee];exact⟨_,xs,rfl,⟨A,cap,rfl,hh,i⟩,g2⟩⟩
  intro j u hu
  match j,hu with
  |0,hu=>simp at hu;subst hu;exact d
  |1,hu=>simp at hu;subst hu;exact c1
  |2,hu=>simp at hu;subst hu;exact c2
  |3,hu=>simp at hu;subst hu;exact c3
  |4,hu=>simp at hu;subst hu;exact f
  |5,hu=>simp at hu;subst hu;exact c5
  |j+6,hu=>
   have:=g1 j u (by simpa using hu)
   rw[show o+(j+6)=o+6+j by omega]
   exact this
theorem ee.row{w:Wd}{b:Nat}:∀{es:List Ex} {xs:LV} {o:Nat},ee w es xs→(∀j u,xs[j]?=some u→w.cell? ⟨b,o+j,none⟩=some u)→gK w es b o
 |[],_,_,_,_=>by rw[gK];trivial
 |e::r,xs,o,h,a=>by
  rw[ee] at h
  obtain⟨c,rest,rfl,d,f⟩:=h
  have hlen:=d.len
  rw[gK]
  refine⟨?_,f.row fun j u hu=> ?_⟩
  ·cases e with
   |mk k s n ys l c=>
   obtain⟨A,cap,rfl,hh,g⟩:=d
   rw[Ex.At]
   exact⟨A,cap,a 0 _ rfl,a 1 _ rfl,a 2 _ rfl,a 3 _ rfl,a 4 _ rfl,a 5 _ rfl,hh,g⟩
  ·have:=a (j+6) u (by rw[List.getElem?_append_right (by omega),hlen];simpa using hu)
   rw[show o+(j+6)=o+6+j by omega] at this
   exact this
theorem eG.cells{w:Wd}{A:OA}{es:List Ex}(h:eG w A es):∃xs,Src w 6 A es.length xs∧ee w es xs:=by
 rcases h with rfl|⟨b,o,rfl,h⟩
 ·exact⟨[],⟨by simp,.inl rfl⟩,by rw[ee]⟩
 ·obtain⟨xs,c,a⟩:=h.cells
  exact⟨xs,⟨a.len,.inr ⟨b,o,rfl,c⟩⟩,a⟩
variable{cv:List Ex}
theorem eG.mQ(h:Src ah 6 aA cv.length aj)(d:ee ah cv aj):eG ah aA cv:=by
 rcases h.2 with a|⟨b,o,rfl,c⟩
 ·exact .inl (mR a)
 ·exact .inr ⟨b,o,rfl,d.row c⟩
mutual
def Ex.flat:Ex→List Ex
 | .mk k s n ys l c=> .mk k s n ys l c::qn ys
def qn:List Ex→List Ex
 |[]=> []
 |e::r=>e.flat++qn r
end
mutual
theorem Ex.uQ:∀e:Ex,e.flat.length=e.size
 | .mk k s n ys l c=>by rw[Ex.flat,Ex.size,List.length_cons,yy ys]
theorem yy:∀es:List Ex,(qn es).length=aO es
 |[]=>by rw[qn,aO];rfl
 |e::r=>by rw[qn,aO,List.length_append,e.uQ,yy r]
end
inductive Ty where
 |mk (k:Int) (s:ByteArray) (n:Int) (ys:List Ty)
def Ty.k:Ty→Int| .mk k s n ys=>k
def Ty.n:Ty→Int| .mk k s n ys=>n
def yz (A:Option Addr) (len cap:Nat):Prop:=len≤cap∧cap≤9223372036854775807∧len≤490000000∧(A=none→cap=0)
mutual
def Ty.At (w:World):Ty→Nat→Nat→Prop
 | .mk k s n ys,b,o=>∃(A:Option Addr) (cap:Nat),w.cell? ⟨b,o,none⟩=some (.int .i64 k)∧w.cell? ⟨b,o+1,none⟩=some (.string s)∧w.cell? ⟨b,o+2,none⟩=some (.int .i64 n)∧w.cell? ⟨b,o+3,none⟩=some (.slice A ys.length cap)∧
     yz A ys.length cap∧(ys=[]∨∃b' a,A=some ⟨b',a,none⟩∧gM w ys b' a)
def gM (w:World):List Ty→Nat→Nat→Prop
 |[],_,_=>True
 |e::r,b,o=>e.At w b o∧gM w r b (o+4)
end
def k2 (w:World) (A:Option Addr) (es:List Ty):Prop:=es=[]∨∃b o,A=some ⟨b,o,none⟩∧gM w es b o
mutual
theorem Ty.At.below{w f:Wd}{B:Nat}(c:Below B w f)(a:w.heap.size≤B):∀(e:Ty) (b o:Nat),e.At w b o→e.At f b o
 | .mk k s n ys,b,o,h=>by
   rw[Ty.At] at h⊢
   obtain⟨A,cap,g,c1,c2,c3,hh,m⟩:=h
   refine⟨A,cap,jz c a g,jz c a c1,jz c a c2,jz c a c3,hh,?_⟩
   rcases m with i|⟨b',d,j,l⟩
   ·exact .inl i
   ·exact .inr ⟨b',d,j,gM.below c a ys b' d l⟩
theorem gM.below{w d:Wd}{B:Nat}(c:Below B w d)(a:w.heap.size≤B):∀(es:List Ty) (b o:Nat),gM w es b o→gM d es b o
 |[],_,_,_=>by rw[gM];trivial
 |e::r,b,o,h=>by
  rw[gM] at h⊢
  exact⟨Ty.At.below c a e b o h.1,gM.below c a r b _ h.2⟩
end
mutual
def Ty.size:Ty→Nat
 | .mk k s n ys=>gS ys+1
def gS:List Ty→Nat
 |[]=>0
 |e::r=>e.size+gS r
end
theorem Ty.size_mk(k:Int)(s:BA)(n:Int)(ys:List Ty):(Ty.mk k s n ys).size=gS ys+1:=by rw[Ty.size]
theorem jV:∀{es:List Ty} {i:Nat} (h:i<es.length),(es[i]).size≤gS es
 |[],i,h=>by simp at h
 |e::r,0,_=>by simp only[List.getElem_cons_zero,gS];omega
 |e::r,i+1,h=>by
  have:=jV (es:=r) (i:=i) (by simpa using h)
  simp only[List.getElem_cons_succ,gS];omega
def Ty.Cs (w:World):Ty→List Value→Prop
 | .mk k s n ys,cs=>∃(A:Option Addr) (cap:Nat),cs=[.int .i64 k,.string s,.int .i64 n,.slice A ys.length cap]∧yz A ys.length cap∧k2 w A ys
def iF (w:World):List Ty→List Value→Prop
 |[],xs=>xs=[]
 |e::r,xs=>∃c rest,xs=c++rest∧e.Cs w c∧iF w r rest
variable{bC:Ty}
theorem Ty.Cs.len{c:LV}(h:bC.Cs ah c):c.length=4:=by
 cases bC
 obtain⟨A,cap,rfl,_⟩:=h
 rfl
theorem Ty.Cs.one{w:Wd}{e:Ty}{c:LV}(h:e.Cs w c):∀u∈c,u.oneCell'=true:=by
 cases e
 obtain⟨A,cap,rfl,_⟩:=h
 intro u hu
 simp at hu
 rcases hu with rfl|rfl|rfl|rfl<;>rfl
theorem iF.len{w:Wd}:∀{es:List Ty} {xs:LV},iF w es xs→xs.length=es.length*4
 |[],xs,h=>by rw[iF] at h;subst h;simp
 |e::r,xs,h=>by
  rw[iF] at h
  obtain⟨c,rest,rfl,a,b⟩:=h
  rw[List.length_append,a.len,b.len,List.length_cons];omega
theorem gM.cells{w:Wd}{b:Nat}:∀{es:List Ty} {o:Nat},gM w es b o→∃xs,(∀j u,xs[j]?=some u→w.cell? ⟨b,o+j,none⟩=some u)∧iF w es xs
 |[],o,_=>⟨[],by simp,by rw[iF]⟩
 |e::r,o,h=>by
  rw[gM] at h
  obtain⟨a,d⟩:=h
  obtain⟨xs,g1,g2⟩:=gM.cells d
  cases e with
  |mk k s n ys=>
  rw[Ty.At] at a
  obtain⟨A,cap,c,c1,c2,c3,hh,f⟩:=a
  refine⟨[.int .i64 k,.string s,.int .i64 n,.slice A ys.length cap]++xs,?_,by rw[iF];exact⟨_,xs,rfl,⟨A,cap,rfl,hh,f⟩,g2⟩⟩
  intro j u hu
  match j,hu with
  |0,hu=>simp at hu;subst hu;exact c
  |1,hu=>simp at hu;subst hu;exact c1
  |2,hu=>simp at hu;subst hu;exact c2
  |3,hu=>simp at hu;subst hu;exact c3
  |j+4,hu=>
   have:=g1 j u (by simpa using hu)
   rw[show o+(j+4)=o+4+j by omega]
   exact this
theorem iF.row{w:Wd}{b:Nat}:∀{es:List Ty} {xs:LV} {o:Nat},iF w es xs→(∀j u,xs[j]?=some u→w.cell? ⟨b,o+j,none⟩=some u)→gM w es b o
 |[],_,_,_,_=>by rw[gM];trivial
 |e::r,xs,o,h,a=>by
  rw[iF] at h
  obtain⟨c,rest,rfl,d,f⟩:=h
  have hlen:=d.len
  rw[gM]
  refine⟨?_,f.row fun j u hu=> ?_⟩
  ·cases e with
   |mk k s n ys=>
   obtain⟨A,cap,rfl,hh,g⟩:=d
   rw[Ty.At]
   exact⟨A,cap,a 0 _ rfl,a 1 _ rfl,a 2 _ rfl,a 3 _ rfl,hh,g⟩
  ·have:=a (j+4) u (by rw[List.getElem?_append_right (by omega),hlen];simpa using hu)
   rw[show o+(j+4)=o+4+j by omega] at this
   exact this
theorem k2.cells{w:Wd}{A:OA}{es:List Ty}(h:k2 w A es):∃xs,Src w 4 A es.length xs∧iF w es xs:=by
 rcases h with rfl|⟨b,o,rfl,h⟩
 ·exact⟨[],⟨by simp,.inl rfl⟩,by rw[iF]⟩
 ·obtain⟨xs,c,a⟩:=h.cells
  exact⟨xs,⟨a.len,.inr ⟨b,o,rfl,c⟩⟩,a⟩
variable{b4:List Ty}
theorem k2.mQ(h:Src ah 4 aA b4.length aj)(d:iF ah b4 aj):k2 ah aA b4:=by
 rcases h.2 with a|⟨b,o,rfl,c⟩
 ·exact .inl (mR a)
 ·exact .inr ⟨b,o,rfl,d.row c⟩
mutual
def Ty.flat:Ty→List Ty
 | .mk k s n ys=> .mk k s n ys::qo ys
def qo:List Ty→List Ty
 |[]=> []
 |e::r=>e.flat++qo r
end
mutual
theorem Ty.uQ:∀e:Ty,e.flat.length=e.size
 | .mk k s n ys=>by rw[Ty.flat,Ty.size,List.length_cons,yA ys]
theorem yA:∀es:List Ty,(qo es).length=gS es
 |[]=>by rw[qo,gS];rfl
 |e::r=>by rw[qo,gS,List.length_append,e.uQ,yA r]
end
end Go.Proofs.YthnogncknmhgoaaGreat.Data
namespace Go.Proofs.YthnogncknmhgoaaGreat.bq
open ChangeShapes WideShapes ChangeAt RowKit
variable{cj:Act}{nM:Act→Wd→Prop}{dk:Array Oper}{dy:Exit→Act→Wd→Prop}{aj:LV}{gb:List Oper}{ea:Oper}{az:Vl}{ah:Wd}
def mS (w:World) (v a:Value):Prop:=a.ownBlock=v.ownBlock∨∃g,a.ownBlock=some g∧w.heap.size≤g
theorem mS.refl(w:Wd)(v:Vl):mS w v v:= .inl rfl
theorem ss{base e size n k:Nat}(h:ah.ownsRow base e size az n aj)(a:az.ownBlock=some k):base≤k∧k<ah.heap.size:=by
 rcases h.2 with⟨rfl,_⟩|⟨g,cap,c,rfl,b,h3,_⟩
 ·cases a
 ·injection a with a
  simp only at a
  subst a
  exact⟨b,(Array.getElem?_eq_some_iff.1 h3).1⟩
section
variable{P:Program}{w:Wd}
theorem D4(base:Nat)(t ty e:TypeId)(i:TypeInfo)(z:Vl)(size bytes:Nat)(p:P.underlying t=some (.slice e))(h:P.info? e=some i)(s:i.zero=some z)
 (B:i.size=size) (q:i.bytes=bytes) (J:z.cells.size=size) (I:0<size)
 (v:Vl) (n:Nat) (xs:LV) (l:w.ownsRow base e size v n xs) (ad:Addr) (m c:Nat) (news:LV) (b:news.length=m*size)
 (k:∀j u,news[j]?=some u→w.cell? (ad.add j)=some u) (x:∀u∈news,u.oneCell'=true) (y:n+m≤maxLen) (r:(n+m)*bytes≤140737488355328) (E:base≤w.heap.size):
 ∃d f,(Builtin.append_ #[t,t] ty #[v,.slice (some ad) m c]).run P w= .ok d f∧f.ownsRow base e size d (n+m) (xs++news)∧w.grownBy f v.ownBlock∧mS w v d:=by
 obtain⟨d,f,o,g1,g2,D⟩:=run_append_own w base t ty e i z size bytes p h s B q J I v n xs l ad m c news b k x y r E
 refine⟨d,f,o,g1,g2,?_⟩
 unfold maxLen at y
 subst B
 rcases l.2 with⟨rfl,rfl⟩|⟨g,cap,C,rfl,K,G,M,L,F,N⟩
 ·by_cases H:m=0
  ·rw[D.2 ⟨rfl,H⟩]
   exact mS.refl _ _
  ·subst q
   have a:=run_append_nil (P:=P) w t ty e i z p h s ad m c news b k (by omega) (by omega) (by rw[Nat.zero_add] at r;omega)
   rw[o] at a
   injection a with e1 e2
   subst e1
   exact .inr ⟨_,rfl,a9 _⟩
 ·by_cases A:n+m≤cap
  ·have a:=run_append_room (P:=P) w t ty e i p h g n cap C G ad m c news b k x A (by rw[b,F,←Nat.add_mul];exact Nat.mul_le_mul_right _ A)
   rw[o] at a
   injection a with e1 e2
   subst e1
   exact .inl rfl
  ·subst q
   have a:=run_append_grow (P:=P) w t ty e i z p h s ⟨g,0,none⟩ n cap xs l.1 (l.cells (g:=g) rfl) ad m c news b k (by omega) (by omega) (growslice_fits (by omega) r)
   rw[o] at a
   injection a with e1 e2
   subst e1
   exact .inr ⟨_,rfl,a9 _⟩
theorem D5(s x:Operand)(t:TypeId)
 (M:ea.op= .call {callee:= .builtin .append,args:=#[s,x],argTypes:=#[t,t]})
 (base:Nat) (e:TypeId) (i:TypeInfo) (z:Vl) (size bytes:Nat) (B:P.underlying t=some (.slice e)) (r:P.info? e=some i) (T:i.zero=some z)
 (Q:i.size=size) (H:i.bytes=bytes) (U:z.cells.size=size) (R:0<size)
 (v:Vl) (n:Nat) (xs:LV) (O:cj.eval s=v) (l:w.ownsRow base e size v n xs)
 (A:OA) (m c:Nat) (news:LV) (S:cj.eval x= .slice A m c) (g:Src w size A m news) (F:A=none→c=0) (D:∀u∈news,u.oneCell'=true)
 (E:n+m≤maxLen) (I:(n+m)*bytes≤140737488355328) (G:base≤w.heap.size)
 (h:∀a d,d.ownsRow base e size a (n+m) (xs++news)→w.grownBy d v.ownBlock→mS w v a→nM (cj.put ea.dst a) d):ea.wp P cj w nM dy:=by
 have q:∀a d,Sem.run P (Builtin.append_ #[t,t] ea.type #[v,.slice A m c]) w= .ok a d→nM (cj.put ea.dst a) d→ea.wp P cj w nM dy:=by
  intro a d o J
  unfold Oper.wp
  simp[execOp,M,resolve,invoke,builtin,O,S,o,Result.andThen]
  exact J
 have y:m=0→news=[]:=fun f=>List.eq_nil_of_length_eq_zero (by rw[g.1,f,Nat.zero_mul])
 cases A with
 |none=>
  have K:m=0:=by
   rcases g.2 with f|⟨b,ea,e,_⟩
   ·exact f
   ·cases e
  subst K
  have L:=y rfl
  subst L
  have p:=F rfl
  subst p
  have o:=run_append_owned_none (P:=P) (w:=w) base t ea.type e i size B r v n xs l
  exact q v w o (h v w (by simpa using l) (World.grownBy.refl w _) (mS.refl _ _))
 |some ad=>
  obtain⟨a,d,N,g1,g2,C⟩:=D4 (P:=P) base t ea.type e i z size bytes B r T Q H U R v n xs l ad m c news g.1 (by
   rcases g.2 with f|⟨b,V,k,p⟩
   ·intro j u hu
    rw[y f] at hu
    simp at hu
   ·injection k with k
    subst k
    exact g.cells) D E I G
  exact q a d N (h a d g1 g2 C)
theorem su(q:ea.guard=none)(s x:Operand)(t:TypeId)
 (y:ea.op= .call {callee:= .builtin .append,args:=#[s,x],argTypes:=#[t,t]})
 (base:Nat) (e:TypeId) (i:TypeInfo) (z:Vl) (size bytes:Nat) (G:P.underlying t=some (.slice e)) (r:P.info? e=some i) (I:i.zero=some z)
 (D:i.size=size) (o:i.bytes=bytes) (J:z.cells.size=size) (F:0<size)
 (v:Vl) (n:Nat) (xs:LV) (C:cj.eval s=v) (B:w.ownsRow base e size v n xs)
 (A:OA) (m c:Nat) (news:LV) (H:cj.eval x= .slice A m c) (E:Src w size A m news) (j:A=none→c=0) (f:∀u∈news,u.oneCell'=true)
 (g:n+m≤maxLen) (p:(n+m)*bytes≤140737488355328) (l:base≤w.heap.size)
 (h:∀a b,b.ownsRow base e size a (n+m) (xs++news)→w.grownBy b v.ownBlock→mS w v a→wpList P dk dy gb (cj.put ea.dst a) b):wpList P dk dy (ea::gb) cj w:=
 wpList_plain q fun K k=>D5 s x t y base e i z size bytes G r I D o J F v n xs C B A m c news H E j f g p l fun a b g1 g2 d=>k _ _ (h a b g1 g2 d)
end
end Go.Proofs.YthnogncknmhgoaaGreat.bq
namespace Go.Proofs.YthnogncknmhgoaaGreat.lB
open ChangeShapes WideShapes ChangeAt RowKit bq
variable{aY:BA}{ec:List BA}{ae:Nat}
def nN (w:World) (v:Value) (l:List ByteArray):Prop:=
 ∃(A:Option Addr) (cap:Nat),v= .slice A l.length cap∧l.length≤cap∧cap≤9223372036854775807∧l.length≤490000000∧(A=none→cap=0)∧Src w 1 A l.length (l.map Value.string)
theorem nN.cell{w:Wd}{A:OA}{l:List BA}(h:Src w 1 A l.length (l.map Value.string))(j:Nat)(c:j<l.length):∃b o,A=some ⟨b,o,none⟩∧b<w.heap.size∧w.cell? ⟨b,o+j,none⟩=some (.string l[j]):=by
 rcases h.2 with d|⟨b,o,e,a⟩
 ·omega
 ·have:=a j (.string l[j]) (by simp[List.getElem?_map,List.getElem?_eq_getElem c])
  exact⟨b,o,e,World.block_lt_of_cell? _ _ this,this⟩
theorem nN.k0{w:Wd}{base e:Nat}{v:Vl}{l:List BA}(h:w.ownsRow base e 1 v l.length (l.map Value.string))(c:l.length≤490000000):nN w v l:=by
 obtain⟨A,cap,rfl,a,b⟩:=oU h
 exact⟨A,cap,rfl,a,b,c,oV h,Src.k0 h⟩
def lC (l:List ByteArray) (s:ByteArray):Bool:=l.any fun x=>decide (s.toList=x.toList)
theorem D6(a:ae<ec.length)(h:aY.toList=(ec[ae]).toList):lC ec aY=true:=by
 rw[lC,List.any_eq_true]
 exact⟨_,List.getElem_mem a,by simpa using h⟩
theorem D7(b:∀j (a:j<ec.length),¬aY.toList=(ec[j]).toList):lC ec aY=false:=by
 rw[Bool.eq_false_iff,lC,Ne,List.any_eq_true]
 rintro⟨x,c,h⟩
 obtain⟨j,a,rfl⟩:=List.getElem_of_mem c
 exact b j a (by simpa using h)
theorem yB(w:Wd)(v:Vl)(l:List BA)(s:BA)(q:nN w v l):
 Calls prog 41 #[v,.string s] w fun r t=>r= .returned (.bool (lC l s))∧w=t:=by
 obtain⟨A,cap,rfl,u,y,h3,z,g⟩:=q
 go_enter func41,ntmps41
 go_wp2_with fail
 go_loop [9] (fun i=>∃k:Nat,i= .int .i64 k∧k≤l.length∧Hid (∀j (c:j<l.length),j<k→¬s.toList=(l[j]).toList)) (fun i=>l.length -(intOf i).toNat)
 case atStart=>exact⟨0,rfl,b2 _,fun _ _ h=>absurd h (Nat.not_lt_zero _)⟩
 case round=>
  obtain⟨k,rfl,D,f⟩:=hrel
  by_cases m:k<l.length
  ·obtain⟨b,o,rfl,B,C⟩:=nN.cell g k m
   clear g
   by_cases a:s.toList=(l[k]).toList
   ·have d:=Lib.hid (D6 m a)
    generalize l[k]=x at*
    have p:=a.symm
    clear a
    go_wp2_with fail
    go_ret
    exact⟨by rw[d.out];rfl,rfl⟩
   ·have n:Hid (∀j (c:j<l.length),j<k+1→¬s.toList=(l[j]).toList):=by
     intro j c h
     by_cases e:j=k
     ·subst e;exact a
     ·exact f.out j c (by omega)
    clear f
    generalize l[k]=x at*
    have p:(x.toList==s.toList)=false:=by simpa using fun h=>a h.symm
    clear a
    go_wp2_with fail
    exact⟨⟨k+1,by go_num,by omega,n⟩,by simp[intOf];omega⟩
  ·have d:=Lib.hid (D7 (fun j c=>f.out j c (by omega)))
   go_wp2_with fail
   go_ret
   exact⟨by rw[d.out];rfl,rfl⟩
end Go.Proofs.YthnogncknmhgoaaGreat.lB
namespace Go.Proofs.YthnogncknmhgoaaGreat.Lx
open ChangeShapes WideShapes ChangeAt RowKit bq Data lB
variable{hg:Array Vl}{aY:BA}{bi:Int}{aj:LV}{ae ao:Nat}{Ei:Nat×Nat}{fH:Obj}{aH:TypeId}{az cM fp hz je:Vl}{ah bR jU nP oZ:Wd}
theorem D8(w:Wd)(s:BA)(b:Int)(f:s.size≤1048576):Calls prog 99 #[.string s,.int .u8 b] w fun r a=>(∃x:Bool,r= .returned (.bool x))∧w=a:=by
 go_enter func99,ntmps99
 go_wp2_with fail
 go_loopw [5] (fun i c=>∃j:Nat,i= .int .i64 j∧j≤s.size∧w=c) (fun i _=>s.size -(intOf i).toNat)
 case atStart=>exact⟨0,rfl,b2 _,rfl⟩
 case round=>
  obtain⟨j,rfl,d,rfl⟩:=hrel
  by_cases e:j<s.size
  ·go_wp2_with fail
   ·go_ret
    exact⟨⟨_,rfl⟩,rfl⟩
   ·exact⟨⟨j+1,by go_num,by omega,trivial⟩,by simp[intOf];omega⟩
  ·go_wp2_with fail
   go_ret
   exact⟨⟨_,rfl⟩,rfl⟩
def oY (b c:Int):Prop:=if 97≤b∧b≤122 then c=1 else if 65≤b∧b≤90 then c=2 else if 48≤b∧b≤57 then c=3 else if b=32 then c=4 else if b=10 then c=5 else c=0∨c=6
theorem D9{b c:Int}(h:(97≤b∧b≤122∧c=1)∨(65≤b∧b≤90∧c=2)∨(48≤b∧b≤57∧c=3)∨(b=32∧c=4)∨(b=10∧c=5)∨(¬(97≤b∧b≤122)∧¬(65≤b∧b≤90)∧¬(48≤b∧b≤57)∧¬b=32∧¬b=10∧(c=0∨c=6))):oY b c:=by
 unfold oY
 repeat' split
 all_goals omega
theorem uR(w:Wd)(b:Int):Calls prog 79 #[.int .u8 b] w fun r n=>(∃c:Int,r= .returned (.int .i64 c)∧oY b c)∧w=n:=by
 have HH:=fun s h=>Lib.hid (D8 w s b h)
 by_cases m:97≤b<;>by_cases h2:b≤122<;>by_cases h3:65≤b<;>by_cases h4:b≤90<;>by_cases h5:48≤b<;>by_cases h6:b≤57<;>try omega
 all_goals by_cases a:b=32
 all_goals try omega
 all_goals by_cases d:b=10
 all_goals try omega
 all_goals have H1:=Lib.hid m
 all_goals have e:=Lib.hid h2
 all_goals have f:=Lib.hid h3
 all_goals have g:=Lib.hid h4
 all_goals have i:=Lib.hid h5
 all_goals have j:=Lib.hid h6
 all_goals have k:=Lib.hid a
 all_goals have l:=Lib.hid d
 all_goals try subst a
 all_goals try subst d
 all_goals go_enter func79,ntmps79
 all_goals try(have o:(b==32)=false:=by simp[a])
 all_goals try(have p:(b==10)=false:=by simp[d])
 all_goals go_wp2_with (go_at_call 99;refine(HH _ (by decide)).out.mono ?_;rintro _ q ⟨⟨x,rfl⟩,rfl⟩;cases x)
 all_goals go_ret
 all_goals exact⟨⟨_,rfl,D9 (by have:=H1.out;have:=e.out;have:=f.out;have:=g.out;have:=i.out;have:=j.out;have:=k.out;have:=l.out;omega)⟩,rfl⟩
def Ea (P:Prop) (r:Ending):Prop:=∃x:Bool,r= .returned (.bool x)∧(x=true→P)
theorem yC(w:Wd)(s:BA)(i:Nat)(u:BA)(g:s.size≤1048576)(hu:u.size≤1048576)(f:i≤s.size):Calls prog 58 #[.string s,.int .i64 i,.string u] w fun r b=>Ea (i+u.size≤s.size) r∧w=b:=by
 by_cases h:i+u.size≤s.size
 ·have a:(u.size:Int)≤(s.size:Int) -i:=by omega
  have c:(0:Int)≤i:=by omega
  have h3:(i:Int)≤(i:Int)+u.size:=by omega
  have d:(i:Int)+u.size≤s.size:=by omega
  have HH:=Lib.hid h
  clear h
  go_enter func58,ntmps58
  go_wp2_with fail
  all_goals go_ret
  all_goals exact⟨⟨_,rfl,fun _=>HH.out⟩,rfl⟩
 ·have a:¬(u.size:Int)≤(s.size:Int) -i:=by omega
  clear h
  go_enter func58,ntmps58
  go_wp2_with fail
  go_ret
  exact⟨⟨_,rfl,fun e=>by cases e⟩,rfl⟩
theorem Eb(w:Wd)(s:BA):Calls prog 80 #[.string s] w fun r c=>(∃x:Bool,r= .returned (.bool x))∧Below w.heap.size w c:=by
 have a:=nN.k0 (l:=[⟨#[100,97,116,97]⟩,⟨#[108,101,116]⟩,⟨#[102,114,101,101]⟩,⟨#[105,110]⟩,⟨#[105,102]⟩,⟨#[116,104,101,110]⟩,⟨#[101,108,115,101]⟩]) (nL w 9 1 7 #[.string ⟨#[100,97,116,97]⟩,.string ⟨#[108,101,116]⟩,.string ⟨#[102,114,101,101]⟩,.string ⟨#[105,110]⟩,.string ⟨#[105,102]⟩,.string ⟨#[116,104,101,110]⟩,.string ⟨#[101,108,115,101]⟩] rfl (by omega)) (by simp)
 have b:=Lib.hid (yB _ _ _ s a)
 clear a
 go_enter func80,ntmps80
 go_wp2_with fail
 refine b.out.mono ?_
 rintro _ d ⟨rfl,rfl⟩
 go_wp2_with fail
 go_ret
 exact⟨⟨_,rfl⟩,(Below.refl _ _).alloc (a9 _) _⟩
theorem Ec(w:Wd)(s:BA)(first:Int)(p:s.size≤1048576):Calls prog 81 #[.string s,.int .i64 first] w fun r f=>(∃x:Bool,r= .returned (.bool x))∧w=f:=by
 have d:=fun b=>Lib.hid (uR w b)
 by_cases a:s.size=0
 ·have e:((s.size:Int)==0)=true:=by simp[a]
  clear a
  go_enter func81,ntmps81
  go_wp2_with fail
  go_ret
  exact⟨⟨_,rfl⟩,rfl⟩
 have e:((s.size:Int)==0)=false:=by rw[beq_eq_false_iff_ne];omega
 by_cases k:(24:Int)<s.size
 ·go_enter func81,ntmps81
  go_wp2_with fail
  go_ret
  exact⟨⟨_,rfl⟩,rfl⟩
 have o:0<s.size:=by omega
 clear a
 go_enter func81,ntmps81
 go_wp2_with fail
 refine(d _).out.mono ?_
 rintro _ g ⟨⟨c,rfl,-⟩,rfl⟩
 cases l:(c !=first) with
 |true=>
  go_wp2_with fail
  go_ret
  exact⟨⟨_,rfl⟩,rfl⟩
 |false=>
 go_wp2_with fail
 go_loopw [5] (fun i h=>∃j:Nat,i= .int .i64 j∧j≤s.size∧w=h) (fun i _=>s.size -(intOf i).toNat)
 case atStart=>exact⟨0,rfl,b2 _,rfl⟩
 case round=>
  obtain⟨j,rfl,m,rfl⟩:=hrel
  by_cases n:j<s.size
  ·go_wp2_with fail
   refine(d _).out.mono ?_
   rintro _ g ⟨⟨c2,rfl,-⟩,rfl⟩
   go_wp2_with fail
   all_goals first
    |exact⟨⟨j+1,by go_num,by omega,trivial⟩,by simp[intOf];omega⟩
    |(go_ret;exact⟨⟨_,rfl⟩,rfl⟩)
  ·go_wp2_with fail
   go_ret
   exact⟨⟨_,rfl⟩,rfl⟩
def Ed (r:Ending):Prop:=∃(n:Int) (x:Bool),r= .returned (.tuple #[.int .i64 n,.bool x])
theorem Ee(w:Wd)(s:BA)(y:s.size≤1048576):Calls prog 82 #[.string s] w fun r p=>Ed r∧w=p:=by
 have d:=fun b=>Lib.hid (uR w b)
 by_cases a:s.size=0
 ·have f:((s.size:Int)==0)=true:=by simp[a]
  clear a
  go_enter func82,ntmps82
  go_wp2_with fail
  go_ret2
  exact⟨⟨_,_,rfl⟩,rfl⟩
 have f:((s.size:Int)==0)=false:=by rw[beq_eq_false_iff_ne];omega
 by_cases v:(10:Int)<s.size
 ·go_enter func82,ntmps82
  go_wp2_with fail
  go_ret2
  exact⟨⟨_,_,rfl⟩,rfl⟩
 have x:0<s.size:=by omega
 have o:∃b:Bool,((s[0].toNat:Int)==48)=b:=⟨_,rfl⟩
 obtain⟨e,g⟩:=o
 clear a
 by_cases u:(1:Int)<s.size
 ·cases e with
  |true=>
   go_enter func82,ntmps82
   go_wp2_with fail
   go_ret2
   exact⟨⟨_,_,rfl⟩,rfl⟩
  |false=>
   go_enter func82,ntmps82
   go_wp2_with fail
   go_loopw [4,5] (fun t i c=>∃(n:Int) (j:Nat),t= .int .i64 n∧i= .int .i64 j∧j≤s.size∧w=c) (fun _ i _=>s.size -(intOf i).toNat)
   case atStart=>exact⟨0,0,rfl,rfl,b2 _,rfl⟩
   case round=>
    obtain⟨n,j,rfl,rfl,l,rfl⟩:=hrel
    by_cases m:j<s.size
    ·go_wp2_with fail
     refine(d _).out.mono ?_
     rintro _ q ⟨⟨c2,rfl,-⟩,rfl⟩
     cases h:(c2 !=3) with
     |true=>
      go_wp2_with fail
      go_ret2
      exact⟨⟨_,_,rfl⟩,rfl⟩
     |false=>
      go_wp2_with fail
      exact⟨⟨_,j+1,rfl,by go_num,by omega,trivial⟩,by simp[intOf];omega⟩
    ·by_cases k:(2147483647:Int)<n
     ·go_wp2_with fail
      go_ret2
      exact⟨⟨_,_,rfl⟩,rfl⟩
     ·go_wp2_with fail
      go_ret2
      exact⟨⟨_,_,rfl⟩,rfl⟩
 ·clear g e
  go_enter func82,ntmps82
  go_wp2_with fail
  go_loopw [4,5] (fun t i c=>∃(n:Int) (j:Nat),t= .int .i64 n∧i= .int .i64 j∧j≤s.size∧w=c) (fun _ i _=>s.size -(intOf i).toNat)
  case atStart=>exact⟨0,0,rfl,rfl,b2 _,rfl⟩
  case round=>
   obtain⟨n,j,rfl,rfl,l,rfl⟩:=hrel
   by_cases m:j<s.size
   ·go_wp2_with fail
    refine(d _).out.mono ?_
    rintro _ q ⟨⟨c2,rfl,-⟩,rfl⟩
    cases h:(c2 !=3) with
    |true=>
     go_wp2_with fail
     go_ret2
     exact⟨⟨_,_,rfl⟩,rfl⟩
    |false=>
     go_wp2_with fail
     exact⟨⟨_,j+1,rfl,by go_num,by omega,trivial⟩,by simp[intOf];omega⟩
   ·by_cases k:(2147483647:Int)<n
    ·go_wp2_with fail
     go_ret2
     exact⟨⟨_,_,rfl⟩,rfl⟩
    ·go_wp2_with fail
     go_ret2
     exact⟨⟨_,_,rfl⟩,rfl⟩
def mh:List ByteArray:=[⟨#[61,61]⟩,⟨#[61]⟩,⟨#[124]⟩,⟨#[63]⟩,⟨#[60]⟩,⟨#[43]⟩,⟨#[45]⟩,⟨#[42]⟩,⟨#[40]⟩,⟨#[41]⟩,⟨#[95]⟩]
theorem Ef:∀u∈mh,1≤u.size∧u.size≤2:=by decide+kernel
def yD (r:Ending) (a:World):Prop:=∃(A:Option Addr) (cap:Nat),r= .returned (.slice A 11 cap)∧Src a 1 A mh.length (mh.map Value.string)
theorem Eg(w:Wd):Calls prog 83 #[] w fun r a=>yD r a∧Below w.heap.size w a:=by
 have h:Src (w.alloc (.cells #[.string ⟨#[61,61]⟩,.string ⟨#[61]⟩,.string ⟨#[124]⟩,.string ⟨#[63]⟩,.string ⟨#[60]⟩,.string ⟨#[43]⟩,.string ⟨#[45]⟩,.string ⟨#[42]⟩,.string ⟨#[40]⟩,.string ⟨#[41]⟩,.string ⟨#[95]⟩] 9)) 1 (some ⟨w.heap.size,0,none⟩) mh.length (mh.map Value.string):=by
  have h:=Src.k0 (nL w 9 1 11 #[.string ⟨#[61,61]⟩,.string ⟨#[61]⟩,.string ⟨#[124]⟩,.string ⟨#[63]⟩,.string ⟨#[60]⟩,.string ⟨#[43]⟩,.string ⟨#[45]⟩,.string ⟨#[42]⟩,.string ⟨#[40]⟩,.string ⟨#[41]⟩,.string ⟨#[95]⟩] rfl (by omega))
  simp only[mh,List.map_cons,List.map_nil,List.length_cons,List.length_nil]
  simpa using h
 have c:=Lib.hid ((Below.refl w.heap.size w).alloc (a9 _) (.cells #[.string ⟨#[61,61]⟩,.string ⟨#[61]⟩,.string ⟨#[124]⟩,.string ⟨#[63]⟩,.string ⟨#[60]⟩,.string ⟨#[43]⟩,.string ⟨#[45]⟩,.string ⟨#[42]⟩,.string ⟨#[40]⟩,.string ⟨#[41]⟩,.string ⟨#[95]⟩] 9))
 have b:Hid (yD (.returned (.slice (some ⟨w.heap.size,0,none⟩) 11 11)) (w.alloc (.cells #[.string ⟨#[61,61]⟩,.string ⟨#[61]⟩,.string ⟨#[124]⟩,.string ⟨#[63]⟩,.string ⟨#[60]⟩,.string ⟨#[43]⟩,.string ⟨#[45]⟩,.string ⟨#[42]⟩,.string ⟨#[40]⟩,.string ⟨#[41]⟩,.string ⟨#[95]⟩] 9))):=Lib.hid ⟨_,_,rfl,h⟩
 clear h
 go_enter func83,ntmps83
 go_wp2_with fail
 go_ret
 exact⟨b.out,c.out⟩
theorem jd(h:ah.heap[ae]?=some (.cells #[az,cM,fp,hz,je] aH (0,0))):
 ah.cell? ⟨ae,0,none⟩=some az∧ah.cell? ⟨ae,1,none⟩=some cM∧ah.cell? ⟨ae,2,none⟩=some fp∧ah.cell? ⟨ae,3,none⟩=some hz∧ah.cell? ⟨ae,4,none⟩=some je∧
 ah.frozen? ⟨ae,0,none⟩=false∧ah.frozen? ⟨ae,1,none⟩=false∧ah.frozen? ⟨ae,2,none⟩=false∧ah.frozen? ⟨ae,3,none⟩=false∧ah.frozen? ⟨ae,4,none⟩=false:=by
 refine⟨?_,?_,?_,?_,?_,?_,?_,?_,?_,?_⟩<;>simp[World.cell?,World.frozen?,h]
theorem qp(w:Wd)(o:Obj):Below w.heap.size w (w.alloc o):=(Below.refl _ _).alloc (a9 _) o
def lD (k:Int) (t:ByteArray) (i:Nat) (s:ByteArray):Prop:=k≠0→1≤t.size∧i+t.size≤s.size
def Eh (i:Nat) (s:ByteArray) (r:Ending):Prop:=∃(k:Int) (t:ByteArray) (n:Int),r= .returned (.agg #[.int .i64 k,.string t,.int .i64 n,.int .i64 0,.int .i64 0])∧lD k t i s∧t.size≤s.size
theorem mT(s:BA)(i m:Nat)(a:i≤m)(b:m≤s.size):(s.extract i m).size=m -i:=by rw[ByteArray.size_extract];omega
theorem qq{b c c':Int}(h:oY b c)(a:oY b c')(d:c=1∨c=2∨c=3):c'=c:=by
 unfold oY at h a
 repeat' split at h
 all_goals (repeat' split at a)
 all_goals omega
theorem mi{R i:Nat}(v:Vl)(h:ah.heap[R]?=some (.cells hg aH Ei)):(ah.setCell ⟨R,i,none⟩ v).heap[R]?=some (.cells (hg.setIfInBounds i v) aH Ei):=by
 simp[World.setCell,Array.getElem?_modify,h]
theorem fI(a b c d e:Vl)(h:ah.heap[ae]?=some (.cells #[az,cM,fp,hz,je] aH (0,0))):(((((ah.setCell ⟨ae,0,none⟩ a).setCell ⟨ae,1,none⟩ b).setCell ⟨ae,2,none⟩ c).setCell ⟨ae,3,none⟩ d).setCell ⟨ae,4,none⟩ e).heap[ae]?=some (.cells #[a,b,c,d,e] aH (0,0)):=by
 have f:=mi (i:=0) a h
 have g:=mi (i:=1) b f
 have h3:=mi (i:=2) c g
 have j:=mi (i:=3) d h3
 have k:=mi (i:=4) e j
 exact k
theorem Ej(h:ah.heap[ae]?=some (.cells #[az,cM,fp,hz,je] aH (0,0))):
 ah.cell? ⟨ae,0,none⟩=some az∧ah.cell? ⟨ae,1,none⟩=some cM∧ah.cell? ⟨ae,2,none⟩=some fp∧ah.cell? ⟨ae,3,none⟩=some hz∧ah.cell? ⟨ae,4,none⟩=some je:=by
 refine⟨?_,?_,?_,?_,?_⟩<;>simp[World.cell?,h]
theorem fJ(a:hg[4]?=some (.pointer (some ⟨ae,0,none⟩)))(h:ah.heap[ae]?=some (.cells #[az,cM,fp,hz,je] 96 (0,0))):(results Tryz.f59 hg).run prog ah= .ok (.agg #[az,cM,fp,hz,je]) ah:=by
 obtain⟨b,c,d,e,f⟩:=Ej h
 simp[results,results59,go_sem,a,b,c,d,e,f]
theorem fK(h:Below ah.heap.size ah bR)(a:ah.heap.size≤ae):Below ah.heap.size ah (((((bR.setCell ⟨ae,0,none⟩ az).setCell ⟨ae,1,none⟩ cM).setCell ⟨ae,2,none⟩ fp).setCell ⟨ae,3,none⟩ hz).setCell ⟨ae,4,none⟩ je):=
 ((((h.setCell (p:=⟨ae,0,none⟩) a az).setCell (p:=⟨ae,1,none⟩) a cM).setCell (p:=⟨ae,2,none⟩) a fp).setCell (p:=⟨ae,3,none⟩) a hz).setCell (p:=⟨ae,4,none⟩) a je
theorem Ek(w:Wd)(s:BA)(i:Nat)(am:s.size≤1048576)(aq:i<s.size):Calls prog 59 #[.string s,.int .i64 i] w fun r ao=>Eh i s r∧Below w.heap.size w ao:=by
 have U:=fun W b=>Lib.hid (uR W b)
 have HK:=fun W u=>Lib.hid (Eb W u)
 have B:=fun W u f h=>Lib.hid (Ec W u f h)
 have ag:=fun W u h=>Lib.hid (Ee W u h)
 have q:=qp w (.cells #[.int .i64 0,.string ⟨#[]⟩,.int .i64 0,.int .i64 0,.int .i64 0] 96)
 have C:=heap_alloc_new w (.cells #[.int .i64 0,.string ⟨#[]⟩,.int .i64 0,.int .i64 0,.int .i64 0] 96)
 have au:(w.alloc (.cells #[.int .i64 0,.string ⟨#[]⟩,.int .i64 0,.int .i64 0,.int .i64 0] 96)).heap.size=w.heap.size+1:=by simp
 go_enter func59,ntmps59
 go_wp2_with fail
 generalize w.alloc (.cells #[.int .i64 0,.string ⟨#[]⟩,.int .i64 0,.int .i64 0,.int .i64 0] 96)=V at*
 refine(U _ _).out.mono ?_
 rintro _ ab ⟨⟨c,rfl,v⟩,rfl⟩
 by_cases af:c=1∨c=2
 ·rcases af with rfl|rfl
  ·as_aux_lemma=>
   go_wp2_with fail
   go_loopw [6] (fun t T=>∃m:Nat,t= .int .i64 m∧i≤m∧m≤s.size∧V=T) (fun t _=>s.size -(intOf t).toNat)
   case atStart=>exact⟨i,rfl,a9 _,by omega,rfl⟩
   case round=>
    obtain⟨m,rfl,aj,D,rfl⟩:=hrel
    by_cases Z:m<s.size
    ·go_wp2_with fail
     refine(U _ _).out.mono ?_
     rintro _ ab ⟨⟨c1,rfl,z⟩,rfl⟩
     by_cases al:1≤c1
     ·go_wp2_with fail
      refine(U _ _).out.mono ?_
      rintro _ ab ⟨⟨c2,rfl,O⟩,rfl⟩
      by_cases h3:c2≤3
      ·clear v z O
       go_wp2_with fail
       exact⟨⟨m+1,by go_num,by omega,by omega,trivial⟩,by simp[intOf];omega⟩
      ·have Q:i<m:=by
        rcases Nat.lt_or_ge i m with h|h
        ·exact h
        ·obtain rfl:i=m:=by omega
         have:=qq v O (by omega)
         omega
       clear v z O
       cases ae:((s[m].toNat:Int)==95) with
       |true=>
        go_wp2_with fail
        exact⟨⟨m+1,by go_num,by omega,by omega,trivial⟩,by simp[intOf];omega⟩
       |false=>
        have R:(i:Int)≤m:=by omega
        have S:(m:Int)≤s.size:=by omega
        have P:(0:Int)≤i:=by omega
        have hu:=mT s i m (by omega) D
        have g:(s.extract i m).size≤s.size:=by omega
        have e:Hid (∀k,lD k (s.extract i m) i s):=Lib.hid (fun k _=>⟨by omega,by omega⟩)
        clear hu
        go_wp2_with fail
        refine(HK _ _).out.mono ?_
        rintro _ y ⟨⟨x,rfl⟩,p⟩
        have X:=p.size
        have E:w.heap.size<y.heap.size:=by omega
        have a:=(p.block _ (by omega)).trans C
        obtain⟨F,G,H,I,J,K,L,M,N,z4⟩:=jd a
        have d:=q.jx q.size p
        cases x with
        |true=>
         go_wp2_with fail
         refine bodyPost_ret (fJ rfl (fI _ _ _ _ _ a)) rfl ?_
         exact⟨⟨_,_,_,rfl,e.out _,g⟩,fK (d) (a9 _)⟩
        |false=>
        go_wp2_with fail
        refine(B _ _ _ (by omega)).out.mono ?_
        rintro _ Y ⟨⟨x,rfl⟩,rfl⟩
        cases x with
        |true=>
         go_wp2_with fail
         refine bodyPost_ret (fJ rfl (fI _ _ _ _ _ a)) rfl ?_
         exact⟨⟨_,_,_,rfl,e.out _,g⟩,fK (d) (a9 _)⟩
        |false=>
        go_wp2_with fail
        refine(B _ _ _ (by omega)).out.mono ?_
        rintro _ ac ⟨⟨x,rfl⟩,rfl⟩
        cases x with
        |true=>
         go_wp2_with fail
         refine bodyPost_ret (fJ rfl (fI _ _ _ _ _ a)) rfl ?_
         exact⟨⟨_,_,_,rfl,e.out _,g⟩,fK (d) (a9 _)⟩
        |false=>
         go_wp2_with fail
         refine bodyPost_ret (fJ rfl (fI _ _ _ _ _ a)) rfl ?_
         exact⟨⟨_,_,_,rfl,(fun h=>absurd rfl h),b2 _⟩,fK (d) (a9 _)⟩
     ·have Q:i<m:=by
       rcases Nat.lt_or_ge i m with h|h
       ·exact h
       ·obtain rfl:i=m:=by omega
        have:=qq v z (by omega)
        omega
      clear v z
      cases ae:((s[m].toNat:Int)==95) with
      |true=>
       go_wp2_with fail
       exact⟨⟨m+1,by go_num,by omega,by omega,trivial⟩,by simp[intOf];omega⟩
      |false=>
       have R:(i:Int)≤m:=by omega
       have S:(m:Int)≤s.size:=by omega
       have P:(0:Int)≤i:=by omega
       have hu:=mT s i m (by omega) D
       have g:(s.extract i m).size≤s.size:=by omega
       have e:Hid (∀k,lD k (s.extract i m) i s):=Lib.hid (fun k _=>⟨by omega,by omega⟩)
       clear hu
       go_wp2_with fail
       refine(HK _ _).out.mono ?_
       rintro _ y ⟨⟨x,rfl⟩,p⟩
       have X:=p.size
       have E:w.heap.size<y.heap.size:=by omega
       have a:=(p.block _ (by omega)).trans C
       obtain⟨F,G,H,I,J,K,L,M,N,z4⟩:=jd a
       have d:=q.jx q.size p
       cases x with
       |true=>
        go_wp2_with fail
        refine bodyPost_ret (fJ rfl (fI _ _ _ _ _ a)) rfl ?_
        exact⟨⟨_,_,_,rfl,e.out _,g⟩,fK (d) (a9 _)⟩
       |false=>
       go_wp2_with fail
       refine(B _ _ _ (by omega)).out.mono ?_
       rintro _ Y ⟨⟨x,rfl⟩,rfl⟩
       cases x with
       |true=>
        go_wp2_with fail
        refine bodyPost_ret (fJ rfl (fI _ _ _ _ _ a)) rfl ?_
        exact⟨⟨_,_,_,rfl,e.out _,g⟩,fK (d) (a9 _)⟩
       |false=>
       go_wp2_with fail
       refine(B _ _ _ (by omega)).out.mono ?_
       rintro _ ac ⟨⟨x,rfl⟩,rfl⟩
       cases x with
       |true=>
        go_wp2_with fail
        refine bodyPost_ret (fJ rfl (fI _ _ _ _ _ a)) rfl ?_
        exact⟨⟨_,_,_,rfl,e.out _,g⟩,fK (d) (a9 _)⟩
       |false=>
        go_wp2_with fail
        refine bodyPost_ret (fJ rfl (fI _ _ _ _ _ a)) rfl ?_
        exact⟨⟨_,_,_,rfl,(fun h=>absurd rfl h),b2 _⟩,fK (d) (a9 _)⟩
    ·have Q:i<m:=by omega
     clear v
     have R:(i:Int)≤m:=by omega
     have S:(m:Int)≤s.size:=by omega
     have P:(0:Int)≤i:=by omega
     have hu:=mT s i m (by omega) D
     have g:(s.extract i m).size≤s.size:=by omega
     have e:Hid (∀k,lD k (s.extract i m) i s):=Lib.hid (fun k _=>⟨by omega,by omega⟩)
     clear hu
     go_wp2_with fail
     refine(HK _ _).out.mono ?_
     rintro _ y ⟨⟨x,rfl⟩,p⟩
     have X:=p.size
     have E:w.heap.size<y.heap.size:=by omega
     have a:=(p.block _ (by omega)).trans C
     obtain⟨F,G,H,I,J,K,L,M,N,z4⟩:=jd a
     have d:=q.jx q.size p
     cases x with
     |true=>
      go_wp2_with fail
      refine bodyPost_ret (fJ rfl (fI _ _ _ _ _ a)) rfl ?_
      exact⟨⟨_,_,_,rfl,e.out _,g⟩,fK (d) (a9 _)⟩
     |false=>
     go_wp2_with fail
     refine(B _ _ _ (by omega)).out.mono ?_
     rintro _ Y ⟨⟨x,rfl⟩,rfl⟩
     cases x with
     |true=>
      go_wp2_with fail
      refine bodyPost_ret (fJ rfl (fI _ _ _ _ _ a)) rfl ?_
      exact⟨⟨_,_,_,rfl,e.out _,g⟩,fK (d) (a9 _)⟩
     |false=>
     go_wp2_with fail
     refine(B _ _ _ (by omega)).out.mono ?_
     rintro _ ac ⟨⟨x,rfl⟩,rfl⟩
     cases x with
     |true=>
      go_wp2_with fail
      refine bodyPost_ret (fJ rfl (fI _ _ _ _ _ a)) rfl ?_
      exact⟨⟨_,_,_,rfl,e.out _,g⟩,fK (d) (a9 _)⟩
     |false=>
      go_wp2_with fail
      refine bodyPost_ret (fJ rfl (fI _ _ _ _ _ a)) rfl ?_
      exact⟨⟨_,_,_,rfl,(fun h=>absurd rfl h),b2 _⟩,fK (d) (a9 _)⟩
  ·as_aux_lemma=>
   go_wp2_with fail
   go_loopw [6] (fun t T=>∃m:Nat,t= .int .i64 m∧i≤m∧m≤s.size∧V=T) (fun t _=>s.size -(intOf t).toNat)
   case atStart=>exact⟨i,rfl,a9 _,by omega,rfl⟩
   case round=>
    obtain⟨m,rfl,aj,D,rfl⟩:=hrel
    by_cases Z:m<s.size
    ·go_wp2_with fail
     refine(U _ _).out.mono ?_
     rintro _ ab ⟨⟨c1,rfl,z⟩,rfl⟩
     by_cases al:1≤c1
     ·go_wp2_with fail
      refine(U _ _).out.mono ?_
      rintro _ ab ⟨⟨c2,rfl,O⟩,rfl⟩
      by_cases h3:c2≤3
      ·clear v z O
       go_wp2_with fail
       exact⟨⟨m+1,by go_num,by omega,by omega,trivial⟩,by simp[intOf];omega⟩
      ·have Q:i<m:=by
        rcases Nat.lt_or_ge i m with h|h
        ·exact h
        ·obtain rfl:i=m:=by omega
         have:=qq v O (by omega)
         omega
       clear v z O
       cases ae:((s[m].toNat:Int)==95) with
       |true=>
        go_wp2_with fail
        exact⟨⟨m+1,by go_num,by omega,by omega,trivial⟩,by simp[intOf];omega⟩
       |false=>
        have R:(i:Int)≤m:=by omega
        have S:(m:Int)≤s.size:=by omega
        have P:(0:Int)≤i:=by omega
        have hu:=mT s i m (by omega) D
        have g:(s.extract i m).size≤s.size:=by omega
        have e:Hid (∀k,lD k (s.extract i m) i s):=Lib.hid (fun k _=>⟨by omega,by omega⟩)
        clear hu
        go_wp2_with fail
        refine(HK _ _).out.mono ?_
        rintro _ y ⟨⟨x,rfl⟩,p⟩
        have X:=p.size
        have E:w.heap.size<y.heap.size:=by omega
        have a:=(p.block _ (by omega)).trans C
        obtain⟨F,G,H,I,J,K,L,M,N,z4⟩:=jd a
        have d:=q.jx q.size p
        cases x with
        |true=>
         go_wp2_with fail
         refine bodyPost_ret (fJ rfl (fI _ _ _ _ _ a)) rfl ?_
         exact⟨⟨_,_,_,rfl,e.out _,g⟩,fK (d) (a9 _)⟩
        |false=>
        go_wp2_with fail
        refine(B _ _ _ (by omega)).out.mono ?_
        rintro _ Y ⟨⟨x,rfl⟩,rfl⟩
        cases x with
        |true=>
         go_wp2_with fail
         refine bodyPost_ret (fJ rfl (fI _ _ _ _ _ a)) rfl ?_
         exact⟨⟨_,_,_,rfl,e.out _,g⟩,fK (d) (a9 _)⟩
        |false=>
        go_wp2_with fail
        refine(B _ _ _ (by omega)).out.mono ?_
        rintro _ ac ⟨⟨x,rfl⟩,rfl⟩
        cases x with
        |true=>
         go_wp2_with fail
         refine bodyPost_ret (fJ rfl (fI _ _ _ _ _ a)) rfl ?_
         exact⟨⟨_,_,_,rfl,e.out _,g⟩,fK (d) (a9 _)⟩
        |false=>
         go_wp2_with fail
         refine bodyPost_ret (fJ rfl (fI _ _ _ _ _ a)) rfl ?_
         exact⟨⟨_,_,_,rfl,(fun h=>absurd rfl h),b2 _⟩,fK (d) (a9 _)⟩
     ·have Q:i<m:=by
       rcases Nat.lt_or_ge i m with h|h
       ·exact h
       ·obtain rfl:i=m:=by omega
        have:=qq v z (by omega)
        omega
      clear v z
      cases ae:((s[m].toNat:Int)==95) with
      |true=>
       go_wp2_with fail
       exact⟨⟨m+1,by go_num,by omega,by omega,trivial⟩,by simp[intOf];omega⟩
      |false=>
       have R:(i:Int)≤m:=by omega
       have S:(m:Int)≤s.size:=by omega
       have P:(0:Int)≤i:=by omega
       have hu:=mT s i m (by omega) D
       have g:(s.extract i m).size≤s.size:=by omega
       have e:Hid (∀k,lD k (s.extract i m) i s):=Lib.hid (fun k _=>⟨by omega,by omega⟩)
       clear hu
       go_wp2_with fail
       refine(HK _ _).out.mono ?_
       rintro _ y ⟨⟨x,rfl⟩,p⟩
       have X:=p.size
       have E:w.heap.size<y.heap.size:=by omega
       have a:=(p.block _ (by omega)).trans C
       obtain⟨F,G,H,I,J,K,L,M,N,z4⟩:=jd a
       have d:=q.jx q.size p
       cases x with
       |true=>
        go_wp2_with fail
        refine bodyPost_ret (fJ rfl (fI _ _ _ _ _ a)) rfl ?_
        exact⟨⟨_,_,_,rfl,e.out _,g⟩,fK (d) (a9 _)⟩
       |false=>
       go_wp2_with fail
       refine(B _ _ _ (by omega)).out.mono ?_
       rintro _ Y ⟨⟨x,rfl⟩,rfl⟩
       cases x with
       |true=>
        go_wp2_with fail
        refine bodyPost_ret (fJ rfl (fI _ _ _ _ _ a)) rfl ?_
        exact⟨⟨_,_,_,rfl,e.out _,g⟩,fK (d) (a9 _)⟩
       |false=>
       go_wp2_with fail
       refine(B _ _ _ (by omega)).out.mono ?_
       rintro _ ac ⟨⟨x,rfl⟩,rfl⟩
       cases x with
       |true=>
        go_wp2_with fail
        refine bodyPost_ret (fJ rfl (fI _ _ _ _ _ a)) rfl ?_
        exact⟨⟨_,_,_,rfl,e.out _,g⟩,fK (d) (a9 _)⟩
       |false=>
        go_wp2_with fail
        refine bodyPost_ret (fJ rfl (fI _ _ _ _ _ a)) rfl ?_
        exact⟨⟨_,_,_,rfl,(fun h=>absurd rfl h),b2 _⟩,fK (d) (a9 _)⟩
    ·have Q:i<m:=by omega
     clear v
     have R:(i:Int)≤m:=by omega
     have S:(m:Int)≤s.size:=by omega
     have P:(0:Int)≤i:=by omega
     have hu:=mT s i m (by omega) D
     have g:(s.extract i m).size≤s.size:=by omega
     have e:Hid (∀k,lD k (s.extract i m) i s):=Lib.hid (fun k _=>⟨by omega,by omega⟩)
     clear hu
     go_wp2_with fail
     refine(HK _ _).out.mono ?_
     rintro _ y ⟨⟨x,rfl⟩,p⟩
     have X:=p.size
     have E:w.heap.size<y.heap.size:=by omega
     have a:=(p.block _ (by omega)).trans C
     obtain⟨F,G,H,I,J,K,L,M,N,z4⟩:=jd a
     have d:=q.jx q.size p
     cases x with
     |true=>
      go_wp2_with fail
      refine bodyPost_ret (fJ rfl (fI _ _ _ _ _ a)) rfl ?_
      exact⟨⟨_,_,_,rfl,e.out _,g⟩,fK (d) (a9 _)⟩
     |false=>
     go_wp2_with fail
     refine(B _ _ _ (by omega)).out.mono ?_
     rintro _ Y ⟨⟨x,rfl⟩,rfl⟩
     cases x with
     |true=>
      go_wp2_with fail
      refine bodyPost_ret (fJ rfl (fI _ _ _ _ _ a)) rfl ?_
      exact⟨⟨_,_,_,rfl,e.out _,g⟩,fK (d) (a9 _)⟩
     |false=>
     go_wp2_with fail
     refine(B _ _ _ (by omega)).out.mono ?_
     rintro _ ac ⟨⟨x,rfl⟩,rfl⟩
     cases x with
     |true=>
      go_wp2_with fail
      refine bodyPost_ret (fJ rfl (fI _ _ _ _ _ a)) rfl ?_
      exact⟨⟨_,_,_,rfl,e.out _,g⟩,fK (d) (a9 _)⟩
     |false=>
      go_wp2_with fail
      refine bodyPost_ret (fJ rfl (fI _ _ _ _ _ a)) rfl ?_
      exact⟨⟨_,_,_,rfl,(fun h=>absurd rfl h),b2 _⟩,fK (d) (a9 _)⟩
 ·by_cases ai:c=3
  ·subst ai
   clear af
   as_aux_lemma=>
   go_wp2_with fail
   go_loopw [6] (fun t T=>∃m:Nat,t= .int .i64 m∧i≤m∧m≤s.size∧V=T) (fun t _=>s.size -(intOf t).toNat)
   case atStart=>exact⟨i,rfl,a9 _,by omega,rfl⟩
   case round=>
    obtain⟨m,rfl,aj,D,rfl⟩:=hrel
    by_cases Z:m<s.size
    ·go_wp2_with fail
     refine(U _ _).out.mono ?_
     rintro _ ab ⟨⟨c1,rfl,z⟩,rfl⟩
     cases h3:(c1==3) with
     |true=>
      clear v z
      go_wp2_with fail
      exact⟨⟨m+1,by go_num,by omega,by omega,trivial⟩,by simp[intOf];omega⟩
     |false=>
      have Q:i<m:=by
       rcases Nat.lt_or_ge i m with h|h
       ·exact h
       ·obtain rfl:i=m:=by omega
        have:=qq v z (by omega)
        subst this
        cases h3
      clear v z
      have R:(i:Int)≤m:=by omega
      have S:(m:Int)≤s.size:=by omega
      have P:(0:Int)≤i:=by omega
      have hu:=mT s i m (by omega) D
      have g:(s.extract i m).size≤s.size:=by omega
      have e:Hid (∀k,lD k (s.extract i m) i s):=Lib.hid (fun k _=>⟨by omega,by omega⟩)
      clear hu
      have E:w.heap.size<V.heap.size:=by omega
      have a:=C
      obtain⟨F,G,H,I,J,K,L,M,N,z4⟩:=jd a
      go_wp2_with fail
      refine(ag _ _ (by omega)).out.mono ?_
      rintro _ y ⟨⟨n,x,rfl⟩,rfl⟩
      cases x with
      |false=>
       go_wp2_with fail
       refine bodyPost_ret (fJ rfl (fI _ _ _ _ _ a)) rfl ?_
       exact⟨⟨_,_,_,rfl,(fun h=>absurd rfl h),b2 _⟩,fK (q) (a9 _)⟩
      |true=>
       go_wp2_with fail
       refine bodyPost_ret (fJ rfl (fI _ _ _ _ _ a)) rfl ?_
       exact⟨⟨_,_,_,rfl,e.out _,g⟩,fK (q) (a9 _)⟩
    ·have Q:i<m:=by omega
     clear v
     have R:(i:Int)≤m:=by omega
     have S:(m:Int)≤s.size:=by omega
     have P:(0:Int)≤i:=by omega
     have hu:=mT s i m (by omega) D
     have g:(s.extract i m).size≤s.size:=by omega
     have e:Hid (∀k,lD k (s.extract i m) i s):=Lib.hid (fun k _=>⟨by omega,by omega⟩)
     clear hu
     have E:w.heap.size<V.heap.size:=by omega
     have a:=C
     obtain⟨F,G,H,I,J,K,L,M,N,z4⟩:=jd a
     go_wp2_with fail
     refine(ag _ _ (by omega)).out.mono ?_
     rintro _ y ⟨⟨n,x,rfl⟩,rfl⟩
     cases x with
     |false=>
      go_wp2_with fail
      refine bodyPost_ret (fJ rfl (fI _ _ _ _ _ a)) rfl ?_
      exact⟨⟨_,_,_,rfl,(fun h=>absurd rfl h),b2 _⟩,fK (q) (a9 _)⟩
     |true=>
      go_wp2_with fail
      refine bodyPost_ret (fJ rfl (fI _ _ _ _ _ a)) rfl ?_
      exact⟨⟨_,_,_,rfl,e.out _,g⟩,fK (q) (a9 _)⟩
  ·as_aux_lemma=>
   have e1:(c==1)=false:=by rw[beq_eq_false_iff_ne];omega
   have e2:(c==2)=false:=by rw[beq_eq_false_iff_ne];omega
   have e3:(c==3)=false:=by rw[beq_eq_false_iff_ne];omega
   have ah:=Lib.hid (Eg V)
   have ak:=fun W u h=>Lib.hid (yC W s i u am h (by omega))
   clear v af ai
   go_wp2_with fail
   refine ah.out.mono ?_
   rintro _ y ⟨⟨A,cap,rfl,aa⟩,p⟩
   have X:=p.size
   have E:w.heap.size<y.heap.size:=by omega
   have a:=(p.block _ (by omega)).trans C
   obtain⟨F,G,H,I,J,K,L,M,N,z4⟩:=jd a
   have d:=q.jx q.size p
   have aa:=aa
   clear ah C
   go_wp2_with fail
   go_loopw [100] (fun t T=>∃j:Nat,t= .int .i64 j∧j≤11∧y=T) (fun t _=>11 -(intOf t).toNat)
   case atStart=>exact⟨0,rfl,b2 _,rfl⟩
   case round=>
    obtain⟨j,rfl,ar,rfl⟩:=hrel
    by_cases Z:j<11
    ·obtain⟨b,o,rfl,ap,v⟩:=nN.cell (l:=mh) aa j Z
     obtain⟨an,av⟩:=Ef mh[j] (fL Z)
     generalize mh[j]=u at*
     clear aa
     go_wp2_with fail
     refine(ak _ _ (by omega)).out.mono ?_
     rintro _ Y ⟨⟨x,rfl,ad⟩,rfl⟩
     cases x with
     |true=>
      have e:lD 6 u i s:=fun _=>⟨an,ad rfl⟩
      have g:u.size≤s.size:=by have:=ad rfl;omega
      clear ad
      go_wp2_with fail
      refine bodyPost_ret (fJ rfl (fI _ _ _ _ _ a)) rfl ?_
      exact⟨⟨_,_,_,rfl,e,g⟩,fK (d) (a9 _)⟩
     |false=>
      clear ad
      go_wp2_with fail
      exact⟨⟨j+1,by go_num,by omega,trivial⟩,by simp[intOf];omega⟩
    ·clear aa
     go_wp2_with fail
     refine bodyPost_ret (fJ rfl (fI _ _ _ _ _ a)) rfl ?_
     exact⟨⟨_,_,_,rfl,(fun h=>absurd rfl h),b2 _⟩,fK (d) (a9 _)⟩
structure Tk where
 k:Int
 t:ByteArray
 n:Int
 l:Int
 c:Int
def Tk.cs (t:Tk):List Value:=[.int .i64 t.k,.string t.t,.int .i64 t.n,.int .i64 t.l,.int .i64 t.c]
def gT (ts:List Tk):List Value:=ts.flatMap Tk.cs
theorem El(a b:List Tk):gT (a++b)=gT a++gT b:=by simp[gT]
theorem yE:∀(ts:List Tk) (j:Nat) (a:j<ts.length) (q:Nat),q<5→(gT ts)[j*5+q]?=(ts[j]).cs[q]?
 |t::r,0,_,q,b=>by
  unfold gT
  simp only[List.flatMap_cons,Nat.zero_mul,Nat.zero_add,List.getElem_cons_zero]
  rw[List.getElem?_append_left (by simp[Tk.cs];omega)]
 |t::r,j+1,a,q,b=>by
  have:=yE r j (by simpa using a) q b
  unfold gT at this⊢
  simp only[List.flatMap_cons,List.getElem_cons_succ]
  rw[List.getElem?_append_right (by simp[Tk.cs];omega),←this]
  congr 1
  simp[Tk.cs]
  omega
def k3 (w:World) (v:Value) (ts:List Tk):Prop:=
 ∃(A:Option Addr) (cap:Nat),v= .slice A ts.length cap∧ts.length≤cap∧cap≤9223372036854775807∧ts.length≤10000∧(A=none→cap=0)∧Src w 5 A ts.length (gT ts)∧∀t∈ts,t.t.size≤4096
def Em (s:ByteArray) (w a:World) (r:Ending):Prop:=∃(v:Value) (ts:List Tk) (e l c:Int),r= .returned (.tuple #[v,.int .i64 e,.agg #[.int .i64 l,.int .i64 c]])∧k3 a v ts∧a.ownsRow w.heap.size 96 5 v ts.length (gT ts)∧ts.length≤2*s.size+2
theorem nO(h:ah.heap[ae]?=some (.cells #[az,cM] aH (0,0))):ah.cell? ⟨ae,0,none⟩=some az∧ah.cell? ⟨ae,1,none⟩=some cM∧ah.frozen? ⟨ae,0,none⟩=false∧ah.frozen? ⟨ae,1,none⟩=false:=by
 refine⟨?_,?_,?_,?_⟩<;>simp[World.cell?,World.frozen?,h]
theorem yF(a b:Vl)(h:ah.heap[ae]?=some (.cells #[az,cM] aH (0,0))):((ah.setCell ⟨ae,0,none⟩ a).setCell ⟨ae,1,none⟩ b).heap[ae]?=some (.cells #[a,b] aH (0,0)):=by
 have c:=mi (i:=0) a h
 have d:=mi (i:=1) b c
 exact d
theorem uS(a:hg[2]?=some az)(h3:hg[3]?=some cM)(b:hg[4]?=some (.pointer (some ⟨ae,0,none⟩)))(h:ah.heap[ae]?=some (.cells #[fp,hz] 29 (0,0))):(results Tryz.f24 hg).run prog ah= .ok (.tuple #[az,cM,.agg #[fp,hz]]) ah:=by
 obtain⟨c,d,-,-⟩:=nO h
 simp[results,results24,go_sem,a,h3,b,c,d]
theorem k3.nil(w:Wd):k3 w (.slice none 0 0) []:=⟨none,0,rfl,Nat.le_refl _,by omega,by simp,fun _=>rfl,⟨by simp[gT],.inl rfl⟩,by simp⟩
theorem yG(h:Below ao ah bR)(a:ao≤ae):Below ao ah ((bR.setCell ⟨ae,0,none⟩ az).setCell ⟨ae,1,none⟩ cM):=
 (h.setCell (p:=⟨ae,0,none⟩) a az).setCell (p:=⟨ae,1,none⟩) a cM
theorem En:(prog.info? 96).map (fun i=>(i.zero,i.size,i.bytes))=some (some (.agg #[.int .i64 0,.string ⟨#[]⟩,.int .i64 0,.int .i64 0,.int .i64 0]),5,48):=by kernel_rfl
theorem sv{n:Nat}(h:n≤3000000):n≤maxLen∧n*48≤140737488355328:=by
 refine⟨?_,by omega⟩
 unfold maxLen
 omega
variable{ax:List Tk}
theorem sw{t:Tk}(h:ah.ownsRow ae 96 5 az (ax.length+1) (gT ax++t.cs)):ah.ownsRow ae 96 5 az (ax++ [t]).length (gT (ax++ [t])):=by
 have e1:(ax++ [t]).length=ax.length+1:=by simp
 have e2:gT (ax++ [t])=gT ax++t.cs:=by rw[El];simp[gT]
 rw[e1,e2]
 exact h
theorem uT{base n b:Nat}(h:ah.ownsRow base 96 5 az n aj)(g:ah.heap.size≤b)(d:Below bR.heap.size bR jU)(a:bR.heap[b]?=some fH)(f:jU.grownBy nP az.ownBlock):nP.heap[b]?=some fH:=by
 have c:=(Array.getElem?_eq_some_iff.1 a).1
 rw[f.block b (Nat.lt_of_lt_of_le c d.size) (fun e=>by have:=(ss h e.symm).2;omega),d.block b c]
 exact a
theorem Eo{base n b:Nat}(h:ah.ownsRow base 96 5 az n aj)(l:ah.heap.size≤b)(m:b<bR.heap.size)(a:mS bR az cM)(f:Below oZ.heap.size oZ nP)(c:oZ.heap[b]?=some fH)(j:nP.grownBy jU cM.ownBlock):jU.heap[b]?=some fH:=by
 have d:=(Array.getElem?_eq_some_iff.1 c).1
 rw[j.block b (Nat.lt_of_lt_of_le d f.size) (fun e=>by
  rcases a with a|⟨g,i,k⟩
  ·rw[a] at e
   have:=(ss h e.symm).2
   omega
  ·rw[i] at e
   injection e with e
   omega),f.block b d]
 exact c
theorem Ep(w:Wd)(s:BA)(aU:s.size≤1048576):Calls prog 24 #[.string s] w fun r aY=>Em s w aY r∧Below w.heap.size w aY:=by
 have a0:=fun W i u h a4=>Lib.hid (yC W s i u aU h a4)
 have a1:=fun W i h=>Lib.hid (Ek W s i aU h)
 obtain⟨i96,af,aj,ak,al⟩:=info_parts En
 have K:=qp w (.cells #[.int .i64 0,.int .i64 0] 29)
 have ae:=heap_alloc_new w (.cells #[.int .i64 0,.int .i64 0] 29)
 have aV:(w.alloc (.cells #[.int .i64 0,.int .i64 0] 29)).heap.size=w.heap.size+1:=by simp
 by_cases aQ:(4096:Int)<s.size
 ·go_enter func24,ntmps24
  go_wp2_with fail
  refine bodyPost_ret (uS rfl rfl rfl ae) rfl ?_
  exact⟨⟨_,[],11,0,0,rfl,k3.nil _,World.ownsRow_nil _ _ _ _,b2 _⟩,K⟩
 have aA:s.size≤4096:=by omega
 go_enter func24,ntmps24
 go_wp2_with fail
 generalize w.alloc (.cells #[.int .i64 0,.int .i64 0] 29)=V at*
 go_loopw [5,6,7,8] (fun o l c i wr=>∃(j:Nat) (ts:List Tk) (d f:Int),i= .int .i64 j∧j≤s.size∧l= .int .i64 d∧c= .int .i64 f∧wr.ownsRow V.heap.size 96 5 o ts.length (gT ts)∧ts.length≤2*j∧Hid (∀t∈ts,t.t.size≤4096)∧Below V.heap.size V wr) (fun _ _ _ i _=>s.size -(intOf i).toNat)
 case atStart=>exact⟨0,[],1,1,rfl,Nat.zero_le _,rfl,rfl,World.ownsRow_nil _ _ _ _,by simp,Lib.hid (by simp),Below.refl _ _⟩
 case round=>
  obtain⟨j,ts,d,f,rfl,ba,rfl,rfl,A,bI,C,v⟩:=hrel
  have aW:=v.size
  by_cases bf:j<s.size
  ·cases ax:((s[j].toNat:Int)==10) with
   |true=>
    go_wp2_with fail
    exact⟨⟨j+1,ts,_,_,by go_num,by omega,rfl,rfl,A,by omega,C,v⟩,by simp[intOf];omega⟩
   |false=>
   cases bj:((s[j].toNat:Int)==32) with
   |true=>
    go_wp2_with fail
    exact⟨⟨j+1,ts,_,_,by go_num,by omega,rfl,rfl,A,by omega,C,v⟩,by simp[intOf];omega⟩
   |false=>
   go_wp2_with fail
   refine(a0 wr j _ (by decide) (by omega)).out.mono ?_
   rintro _ bN ⟨⟨x,rfl,b⟩,rfl⟩
   cases x with
   |true=>
    clear b
    go_wp2_with fail
    obtain⟨bu,aB⟩:∃x,x=wr:=⟨_,rfl⟩
    rw[←aB] at A v
    go_loopw [7,8] (fun c i wr=>∃(q:Nat) (aF:Int),i= .int .i64 q∧j≤q∧q≤s.size∧c= .int .i64 aF∧bu=wr) (fun _ i _=>s.size -(intOf i).toNat)
    case atStart=>exact⟨j,f,rfl,a9 _,ba,rfl,aB⟩
    case round=>
     clear aB
     obtain⟨q,aF,rfl,bA,aT,rfl,rfl⟩:=hrel
     by_cases bG:q<s.size
     ·cases y:((s[q].toNat:Int)==10) with
      |true=>
       have ai:((s[q].toNat:Int) !=10)=false:=by simp only[bne,y,Bool.not_true]
       have bb:j<q:=by
        rcases Nat.lt_or_ge j q with h|h
        ·exact h
        ·obtain rfl:j=q:=by omega
         rw[y] at ax
         cases ax
       go_wp2_with fail
       exact⟨⟨q,ts,_,_,rfl,aT,rfl,rfl,A,by omega,C,v⟩,by simp[intOf];omega⟩
      |false=>
       have ai:((s[q].toNat:Int) !=10)=true:=by simp only[bne,y,Bool.not_false]
       go_wp2_with fail
       exact⟨⟨q+1,_,by go_num,by omega,by omega,rfl,trivial⟩,by simp[intOf];omega⟩
     ·have bb:j<q:=by omega
      go_wp2_with fail
      exact⟨⟨q,ts,_,_,rfl,aT,rfl,rfl,A,by omega,C,v⟩,by simp[intOf];omega⟩
   |false=>
    clear b
    go_wp2_with fail
    refine(a1 wr j bf).out.mono ?_
    rintro _ e ⟨⟨k,t,n,rfl,ay,bK⟩,aq⟩
    have Y:=v.jx v.size aq
    have M:=mg A aq (a9 _)
    have bL:=aq.size
    have aL:=heap_alloc_new e (.cells #[.int .i64 k,.string t,.int .i64 n,.int .i64 0,.int .i64 0] 96)
    obtain⟨W,I⟩:∃W,W=(e.alloc (.cells #[.int .i64 k,.string t,.int .i64 n,.int .i64 0,.int .i64 0] 96)).alloc (.cells #[.int .i64 d,.int .i64 f] 29):=⟨_,rfl⟩
    have aH:W.heap.size=e.heap.size+1+1:=by rw[I];simp
    have U:Below e.heap.size e W:=by rw[I];exact((Below.refl _ _).alloc (Nat.le_refl _) _).alloc (by simp) _
    have f9:W.heap[e.heap.size]?=some (.cells #[.int .i64 k,.string t,.int .i64 n,.int .i64 0,.int .i64 0] 96 (0,0)):=by
     rw[I,heap_alloc_old _ _ (by simp)]
     exact aL
    have f10:W.heap[e.heap.size+1]?=some (.cells #[.int .i64 d,.int .i64 f] 29 (0,0)):=by
     rw[I]
     have:=heap_alloc_new (e.alloc (.cells #[.int .i64 k,.string t,.int .i64 n,.int .i64 0,.int .i64 0] 96)) (.cells #[.int .i64 d,.int .i64 f] 29)
     rw[World.size_alloc] at this
     exact this
    have R:=(U.block _ (by omega)).trans ((Y.block _ (by omega)).trans ae)
    have aK:=Y.jx Y.size U
    have bi:=mg M U (a9 _)
    have ac:=Lib.hid I
    clear I aL A bi
    cases bd:(k==0) with
    |true=>
     clear ay
     go_upto_region 20 with fail
     rw[←ac.out]
     clear ac
     obtain⟨am,an,aC,aD⟩:=nO f10
     obtain⟨br,bs,bv,bw⟩:=nO R
     obtain⟨D,E,F,G,H,-⟩:=jd f9
     have bD:w.heap.size<W.heap.size:=by omega
     have aa:e.heap.size<W.heap.size:=by omega
     have ag:e.heap.size+1<W.heap.size:=by omega
     go_wp2_with fail
     go_region
     go_wp2_with fail
     refine bodyPost_ret (uS rfl rfl rfl (yF _ _ R)) rfl ?_
     exact⟨⟨_,[],1,d,f,rfl,k3.nil _,World.ownsRow_nil _ _ _ _,b2 _⟩,(yG (K.trans (aK.mono K.size)) (a9 _)).drew⟩
    |false=>
     have bc:=ay (by rintro rfl;simp at bd)
     clear ay
     go_upto_region 20 with fail
     rw[←ac.out]
     clear ac
     obtain⟨am,an,aC,aD⟩:=nO f10
     obtain⟨D,E,F,G,H,bm,bn,bo,bp,bq⟩:=jd f9
     have aa:e.heap.size<W.heap.size:=by omega
     have ag:e.heap.size+1<W.heap.size:=by omega
     go_upto_region 23 with fail
     obtain⟨X,J⟩:∃X,X=(W.setCell ⟨e.heap.size,3,none⟩ (.int .i64 d)).setCell ⟨e.heap.size,4,none⟩ (.int .i64 f):=⟨_,rfl⟩
     have ap:X.heap[e.heap.size]?=some (.cells #[.int .i64 k,.string t,.int .i64 n,.int .i64 d,.int .i64 f] 96 (0,0)):=by
      rw[J]
      exact mi (i:=4) _ (mi (i:=3) _ f9)
     have aG:X.heap[e.heap.size+1]?=some (.cells #[.int .i64 d,.int .i64 f] 29 (0,0)):=by
      rw[J,Below.heap_setCell _ _ _ _ (by simp only;omega),Below.heap_setCell _ _ _ _ (by simp only;omega)]
      exact f10
     have aJ:Below e.heap.size e X:=by
      rw[J]
      exact(U.setCell (p:=⟨e.heap.size,3,none⟩) (a9 _) _).setCell (p:=⟨e.heap.size,4,none⟩) (a9 _) _
     have a7:X.heap.size=e.heap.size+1+1:=by rw[J];simpa[World.setCell] using aH
     have az:=mg M aJ (a9 _)
     have ad:=Y.jx Y.size aJ
     rw[←J]
     clear J f9 f10 am an aC aD D E F G H bm bn bo bp bq aa ag R U aK
     obtain⟨am,an,-,-⟩:=nO aG
     obtain⟨D,E,F,G,H,-⟩:=jd ap
     have aa:e.heap.size<X.heap.size:=by omega
     have ag:e.heap.size+1<X.heap.size:=by omega
     have g:=fun m=>qp X m
     obtain⟨bB,bC⟩:=bc
     have ah:V.heap.size≤X.heap.size:=by omega
     clear a7 aH
     have aE:=Lib.hid aA
     clear aV aQ aA ax bj
     by_cases au:f=1
     ·subst au
      obtain⟨L,y⟩:=sv (n:=ts.length+1) (by omega)
      obtain⟨ai,aR⟩:=sv (n:=ts.length+1+1) (by omega)
      have O:=fun m=>mg az (g m) (a9 _)
      have be:∀m,e.heap.size<(X.alloc m).heap.size:=fun m=>lA aa (g m).size
      go_upto_region 24 with fail
      go_upto_region 25 with(at_builtin;refine su rfl (.tmp 66) (.tmp 69) 92 rfl V.heap.size 96 i96 _ 5 48 underlying92 af aj ak al rfl (by omega) u5 ts.length (gT ts) rfl (O _) (some ⟨X.heap.size,0,none⟩) 1 1 [.int .i64 1,.string ⟨#[]⟩,.int .i64 0,.int .i64 d,.int .i64 1] rfl (Src.k0 (nL X 96 5 1 #[.int .i64 1,.string ⟨#[]⟩,.int .i64 0,.int .i64 d,.int .i64 1] rfl (by omega))) (fun h=>by cases h) (by simp[Value.oneCell']) L y (Nat.le_trans ah (g _).size) ?_;intro v3 B N z av;have Q:=uT M (Nat.le_refl _) (g _) ap z;have bl:=uT M (Nat.le_succ _) (g _) aG z;clear D E F G H am an aa ag;obtain⟨D,E,F,G,H,-⟩:=jd Q;have aN:e.heap.size<B.heap.size:=(Array.getElem?_eq_some_iff.1 Q).1)
      have S:=sr (O _) z (dS ah (g _).size)
      have ar:=(ad.jx ad.size (g _)).trans S
      have T:=fun m=>qp B m
      have aP:=ar.size
      have aS:=fun m=>mg (sw (t:=⟨1,⟨#[]⟩,0,d,1⟩) N) (T m) (a9 _)
      have aO:(ts++ [(⟨1,⟨#[]⟩,0,d,1⟩:Tk)]).length=ts.length+1:=by simp
      have ab:=Lib.hid aO
      clear aO
      have bg:(ts++ [(⟨1,⟨#[]⟩,0,d,1⟩:Tk)]).length+1≤maxLen:=by rw[ab.out];exact ai
      have bh:((ts++ [(⟨1,⟨#[]⟩,0,d,1⟩:Tk)]).length+1)*48≤140737488355328:=by rw[ab.out];exact aR
      have bk:Hid (∀x∈ts++ [(⟨1,⟨#[]⟩,0,d,1⟩:Tk)],x.t.size≤4096):=Lib.hid (fun x b=>by
       rcases fM.1 b with b|b
       ·exact C.out x b
       ·simp at b;subst b;exact Nat.zero_le _)
      have bF:(ts++ [(⟨1,⟨#[]⟩,0,d,1⟩:Tk)]).length≤2*j+1:=by rw[ab.out];omega
      generalize ts++ [(⟨1,⟨#[]⟩,0,d,1⟩:Tk)]=ts3 at*
      clear N L y ai aR O ab bl
      go_wp2_with (at_builtin;refine su rfl (.tmp 71) (.tmp 73) 92 rfl V.heap.size 96 i96 _ 5 48 underlying92 af aj ak al rfl (by omega) v3 ts3.length (gT ts3) rfl (aS _) (some ⟨B.heap.size,0,none⟩) 1 1 [.int .i64 k,.string t,.int .i64 n,.int .i64 d,.int .i64 1] rfl (Src.k0 (nL B 96 5 1 #[.int .i64 k,.string t,.int .i64 n,.int .i64 d,.int .i64 1] rfl (by omega))) (fun h=>by cases h) (by simp[Value.oneCell']) bg bh (Nat.le_trans aP (T _).size) ?_;intro bM bt P aM bz;have aX:=Eo M (Nat.le_refl _) (be _) av (T _) Q aM;obtain⟨D,E,F,G,H,-⟩:=jd aX;have bE:e.heap.size<bt.heap.size:=(Array.getElem?_eq_some_iff.1 aX).1)
      have a8:=sr (aS _) aM (dS aP (T _).size)
      have Z:=(ar.jx ar.size (T _)).trans a8
      exact⟨⟨j+t.size,ts3++ [⟨k,t,n,d,1⟩],_,_,by go_num,by omega,rfl,rfl,sw (t:=⟨k,t,n,d,1⟩) P,by simp;omega,Lib.hid (fun x b=>by
       rcases fM.1 b with b|b
       ·exact bk.out x b
       ·simp at b;subst b;have:=aE.out;simp only;omega),Z⟩,by simp[intOf];omega⟩
     ·have bx:(f==1)=false:=by simp[au]
      clear au
      obtain⟨L,y⟩:=sv (n:=ts.length+1) (by omega)
      go_upto_region 25 with fail
      go_wp2_with (at_builtin;refine su rfl (.tmp 71) (.tmp 73) 92 rfl V.heap.size 96 i96 _ 5 48 underlying92 af aj ak al rfl (by omega) u5 ts.length (gT ts) rfl (mg az (g _) (Nat.le_refl _)) (some ⟨X.heap.size,0,none⟩) 1 1 [.int .i64 k,.string t,.int .i64 n,.int .i64 d,.int .i64 f] rfl (Src.k0 (nL X 96 5 1 #[.int .i64 k,.string t,.int .i64 n,.int .i64 d,.int .i64 f] rfl (by omega))) (fun h=>by cases h) (by simp[Value.oneCell']) L y (Nat.le_trans ah (g _).size) ?_;intro v3 B N z av;have Q:=uT M (Nat.le_refl _) (g _) ap z;obtain⟨D,E,F,G,H,-⟩:=jd Q;have aN:e.heap.size<B.heap.size:=(Array.getElem?_eq_some_iff.1 Q).1)
      have S:=sr (mg az (g _) (a9 _)) z (dS ah (g _).size)
      have Z:=(ad.jx ad.size (g _)).trans S
      exact⟨⟨j+t.size,ts++ [⟨k,t,n,d,f⟩],_,_,by go_num,by omega,rfl,rfl,sw (t:=⟨k,t,n,d,f⟩) N,by simp;omega,Lib.hid (fun x b=>by
       rcases fM.1 b with b|b
       ·exact C.out x b
       ·simp at b;subst b;have:=aE.out;simp only;omega),Z⟩,by simp[intOf];omega⟩
  ·have bJ:ts.length+1≤10000:=by omega
   obtain⟨L,y⟩:=sv (n:=ts.length+1) (by omega)
   have R:=(v.block _ (by omega)).trans ae
   obtain⟨br,bs,bv,bw⟩:=nO R
   have g:=fun m=>qp wr m
   have O:=fun m=>mg A (g m) (a9 _)
   have bH:w.heap.size<wr.heap.size:=by omega
   have aw:w.heap.size<V.heap.size:=by omega
   clear aV aQ aA
   go_upto_region 28 with fail
   go_wp2_with (at_builtin;refine su rfl (.tmp 85) (.tmp 90) 92 rfl V.heap.size 96 i96 _ 5 48 underlying92 af aj ak al rfl (by omega) u5 ts.length (gT ts) rfl (O _) (some ⟨wr.heap.size,0,none⟩) 1 1 [.int .i64 0,.string ⟨#[]⟩,.int .i64 0,.int .i64 d,.int .i64 f] rfl (Src.k0 (nL wr 96 5 1 #[.int .i64 0,.string ⟨#[]⟩,.int .i64 0,.int .i64 d,.int .i64 f] rfl (by omega))) (fun h=>by cases h) (by simp[Value.oneCell']) L y (Nat.le_trans aW (g _).size) ?_;intro v3 B N z av;have S:=sr (O _) z (Nat.le_trans aW (g _).size);have aI:=(v.jx v.size (g _)).trans S;have ao:=(aI.block _ aw).trans ae;obtain⟨x0,x1,aC,aD⟩:=nO ao;have aN:w.heap.size<B.heap.size:=(Array.getElem?_eq_some_iff.1 ao).1)
   have Z:=K.trans (aI.mono K.size)
   refine bodyPost_ret (uS rfl rfl rfl (yF _ _ ao)) rfl ?_
   have P:=ownsRow_setCell_below (ownsRow_setCell_below (sw (t:=⟨0,⟨#[]⟩,0,d,f⟩) N) (a:=⟨w.heap.size,0,none⟩) aw (.int .i64 0)) (a:=⟨w.heap.size,1,none⟩) aw (.int .i64 0)
   obtain⟨aZ,a2,a3,a5,a6⟩:=oU P
   subst a3
   refine⟨⟨_,ts++ [⟨0,⟨#[]⟩,0,d,f⟩],0,0,0,rfl,⟨aZ,a2,rfl,a5,a6,by simp;omega,oV P,Src.k0 P,fun x b=> ?_⟩,yx P K.size,by simp only[List.length_append,List.length_cons,List.length_nil];omega⟩,yG Z (Nat.le_refl _)⟩
   rcases fM.1 b with b|b
   ·exact C.out x b
   ·simp at b;subst b;exact Nat.zero_le _
structure Rd where
 I:Nat
 deep:Int
 bad:Bool
 l:Int
 c:Int
def sx (ts:List Tk):Int×Int:=match ts.getLast? with|none=>(0,0)|some t=>(t.l,t.c)
def aZ (ts:List Tk) (I:Nat):Tk:=match ts[I]? with|some t=>t|none=>⟨-1,⟨#[]⟩,0,(sx ts).1,(sx ts).2⟩
def Tk.v (t:Tk):Value:= .agg #[.int .i64 t.k,.string t.t,.int .i64 t.n,.int .i64 t.l,.int .i64 t.c]
theorem nQ{ts:List Tk}{I:Nat}(h:(aZ ts I).k≠-1):I<ts.length:=by
 unfold aZ at h
 cases a:ts[I]? with
 |none=>rw[a] at h;exact absurd rfl h
 |some t=>exact(List.getElem?_eq_some_iff.1 a).1
def hi (ts:List Tk) (r:Rd):Rd:=if r.bad then r else⟨r.I,r.deep,true,(aZ ts r.I).l,(aZ ts r.I).c⟩
def gB (ts:List Tk) (r:Rd) (kind:Int) (text:ByteArray):Bool:=!r.bad&&((aZ ts r.I).k==kind&&((aZ ts r.I).t.toList==text.toList))
variable{bY:Rd}
theorem jW(a:bi≠-1)(h:gB ax bY bi aY=true):bY.I<ax.length∧bY.bad=false:=by
 unfold gB at h
 simp only[Bool.and_eq_true,Bool.not_eq_true',beq_iff_eq] at h
 exact⟨nQ (by rw[h.2.1];exact a),h.1⟩
def gU (ts:List Tk) (r:Rd) (kind:Int) (text:ByteArray):Rd:=if gB ts r kind text then{r with I:=r.I+1} else hi ts r
def lE (ts:List Tk) (r:Rd):Rd:=if 40≤r.deep then hi ts r else{r with deep:=r.deep+1,I:=r.I+1}
def k4 (ts:List Tk) (r:Rd) (kind:Int):Rd×ByteArray:=if r.bad||(aZ ts r.I).k !=kind then(hi ts r,⟨#[]⟩) else({r with I:=r.I+1},(aZ ts r.I).t)
def leaf (k:Int) (s:ByteArray) (n l c:Int):Ex:= .mk k s n [] l c
def hA (ts:List Tk) (r:Rd):Rd×Ex:=
 if r.bad then(r,leaf 0 ⟨#[]⟩ 0 0 0) else
 if(aZ ts r.I).k=2 then({r with I:=r.I+1},leaf 1 (aZ ts r.I).t 0 (aZ ts r.I).l (aZ ts r.I).c) else
 if(aZ ts r.I).k=3 then({r with I:=r.I+1},leaf 2 (aZ ts r.I).t 0 (aZ ts r.I).l (aZ ts r.I).c) else
 if(aZ ts r.I).k=4 then({r with I:=r.I+1},leaf 3 ⟨#[]⟩ (aZ ts r.I).n (aZ ts r.I).l (aZ ts r.I).c) else(r,leaf 0 ⟨#[]⟩ 0 0 0)
def sy (s:ByteArray):Int:=
 if s.toList==[63] then 1 else if s.toList==[61,61] then 2 else if s.toList==[60] then 2 else if s.toList==[43] then 3 else if s.toList==[45] then 3 else if s.toList==[42] then 4 else 0
def qs (t:Tk):Bool:=((t.k==2||t.k==3)||t.k==4)||(t.k==6&&(t.t.toList==[40]))
end Go.Proofs.YthnogncknmhgoaaGreat.Lx
namespace Go.Proofs.YthnogncknmhgoaaGreat.Data
open ChangeShapes WideShapes ChangeAt RowKit bq
variable{aj:LV}{ae ao:Nat}{aA:OA}{fB:Option Nat}{ah:Wd}
def Sub (w a:World):Prop:=∀b o v,w.cell? ⟨b,o,none⟩=some v→a.cell? ⟨b,o,none⟩=some v
theorem Sub.trans{a b c:Wd}(h:Sub a b)(g:Sub b c):Sub a c:=fun x y z d=>g x y z (h x y z d)
abbrev ai:=@Sub.trans
theorem Sub.refl(w:Wd):Sub w w:=fun _ _ _ h=>h
mutual
theorem Ex.At.sub{w f:Wd}(a:Sub w f):∀(e:Ex) (b o:Nat),e.At w b o→e.At f b o
 | .mk k s n ys l c,b,o,h=>by
   rw[Ex.At] at h⊢
   obtain⟨A,cap,g,c1,c2,c3,i,c5,hh,q⟩:=h
   refine⟨A,cap,a _ _ _ g,a _ _ _ c1,a _ _ _ c2,a _ _ _ c3,a _ _ _ i,a _ _ _ c5,hh,?_⟩
   rcases q with j|⟨b',d,m,p⟩
   ·exact .inl j
   ·exact .inr ⟨b',d,m,gK.sub a ys b' d p⟩
theorem gK.sub{w c:Wd}(a:Sub w c):∀(es:List Ex) (b o:Nat),gK w es b o→gK c es b o
 |[],_,_,_=>by rw[gK];trivial
 |e::r,b,o,h=>by
  rw[gK] at h⊢
  exact⟨Ex.At.sub a e b o h.1,gK.sub a r b _ h.2⟩
end
theorem eG.sub{w a:Wd}{A:OA}{es:List Ex}(h:eG w A es)(e:Sub w a):eG a A es:=by
 rcases h with h|⟨b,o,c,d⟩
 ·exact .inl h
 ·exact .inr ⟨b,o,c,gK.sub e _ _ _ d⟩
theorem Ex.Cs.sub{w a:Wd}{e:Ex}{c:LV}(h:e.Cs w c)(f:Sub w a):e.Cs a c:=by
 cases e
 obtain⟨A,cap,b,d,h3⟩:=h
 exact⟨A,cap,b,d,h3.sub f⟩
theorem Ex.jy.sub{w a:Wd}{e:Ex}{c:Vl}(h:e.jy w c)(f:Sub w a):e.jy a c:=by
 cases e
 obtain⟨A,cap,b,d,h3⟩:=h
 exact⟨A,cap,b,d,h3.sub f⟩
theorem ee.sub{w b:Wd}(a:Sub w b):∀{es:List Ex} {xs:LV},ee w es xs→ee b es xs
 |[],xs,h=>by rw[ee] at h⊢;exact h
 |e::r,xs,h=>by
  rw[ee] at h⊢
  obtain⟨c,rest,d,f,g⟩:=h
  exact⟨c,rest,d,f.sub a,g.sub a⟩
def part (w:World) (S:Nat→Bool):World:={w with heap:=w.heap.mapIdx fun i o=>if S i then o else .cells #[] 0 (0,0)}
theorem uU(w:Wd)(S:Nat→Bool)(b o:Nat):(part w S).cell? ⟨b,o,none⟩=if S b then w.cell? ⟨b,o,none⟩ else none:=by
 unfold part World.cell?
 simp only[Array.getElem?_mapIdx]
 cases h:w.heap[b]? with
 |none=>simp
 |some x=>
  by_cases a:S b=true
  ·simp[a]
  ·simp[a]
def cg (B:Nat) (r:Option Nat) (b:Nat):Bool:=decide (B≤b)&&!decide (r=some b)
theorem sz:cg ae fB ao=true↔ae≤ao∧fB≠some ao:=by simp[cg]
theorem yH{base e size n:Nat}{c:Nat}{S:Nat→Bool}(h:ah.ownsRow base e size (.slice aA n c) n aj)(f:∀k,base≤k→S k=true):Src (part ah S) size aA n aj:=by
 have a:=Src.k0 h
 refine⟨a.1,?_⟩
 rcases a.2 with d|⟨b,o,rfl,g⟩
 ·exact .inl d
 ·have i:=ss h (k:=b) rfl
  refine .inr ⟨b,o,rfl,fun j u hu=> ?_⟩
  rw[uU,if_pos (f _ i.1)]
  exact g j u hu
end Go.Proofs.YthnogncknmhgoaaGreat.Data
namespace Go.Proofs.YthnogncknmhgoaaGreat.Vm
open ChangeShapes WideShapes ChangeAt RowKit bq Data
variable{cj:Act}{hg:Array Vl}{sB:BinOp}{ca:Bool}{aj bj:LV}{ae ao:Nat}{a0:Nat→Nat}{nR:Nat→Prop}{cx:Op}{ea:Oper}{fB:Option Nat}{cW:Type}{aH ci:TypeId}{EB:UnOp}{az:Vl}{ah bR jU nP oZ:Wd}
structure Ww (n:Nat) (p:Prop):Prop where
 h:p
theorem ww(n:Nat){p:Prop}(h:Ww n p):p:=h.h
theorem uw(n:Nat){p:Prop}(h:p):Ww n p:=⟨h⟩
abbrev zI:Int→Value:=Value.int .i64
abbrev zS:Value:= .slice none 0 0
theorem ll:(∀a b:List cW,(a++b).length=a.length+b.length)∧(∀(a:cW) (l:List cW),(a::l).length=l.length+1)∧([]:List cW).length=0:=⟨fun _ _=>List.length_append,fun _ _=>List.length_cons,List.length_nil⟩
theorem cX{i n:Nat}(h:decide ((i:Int)<(n:Int))=true):i<n:=Int.ofNat_lt.1 (of_decide_eq_true h)
theorem cS{i n:Nat}(h:decide ((i:Int)<(n:Int))=false):n≤i:=Nat.not_lt.1 fun g=>of_decide_eq_false h (Int.ofNat_lt.2 g)
theorem cb [BEq cW] [LawfulBEq cW]{a b:cW}(h:(a==b)=true):a=b:=eq_of_beq h
theorem cc [BEq cW] [LawfulBEq cW]{a b:cW}(h:(a==b)=false):a≠b:=fun e=>by subst e;simp at h
theorem sR:Sub ah ah:=Sub.refl ah
inductive AV where
 |val (v:Value)
 |ptr (k off:Nat)
def AV.den (ad:Nat→Nat):AV→Value
 | .val v=>v
 | .ptr k off=> .pointer (some ⟨ad k,off,none⟩)
structure bU where
 v:Value
 n:Nat
 xs:List Value
 e:TypeId
 size:Nat
abbrev Bx:=TypeId×List Value
structure St where
 bW:List (Nat×AV)
 boxes:List Bx
 rows:List bU
def look:List (Nat×AV)→Nat→Option AV
 |[],_=>none
 |(d,x)::r,t=>bif Nat.beq d t then some x else look r t
structure Own (bs:List Bx) (ts:List bU) (R:World) (ad:Nat→Nat) (W:World):Prop where
 box:∀k T cs,bs[k]?=some (T,cs)→W.heap[ad k]?=some (.cells cs.toArray T (0,0))
 inj:∀j k,j<bs.length→k<bs.length→ad j=ad k→j=k
 row:∀r∈ts,W.ownsRow 0 r.e r.size r.v r.n r.xs
 apart:∀r∈ts,∀k,k<bs.length→r.v.ownBlock≠some (ad k)
 rows:ts.Pairwise (fun r s=>∀b,r.v.ownBlock=some b→s.v.ownBlock≠some b)
 b9:∀b o u,R.cell? ⟨b,o,none⟩=some u→W.cell? ⟨b,o,none⟩=some u∧(∀k,k<bs.length→ad k≠b)∧∀r∈ts,r.v.ownBlock=some b→o<r.n*r.size
def gC (ad:Nat→Nat) (n:Nat) (ts:List bU) (b:Nat):Prop:=(∃k,k<n∧ad k=b)∨∃r∈ts,r.v.ownBlock=some b
structure ih (w:World) (G:Nat→Prop) (R0:World) (W R:World):Prop where
 os:W.os=w.os
 tape:W.tape=w.tape
 output:W.output=w.output
 size:w.heap.size≤W.heap.size
 g6:∀b,b<w.heap.size→¬G b→W.heap[b]?=w.heap[b]?
 fN:∀b o u,b<w.heap.size→R.cell? ⟨b,o,none⟩=some u→R0.cell? ⟨b,o,none⟩=some u∨G b
 sub:Sub R0 R
structure er where
 N:Nat
 w:World
 R0:World
 G:Nat→Prop
 nb:Nat
 aq:Nat→Nat
structure Rel (C:er) (S:St) (R:World) (ad:Nat→Nat) (a:Act) (W:World):Prop where
 size:a.tmps.size=C.N
 defers:a.defers=[]
 slot:∀t x,look S.bW t=some x→a.tmps[t]?=some (x.den ad)
 lt:∀t k o,look S.bW t=some (.ptr k o)→k<S.boxes.length
 own:Own S.boxes S.rows R ad W
 cg:ih C.w C.G C.R0 W R
 fO:∀k,k<S.boxes.length→C.w.heap.size≤ad k∨C.G (ad k)
 rowAt:∀r∈S.rows,∀b,r.v.ownBlock=some b→C.w.heap.size≤b∨C.G b
 nb:C.nb≤S.boxes.length
 fP:∀k,k<C.nb→ad k=C.aq k
def V (C:er) (c:Code) (Q:Exit→Act→World→Prop) (S:St) (R:World):Prop:=
 ∀ad a W,Rel C S R ad a W→c.wp prog Q a W
def VL (C:er) (ops:Array Oper) (Q:Exit→Act→World→Prop) (l:List Oper) (S:St) (R:World):Prop:=
 ∀ad a W,Rel C S R ad a W→wpList prog ops Q l a W
def eY (C:er) (Q:Exit→Act→World→Prop) (e:Exit) (S:St) (R:World):Prop:=
 ∀ad a W,Rel C S R ad a W→Q e a W
def Spec (F:FuncId) (args:List AV) (bs:List Bx) (ts:List bU) (R:World) (eP:Value→List Bx→List bU→World→Prop):Prop:=
 ∀(w:World) (ad:Nat→Nat),Own bs ts R ad w→Calls prog F (args.map (AV.den ad)).toArray w fun E W=>
  ∃v a c R',E= .returned v∧ih w (gC ad bs.length ts) R W R'∧Own a c R' ad W∧a.length=bs.length∧
   (∀r∈c,∀b,r.v.ownBlock=some b→w.heap.size≤b∨gC ad bs.length ts b)∧eP v a c R'
def End (C:er) (eP:Value→List Bx→List bU→World→Prop) (E:Ending) (W:World):Prop:=
 ∃v a c R',E= .returned v∧ih C.w C.G C.R0 W R'∧Own a c R' C.aq W∧a.length=C.nb∧
  (∀r∈c,∀b,r.v.ownBlock=some b→C.w.heap.size≤b∨C.G b)∧eP v a c R'
theorem Rel.put{C:er}{S:St}{R:Wd}{ad:Nat→Nat}{a:Act}{W:Wd}(h:Rel C S R ad a W){d:Nat}{x:AV}(e:d<C.N)(g:∀k o,x= .ptr k o→k<S.boxes.length):
 Rel C {S with bW:=(d,x)::S.bW} R ad (a.put (some d) (x.den ad)) W:=by
 refine⟨?_,h.defers,?_,?_,h.own,h.cg,h.fO,h.rowAt,h.nb,h.fP⟩
 ·simp only[Act.put,Array.size_setIfInBounds];exact h.size
 ·intro t y b
  simp only[look] at b
  cases c:Nat.beq d t with
  |true=>
   obtain rfl:=g7 c
   rw[c] at b
   simp only[cond_true,Option.some.injEq] at b
   subst b
   simp only[Act.put]
   rw[Array.getElem?_setIfInBounds_self_of_lt (by rw[h.size];exact e)]
  |false=>
   rw[c] at b
   simp only[cond_false] at b
   have f:d≠t:=by rintro rfl;simp[Nat.beq_refl] at c
   simp only[Act.put]
   rw[Array.getElem?_setIfInBounds_ne f]
   exact h.slot t y b
 ·intro t k o b
  simp only[look] at b
  cases c:Nat.beq d t with
  |true=>
   rw[c] at b
   simp only[cond_true,Option.some.injEq] at b
   exact g k o b
  |false=>
   rw[c] at b
   exact h.lt t k o b
def ev (S:St):Operand→Option AV
 | .tmp t=>look S.bW t
 | .const v=>some (.val v)
 | .func f=>some (.val (.func (.func f) #[] #[]))
 | .global _=>none
theorem Rel.eval{C:er}{S:St}{R:Wd}{ad:Nat→Nat}{a:Act}{W:Wd}(h:Rel C S R ad a W){x:Operand}{y:AV}(b:ev S x=some y):a.eval x=y.den ad:=by
 cases x with
 |tmp t=>simp only[Act.eval];rw[Array.getD_eq_getD_getElem?,h.slot t y b];rfl
 |const v=>simp only[ev,Option.some.injEq] at b;subst b;rfl
 |func f=>simp only[ev,Option.some.injEq] at b;subst b;rfl
 |global g=>cases b
structure sA (W W':World) (b:Nat) (ob:Obj):Prop where
 os:W'.os=W.os
 tape:W'.tape=W.tape
 output:W'.output=W.output
 size:W'.heap.size=W.heap.size
 at_:W'.heap[b]?=some ob
 other:∀k,k≠b→W'.heap[k]?=W.heap[k]?
theorem o0{base e size n:Nat}(h:ah.ownsRow base e size az n aj)(i:∀b,az.ownBlock=some b→bR.heap[b]?=ah.heap[b]?):bR.ownsRow base e size az n aj:=by
 refine⟨h.1,?_⟩
 rcases h.2 with c|⟨g,cap,a,rfl,d,h3,f⟩
 ·exact .inl c
 ·exact .inr ⟨g,cap,a,rfl,d,(i g rfl).trans h3,f⟩
variable{hB:er}{bI:St}
theorem Rel.ko{W W':Wd}(h:Rel hB bI ah a0 cj W)(w:bI.boxes[ae]?=some (ao,aj))
 (c:sA W W' (a0 ae) (.cells bj.toArray ao (0,0))):Rel hB {bI with boxes:=bI.boxes.set ae (ao,bj)} ah a0 cj W':=by
 have f:ae<bI.boxes.length:=(List.getElem?_eq_some_iff.1 w).1
 refine⟨h.size,h.defers,h.slot,?_,⟨?_,?_,?_,?_,h.own.rows,?_⟩,⟨c.os.trans h.cg.os,c.tape.trans h.cg.tape,c.output.trans h.cg.output,by rw[c.size];exact h.cg.size,?_,h.cg.fN,h.cg.sub⟩,?_,h.rowAt,by simpa using h.nb,h.fP⟩
 ·intro t j o a
  have:=h.lt t j o a
  simpa using this
 ·intro j p q a
  by_cases l:j=ae
  ·subst l
   simp only[List.getElem?_set_self f,Option.some.injEq,Prod.mk.injEq] at a
   obtain⟨rfl,rfl⟩:=a
   exact c.at_
  ·simp only[List.getElem?_set_ne (Ne.symm l)] at a
   have v:j<bI.boxes.length:=(List.getElem?_eq_some_iff.1 a).1
   rw[c.other _ (fun e=>l (h.own.inj j ae v f e))]
   exact h.own.box j p q a
 ·intro i j s a
  exact h.own.inj i j (by simpa using s) (by simpa using a)
 ·intro r g
  exact o0 (h.own.row r g) fun b k=>c.other b (fun e=>h.own.apart r g ae f (by rw[k,e]))
 ·intro r g j a
  exact h.own.apart r g j (by simpa using a)
 ·intro b o u hu
  obtain⟨d,m,h3⟩:=h.own.b9 b o u hu
  refine⟨?_,fun j a=>m j (by simpa using a),h3⟩
  unfold World.cell? at d⊢
  rw[c.other b (fun e=>m ae f e.symm)]
  exact d
 ·intro b k n
  rw[c.other b (fun e=> ?_)]
  ·exact h.cg.g6 b k n
  ·rcases h.fO ae f with d|d
   ·omega
   ·exact n (e▸d)
 ·intro j a
  exact h.fO j (by simpa using a)
structure iG (W W':World):Prop where
 os:W'.os=W.os
 tape:W'.tape=W.tape
 output:W'.output=W.output
 size:W.heap.size≤W'.heap.size
 fN:∀k,k<W.heap.size→W'.heap[k]?=W.heap[k]?
theorem iG.alloc(W:Wd)(o:Obj):iG W (W.alloc o):=⟨rfl,rfl,rfl,by simp,fun k a=>heap_alloc_old W o a⟩
theorem iG.cell{W W':Wd}(h:iG W W'){b o:Nat}{u:Vl}(hu:W.cell? ⟨b,o,none⟩=some u):W'.cell? ⟨b,o,none⟩=some u:=by
 have a:=World.block_lt_of_cell? W _ hu
 unfold World.cell? at hu⊢
 rw[h.fN b a]
 exact hu
theorem iH{base e size n k:Nat}(h:ah.ownsRow base e size az n aj)(a:az.ownBlock=some k):k<ah.heap.size:=(ss h a).2
variable{aS:List Bx}{aV:List bU}
theorem Own.ii(h:Own aS aV ah a0 bR){k:Nat}(a:k<aS.length):a0 k<bR.heap.size:=by
 have:=h.box k (aS[k]).1 (aS[k]).2 (List.getElem?_eq_getElem a)
 exact(Array.getElem?_eq_some_iff.1 this).1
theorem Own.k5(h:Own aS aV ah a0 bR)(g:iG bR jU):Own aS aV ah a0 jU:=by
 refine⟨fun k T cs a=> ?_,h.inj,fun r c=>o0 (h.row r c) fun b f=>g.fN b (iH (h.row r c) f),h.apart,h.rows,fun b o u hu=> ?_⟩
 ·rw[g.fN _ (h.ii (List.getElem?_eq_some_iff.1 a).1)]
  exact h.box k T cs a
 ·obtain⟨d,e,h3⟩:=h.b9 b o u hu
  exact⟨g.cell d,e,h3⟩
theorem ih.k5(h:ih ah nR bR jU nP)(g:iG jU oZ):ih ah nR bR oZ nP:=
 ⟨g.os.trans h.os,g.tape.trans h.tape,g.output.trans h.output,dS h.size g.size,fun b a c=>(g.fN b (lA a h.size)).trans (h.g6 b a c),h.fN,h.sub⟩
theorem Rel.alloc{C:er}{S:St}{R:Wd}{ad:Nat→Nat}{a:Act}{W:Wd}(h:Rel C S R ad a W)(T:TypeId)(cs:LV):
 ∃q,q S.boxes.length=W.heap.size∧(∀k,k<S.boxes.length→q k=ad k)∧Rel C {S with boxes:=S.boxes++ [(T,cs)]} R q a (W.alloc (.cells cs.toArray T)):=by
 have g:=iG.alloc W (.cells cs.toArray T)
 have l:=h.own.k5 g
 have d:∀k,k<S.boxes.length→(if k=S.boxes.length then W.heap.size else ad k)=ad k:=fun k c=>if_neg (by omega)
 refine⟨fun k=>if k=S.boxes.length then W.heap.size else ad k,by simp,d,?_⟩
 refine⟨h.size,h.defers,?_,?_,⟨?_,?_,l.row,?_,l.rows,?_⟩,h.cg.k5 g,?_,h.rowAt,?_,?_⟩
 ·intro t x p
  rw[h.slot t x p]
  cases x with
  |val v=>rfl
  |ptr k o=>simp only[AV.den];rw[d k (h.lt t k o p)]
 ·intro t k o p
  have:=h.lt t k o p
  simp only[List.length_append,List.length_singleton];omega
 ·intro k z A c
  by_cases w:k<S.boxes.length
  ·rw[List.getElem?_append_left w] at c
   simp only[d k w]
   exact l.box k z A c
  ·have H:k<(S.boxes++ [(T,cs)]).length:=(List.getElem?_eq_some_iff.1 c).1
   simp only[List.length_append,List.length_singleton] at H
   have G:k=S.boxes.length:=by omega
   subst G
   rw[List.getElem?_append_right (Nat.le_refl _)] at c
   simp only[Nat.sub_self,List.getElem?_cons_zero,Option.some.injEq,Prod.mk.injEq] at c
   obtain⟨rfl,rfl⟩:=c
   simp only[↓reduceIte]
   exact heap_alloc_new W _
 ·intro i j E F m
  simp only[List.length_append,List.length_singleton] at E F
  by_cases n:i<S.boxes.length
  ·by_cases f:j<S.boxes.length
   ·rw[d i n,d j f] at m
    exact h.own.inj i j n f m
   ·rw[d i n,if_pos (by omega)] at m
    have:=h.own.ii n
    omega
  ·by_cases f:j<S.boxes.length
   ·rw[d j f,if_pos (by omega)] at m
    have:=h.own.ii f
    omega
   ·omega
 ·intro r y k c
  simp only[List.length_append,List.length_singleton] at c
  by_cases e:k<S.boxes.length
  ·simp only[d k e]
   exact h.own.apart r y k e
  ·simp only[if_pos (show k=S.boxes.length by omega)]
   intro s
   have:=iH (h.own.row r y) s
   omega
 ·intro b o u hu
  obtain⟨B,D,h3⟩:=l.b9 b o u hu
  refine⟨B,fun k c=> ?_,h3⟩
  simp only[List.length_append,List.length_singleton] at c
  by_cases e:k<S.boxes.length
  ·simp only[d k e];exact D k e
  ·simp only[if_pos (show k=S.boxes.length by omega)]
   intro s
   have:=World.block_lt_of_cell? W _ (h.own.b9 b o u hu).1
   simp only at this
   omega
 ·intro k c
  simp only[List.length_append,List.length_singleton] at c
  by_cases e:k<S.boxes.length
  ·simp only[d k e];exact h.fO k e
  ·simp only[if_pos (show k=S.boxes.length by omega)]
   exact .inl h.cg.size
 ·have:=h.nb
  simp only[List.length_append,List.length_singleton];omega
 ·intro k c
  have:=h.nb
  rw[d k (by omega)]
  exact h.fP k c
def add (R:World) (b:Nat) (cs:List Value):World:=
 {R with heap:=((List.range (max R.heap.size (b+1))).map fun i=>if i=b then Obj.cells cs.toArray 0 (0,0) else(R.heap[i]?).getD (.cells #[] 0 (0,0))).toArray}
theorem hO(R:Wd)(b:Nat)(cs:LV)(x o:Nat):(add R b cs).cell? ⟨x,o,none⟩=if x=b then cs[o]? else R.cell? ⟨x,o,none⟩:=by
 unfold add World.cell?
 simp only[List.getElem?_toArray,List.getElem?_map]
 by_cases a:x=b
 ·subst a
  rw[List.getElem?_range (by omega)]
  simp
 ·by_cases c:x<max R.heap.size (b+1)
  ·rw[List.getElem?_range c]
   simp only[Option.map_some,if_neg a]
   cases d:R.heap[x]? with
   |none=>simp
   |some ob=>simp
  ·rw[List.getElem?_eq_none (by simpa using c)]
   have:R.heap[x]?=none:=Array.getElem?_eq_none (by omega)
   simp[this,a]
section
variable{C:er}{ops:Array Oper}{Q:Exit→Act→Wd→Prop}{rest:List Oper}{S S':St}{R R':Wd}{d:Nat}{ty:TypeId}{pos:String}{af:Array Edge}
theorem Er(h:eY C Q .normal S R):VL C ops Q [] S R:=fun ad a W b=>h ad a W b
theorem Es(f:ea.guard=none)(h:∀ad a W,Rel C S R ad a W→∃v W' b,(execOp a.eval ea).run prog W= .ok (.value v) W'∧Rel C S' R' b (a.put ea.dst v) W')
 (k:VL C ops Q rest S' R'):VL C ops Q (ea::rest) S R:=by
 intro ad a W g
 obtain⟨v,W',b,c,d⟩:=h ad a W g
 refine wpList_plain f fun K e=> ?_
 unfold Oper.wp
 rw[c]
 exact e _ _ (k b _ W' d)
theorem Et(d:(ops[ae]?).bind (·.dst)=some ao)(f:look S.bW ao=some (.val (.bool (!ca))))(c:∀e,fB=some e→e<C.N)
 (k:VL C ops Q rest {S with bW:=match fB with|some e=>(e,.val undef)::S.bW|none=>S.bW} R):VL C ops Q (⟨fB,cx,ty,pos,af,some (ae,ca)⟩::rest) S R:=by
 intro ad a W b
 have g:Region.wanted (⟨fB,cx,ty,pos,af,some (ae,ca)⟩:Oper) (yielded ops a.tmps)=false:=by
  simp only[Region.wanted,yielded,d]
  have:=b.slot ao _ f
  simp only[AV.den] at this
  simp[this]
 unfold wpList
 rw[if_neg (by rw[g];simp)]
 cases fB with
 |none=>exact k ad _ W b
 |some e=>exact k ad _ W (b.put (x:= .val undef) (c e rfl) (fun k o h=>by cases h))
theorem Eu(c:(ops[ae]?).bind (·.dst)=some ao)(d:look S.bW ao=some (.val (.bool ca)))
 (k:VL C ops Q (⟨fB,cx,ty,pos,af,none⟩::rest) S R):VL C ops Q (⟨fB,cx,ty,pos,af,some (ae,ca)⟩::rest) S R:=by
 intro ad a W b
 have e:Region.wanted (⟨fB,cx,ty,pos,af,some (ae,ca)⟩:Oper) (yielded ops a.tmps)=true:=by
  simp only[Region.wanted,yielded,c]
  have:=b.slot ao _ d
  simp only[AV.den] at this
  simp[this]
 have:=k ad a W b
 unfold wpList at this⊢
 rw[if_pos e]
 rw[if_pos (by simp[Region.wanted])] at this
 exact this
structure hC (K:Nat→Bool) (bs:List Bx) (R:World) (ad:Nat→Nat) (W:World):Prop where
 box:∀k T cs,K k=true→bs[k]?=some (T,cs)→W.heap[ad k]?=some (.cells cs.toArray T (0,0))
 b9:∀b o u,R.cell? ⟨b,o,none⟩=some u→W.cell? ⟨b,o,none⟩=some u
def jX (S:St) (ad:Nat→Nat) (a:Act):Prop:=∀t x,look S.bW t=some x→a.tmps[t]?=some (x.den ad)
theorem jX.eval{S:St}{ad:Nat→Nat}{a:Act}(h:jX S ad a){x:Operand}{y:AV}(b:ev S x=some y):a.eval x=y.den ad:=by
 cases x with
 |tmp t=>simp only[Act.eval];rw[Array.getD_eq_getD_getElem?,h t y b];rfl
 |const v=>simp only[ev,Option.some.injEq] at b;subst b;rfl
 |func f=>simp only[ev,Option.some.injEq] at b;subst b;rfl
 |global g=>cases b
def bO (K:Nat→Bool) (S:St) (R:World) (op:Op) (ty:TypeId) (v:AV):Prop:=
 (∀k o,v= .ptr k o→k<S.boxes.length∨∃t,look S.bW t=some (.ptr k o)∨∃c,look S.bW t=some (.ptr k c))∧
 ∀ad a W dst pos af b,jX S ad a→hC K S.boxes R ad W→(execOp a.eval ⟨dst,op,ty,pos,af,b⟩).run prog W= .ok (.value (v.den ad)) W
def gk:Nat→Bool:=fun _=>true
theorem Rel.nS(h:Rel C bI ah a0 cj bR)(K:Nat→Bool):hC K bI.boxes ah a0 bR:=
 ⟨fun k T cs _ a=>h.own.box k T cs a,fun b o u hu=>(h.own.b9 b o u hu).1⟩
theorem bO.lt{K:Nat→Bool}{op:Op}{v:AV}{d:Wd}(h:bO K S d op ty v){ad:Nat→Nat}{a:Act}{W:Wd}(c:Rel C S R ad a W):∀k o,v= .ptr k o→k<S.boxes.length:=by
 intro k o e
 rcases h.1 k o e with b|⟨t,b|⟨f,b⟩⟩
 ·exact b
 ·exact c.lt t k o b
 ·exact c.lt t k f b
variable{cy:AV}
theorem Ev(h:bO gk S R cx ty cy)(c:d<C.N)(k:VL C ops Q rest {S with bW:=(d,cy)::S.bW} R):
 VL C ops Q (⟨some d,cx,ty,pos,af,none⟩::rest) S R:=
 Es rfl (fun ad a W b=>⟨cy.den ad,W,ad,h.2 ad a W _ _ _ _ b.slot (b.nS _),b.put c (h.lt b)⟩) k
theorem bO.of{K:Nat→Bool}{op:Op}{v:Vl}(h:∀ad a W dst pos af b,jX S ad a→hC K S.boxes R ad W→(execOp a.eval ⟨dst,op,ty,pos,af,b⟩).run prog W= .ok (.value v) W):bO K S R op ty (.val v):=
 ⟨fun k o e=>(by cases e),h⟩
variable{K:Nat→Bool}
theorem yI{x:Operand}(b:ev S x=some cy):bO K S R (.move x) ty cy:=by
 refine⟨fun k o e=> ?_,fun ad a W dst pos af d c f=>by rw[←c.eval b];rfl⟩
 subst e
 cases x with
 |tmp t=>exact .inr ⟨t,.inl b⟩
 |_=>cases b
theorem Ew{x:Operand}(b:ev S x=some cy):bO K S R (.assign x) ty cy:=by
 refine⟨fun k o e=> ?_,fun ad a W dst pos af d c f=>by rw[←c.eval b];rfl⟩
 subst e
 cases x with
 |tmp t=>exact .inr ⟨t,.inl b⟩
 |_=>cases b
theorem Ey{c x y:Operand}{p:Vl}(f:ev S c=some (.val (.bool true)))(g:ev S x=some (.val p)):bO K S R (.pick c x y) ty (.val p):=
 bO.of fun ad a W dst pos af h e i=>by
   have b:=e.eval f
   have d:=e.eval g
   simp only[AV.den] at b d
   simp[execOp,b,d,asBool]
theorem Ez{c x y:Operand}{p:Vl}(f:ev S c=some (.val (.bool false)))(g:ev S y=some (.val p)):bO K S R (.pick c x y) ty (.val p):=
 bO.of fun ad a W dst pos af h e i=>by
   have b:=e.eval f
   have d:=e.eval g
   simp only[AV.den] at b d
   simp[execOp,b,d,asBool]
theorem gV{x y:Operand}{p q v:Vl}(e:ev S x=some (.val p))(f:ev S y=some (.val q))
 (h:∀W,(do eqGuard sB aH x y p q;binOp sB aH p q:Sem Vl).run prog W= .ok v W):bO K S R (.binOp sB aH x y ci) ty (.val v):=
 bO.of fun ad a W dst pos af g d i=>by
   have b:=d.eval e
   have c:=d.eval f
   simp only[AV.den] at b c
   have:=h W
   simp only[execOp,b,c]
   rw[Sem.run_bind,this]
   rfl
theorem EA{x:Operand}{p v:Vl}(d:ev S x=some (.val p))(h:∀W,(Op.unary EB p).run prog W= .ok v W):bO K S R (.unOp EB aH x) ty (.val v):=
 bO.of fun ad a W dst pos af e c f=>by
   have b:=c.eval d
   simp only[AV.den] at b
   have:=h W
   simp only[execOp,b]
   rw[Sem.run_bind,this]
   rfl
theorem EC{x:Operand}(a:ev S x=some (.val (.bool ca))):bO K S R (.unOp .not aH x) ty (.val (.bool (!ca))):=EA a (fun W=>by rfl)
theorem yJ{x:Operand}{p v:Vl}(d:ev S x=some (.val p))(h:∀W,(convert aH ci p).run prog W= .ok v W):bO K S R (.convert aH ci x) ty (.val v):=
 bO.of fun ad a W dst pos af e c f=>by
   have b:=c.eval d
   simp only[AV.den] at b
   have:=h W
   simp only[execOp,b]
   rw[Sem.run_bind,this]
   rfl
theorem ED{x:Operand}{i:Nat}(e:ev S x=some (.val (.tuple hg)))(c:hg[i]?=some az):bO K S R (.extract x i) ty (.val az):=
 bO.of fun ad a W dst pos af f d g=>by
   have b:=d.eval e
   simp only[AV.den] at b
   simp[execOp,b,Instr.extract,c]
def yK (P:Program) (T:TypeId):Bool:=match P.underlying T with|some (.struct _)|some (.array _ _)=>true|_=>false
def sC (P:Program) (T:TypeId):Nat:=((P.info? T).map (·.size)).getD 0
def qt (P:Program) (T:TypeId) (agg:Bool) (n:Nat):Bool:=(P.underlying T).isSome&&(P.info? T).isSome&& yK P T==agg&& sC P T==n
abbrev cr (T:TypeId) (agg:Bool) (n:Nat):Prop:=qt prog T agg n=true
theorem sE{n:Nat}(h:cr aH ca n)(W:Wd):(isAgg aH).run prog W= .ok ca W:=by
 simp only[cr,qt,Bool.and_eq_true,beq_iff_eq] at h
 obtain⟨⟨⟨a,b⟩,h3⟩,c⟩:=h
 unfold yK at h3
 cases hu:prog.underlying aH with
 |none=>rw[hu] at a;cases a
 |some D=>
  rw[hu] at h3
  simp only[isAgg,Sem.run_bind,run_underlying hu,Result.andThen_ok]
  cases D<;>simp only[Sem.run_pure,←h3]
theorem sF{n:Nat}(h:cr aH ca n)(W:Wd):(sizeOf aH).run prog W= .ok n W:=by
 simp only[cr,qt,Bool.and_eq_true,beq_iff_eq] at h
 obtain⟨⟨⟨d,c⟩,h3⟩,a⟩:=h
 unfold sC at a
 cases b:prog.info? aH with
 |none=>rw[b] at c;cases c
 |some i=>
  rw[b] at a
  simp only[Option.map_some,Option.getD_some] at a
  simp[sizeOf,typeInfo,b,a]
theorem kp(b o n:Nat):(⟨b,o,none⟩:Addr).add n=⟨b,o+n,none⟩:=by unfold Addr.add;split<;>simp_all
theorem o1{b o:Nat}{W:Wd}(h:cr aH true aj.length)(a:∀j u,aj[j]?=some u→W.cell? ⟨b,o+j,none⟩=some u):
 (Instr.loadAt aH (.pointer (some ⟨b,o,none⟩))).run prog W= .ok (.agg aj.toArray) W:=by
 have c:=run_loadCells_list (P:=prog) W ⟨b,o,none⟩ aj (fun j u hu=>by rw[kp];exact a j u hu)
 simp only[Instr.loadAt,Instr.sureAddr,loadVar,Sem.run_bind,Sem.run_pure,Result.andThen_ok,sE h,sF h,c,if_true]
theorem o2{b o:Nat}{W:Wd}(h:cr aH false 1)(a:W.cell? ⟨b,o,none⟩=some az):
 (Instr.loadAt aH (.pointer (some ⟨b,o,none⟩))).run prog W= .ok az W:=by
 simp only[Instr.loadAt,Instr.sureAddr,loadVar,Sem.run_bind,Sem.run_pure,Result.andThen_ok,sE h,Bool.false_eq_true,if_false,run_load,a]
theorem hC.cell{bs:List Bx}{ad:Nat→Nat}{W:Wd}(h:hC K bs R ad W){k T i:Nat}{cs:LV}{u:Vl}(a:K k=true)(b:bs[k]?=some (T,cs))(hu:cs[i]?=some u):W.cell? ⟨ad k,i,none⟩=some u:=by
 have:=h.box k T cs a b
 simp[World.cell?,this,hu]
theorem yL{x:Operand}(i:ev S x=some (.ptr ae 0))(d:K ae=true)(g:S.boxes[ae]?=some (ci,aj))(f:cr aH true aj.length):bO K S R (.load aH x) ty (.val (.agg aj.toArray)):=
 bO.of fun ad a W dst pos af k h e=>by
   have c:=h.eval i
   simp only[AV.den] at c
   have:=o1 (b:=ad ae) (o:=0) (W:=W) f (fun j u hu=>by rw[Nat.zero_add];exact e.cell d g hu)
   simp only[execOp,c,Sem.run_bind,this,Result.andThen_ok,Sem.run_pure]
theorem qu{x:Operand}{k off n:Nat}{cs ds:LV}(m:ev S x=some (.ptr k off))(d:K k=true)(h:S.boxes[k]?=some (ci,cs))(f:cr aH true n)(g:(cs.drop off).take n=ds)(i:ds.length=n):bO K S R (.load aH x) ty (.val (.agg ds.toArray)):=
 bO.of fun ad a W dst pos af p l e=>by
   have c:=l.eval m
   simp only[AV.den] at c
   subst i
   have:=o1 (b:=ad k) (o:=off) (W:=W) f (fun j u hu=>by
    refine e.cell d h ?_
    rw[←g] at hu
    rw[List.getElem?_take] at hu
    split at hu
    ·rw[List.getElem?_drop] at hu;exact hu
    ·cases hu)
   simp only[execOp,c,Sem.run_bind,this,Result.andThen_ok,Sem.run_pure]
theorem EE{x:Operand}(i:ev S x=some (.ptr ae ao))(d:K ae=true)(g:S.boxes[ae]?=some (ci,aj))(f:cr aH false 1)(hu:aj[ao]?=some az):bO K S R (.load aH x) ty (.val az):=
 bO.of fun ad a W dst pos af j h e=>by
   have c:=h.eval i
   simp only[AV.den] at c
   have:=o2 (b:=ad ae) (o:=ao) (W:=W) f (e.cell d g hu)
   simp only[execOp,c,Sem.run_bind,this,Result.andThen_ok,Sem.run_pure]
theorem jY{x:Operand}{b o:Nat}{cs:LV}(h:ev S x=some (.val (.pointer (some ⟨b,o,none⟩))))(e:cr aH true cs.length)(f:∀j u,cs[j]?=some u→R.cell? ⟨b,o+j,none⟩=some u):bO K S R (.load aH x) ty (.val (.agg cs.toArray)):=
 bO.of fun ad a W dst pos af i g d=>by
   have c:=g.eval h
   simp only[AV.den] at c
   have:=o1 (b:=b) (o:=o) (W:=W) e (fun j u hu=>d.b9 _ _ _ (f j u hu))
   simp only[execOp,c,Sem.run_bind,this,Result.andThen_ok,Sem.run_pure]
theorem dT{x:Operand}{b o:Nat}(h:ev S x=some (.val (.pointer (some ⟨b,o,none⟩))))(e:cr aH false 1)(f:R.cell? ⟨b,o,none⟩=some az):bO K S R (.load aH x) ty (.val az):=
 bO.of fun ad a W dst pos af i g d=>by
   have c:=g.eval h
   simp only[AV.den] at c
   have:=o2 (b:=b) (o:=o) (W:=W) e (d.b9 _ _ _ f)
   simp only[execOp,c,Sem.run_bind,this,Result.andThen_ok,Sem.run_pure]
def qv (P:Program) (T:TypeId) (i off:Nat):Bool:=
 match P.underlying T with
 |some (.struct fs)=>(match fs[i]? with|some f=>f.offset==off&&(P.info? f.type).isSome&& sC P f.type !=0|none=>false)
 |_=>false
abbrev qw (T:TypeId) (i off:Nat):Prop:=qv prog T i off=true
theorem yM{i off b o:Nat}(h:qw aH i off)(W:Wd):(Instr.fieldAt aH (.pointer (some ⟨b,o,none⟩)) i).run prog W= .ok (.pointer (some ⟨b,o+off,none⟩)) W:=by
 unfold qw qv at h
 cases hu:prog.underlying aH with
 |none=>rw[hu] at h;cases h
 |some D=>
  rw[hu] at h
  cases D with
  |struct fs=>
   simp only at h
   cases a:fs[i]? with
   |none=>rw[a] at h;cases h
   |some f=>
    rw[a] at h
    simp only[Bool.and_eq_true,beq_iff_eq,bne_iff_ne] at h
    obtain⟨⟨e,d⟩,h3⟩:=h
    cases c:prog.info? f.type with
    |none=>rw[c] at d;cases d
    |some inf=>
     have g:inf.size≠0:=by simpa[sC,c] using h3
     simp[Instr.fieldAt,run_underlying hu,a,Instr.sureAddr,fieldPlace,sizeOf,typeInfo,c,g,kp,e]
  |_=>cases h
theorem EF{x:Operand}{i k o off:Nat}(b:ev S x=some (.ptr k o))(d:qw aH i off):bO K S R (.fieldAddr aH x i) ty (.ptr k (o+off)):=by
 refine⟨fun j l e=> ?_,fun ad a W dst pos af g f h=> ?_⟩
 ·cases e
  cases x with
  |tmp t=>exact .inr ⟨t,.inr ⟨o,b⟩⟩
  |_=>cases b
 ·have c:=f.eval b
  simp only[AV.den] at c
  simp only[execOp,c,Sem.run_bind,yM d,Result.andThen_ok,Sem.run_pure,AV.den]
theorem EG{x:Operand}{i b o off:Nat}(f:ev S x=some (.val (.pointer (some ⟨b,o,none⟩))))(d:qw aH i off):bO K S R (.fieldAddr aH x i) ty (.val (.pointer (some ⟨b,o+off,none⟩))):=
 bO.of fun ad a W dst pos af g e h=>by
   have c:=e.eval f
   simp only[AV.den] at c
   simp only[execOp,c,Sem.run_bind,yM d,Result.andThen_ok,Sem.run_pure]
def uV (P:Program) (T:TypeId) (i off:Nat) (agg:Bool) (n:Nat):Bool:=
 match P.underlying T with
 |some (.struct fs)=>(match fs[i]? with|some f=>f.offset==off&& qt P f.type agg n|none=>false)
 |_=>false
abbrev kq (T:TypeId) (i off:Nat) (agg:Bool) (n:Nat):Prop:=uV prog T i off agg n=true
theorem EH{i off n:Nat}(h:kq aH i off false n)(hu:hg[off]?=some az)(W:Wd):(Instr.field aH (.agg hg) i).run prog W= .ok az W:=by
 unfold kq uV at h
 cases a:prog.underlying aH with
 |none=>rw[a] at h;cases h
 |some D=>
  rw[a] at h
  cases D with
  |struct fs=>
   simp only at h
   cases b:fs[i]? with
   |none=>rw[b] at h;cases h
   |some f=>
    rw[b] at h
    simp only[Bool.and_eq_true,beq_iff_eq] at h
    obtain⟨c,d⟩:=h
    simp[Instr.field,run_underlying a,b,asAgg,part,sE d,c,hu]
  |_=>cases h
theorem EI{i off n:Nat}(h:kq aH i off true n)(W:Wd):(Instr.field aH (.agg hg) i).run prog W= .ok (.agg (hg.extract off (off+n))) W:=by
 unfold kq uV at h
 cases a:prog.underlying aH with
 |none=>rw[a] at h;cases h
 |some D=>
  rw[a] at h
  cases D with
  |struct fs=>
   simp only at h
   cases b:fs[i]? with
   |none=>rw[b] at h;cases h
   |some f=>
    rw[b] at h
    simp only[Bool.and_eq_true,beq_iff_eq] at h
    obtain⟨d,c⟩:=h
    simp[Instr.field,run_underlying a,b,asAgg,part,sE c,sF c,d]
  |_=>cases h
theorem k6{x:Operand}{i off n:Nat}(d:ev S x=some (.val (.agg hg)))(h:kq aH i off false n)(hu:hg[off]?=some az):bO K S R (.field aH x i) ty (.val az):=
 bO.of fun ad a W dst pos af e c f=>by
   have b:=c.eval d
   simp only[AV.den] at b
   simp only[execOp,b,Sem.run_bind,EH h hu,Result.andThen_ok,Sem.run_pure]
theorem mj{x:Operand}{i off n:Nat}{cs ds:Array Vl}(e:ev S x=some (.val (.agg cs)))(h:kq aH i off true n)(c:cs.extract off (off+n)=ds):bO K S R (.field aH x i) ty (.val (.agg ds)):=
 bO.of fun ad a W dst pos af f d g=>by
   have b:=d.eval e
   simp only[AV.den] at b
   simp only[execOp,b,Sem.run_bind,EI h,c,Result.andThen_ok,Sem.run_pure]
end
end Go.Proofs.YthnogncknmhgoaaGreat.Vm
