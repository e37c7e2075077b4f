/- Lemmas for ModelOrs (2 of 15). No conditions. -/
import Derived.Great.BuildSlice
import Derived.OrdersHeld
import Derived.Test.YthnogncknmhgoaaGreatProg
import Derived.Laws.Cover1
import Derived.Test.YthnogncknmhgoaaGreatM0
set_option linter.all false
set_option maxRecDepth 100000
set_option maxHeartbeats 485000000
open Go.Proofs.Tryz
namespace Go.Proofs.YthnogncknmhgoaaGreat.Vm
open ChangeShapes WideShapes ChangeAt RowKit bq Data
variable{cj:Act}{nM:Act→Wd→Prop}{hY:Array (Nat×Operand)}{c8:Array Operand}{fi:Array TypeId}{hg uW:Array Vl}{ca:Bool}{gl:Code}{lG:Ending→Wd→Prop}{dx:Func}{bk:FuncId}{aj bj:LV}{aS lF:List Bx}{aV o5:List bU}{ae ao aX eO:Nat}{a0:Nat→Nat}{cx:Op}{fB:Option Nat}{k8 nU u3:ResultVar}{bI:St}{o3:St→Wd→Prop}{cW:Type}{aH ci:TypeId}{az cM fp:Vl}{hZ:Vl→List Bx→List bU→Wd→Prop}{ah bR:Wd}
def jA (C:er) (S:St) (R:World) (dst:Option Nat) (op:Op) (ty:TypeId) (P:St→World→Prop):Prop:=
 ∀ad a W pos af e,Rel C S R ad a W→∃c W' b,(execOp a.eval ⟨dst,op,ty,pos,af,e⟩).run prog W= .ok c W'∧
  ((∃v,c= .value v∧b=a.put dst v)∨(c= .skip∧b=a.put dst undef))∧
  ∃S' R' d,P S' R'∧Sub R R'∧Rel C S' R' d b W'∧∀k,k<S.boxes.length→d k=ad k
section
variable{C:er}{ops:Array Oper}{Q:Exit→Act→Wd→Prop}{rest:List Oper}{S S':St}{R R':Wd}{d:Nat}{ty:TypeId}{pos:String}{af:Array Edge}
theorem nT(h:jA C S R fB cx ty o3)(k:∀S' R',o3 S' R'→Sub R R'→VL C ops Q rest S' R'):VL C ops Q (⟨fB,cx,ty,pos,af,none⟩::rest) S R:=by
 intro ad a W i
 obtain⟨l,W',j,f,g,S',R',b,h3,c,d,_⟩:=h ad a W pos af none i
 refine wpList_plain rfl fun K e=> ?_
 unfold Oper.wp
 rw[f]
 rcases g with⟨v,rfl,rfl⟩|⟨rfl,rfl⟩
 ·exact e _ _ (k S' R' h3 c b _ W' d)
 ·exact e _ _ (k S' R' h3 c b _ W' d)
theorem sG(h:ah.heap[ae]?=some (.cells hg aH (0,0))):sA ah (ah.setRow ae uW) ae (.cells uW aH (0,0)):=
 ⟨rfl,rfl,rfl,by simp,setRow_heap ah ae hg uW aH (0,0) h,fun k a=>setRow_other ah ae k uW a⟩
theorem sH{x y:Operand}{k off n:Nat}(j:ev S x=some (.ptr k off))(l:ev S y=some (.val az))(d:S.boxes[k]?=some (ci,aj))
 (h:cr aH ca n) (e:az.cells.size=n) (o:off+n≤aj.length) (g:az.cells.toList.all (·.oneCell')=true):
 jA C S R none (.store aH x y) ty fun S' R'=>S'={S with boxes:=S.boxes.set k (ci,aj.take off++az.cells.toList++aj.drop (off+n))}∧R'=R:=by
 intro ad a W pos af m b
 have e1:=b.eval j
 have e2:=b.eval l
 simp only[AV.den] at e1 e2
 have c:=b.own.box k ci aj d
 have f:=run_storeCells_at prog (ad k) off ci az.cells.toList 0 aj.toArray W c (by simp only[Array.length_toList,List.size_toArray,Nat.add_zero];omega) (fun u hu=>by
  have:=List.all_eq_true.1 g u hu
  exact this)
 have i:(Instr.storeAt aH (.pointer (some ⟨ad k,off,none⟩)) az).run prog W= .ok () (W.setRow (ad k) (aj.take off++az.cells.toList++aj.drop (off+n)).toArray):=by
  simp only[Instr.storeAt,Instr.sureAddr,storeVar,Sem.run_bind,Sem.run_pure,Result.andThen_ok,sF h,e,ne_eq,not_true_eq_false,if_false]
  simp only[List.toList_toArray,Nat.add_zero,Array.length_toList,e] at f
  exact f
 refine⟨.skip,_,a,?_,.inr ⟨rfl,rfl⟩,_,R,ad,⟨rfl,rfl⟩,Sub.refl R,b.ko d (sG c),fun _ _=>rfl⟩
 simp only[execOp,e1,e2,Sem.run_bind,i,Result.andThen_ok,Sem.run_pure]
theorem EJ{x y:Operand}{k off n:Nat}(g:ev S x=some (.ptr k off))(i:ev S y=some (.val az))(d:S.boxes[k]?=some (ci,aj))
 (b:cr aH ca n) (e:az.cells.size=n) (f:off+n≤aj.length) (a:az.cells.toList.all (·.oneCell')=true) (c:aj.take off++az.cells.toList++aj.drop (off+n)=bj)
 (j:VL C ops Q rest {S with boxes:=S.boxes.set k (ci,bj)} R):VL C ops Q (⟨none,.store aH x y,ty,pos,af,none⟩::rest) S R:=
 nT (sH g i d b e f a) fun S' R' h _=>by obtain⟨rfl,rfl⟩:=h;rw[c];exact j
theorem yN(h:∀ad a W pos af b,Rel C S R ad a W→(execOp a.eval ⟨some d,cx,ty,pos,af,b⟩).run prog W= .ok (.value (.pointer (some ⟨W.heap.size,0,none⟩))) (W.alloc (.cells aj.toArray aH)))(j:d<C.N):
 jA C S R (some d) cx ty fun S' R'=>S'={S with bW:=(d,.ptr S.boxes.length 0)::S.bW,boxes:=S.boxes++ [(aH,aj)]}∧R'=R:=by
 intro ad a W pos af b c
 obtain⟨f,g,i,h3⟩:=c.alloc aH aj
 refine⟨_,_,_,h ad a W pos af b c,.inl ⟨_,rfl,rfl⟩,_,R,f,⟨rfl,rfl⟩,Sub.refl R,?_,i⟩
 have:=h3.put (d:=d) (x:= .ptr S.boxes.length 0) j (fun k o e=>by cases e;simp)
 simp only[AV.den,g] at this
 exact this
abbrev eQ (T:TypeId) (cs:List Value):Prop:=(prog.info? T).map (fun i=>i.zero.map (·.cells))=some (some cs.toArray)
theorem sI(c:eQ aH aj)(f:d<C.N):
 jA C S R (some d) (.alloc aH) ty fun S' R'=>S'={S with bW:=(d,.ptr S.boxes.length 0)::S.bW,boxes:=S.boxes++ [(aH,aj)]}∧R'=R:=by
 refine yN (fun ad a W pos af g h=> ?_) f
 cases b:prog.info? aH with
 |none=>simp[eQ,b] at c
 |some i=>
  cases e:i.zero with
  |none=>simp[eQ,b,e] at c
  |some z=>
   have:z.cells=aj.toArray:=by simpa[eQ,b,e] using c
   simp[execOp,Instr.alloc,zeroValue,typeInfo,b,e,newVar,newRow,this]
theorem EK(b:eQ aH aj)(a:d<C.N)(c:VL C ops Q rest {S with bW:=(d,.ptr S.boxes.length 0)::S.bW,boxes:=S.boxes++ [(aH,aj)]} R):
 VL C ops Q (⟨some d,.alloc aH,ty,pos,af,none⟩::rest) S R:=
 nT (sI b a) fun S' R' h _=>by obtain⟨rfl,rfl⟩:=h;exact c
theorem uX{x:Operand}(f:ev S x=some (.val az))(e:az.cells.toList=aj)(b:d<C.N):
 jA C S R (some d) (.box aH x) ty fun S' R'=>S'={S with bW:=(d,.ptr S.boxes.length 0)::S.bW,boxes:=S.boxes++ [(aH,aj)]}∧R'=R:=by
 refine yN (fun ad a W pos af g c=> ?_) b
 have e1:=c.eval f
 simp only[AV.den] at e1
 subst e
 simp[execOp,e1,Instr.box,newVar,newRow]
theorem EL{x:Operand}(c:ev S x=some (.val az))(b:az.cells.toList=aj)(a:d<C.N)(e:VL C ops Q rest {S with bW:=(d,.ptr S.boxes.length 0)::S.bW,boxes:=S.boxes++ [(aH,aj)]} R):
 VL C ops Q (⟨some d,.box aH x,ty,pos,af,none⟩::rest) S R:=
 nT (uX c b a) fun S' R' h _=>by obtain⟨rfl,rfl⟩:=h;exact e
theorem Rel.newRow(h:Rel C S R a0 cj ah)(e size n:Nat)(cs:LV)(t:cs.length=n*size)(q:n≤1048576):
 Rel C {S with rows:=⟨.slice (some ⟨ah.heap.size,0,none⟩) n n,n,cs,e,size⟩::S.rows} (add R ah.heap.size cs) a0 cj (ah.alloc (.cells cs.toArray e))∧Sub R (add R ah.heap.size cs):=by
 have g:=iG.alloc ah (.cells cs.toArray e)
 have d:=h.own.k5 g
 have v:∀o,R.cell? ⟨ah.heap.size,o,none⟩=none:=by
  intro o
  cases p:R.cell? ⟨ah.heap.size,o,none⟩ with
  |none=>rfl
  |some u=>
   have:=World.block_lt_of_cell? ah _ (h.own.b9 _ _ _ p).1
   simp only at this
   omega
 have j:Sub R (add R ah.heap.size cs):=by
  intro b o u hu
  rw[hO]
  by_cases c:b=ah.heap.size
  ·subst c;rw[v] at hu;cases hu
  ·rw[if_neg c];exact hu
 refine⟨⟨h.size,h.defers,h.slot,h.lt,⟨d.box,d.inj,?_,?_,?_,?_⟩,?_,h.fO,?_,h.nb,h.fP⟩,j⟩
 ·intro r a
  rcases dX.1 a with rfl|a
  ·exact yx (nL ah e size n cs.toArray (by simpa using t) q) (Nat.zero_le _)
  ·exact d.row r a
 ·intro r a k i
  rcases dX.1 a with rfl|a
  ·simp only[Value.ownBlock]
   intro e1
   injection e1 with e1
   have:=h.own.ii i
   omega
  ·exact d.apart r a k i
 ·refine List.pairwise_cons.2 ⟨fun s w b c=> ?_,d.rows⟩
  simp only[Value.ownBlock,Option.some.injEq] at c
  subst c
  intro e1
  have:=iH (h.own.row s w) e1
  omega
 ·intro b o u hu
  rw[hO] at hu
  by_cases c:b=ah.heap.size
  ·subst c
   rw[if_pos rfl] at hu
   refine⟨?_,fun k i e1=> ?_,fun r a e1=> ?_⟩
   ·have:=heap_alloc_new ah (.cells cs.toArray e)
    unfold World.cell?
    simp only[this]
    simpa using hu
   ·have:=h.own.ii i
    omega
   ·rcases dX.1 a with rfl|a
    ·have:=(List.getElem?_eq_some_iff.1 hu).1
     simp only
     omega
    ·have:=iH (h.own.row r a) e1
     omega
  ·rw[if_neg c] at hu
   obtain⟨l,m,h3⟩:=d.b9 b o u hu
   refine⟨l,m,fun r a e1=> ?_⟩
   rcases dX.1 a with rfl|a
   ·simp only[Value.ownBlock,Option.some.injEq] at e1
    exact absurd e1.symm c
   ·exact h3 r a e1
 ·have f:=h.cg.k5 g
  refine⟨f.os,f.tape,f.output,f.size,f.g6,fun b o u c hu=> ?_,f.sub.trans j⟩
  rw[hO] at hu
  have:b≠ah.heap.size:=by have:=h.cg.size;omega
  rw[if_neg this] at hu
  exact h.cg.fN b o u c hu
 ·intro r a b c
  rcases dX.1 a with rfl|a
  ·simp only[Value.ownBlock,Option.some.injEq] at c
   subst c
   exact .inl h.cg.size
  ·exact h.rowAt r a b c
def o4 (P:Program) (t e size:Nat):Bool:=(match P.underlying t with|some (.slice e')=>e'==e|_=>false)&&(match P.info? e with|some i=>i.size==size&& i.zero.isSome&& i.size !=0&& decide (i.size≤100)|none=>false)
abbrev c7 (t e size:Nat):Prop:=o4 prog t e size=true
theorem qx{t e size n:Nat}(p:c7 t e size)(r:∀ad a,jX S ad a→(hY.map fun(i,x)=>(i,a.eval x)).toList=(aj.zipIdx 0).map fun x=>(x.2,x.1))
 (q:∀v∈aj,v.cells.size=size) (m:aj.length=n) (F:0<n) (H:n≤1000) (h:(aj.flatMap fun v=>v.cells.toList)=bj) (B:d<C.N):
 jA C S R (some d) (.buildSlice t n hY) ty fun S' R'=>∃g,S'={S with bW:=(d,.val (.slice (some ⟨g,0,none⟩) n n))::S.bW,rows:=⟨.slice (some ⟨g,0,none⟩) n n,n,bj,e,size⟩::S.rows}∧(∀j u,bj[j]?=some u→R'.cell? ⟨g,j,none⟩=some u):=by
 intro ad a W pos af O s
 unfold c7 o4 at p
 simp only[Bool.and_eq_true] at p
 obtain⟨b,c⟩:=p
 cases hu:prog.underlying t with
 |none=>rw[hu] at b;cases b
 |some D=>
  rw[hu] at b
  cases D with
  |slice f=>
   simp only[beq_iff_eq] at b
   subst b
   cases l:prog.info? f with
   |none=>rw[l] at c;cases c
   |some i=>
    rw[l] at c
    simp only[Bool.and_eq_true,beq_iff_eq,bne_iff_ne,decide_eq_true_eq] at c
    obtain⟨⟨⟨I,K⟩,Q⟩,w⟩:=c
    obtain⟨z,L⟩:=Option.isSome_iff_exists.1 K
    have A:bj.length=n*size:=by
     rw[←h,←m]
     clear h r m
     induction aj with
     |nil=>simp
     |cons v aj M=>
      rw[List.flatMap_cons,List.length_append,M (fun u hu=>q u (List.mem_cons_of_mem _ hu)),List.length_cons,Nat.succ_mul]
      have:=q v (hD ..)
      simp only[Array.length_toList,this]
      omega
    have T:n*i.size≤1000*100:=Nat.mul_le_mul H w
    have U:0<n*i.size:=Nat.mul_pos F (by omega)
    have G:=run_buildSlice (P:=prog) W t f n (hY.map fun(i,x)=>(i,a.eval x)) bj.toArray i z hu l L (by omega) (by omega) (by
     rw[r ad a s.slot,Great.fill_whole (by omega) aj _ (fun v J=>by rw[q v J,I]) (by rw[m];simp),h])
    obtain⟨h3,y⟩:=s.newRow f size n bj A (by omega)
    refine⟨.value (.slice (some ⟨W.heap.size,0,none⟩) n n),W.alloc (.cells bj.toArray f),a.put (some d) (.slice (some ⟨W.heap.size,0,none⟩) n n),?_,.inl ⟨_,rfl,rfl⟩,_,add R W.heap.size bj,ad,⟨W.heap.size,rfl,fun j u E=> ?_⟩,y,?_,fun _ _=>rfl⟩
    ·simp only[execOp,Sem.run_bind,G,Result.andThen_ok,Sem.run_pure]
    ·rw[hO,if_pos rfl];exact E
    ·exact h3.put (x:= .val (.slice (some ⟨W.heap.size,0,none⟩) n n)) B (fun k o e=>by cases e)
  |_=>cases b
end
section
variable{C:er}{ops:Array Oper}{Q:Exit→Act→Wd→Prop}{rest:List Oper}{S S':St}{R R':Wd}{d:Nat}{ty:TypeId}{pos:String}{af:Array Edge}
theorem Own.sub{bs:List Bx}{ts p:List bU}{R:Wd}{ad:Nat→Nat}{W:Wd}(h:Own bs ts R ad W)(g:Nat→Nat)(c:List Bx)(f:∀i,i<c.length→g i<bs.length∧bs[g i]?=c[i]?)
 (t:∀i j,i<c.length→j<c.length→g i=g j→i=j) (l:p.Sublist ts):Own c p R (fun i=>ad (g i)) W:=by
 refine⟨fun k T cs a=> ?_,fun i j m n e=> ?_,fun r d=>h.row r (l.subset d),fun r d k a=> ?_,h.rows.sublist l,fun b o u hu=> ?_⟩
 ·have v:=(List.getElem?_eq_some_iff.1 a).1
  exact h.box _ T cs ((f k v).2.trans a)
 ·exact t i j m n (h.inj _ _ (f i m).1 (f j n).1 e)
 ·exact h.apart r (l.subset d) _ (f k a).1
 ·obtain⟨q,s,h3⟩:=h.b9 b o u hu
  exact⟨q,fun k a=>s _ (f k a).1,fun r d=>h3 r (l.subset d)⟩
theorem Rel.called{ts J rs:List bU}(h:Rel C S R a0 cj ah)(F:S.rows=ts++rs)(m:Nat→Nat)
 (H:∀i,i<aS.length→m i<S.boxes.length∧S.boxes[m i]?=aS[i]?) (f:ih ah (gC (fun i=>a0 (m i)) aS.length ts) R bR R')
 (o:Own lF J R' (fun i=>a0 (m i)) bR) (aa:lF.length=aS.length) (I:∀r∈J,∀b,r.v.ownBlock=some b→ah.heap.size≤b∨gC (fun i=>a0 (m i)) aS.length ts b)
 (A:List Bx) (q:A.length=S.boxes.length) (Q:∀i,i<aS.length→A[m i]?=lF[i]?) (U:∀k,(∀i,i<aS.length→m i≠k)→A[k]?=S.boxes[k]?):
 Rel C {S with boxes:=A,rows:=J++rs} R' a0 cj bR:=by
 have n:=h.own
 rw[F] at n
 have M:=List.pairwise_append.1 n.rows
 have B:∀k,k<S.boxes.length→(∀i,i<aS.length→m i≠k)→¬gC (fun i=>a0 (m i)) aS.length ts (a0 k):=by
  rintro k c x (⟨i,g,e⟩|⟨r,a,e⟩)
  ·exact x i g (n.inj _ _ (H i g).1 c e)
  ·exact n.apart r (lz _ a) k c e
 have E:∀s∈rs,∀b,s.v.ownBlock=some b→¬gC (fun i=>a0 (m i)) aS.length ts b:=by
  rintro s z b l (⟨i,g,e⟩|⟨r,a,e⟩)
  ·exact n.apart s (List.mem_append_right _ z) _ (H i g).1 (by rw[l,←e])
  ·exact M.2.2 r a s z b e l
 have D:∀b,b<C.w.heap.size→gC (fun i=>a0 (m i)) aS.length ts b→C.G b:=by
  rintro b l (⟨i,g,e⟩|⟨r,a,e⟩)
  ·rcases h.fO _ (H i g).1 with d|d
   ·simp only at e;omega
   ·exact e▸d
  ·rcases h.rowAt r (F▸lz _ a) b e with d|d
   ·omega
   ·exact d
 have Y:=h.cg.size
 refine⟨h.size,h.defers,h.slot,fun t k p c=>by rw[q];exact h.lt t k p c,⟨?_,?_,?_,?_,?_,?_⟩,⟨f.os.trans h.cg.os,f.tape.trans h.cg.tape,f.output.trans h.cg.output,Nat.le_trans Y f.size,?_,?_,h.cg.sub.trans f.sub⟩,?_,?_,by rw[q];exact h.nb,h.fP⟩
 ·intro k T cs c
  have L:k<S.boxes.length:=by rw[←q];exact(List.getElem?_eq_some_iff.1 c).1
  by_cases hex:∃i,i<aS.length∧m i=k
  ·obtain⟨i,g,rfl⟩:=hex
   exact o.box i T cs ((Q i g).symm.trans c)
  ·have x:∀i,i<aS.length→m i≠k:=fun i g e=>hex ⟨i,g,e⟩
   rw[f.g6 _ (n.ii L) (B k L x)]
   exact n.box k T cs ((U k x).symm.trans c)
 ·intro i j g X
  exact n.inj i j (by rwa[q] at g) (by rwa[q] at X)
 ·intro r a
  rcases fM.1 a with a|a
  ·exact o.row r a
  ·have N:=n.row r (jZ _ a)
   exact o0 N fun b l=>f.g6 b (iH N l) (E r a b l)
 ·intro r a k c e
  rw[q] at c
  have Z:=n.ii c
  rcases fM.1 a with a|a
  ·by_cases hex:∃i,i<aS.length∧m i=k
   ·obtain⟨i,g,rfl⟩:=hex
    exact o.apart r a i (by omega) e
   ·have x:∀i,i<aS.length→m i≠k:=fun i g e=>hex ⟨i,g,e⟩
    rcases I r a _ e with d|d
    ·omega
    ·exact B k c x d
  ·exact n.apart r (jZ _ a) k c e
 ·refine List.pairwise_append.2 ⟨o.rows,M.2.1,fun r a s z b l O=> ?_⟩
  rcases I r a b l with d|d
  ·have:=iH (n.row s (jZ _ z)) O
   omega
  ·exact E s z b O d
 ·intro b p u hu
  obtain⟨d,P,h3⟩:=o.b9 b p u hu
  refine⟨d,fun k c e=> ?_,fun r a e=> ?_⟩
  ·rw[q] at c
   by_cases hex:∃i,i<aS.length∧m i=k
   ·obtain⟨i,g,rfl⟩:=hex
    exact P i (by omega) e
   ·have x:∀i,i<aS.length→m i≠k:=fun i g e=>hex ⟨i,g,e⟩
    subst e
    rcases f.fN _ p u (n.ii c) hu with y|y
    ·exact(n.b9 _ p u y).2.1 k c rfl
    ·exact B k c x y
  ·rcases fM.1 a with a|a
   ·exact h3 r a e
   ·rcases f.fN b p u (iH (n.row r (jZ _ a)) e) hu with y|y
    ·exact(n.b9 b p u y).2.2 r (jZ _ a) e
    ·exact absurd y (E r a b e)
 ·intro b l K
  rw[f.g6 b (by omega) (fun W=>K (D b l W))]
  exact h.cg.g6 b l K
 ·intro b p u l hu
  rcases f.fN b p u (by omega) hu with d|d
  ·exact h.cg.fN b p u l d
  ·exact .inr (D b l d)
 ·intro k c
  rw[q] at c
  exact h.fO k c
 ·intro r a b l
  rcases fM.1 a with a|a
  ·rcases I r a b l with d|d
   ·exact .inl (by omega)
   ·by_cases V:b<C.w.heap.size
    ·exact .inr (D b V d)
    ·exact .inl (by omega)
  ·exact h.rowAt r (F▸jZ _ a) b l
def yO (P:Program) (F:FuncId):Bool:=match P.funcs[F]? with|some fn=>!(fn.name== "runtime.NumGoroutine")&& fn.body.isSome|none=>false
abbrev aF (F:FuncId):Prop:=yO prog F=true
theorem j0(h:aF bk)(args:Array Vl)(W:Wd):(callFunc bk args).run prog W= .ok (.enter bk args) W:=by
 unfold aF yO at h
 cases a:prog.funcs[bk]? with
 |none=>rw[a] at h;cases h
 |some fn=>
  rw[a] at h
  simp only[Bool.and_eq_true,Bool.not_eq_true',Option.isSome_iff_exists] at h
  obtain⟨c,b,d⟩:=h
  have e:(program).run prog W= .ok prog W:=rfl
  have h3:¬fn.name= "runtime.NumGoroutine" :=by simpa using c
  simp[callFunc,e,a,h3,d]
def fb (S:St) (xs:Array Operand) (ys:List AV):Prop:=xs.toList.map (ev S)=ys.map some
theorem fb.eval{xs:Array Operand}{ys:List AV}(h:fb S xs ys){ad:Nat→Nat}{a:Act}(b:jX S ad a):xs.map a.eval=(ys.map (AV.den ad)).toArray:=by
 unfold fb at h
 apply Array.ext'
 rw[Array.toList_map,List.toList_toArray]
 generalize xs.toList=l at*
 induction l generalizing ys with
 |nil=>
  cases ys with
  |nil=>rfl
  |cons y ys=>cases h
 |cons x l c=>
  cases ys with
  |nil=>cases h
  |cons y ys=>
   simp only[List.map_cons,List.cons.injEq] at h
   rw[List.map_cons,List.map_cons,c h.2,b.eval h.1]
theorem k7(a:Act)(F:FuncId)(xs:Array Operand)(b:Array TypeId)(dst:Option Nat)(c:Option (Nat×Bool)):
 execOp a.eval ⟨dst,.call {callee:= .value (.func F),args:=xs,argTypes:=b},ty,pos,af,c⟩=callFunc F (xs.map a.eval):=by
 have:execOp a.eval ⟨dst,.call {callee:= .value (.func F),args:=xs,argTypes:=b},ty,pos,af,c⟩=callFunc F (#[]++xs.map a.eval++#[]):=rfl
 rw[this]
 simp
variable{kr:List AV}
theorem uY{ts rs:List bU}(y:Spec bk kr [] ts R hZ)(p:aF bk)(A:fb S c8 kr)(l:S.rows=ts++rs)(s:d<C.N)
 (k:∀v c R',hZ v [] c R'→Sub R R'→VL C ops Q rest {S with bW:=(d,.val v)::S.bW,rows:=c++rs} R'):VL C ops Q (⟨some d,.call {callee:= .value (.func bk),args:=c8,argTypes:=fi},ty,pos,af,none⟩::rest) S R:=by
 intro ad a W f
 refine wpList_plain rfl fun K q=> ?_
 unfold Oper.wp
 rw[k7,A.eval f.slot,j0 p]
 have g:=f.own
 rw[l] at g
 refine(y W ad (g.sub (fun i=>i) [] (fun i b=>by cases b) (fun i j b=>by cases b) (List.sublist_append_left ts rs))).mono ?_
 rintro E W' ⟨v,m,c,R',rfl,h,u,t,z,w⟩
 have r:m=[]:=List.eq_nil_of_length_eq_zero (by simpa using t)
 subst r
 have n:=f.called l (fun i=>i) (fun i b=>by cases b) h u rfl z S.boxes rfl (fun i b=>by cases b) (fun _ _=>rfl)
 exact q _ _ (k v c R' w h.sub ad _ W' (n.put (x:= .val v) s (fun k o e=>by cases e)))
theorem EM(g:Spec bk kr [] [] R hZ)(c:aF bk)(h:fb S c8 kr)(e:d<C.N)
 (k:∀v R',hZ v [] [] R'→Sub R R'→VL C ops Q rest {S with bW:=(d,.val v)::S.bW} R') (f:∀v ts R',hZ v [] ts R'→ts=[]):VL C ops Q (⟨some d,.call {callee:= .value (.func bk),args:=c8,argTypes:=fi},ty,pos,af,none⟩::rest) S R:=
 uY g c h (rs:=S.rows) rfl e fun v i R' a b=>by
  obtain rfl:=f v i R' a
  exact k v R' a b
def AV.at (k:Nat):AV→AV
 | .val v=> .val v
 | .ptr _ o=> .ptr k o
theorem AV.EN(ad:Nat→Nat)(k:Nat)(y:AV):(y.at k).den ad=y.den (fun _=>ad k):=by cases y<;>rfl
theorem EO{kb T:Nat}(F:Spec bk kr [(T,aj)] aV R hZ)(s:aF bk)(H:fb S c8 (kr.map (AV.at kb)))
 (c:S.boxes[kb]?=some (T,aj)) (n:S.rows=aV++o5) (w:d<C.N)
 (k:∀v x f R',hZ v [x] f R'→Sub R R'→VL C ops Q rest {bW:=(d,.val v)::S.bW,boxes:=S.boxes.set kb x,rows:=f++o5} R'):VL C ops Q (⟨some d,.call {callee:= .value (.func bk),args:=c8,argTypes:=fi},ty,pos,af,none⟩::rest) S R:=by
 intro ad a W g
 refine wpList_plain rfl fun K t=> ?_
 unfold Oper.wp
 have m:=(List.getElem?_eq_some_iff.1 c).1
 have p:∀i,i< [(T,aj)].length→(fun _=>kb:Nat→Nat) i<S.boxes.length∧S.boxes[(fun _=>kb:Nat→Nat) i]?=[(T,aj)][i]?:=by
  intro i b
  have:i=0:=by simpa using b
  subst this
  exact⟨m,c⟩
 have u:(kr.map (AV.at kb)).map (AV.den ad)=kr.map (AV.den fun _=>ad kb):=by
  rw[List.map_map]
  exact List.map_congr_left fun y _=>AV.EN ad kb y
 rw[k7,H.eval g.slot,j0 s,u]
 have h:=g.own
 rw[n] at h
 refine(F W (fun _=>ad kb) (h.sub (fun _=>kb) [(T,aj)] p (fun i j b z _=>by simp at b z;omega) (List.sublist_append_left aV o5))).mono ?_
 rintro E W' ⟨v,q,f,R',rfl,l,B,A,G,D⟩
 obtain⟨x,rfl⟩:∃x,q=[x]:=List.length_eq_one_iff.1 A
 have r:=g.called n (fun _=>kb) p l B rfl G (S.boxes.set kb x) (by simp) (fun i b=>by
  have:i=0:=by simpa using b
  subst this
  simp[List.getElem?_set_self m]) (fun k c=>List.getElem?_set_ne (c 0 (by simp)))
 exact t _ _ (k v x f R' D l.sub ad _ W' (r.put (x:= .val v) w (fun k o e=>by cases e)))
theorem dn(h:Nat.blt ae ao=true):ae<ao:=hP h
theorem fj{x y:Code}(h:V C x (Exit.then (fun a w=>y.wp prog Q a w) Q) S R):V C (.seq x y) Q S R:=fun ad a W b=>wp_seq (h ad a W b)
theorem ml(h:eY C Q .normal S R):V C .skip Q S R:=fun ad a W b=>wp_skip (h ad a W b)
theorem o6(h:eY C Q .ret S R):V C .ret Q S R:=fun ad a W b=>wp_ret (h ad a W b)
theorem yP(h:eY C Q (.exit ae) S R):V C (.exit ae) Q S R:=fun ad a W b=>wp_exit (h ad a W b)
theorem uZ{c:Code}(h:V C c (Exit.inBlock ae Q) S R):V C (.block ae c) Q S R:=fun ad a W b=>wp_block (h ad a W b)
theorem mU{c:Operand}{x y:Code}(d:ev S c=some (.val (.bool true)))(e:V C x Q S R):V C (.cond c x y) Q S R:=fun ad a W b=>wp_cond_true (b.eval d) (e ad a W b)
theorem mm{c:Operand}{x y:Code}(d:ev S c=some (.val (.bool false)))(e:V C y Q S R):V C (.cond c x y) Q S R:=fun ad a W b=>wp_cond_false (b.eval d) (e ad a W b)
theorem gD{l:List Oper}(h:VL C l.toArray Q l S R):V C (.region ae l.toArray false) Q S R:=fun ad a W b=>wp_region_lit (h ad a W b)
theorem fk(h:V C gl Q S R):eY C (Exit.then (fun a w=>gl.wp prog Q a w) Q) .normal S R:=h
theorem yQ(h:eY C Q (.exit ae) S R):eY C (Exit.then nM Q) (.exit ae) S R:=h
theorem yR(h:eY C Q .ret S R):eY C (Exit.then nM Q) .ret S R:=h
theorem yS(h:eY C Q .normal S R):eY C (Exit.inBlock ae Q) .normal S R:=h
theorem yT(h:eY C Q .normal S R):eY C (Exit.inBlock ae Q) (.exit ae) S R:=fun ad a W b=>by simpa[Exit.inBlock] using h ad a W b
theorem EP(b:Nat.beq ao ae=false)(h:eY C Q (.exit ao) S R):eY C (Exit.inBlock ae Q) (.exit ao) S R:=fun ad a W c=>by
 have:ao≠ae:=by rintro rfl;simp at b
 simpa[Exit.inBlock,this] using h ad a W c
def ks (l:List (Nat×AV)):List (Nat×AV)→Prop
 |[]=>True
 |(t,x)::r=>look l t=some x∧ks l r
theorem ks.look{l:List (Nat×AV)}:∀{r:List (Nat×AV)},ks l r→∀t x,look r t=some x→look l t=some x
 |[],_,t,x,h=>by cases h
 |(t0,x0)::r,h,t,x,a=>by
  simp only[Vm.look] at a
  cases b:Nat.beq t0 t with
  |true=>
   obtain rfl:=g7 b
   rw[b] at a
   simp only[cond_true,Option.some.injEq] at a
   subst a
   exact h.1
  |false=>
   rw[b] at a
   exact ks.look h.2 t x a
def ij (n:Nat):List (Nat×AV)→Bool
 |[]=>true
 |(_,.ptr k _)::r=>Nat.blt k n&& ij n r
 |(_,.val _)::r=>ij n r
theorem qy{n:Nat}:∀{r:List (Nat×AV)},ij n r=true→∀t k o,look r t=some (.ptr k o)→k<n
 |[],_,t,k,o,h=>by cases h
 |(t0,.val v)::r,h,t,k,o,a=>by
  simp only[look] at a
  cases b:Nat.beq t0 t with
  |true=>rw[b] at a;cases a
  |false=>rw[b] at a;exact qy (by simpa[ij] using h) t k o a
 |(t0,.ptr c d)::r,h,t,k,o,a=>by
  simp only[ij,Bool.and_eq_true] at h
  simp only[look] at a
  cases b:Nat.beq t0 t with
  |true=>
   rw[b] at a
   simp only[cond_true,Option.some.injEq,AV.ptr.injEq] at a
   obtain⟨rfl,rfl⟩:=a
   exact dn h.1
  |false=>rw[b] at a;exact qy h.2 t k o a
theorem Rel.mV(h:Rel C S R a0 cj ah)(g:ks S.bW bI.bW)(e:bI.boxes=S.boxes.take bI.boxes.length)(h3:bI.rows.Sublist S.rows)(l:ij bI.boxes.length bI.bW=true)(m:C.nb≤bI.boxes.length):Rel C bI R a0 cj ah:=by
 have v:bI.boxes.length≤S.boxes.length:=by
  have:=congrArg List.length e
  rw[List.length_take] at this
  omega
 have n:∀k,k<bI.boxes.length→bI.boxes[k]?=S.boxes[k]?:=fun k a=>by rw[e,List.getElem?_take,if_pos a]
 refine⟨h.size,h.defers,fun t x d=>h.slot t x (g.look t x d),fun t k o d=>qy l t k o d,⟨fun k T cs a=> ?_,fun i j q s=>h.own.inj i j (by omega) (by omega),fun r c=>h.own.row r (h3.subset c),fun r c k a=>h.own.apart r (h3.subset c) k (by omega),h.own.rows.sublist h3,fun b o u hu=> ?_⟩,h.cg,fun k a=>h.fO k (by omega),fun r c=>h.rowAt r (h3.subset c),m,h.fP⟩
 ·have p:=(List.getElem?_eq_some_iff.1 a).1
  exact h.own.box k T cs ((n k p).symm.trans a)
 ·obtain⟨g1,g2,f⟩:=h.own.b9 b o u hu
  exact⟨g1,fun k a=>g2 k (by omega),fun r c=>f r (h3.subset c)⟩
def u0 {ι:Type} (C:er) (J:ι→St) (RR:ι→World) (H:ι→Prop) (μ:ι→Nat) (n:Nat) (a:Act) (W:World):Prop:=∃i,H i∧μ i<n∧∃ad,Rel C (J i) (RR i) ad a W
theorem yU{ι:Type}{body:Code}(J:ι→St)(RR:ι→Wd)(H:ι→Prop)(μ:ι→Nat)(i0:ι)(f:H i0)(m:RR i0=R)
 (g:ks S.bW (J i0).bW) (h:(J i0).boxes=S.boxes.take (J i0).boxes.length) (h3:(J i0).rows.Sublist S.rows) (k:ij (J i0).boxes.length (J i0).bW=true) (l:C.nb≤(J i0).boxes.length)
 (round:∀i,H i→V C body (Exit.then (fun a W=>u0 C J RR H μ (μ i) a W) Q) (J i) (RR i)):V C (.loop body) Q S R:=by
 intro ad a W b
 refine wp_loop_ghost (fun n a W=>∃i,H i∧μ i=n∧∃ad,Rel C (J i) (RR i) ad a W) (μ i0) ⟨i0,f,rfl,ad,?_⟩ ?_
 ·rw[m];exact b.mV g h h3 k l
 ·rintro n a W ⟨i,o,rfl,ad,b⟩
  refine wp_mono (round i o ad a W b) ?_
  intro e s t c
  cases e with
  |normal=>
   obtain⟨j,p,q,d,r⟩:=c
   exact⟨μ j,q,j,p,rfl,d,r⟩
  |_=>exact c
theorem u1{J:cW→St}{RR:cW→Wd}{H:cW→Prop}{μ:cW→Nat}{n:Nat}(i:cW)(g:H i)(h:μ i<n)(f:RR i=R)
 (b:ks S.bW (J i).bW) (c:(J i).boxes=S.boxes.take (J i).boxes.length) (h3:(J i).rows.Sublist S.rows) (d:ij (J i).boxes.length (J i).bW=true) (e:C.nb≤(J i).boxes.length):
 eY C (Exit.then (fun a W=>u0 C J RR H μ n a W) Q) .normal S R:=fun ad a W j=>⟨i,g,h,ad,by rw[f];exact j.mV b c h3 d e⟩
def ei (S:St):ResultVar→Value→Prop
 | .tmp t,v=>look S.bW t=some (.val v)
 | .cell t T,v=>∃k a cs,look S.bW t=some (.ptr k 0)∧S.boxes[k]?=some (a,cs)∧((cr T true cs.length∧v= .agg cs.toArray)∨(cr T false 1∧cs[0]?=some v))
theorem aT(h:look S.bW ae=some (.val az)):ei S (.tmp ae) az:=h
theorem aK(a:look S.bW ae=some (.ptr aX 0))(b:S.boxes[aX]?=some (eO,aj))(h3:cr ao true aj.length):ei S (.cell ae ao) (.agg aj.toArray):=⟨aX,eO,aj,a,b,.inl ⟨h3,rfl⟩⟩
def mW (tmps:Array Value):ResultVar→Sem Value
 | .tmp t=>pure (tmps.getD t undef)
 | .cell a t=>do loadVar t (←asAddr (tmps.getD a undef))
theorem ei.run{d:ResultVar}{v:Vl}(h:ei S d v){ad:Nat→Nat}{a:Act}{W:Wd}(c:Rel C S R ad a W):(mW a.tmps d).run prog W= .ok v W:=by
 cases d with
 |tmp t=>
  have:=c.slot t _ h
  simp only[mW,Sem.run_pure,Array.getD_eq_getD_getElem?,this]
  rfl
 |cell t T=>
  obtain⟨k,i,cs,f,e,h3⟩:=h
  have:=c.slot t _ f
  simp only[mW,Array.getD_eq_getD_getElem?,this,Option.getD_some,AV.den,asAddr,Sem.run_bind,Sem.run_pure,Result.andThen_ok]
  rcases h3 with⟨h3,rfl⟩|⟨h3,g⟩
  ·have:=o1 (b:=ad k) (o:=0) (W:=W) h3 (fun j u hu=>by rw[Nat.zero_add];exact(c.nS gk).cell rfl e hu)
   simpa[Instr.loadAt,Instr.sureAddr] using this
  ·have:=o2 (b:=ad k) (o:=0) (W:=W) h3 ((c.nS gk).cell rfl e g)
   simpa[Instr.loadAt,Instr.sureAddr] using this
theorem kt(fn:Func)(tmps:Array Vl):results fn tmps=(do let vs ←fn.results.mapM (mW tmps);pure (if h:vs.size=1 then vs[0] else .tuple vs)):=by
 unfold results
 congr 2
theorem sJ(a:Rel C S R a0 cj ah)(l:aV.Sublist S.rows)(s:hZ az (S.boxes.take C.nb) aV R):End C hZ (.returned az) ah:=by
 have t:=a.nb
 refine⟨az,S.boxes.take C.nb,aV,R,rfl,a.cg,?_,by rw[List.length_take];omega,fun r g=>a.rowAt r (l.subset g),s⟩
 have:=a.own.sub (fun i=>i) (S.boxes.take C.nb) (fun i d=>by
  rw[List.length_take] at d
  exact⟨by omega,by rw[List.getElem?_take,if_pos (by omega)]⟩) (fun _ _ _ _ e=>e) l
 refine⟨fun k T cs c=> ?_,fun i j d h e=> ?_,this.row,fun r g k c=> ?_,this.rows,fun b o u hu=> ?_⟩
 ·have q:=(List.getElem?_eq_some_iff.1 c).1
  rw[List.length_take] at q
  rw[←a.fP k (by omega)]
  exact this.box k T cs c
 ·have n:=d
  have p:=h
  rw[List.length_take] at n p
  rw[←a.fP i (by omega),←a.fP j (by omega)] at e
  exact this.inj i j d h e
 ·have f:=c
  rw[List.length_take] at f
  rw[←a.fP k (by omega)]
  exact this.apart r g k c
 ·obtain⟨g1,g2,m⟩:=this.b9 b o u hu
  refine⟨g1,fun k c=> ?_,m⟩
  have f:=c
  rw[List.length_take] at f
  rw[←a.fP k (by omega)]
  exact g2 k c
theorem sK{ts:List bU}(c:dx.results=#[])(e:ts.Sublist S.rows)(d:hZ (.tuple #[]) (S.boxes.take C.nb) ts R):eY C (bodyPost prog dx (End C hZ)) .ret S R:=
 fun ad a W b=>⟨b.defers,_,by rw[kt,c];simp,sJ b e d⟩
theorem dN{ts:List bU}(d:dx.results=#[k8])(c:ei S k8 az)(f:ts.Sublist S.rows)(e:hZ az (S.boxes.take C.nb) ts R):eY C (bodyPost prog dx (End C hZ)) .ret S R:=
 fun ad a W b=>⟨b.defers,_,by rw[kt,d];simp[c.run b],sJ b f e⟩
theorem qz{ts:List bU}(e:dx.results=#[k8,nU])(c:ei S k8 az)(d:ei S nU cM)(g:ts.Sublist S.rows)(f:hZ (.tuple #[az,cM]) (S.boxes.take C.nb) ts R):eY C (bodyPost prog dx (End C hZ)) .ret S R:=
 fun ad a W b=>⟨b.defers,_,by rw[kt,e];simp[c.run b,d.run b],sJ b g f⟩
theorem u2(e:dx.results=#[k8,nU,u3])(c:ei S k8 az)(d:ei S nU cM)(h3:ei S u3 fp)(g:aV.Sublist S.rows)(f:hZ (.tuple #[az,cM,fp]) (S.boxes.take C.nb) aV R):eY C (bodyPost prog dx (End C hZ)) .ret S R:=
 fun ad a W b=>⟨b.defers,_,by rw[kt,e];simp[c.run b,d.run b,h3.run b],sJ b g f⟩
theorem yV(h:eY C (bodyPost prog dx lG) .ret S R):eY C (bodyPost prog dx lG) .normal S R:=h
def ik:List AV→Nat→List (Nat×AV)
 |[],_=> []
 |y::ys,i=>(i,y)::ik ys (i+1)
theorem nV:∀(ys:List AV) (i t:Nat) (x:AV),look (ik ys i) t=some x→i≤t∧ys[t -i]?=some x
 |[],i,t,x,h=>by cases h
 |y::ys,i,t,x,h=>by
  simp only[ik,look] at h
  cases a:Nat.beq i t with
  |true=>
   obtain rfl:=g7 a
   rw[a] at h
   simp only[cond_true,Option.some.injEq] at h
   subst h
   simp
  |false=>
   rw[a] at h
   obtain⟨c,b⟩:=nV ys (i+1) t x h
   refine⟨by omega,?_⟩
   rw[show t -i=(t -(i+1))+1 by omega,List.getElem?_cons_succ]
   exact b
theorem sM{c:Code}{N nb:Nat}(g:prog.funcs[bk]?=some dx)(d:dx.body=some c)(l:dx.ntmps=N)(q:kr.length≤N)(m:aS.length=nb)
 (n:ij nb (ik kr 0)=true) (h:∀(w:Wd) (G:Nat→Prop) (ad:Nat→Nat),V ⟨N,w,R,G,nb,ad⟩ c (bodyPost prog dx (End ⟨N,w,R,G,nb,ad⟩ hZ)) ⟨ik kr 0,aS,aV⟩ R):Spec bk kr aS aV R hZ:=by
 subst m
 intro w ad f
 have hh:=h w (gC ad aS.length aV) ad
 refine(calls_of_wp g d (R:=End ⟨N,w,R,gC ad aS.length aV,aS.length,ad⟩ hZ) (hh ad _ w ?_))
 refine⟨?_,rfl,fun t x e=> ?_,fun t k o e=>qy n t k o e,f,⟨rfl,rfl,rfl,a9 _,fun _ _ _=>rfl,fun _ _ _ _ hu=> .inl hu,Sub.refl R⟩,fun k i=> .inr (.inl ⟨k,i,rfl⟩),fun r p b d=> .inr (.inr ⟨r,p,d⟩),a9 _,fun _ _=>rfl⟩
 ·simp only[Array.size_append,List.size_toArray,List.length_map,Array.size_replicate,l];omega
 ·obtain⟨-,a⟩:=nV kr 0 t x e
  simp only[Nat.sub_zero] at a
  have j:=(List.getElem?_eq_some_iff.1 a).1
  rw[Array.getElem?_append_left (by simpa using j)]
  simp[a]
end
end Go.Proofs.YthnogncknmhgoaaGreat.Vm
namespace Go.Proofs.YthnogncknmhgoaaGreat.Vm
variable{cj:Act}{bQ:Array Bool}{aI:List Nat}{ae:Nat}{ah:Wd}
section
variable{P:Program}{ops:Array Oper}{Q:Exit→Act→Wd→Prop}{md:Region.Mode}{S:Array Bool→Wd→Prop}
def ku (P:Program) (md:Region.Mode) (ops:Array Oper) (Q:Exit→Act→World→Prop) (S:Array Bool→World→Prop):Nat→Array Bool→Act→World→Prop
 |0,aN,a,w=>Region.ready md ops aN=[]∧Q .normal a w
 |ay+1,aN,a,w=>(Region.ready md ops aN=[]→Q .normal a w)∧
  ∀i∈Region.ready md ops aN,wpOp P ops Q i (fun c b=>S (aN.setIfInBounds i true) b∧ku P md ops Q S ay (aN.setIfInBounds i true) c b) a w
theorem yW:∀(ay:Nat) (aN:Array Bool) (a:Act) (w:Wd),ku P md ops Q S ay aN a w→wpAny P md ops Q ay aN a w
 |0,_,_,_,h=>h
 |ay+1,_,_,_,h=>⟨h.1,fun i d=>wpOp_mono (fun b e c=>yW ay _ b e c.2) (h.2 i d)⟩
def lH (md:Region.Mode) (ops:Array Oper) (L:Array Bool):Prop:=L.size=ops.size∧∀s o,L.getD s true=true→ops[s]?=some o→s<L.size→∀e∈o.after,Region.binds md e=true→L.getD e.on false=true
theorem lH.set(h:lH md ops bQ)(k:ae∈Region.ready md ops bQ):lH md ops (bQ.setIfInBounds ae true):=by
 refine⟨by rw[Array.size_setIfInBounds];exact h.1,fun s o g d c e b a=> ?_⟩
 rw[Array.size_setIfInBounds] at c
 by_cases i:ae=s
 ·subst i
  obtain⟨_,l,f,j⟩:=mem_ready.1 k
  rw[d] at f
  cases f
  exact getD_set_true (j e b a)
 ·rw[getD_set_ne true i] at g
  exact getD_set_true (h.2 s o g d c e b a)
theorem EQ{i:Nat}(t:∀L w,S (L.setIfInBounds i true) w↔S L w){oi:Oper}{v:Vl}(s:ops[i]?=some oi)(D:∀(j:Nat) (o:Oper) cs b,ops[j]?=some o→o.op≠ .select cs b)
 (I:∀c a w,Q (.panic c) (a.put oi.dst v) w→Q (.panic c) a w):
 ∀(ay:Nat) (aN:Array Bool) (a:Act) (w:Wd),
  (∀j l,ops[j]?=some l→j≠i→aN.getD j true=false→(∀e∈l.after,Region.binds md e=true→e.on≠i)→oi.apart ops l=true)→
  i∈Region.ready md ops aN→YieldsIf P ops (fun w=>∃L,lH md ops L∧L.getD i true=false∧S L w) oi v a→lH md ops aN→S aN w→
  ku P md ops Q S ay (aN.setIfInBounds i true) (a.put oi.dst v) w→ku P md ops Q S (ay+1) aN a w:=by
 intro ay
 induction ay with
 |zero=>
  intro aN a w _ f q p m H
  refine⟨fun h=>(by rw[h] at f;cases f),fun j n=> ?_⟩
  by_cases d:j=i
  ·subst d;exact q.wpOp s ⟨aN,p,(mem_ready.1 f).1,m⟩ ⟨(t _ _).2 m,H⟩
  ·have:=ready_mono n d
   rw[H.1] at this
   cases this
 |succ ay W=>
  intro aN a w A f q p m H
  refine⟨fun h=>(by rw[h] at f;cases f),fun j n=> ?_⟩
  by_cases d:j=i
  ·subst d;exact q.wpOp s ⟨aN,p,(mem_ready.1 f).1,m⟩ ⟨(t _ _).2 m,H⟩
  ·have g:=H.2 j (ready_mono n d)
   obtain⟨C,l,u,J⟩:=mem_ready.1 n
   have V:∀e∈l.after,Region.binds md e=true→e.on≠i:=fun e M K N=>by
    have g:=J e M K
    have x:=(mem_ready.1 f).1
    rw[N] at g
    rcases Nat.lt_or_ge i aN.size with r|r
    ·simp[r] at x g;rw[x] at g;cases g
    ·simp[Array.getElem?_eq_none r] at g
   have G:=wpOp_putIf u (A j l u d C V) (fun cs b=>D i oi cs b s) (fun cs b=>D j l cs b u) I q g
   have O:∀k ok,ops[k]?=some ok→k≠i→(aN.setIfInBounds j true).getD k true=false→
    (∀e∈ok.after,Region.binds md e=true→e.on≠i)→oi.apart ops ok=true:=fun k ok R T E U=>by
    refine A k ok R T ?_ U
    by_cases B:j=k
    ·subst B;exact C
    ·rw[getD_set_ne true B] at E;exact E
   refine wpOp_mono (fun F X h3=> ?_) G
   have y:=h3.2.1
   rw[Array.setIfInBounds_comm _ _ (Ne.symm d)] at y
   have z:=(t _ _).1 y
   refine⟨z,W (aN.setIfInBounds j true) F X O (ready_mono f (Ne.symm d)) h3.1 (p.set n) z ?_⟩
   rw[Array.setIfInBounds_comm _ _ d]
   exact h3.2.2
theorem ER(a:Region.ready md ops bQ=aI)(e:aI≠ [])
 (h:∀i∈aI,wpOp P ops Q i (fun c b=>S (bQ.setIfInBounds i true) b∧ku P md ops Q S ae (bQ.setIfInBounds i true) c b) cj ah):ku P md ops Q S (ae+1) bQ cj ah:=
 ⟨fun d=>absurd (a▸d) e,a▸h⟩
theorem ES(a:Region.ready md ops bQ=[])(h:Q .normal cj ah):∀ay,ku P md ops Q S ay bQ cj ah
 |0=>⟨a,h⟩
 |_+1=>⟨fun _=>h,by rw[a];simp⟩
theorem ET(a:P.follows .mixedOrders=true)
 (h:ku P .any ops Q S ops.size (Array.replicate ops.size false) cj {ah with drawn:=ah.drawn+1}):(Code.region ae ops true).wp P Q cj ah:=
 wp_region_any a (yW _ _ _ _ h)
theorem EU:lH md ops (Array.replicate ops.size false):=by
 refine⟨by simp,fun s o b c a=> ?_⟩
 simp only[Array.size_replicate] at a
 simp[a] at b
end
end Go.Proofs.YthnogncknmhgoaaGreat.Vm
namespace Go.Proofs.YthnogncknmhgoaaGreat.Vm
open ChangeShapes WideShapes ChangeAt RowKit bq Data
variable{cy:AV}{cj:Act}{hY:Array (Nat×Operand)}{bQ:Array Bool}{dk:Array Oper}{c8:Array Operand}{fi:Array TypeId}{aY im:BA}{sB:BinOp}{ca hE:Bool}{eN:Exit}{dx:Func}{bk:FuncId}{bi c0:Int}{fr:IntKind}{aj bj:LV}{aI:List Nat}{aV:List bU}{ae ao aX eO:Nat}{hQ jf m0 sW FD:Nat×AV}{dl:Nat→Bool}{a0:Nat→Nat}{aA:OA}{cx:Op}{ea mq qF vh FC:Oper}{fB:Option Nat}{bI:St}{fV iI:bU}{cW:Type}{aH ci:TypeId}{az cM:Vl}{qC:Vl→Prop}{hF:Vl→Wd→Prop}{ah bR:Wd}
abbrev HK:=(Nat→Bool)×List (Nat×Nat)
def hold (K:HK) (L:Array Bool) (k:Nat):Bool:=K.1 k&& K.2.all fun p=>p.2 !=k||!(L.getD p.1 true)
def qA (K:HK) (ops:Array Oper):Bool:=K.2.all fun p=>match ops[p.1]? with|some o=>o.dst.isNone|none=>true
def tk (K:HK) (ops:Array Oper) (i k:Nat):Bool:=K.1 k&& K.2.all fun p=>p.2 !=k||match ops[p.1]? with|some o=>o.after.toList.any (fun e=>Region.binds .any e&& e.on==i)|none=>false
def VA (C:er) (K:HK) (S0:St) (R0:World) (aq:Nat→Nat) (ops:Array Oper) (Q:Exit→Act→World→Prop) (ay:Nat) (aN:Array Bool) (S:St) (R:World):Prop:=
 ∀ad a W,Rel C S R ad a W→(∀k,k<S0.boxes.length→ad k=aq k)→(∀k,hold K aN k=true→S.boxes[k]?=S0.boxes[k]?)→Sub R0 R→S0.boxes.length≤S.boxes.length→qA K ops=true→lH .any ops aN→ku prog .any ops Q (fun L w=>hC (hold K L) S0.boxes R0 aq w) ay aN a W
variable{il:HK}
theorem qB{i k:Nat}(h:hold il (bQ.setIfInBounds i true) k=true):hold il bQ k=true:=by
 unfold hold at h⊢
 simp only[Bool.and_eq_true,List.all_eq_true,Bool.or_eq_true] at h⊢
 refine⟨h.1,fun p c=>(h.2 p c).imp id fun a=> ?_⟩
 by_cases e:i=p.1
 ·subst e
  rcases Nat.lt_or_ge p.1 bQ.size with b|b
  ·simp[b] at a
  ·simp[Array.getElem?_eq_none b] at a
 ·rwa[getD_set_ne true e] at a
theorem EV{i d k:Nat}(f:qA il dk=true)(c:dk[i]?=some ea)(b:ea.dst=some d):hold il (bQ.setIfInBounds i true) k=hold il bQ k:=by
 unfold hold
 have q:∀p∈il.2,(bQ.setIfInBounds i true).getD p.1 true=bQ.getD p.1 true:=fun p a=>by
  by_cases e:i=p.1
  ·subst e
   have:=List.all_eq_true.1 f p a
   simp[c,b] at this
  ·rw[getD_set_ne true e]
 congr 1
 rw[Bool.eq_iff_iff,List.all_eq_true,List.all_eq_true]
 exact⟨fun h p a=>by rw[←q p a];exact h p a,fun h p a=>by rw[q p a];exact h p a⟩
theorem yX{i k:Nat}(f:lH .any dk bQ)(g:bQ.getD i true=false)(h:tk il dk i k=true):hold il bQ k=true:=by
 unfold tk at h
 unfold hold
 simp only[Bool.and_eq_true,List.all_eq_true,Bool.or_eq_true] at h⊢
 refine⟨h.1,fun p n=>(h.2 p n).imp id fun a=> ?_⟩
 cases b:dk[p.1]? with
 |none=>rw[b] at a;cases a
 |some o=>
  rw[b] at a
  simp only[List.any_eq_true] at a
  obtain⟨e,l,c⟩:=a
  simp only[Bool.and_eq_true,beq_iff_eq] at c
  cases j:bQ.getD p.1 true with
  |false=>rfl
  |true=>
   have m:p.1<bQ.size:=by rw[f.1];exact(Array.getElem?_eq_some_iff.1 b).1
   have h3:=f.2 p.1 o j b m e (Array.mem_toList_iff.1 l) c.1
   rw[c.2] at h3
   rcases Nat.lt_or_ge i bQ.size with d|d
   ·simp[d] at g h3;rw[g] at h3;cases h3
   ·simp[Array.getElem?_eq_none d] at h3
section
variable{C:er}{ops:Array Oper}{Q:Exit→Act→Wd→Prop}{rest:List Oper}{S S' S0:St}{R R' R0:Wd}{aq:Nat→Nat}{d:Nat}{ty:TypeId}{pos:String}{af:Array Edge}{K:HK}{Kp:Nat→Bool}
theorem Rel.drew(h:Rel C S R a0 cj ah):Rel C S R a0 cj {ah with drawn:=ah.drawn+1}:=
 ⟨h.size,h.defers,h.slot,h.lt,⟨h.own.box,h.own.inj,h.own.row,h.own.apart,h.own.rows,h.own.b9⟩,⟨h.cg.os,h.cg.tape,h.cg.output,h.cg.size,h.cg.g6,h.cg.fN,h.cg.sub⟩,h.fO,h.rowAt,h.nb,h.fP⟩
theorem u4(b:prog.follows .mixedOrders=true)(K:HK)(d:qA K ops=true)(h:∀aq,VA C K S R aq ops Q ops.size (Array.replicate ops.size false) S R):V C (.region ae ops true) Q S R:=
 fun ad a W c=>ET (S:=fun L w=>hC (hold K L) S.boxes R ad w) b (h ad ad a _ c.drew (fun _ _=>rfl) (fun _ _=>rfl) (Sub.refl R) (a9 _) d EU)
theorem bZ(a:prog.follows .mixedOrders=true)(K:Nat→Bool)(h:∀aq,VA C (K,[]) S R aq ops Q ops.size (Array.replicate ops.size false) S R):V C (.region ae ops true) Q S R:=
 u4 a (K,[]) rfl h
theorem Rel.held(h:Rel C S R a0 cj ah)(c:∀k,k<S0.boxes.length→a0 k=aq k)(d:∀k,dl k=true→S.boxes[k]?=S0.boxes[k]?)(h3:Sub R0 R):hC dl S0.boxes R0 aq ah:=by
 refine⟨fun k T cs e a=> ?_,fun b o u hu=>(h.own.b9 b o u (h3 b o u hu)).1⟩
 rw[←c k (List.getElem?_eq_some_iff.1 a).1]
 exact h.own.box k T cs ((d k e).trans a)
theorem u5{i ay d:Nat}{v:AV}(m:ops[i]?=some ea)(n:ea.dst=some d)(x:d<C.N)(E:∀k ea,v= .ptr k ea→k<S.boxes.length)
 (F:∀ad a W,Rel C S R ad a W→(∀k,k<S0.boxes.length→ad k=aq k)→(∀k,tk K ops i k=true→S.boxes[k]?=S0.boxes[k]?)→YieldsIf prog ops (fun w=>hC (tk K ops i) S0.boxes R0 aq w) ea (v.den ad) a)
 (B:Region.noSelect ops=true) (y:Region.free .any ops bQ i=true) (A:(Region.ready .any ops bQ).contains i=true) (u:∀c a v w,Q (.panic c) (Act.put a (some d) v) w→Q (.panic c) a w)
 (k:VA C K S0 R0 aq ops Q ay (bQ.setIfInBounds i true) {S with bW:=(d,v)::S.bW} R):VA C K S0 R0 aq ops Q (ay+1) bQ S R:=by
 intro ad a W h g j h3 r p l
 have o:i∈Region.ready .any ops bQ:=by simpa using A
 have D:=(mem_ready.1 o).1
 have z:∀{L:Array Bool} {w:Wd},(∀k,tk K ops i k=true→hold K L k=true)→hC (hold K L) S0.boxes R0 aq w→hC (tk K ops i) S0.boxes R0 aq w:=fun hh f=>⟨fun k T cs b=>f.box k T cs (hh k b),f.b9⟩
 have G:=F ad a W h g (fun k b=>j k (yX l D b))
 refine EQ (oi:=ea) (v:=v.den ad) (fun L w=> ?_) m (Region.noSelect_spec B) (by rw[n];exact fun c a w=>u c a _ w) ay bQ a W (Region.free_spec m y) o ?_ l (h.held g j h3) ?_
 ·have e:hold K (L.setIfInBounds i true)=hold K L:=funext fun k=>EV p m n
  simp only[e]
 ·refine G.imp (fun q=>⟨q.1,fun w f=> ?_⟩) id
  obtain⟨L,s,t,f⟩:=f
  exact q.2 w (z (fun k b=>yX s t b) f)
 ·rw[n]
  exact k ad _ W (h.put x E) g (fun k b=>j k (qB b)) h3 r p (l.set o)
theorem EW{i ay:Nat}(q:ops[i]?=some ⟨some d,cx,ty,pos,af,none⟩)(f:bO (tk K ops i) S R0 cx ty cy)(o:d<C.N)
 (s:Region.noSelect ops=true) (p:Region.free .any ops bQ i=true) (r:(Region.ready .any ops bQ).contains i=true) (m:∀c a cy w,Q (.panic c) (Act.put a (some d) cy) w→Q (.panic c) a w)
 (k:VA C K S0 R0 aq ops Q ay (bQ.setIfInBounds i true) {S with bW:=(d,cy)::S.bW} R):VA C K S0 R0 aq ops Q (ay+1) bQ S R:=by
 intro ad a W h
 refine u5 q rfl o (f.lt h) (fun ad a W h j l=> .inl ⟨by simp[Region.wanted],fun w g=> ?_⟩) s p r m k ad a W h
 refine f.2 ad a w _ _ _ _ h.slot ⟨fun k T cs e n=> ?_,g.b9⟩
 have b:S0.boxes[k]?=some (T,cs):=(l k e).symm.trans n
 rw[j k (List.getElem?_eq_some_iff.1 b).1]
 exact g.box k T cs e b
def fq (C:er) (K:HK) (S0:St) (R0:World) (aq:Nat→Nat) (ops:Array Oper) (Q:Exit→Act→World→Prop) (ay:Nat) (aN:Array Bool) (S:St) (R:World) (rs:List Nat):Prop:=
 ∀i∈rs,∀ad a W,Rel C S R ad a W→(∀k,k<S0.boxes.length→ad k=aq k)→(∀k,hold K aN k=true→S.boxes[k]?=S0.boxes[k]?)→Sub R0 R→S0.boxes.length≤S.boxes.length→qA K ops=true→lH .any ops (aN.setIfInBounds i true)→
  wpOp prog ops Q i (fun c b=>hC (hold K (aN.setIfInBounds i true)) S0.boxes R0 aq b∧ku prog .any ops Q (fun L w=>hC (hold K L) S0.boxes R0 aq w) ay (aN.setIfInBounds i true) c b) a W
theorem EX(c:Region.ready .any ops bQ=aI)(k:aI≠ [])(h:fq C K S0 R0 aq ops Q ae bQ S R aI):VA C K S0 R0 aq ops Q (ae+1) bQ S R:=
 fun ad a W hh d e h3 f g j=>ER c k fun i b=>h i b ad a W hh d e h3 f g (j.set (c▸b))
theorem bf:fq C K S0 R0 aq ops Q ae bQ S R []:=fun i a=>by cases a
theorem sN{ay i:Nat}{S':St}{ad a:Nat→Nat}(b:∀k,hold K (bQ.setIfInBounds i true) k=true→S'.boxes[k]?=S0.boxes[k]?)(c:∀k,k<S0.boxes.length→a k=aq k)(h3:Sub R0 ah)(e:S0.boxes.length≤S'.boxes.length)(f:qA K ops=true)(g:lH .any ops (bQ.setIfInBounds i true))
 (k:VA C K S0 R0 aq ops Q ay (bQ.setIfInBounds i true) S' ah) (d:Rel C S' ah a cj bR):hC (hold K (bQ.setIfInBounds i true)) S0.boxes R0 aq bR∧ku prog .any ops Q (fun L w=>hC (hold K L) S0.boxes R0 aq w) ay (bQ.setIfInBounds i true) cj bR:=
 ⟨d.held c b h3,k a _ bR d c b h3 e f g⟩
theorem o7{ay i:Nat}{P:St→Wd→Prop}(x:ops[i]?=some ⟨fB,cx,ty,pos,af,none⟩)(u:jA C S R fB cx ty P)
 (q:∀S' R',P S' R'→S.boxes.length≤S'.boxes.length∧∀k,hold K (bQ.setIfInBounds i true) k=true→S'.boxes[k]?=S.boxes[k]?)
 (k:∀S' R',P S' R'→Sub R R'→VA C K S0 R0 aq ops Q ay (bQ.setIfInBounds i true) S' R') (z:fq C K S0 R0 aq ops Q ay bQ S R aI):fq C K S0 R0 aq ops Q ay bQ S R (i::aI):=by
 intro j e ad a W h l m h3 n o p
 rcases dX.1 e with rfl|e
 ·obtain⟨B,W',A,g1,g2,S',R',s,d,f,g,t⟩:=u ad a W pos af none h
  have r:∀c,Rel C S' R' s c W'→hC (hold K (bQ.setIfInBounds j true)) S0.boxes R0 aq W'∧ku prog .any ops Q (fun L w=>hC (hold K L) S0.boxes R0 aq w) ay (bQ.setIfInBounds j true) c W':=fun c y=>
   sN (ad:=ad) (fun k b=>((q S' R' d).2 k b).trans (m k (qB b))) (fun k b=>(t k (by omega)).trans (l k b)) (h3.trans f) (dS n (q S' R' d).1) o p (k S' R' d f) y
  unfold wpOp
  simp only[x,Region.wanted]
  refine .inl ?_
  unfold Oper.wp
  rw[g1]
  rcases g2 with⟨v,rfl,rfl⟩|⟨rfl,rfl⟩
  ·exact r _ g
  ·exact r _ g
 ·exact z j e ad a W h l m h3 n o p
theorem EY(b:Region.ready .any ops bQ=[])(h:eY C Q .normal S R):VA C K S0 R0 aq ops Q ae bQ S R:=
 fun ad a W hh c d h3 e f g=>ES b (h ad a W hh) ae
theorem yY(t ty e:TypeId)(i:TypeInfo)(z:Vl)(r:prog.underlying t=some (.slice e))(q:prog.info? e=some i)(E:i.zero=some z)
 (T:z.cells.size=i.size) (S:0<i.size)
 (v:Vl) (n:Nat) (xs:LV) (f:ah.ownsRow 0 e i.size v n xs) (A:OA) (m c:Nat) (news:LV) (d:Src ah i.size A m news) (M:A=none→c=0)
 (F:∀u∈news,u.oneCell'=true) (G:n+m≤maxLen) (B:(n+m)*i.bytes≤140737488355328):
 ∃h W',(Builtin.append_ #[t,t] ty #[v,.slice A m c]).run prog ah= .ok h W'∧W'.ownsRow 0 e i.size h (n+m) (xs++news)∧ah.grownBy W' v.ownBlock∧
  (h.ownBlock=v.ownBlock∨((∃g,h.ownBlock=some g∧ah.heap.size≤g)∧iG ah W')):=by
 have I:m=0→news=[]:=fun p=>List.eq_nil_of_length_eq_zero (by rw[d.1,p,Nat.zero_mul])
 cases A with
 |none=>
  have D:m=0:=by
   rcases d.2 with p|⟨b,o,e,_⟩
   ·exact p
   ·cases e
  subst D
  have R:=I rfl
  subst R
  have C:=M rfl
  subst C
  exact⟨v,ah,run_append_owned_none (P:=prog) (w:=ah) 0 t ty e i i.size r q v n xs f,by simpa using f,World.grownBy.refl ah _,.inl rfl⟩
 |some l=>
  have s:∀j u,news[j]?=some u→ah.cell? (l.add j)=some u:=by
   rcases d.2 with p|⟨b,U,y,C⟩
   ·intro j u hu
    rw[I p] at hu
    simp at hu
   ·injection y with y
    subst y
    intro j u hu
    rw[kp]
    exact C j u hu
  obtain⟨h,W',x,g1,g2,L⟩:=run_append_own (P:=prog) ah 0 t ty e i z i.size i.bytes r q E rfl rfl T S v n xs f l m c news d.1 s F G B (b2 _)
  refine⟨h,W',x,g1,g2,?_⟩
  unfold maxLen at G
  have H:∀o,iG ah (ah.drew.alloc o):=fun o=>⟨rfl,rfl,rfl,by rw[World.size_alloc];exact Nat.le_succ _,fun k Q=>heap_alloc_old ah.drew o Q⟩
  rcases f.2 with⟨rfl,rfl⟩|⟨g,cap,K,rfl,_,O,_,_,N,_⟩
  ·by_cases D:m=0
   ·rw[L.2 ⟨rfl,D⟩]
    exact .inl rfl
   ·have a:=run_append_nil (P:=prog) ah t ty e i z r q E l m c news d.1 s (by omega) (by omega) (by rw[Nat.zero_add] at B;omega)
    rw[x] at a
    injection a with e1 e2
    subst e1 e2
    exact .inr ⟨⟨_,rfl,a9 _⟩,H _⟩
  ·by_cases J:n+m≤cap
   ·have a:=run_append_room (P:=prog) ah t ty e i r q g n cap K O l m c news d.1 s F J (by rw[d.1,N,←Nat.add_mul];exact Nat.mul_le_mul_right _ J)
    rw[x] at a
    injection a with e1 e2
    subst e1
    exact .inl rfl
   ·have a:=run_append_grow (P:=prog) ah t ty e i z r q E ⟨g,0,none⟩ n cap xs f.1 (f.cells (g:=g) rfl) l m c news d.1 s (by omega) (by omega) (growslice_fits (by omega) B)
    rw[x] at a
    injection a with e1 e2
    subst e1 e2
    exact .inr ⟨⟨_,rfl,a9 _⟩,H _⟩
theorem Rel.append{ad:Nat→Nat}{a:Act}{W W':Wd}{r:bU}{rs:List bU}{H:Vl}{l:Nat}{news:LV}(h:Rel C S R ad a W)(E:S.rows=r::rs)
 (q:W'.ownsRow 0 r.e r.size H l (r.xs++news)) (B:W.grownBy W' r.v.ownBlock) (t:H.ownBlock=r.v.ownBlock∨((∃g,H.ownBlock=some g∧W.heap.size≤g)∧iG W W')):
 ∃R' i cap,Sub R R'∧H= .slice i l cap∧l≤cap∧cap≤9223372036854775807∧(i=none→cap=0)∧Src R' r.size i l (r.xs++news)∧Rel C {S with rows:=⟨H,l,r.xs++news,r.e,r.size⟩::rs} R' ad a W':=by
 have m:=h.own
 rw[E] at m
 have Q:=m.row r (hD ..)
 have P:=List.pairwise_cons.1 m.rows
 obtain⟨i,cap,rfl,Z,aa⟩:=oU q
 have A:∀g,(Value.slice i l cap).ownBlock=some g→(r.v.ownBlock=some g)∨(W.heap.size≤g∧iG W W'):=by
  intro g e
  rcases t with t|⟨⟨ah,I,K⟩,L⟩
  ·exact .inl (t▸e)
  ·rw[e] at I
   injection I with I
   subst I
   exact .inr ⟨K,L⟩
 have J:∀b,b<W.heap.size→r.v.ownBlock≠some b→W'.heap[b]?=W.heap[b]?:=fun b d O=>B.block b d (fun e=>O e.symm)
 have aj:∀b o u,R.cell? ⟨b,o,none⟩=some u→(Value.slice i l cap).ownBlock≠some b→W'.cell? ⟨b,o,none⟩=some u:=by
  intro b o u hu O
  obtain⟨f,_⟩:=m.b9 b o u hu
  have z:=World.block_lt_of_cell? W _ f
  simp only at z
  unfold World.cell? at f⊢
  rcases t with t|⟨⟨ah,_⟩,L⟩
  ·rw[J b z (fun e=>O (t.trans e))];exact f
  ·rw[L.fN b z];exact f
 have ag:∀b o u,R.cell? ⟨b,o,none⟩=some u→(Value.slice i l cap).ownBlock=some b→(r.xs++news)[o]?=some u:=by
  intro b o u hu e
  obtain⟨f,y,h3⟩:=m.b9 b o u hu
  have z:=World.block_lt_of_cell? W _ f
  simp only at z
  rcases A b e with e1|⟨e1,_⟩
  ·have am:=h3 r (hD ..) e1
   have N:o<r.xs.length:=by rw[Q.1];exact am
   rw[List.getElem?_append_left N]
   rcases Q.2 with⟨e2,_⟩|⟨g,U,V,e2,_⟩
   ·rw[e2] at e1;cases e1
   ·rw[e2] at e1
    simp only[Value.ownBlock,Option.some.injEq] at e1
    subst e1
    have:=Q.cells (g:=g) (by rw[e2];rfl) o _ (List.getElem?_eq_getElem N)
    rw[kp,Nat.zero_add,f] at this
    rw[List.getElem?_eq_getElem N]
    exact this.symm
  ·omega
 have ab:∀g,(Value.slice i l cap).ownBlock=some g→i=some ⟨g,0,none⟩∧∀o u,(r.xs++news)[o]?=some u→W'.cell? ⟨g,o,none⟩=some u:=by
  intro g e
  rcases q.2 with⟨e2,_⟩|⟨g2,U,V,e2,_⟩
  ·rw[e2] at e;cases e
  ·have e3:=e2
   injection e3 with e3 e4 e5
   subst e3
   simp only[Value.ownBlock,Option.some.injEq] at e
   subst e
   refine⟨rfl,fun o u hu=> ?_⟩
   have:=q.cells (g:=g2) rfl o u hu
   rw[kp,Nat.zero_add] at this
   exact this
 have ak:∀R',Sub R R'→(∀b o u,R'.cell? ⟨b,o,none⟩=some u→R.cell? ⟨b,o,none⟩=some u∨(Value.slice i l cap).ownBlock=some b)→ih C.w C.G C.R0 W' R':=by
  intro R' c p
  refine⟨B.os.trans h.cg.os,B.tape.trans h.cg.tape,B.output.trans h.cg.output,dS h.cg.size B.size,fun b d X=> ?_,fun b o u d hu=> ?_,h.cg.sub.trans c⟩
  ·rw[J b (Nat.lt_of_lt_of_le d h.cg.size) (fun e=> ?_)]
   ·exact h.cg.g6 b d X
   ·rcases h.rowAt r (E▸hD ..) b e with f|f
    ·omega
    ·exact X f
  ·rcases p b o u hu with f|f
   ·exact h.cg.fN b o u d f
   ·rcases A b f with y|⟨y,_⟩
    ·rcases h.rowAt r (E▸hD ..) b y with h3|h3
     ·omega
     ·exact .inr h3
    ·have:=h.cg.size
     omega
 have ai:∀k T cs,S.boxes[k]?=some (T,cs)→W'.heap[ad k]?=some (.cells cs.toArray T (0,0)):=by
  intro k T cs p
  have K:=(List.getElem?_eq_some_iff.1 p).1
  rw[J _ (m.ii K) (m.apart r (List.mem_cons_self ..) k K)]
  exact m.box k T cs p
 have an:∀s∈rs,W'.ownsRow 0 s.e s.size s.v s.n s.xs:=fun s c=>
  o0 (m.row s (iT _ c)) fun b d=>J b (iH (m.row s (iT _ c)) d) (fun e=>P.1 s c b e d)
 have Y:∀k,k<S.boxes.length→(Value.slice i l cap).ownBlock≠some (ad k):=by
  intro k p e
  rcases A _ e with f|⟨f,_⟩
  ·exact m.apart r (hD ..) k p f
  ·have:=m.ii p
   omega
 have ac:∀s∈rs,∀b,(Value.slice i l cap).ownBlock=some b→s.v.ownBlock≠some b:=by
  intro s c b d e
  rcases A b d with f|⟨f,_⟩
  ·exact P.1 s c b f e
  ·have:=iH (m.row s (iT _ c)) e
   omega
 have ae:∀R',Sub R R'→(∀b o u,R'.cell? ⟨b,o,none⟩=some u→R.cell? ⟨b,o,none⟩=some u∨(Value.slice i l cap).ownBlock=some b)→
  (∀b o u,R'.cell? ⟨b,o,none⟩=some u→(Value.slice i l cap).ownBlock=some b→(r.xs++news)[o]?=some u)→
  Rel C {S with rows:=⟨.slice i l cap,l,r.xs++news,r.e,r.size⟩::rs} R' ad a W':=by
  intro R' c p ao
  refine⟨h.size,h.defers,h.slot,h.lt,⟨ai,m.inj,?_,?_,List.pairwise_cons.2 ⟨ac,P.2⟩,?_⟩,ak R' c p,h.fO,?_,h.nb,h.fP⟩
  ·intro s c
   rcases dX.1 c with rfl|c
   ·exact q
   ·exact an s c
  ·intro s c k p
   rcases dX.1 c with rfl|c
   ·exact Y k p
   ·exact m.apart s (iT _ c) k p
  ·intro b o u hu
   by_cases d:(Value.slice i l cap).ownBlock=some b
   ·have F:=ao b o u hu d
    refine⟨(ab b d).2 o u F,fun k p e=>Y k p (by rw[d,e]),fun s c e=> ?_⟩
    rcases dX.1 c with rfl|c
    ·have:=(List.getElem?_eq_some_iff.1 F).1
     rw[q.1] at this
     exact this
    ·exact absurd e (ac s c b d)
   ·have F:=(p b o u hu).resolve_right d
    obtain⟨_,y,h3⟩:=m.b9 b o u F
    refine⟨aj b o u F d,y,fun s c e=> ?_⟩
    rcases dX.1 c with rfl|c
    ·exact absurd e d
    ·exact h3 s (iT _ c) e
  ·intro s c b d
   rcases dX.1 c with rfl|c
   ·rcases A b d with f|⟨f,_⟩
    ·exact h.rowAt r (E▸hD ..) b f
    ·exact .inl (dS h.cg.size f)
   ·exact h.rowAt s (E▸iT _ c) b d
 cases D:(Value.slice i l cap).ownBlock with
 |none=>
  have M:i=none:=by
   cases i with
   |none=>rfl
   |some x=>cases D
  subst M
  have al:l=0:=by
   rcases q.2 with⟨_,e3⟩|⟨g2,U,V,e2,_⟩
   ·exact e3
   ·cases e2
  refine⟨R,none,cap,Sub.refl R,rfl,Z,aa,oV q,⟨by rw[q.1],.inl al⟩,ae R (Sub.refl R) (fun b o u hu=> .inl hu) (fun b o u hu e=>ag b o u hu e)⟩
 |some g=>
  obtain⟨M,ap⟩:=ab g D
  have af:Sub R (add R g (r.xs++news)):=by
   intro b o u hu
   rw[hO]
   by_cases d:b=g
   ·rw[if_pos d];subst d;exact ag b o u hu D
   ·rw[if_neg d];exact hu
  refine⟨add R g (r.xs++news),i,cap,af,rfl,Z,aa,oV q,⟨by rw[q.1],.inr ⟨g,0,M,fun j u hu=> ?_⟩⟩,ae _ af (fun b o u hu=> ?_) (fun b o u hu e=> ?_)⟩
  ·rw[hO,if_pos rfl,Nat.zero_add];exact hu
  ·rw[hO] at hu
   by_cases d:b=g
   ·subst d;exact .inr D
   ·rw[if_neg d] at hu;exact .inl hu
  ·rw[D] at e
   injection e with e
   subst e
   rw[hO,if_pos rfl] at hu
   exact hu
def yZ (P:Program) (t e size bytes:Nat):Bool:=(match P.underlying t with|some (.slice e')=>e'==e|_=>false)&&(match P.info? e with|some i=>i.size==size&& i.bytes==bytes&&(match i.zero with|some z=>z.cells.size==size|none=>false)&& size !=0|none=>false)
abbrev dO (t e size bytes:Nat):Prop:=yZ prog t e size bytes=true
theorem dO.spec(h:dO ae ao aX eO):∃i z,prog.underlying ae=some (.slice ao)∧prog.info? ao=some i∧i.zero=some z∧z.cells.size=i.size∧0<i.size∧i.size=aX∧i.bytes=eO:=by
 unfold dO yZ at h
 simp only[Bool.and_eq_true] at h
 obtain⟨a,b⟩:=h
 cases hu:prog.underlying ae with
 |none=>rw[hu] at a;cases a
 |some D=>
  rw[hu] at a
  cases D with
  |slice f=>
   simp only[beq_iff_eq] at a
   subst a
   cases e:prog.info? f with
   |none=>rw[e] at b;cases b
   |some i=>
    rw[e] at b
    simp only[Bool.and_eq_true,beq_iff_eq,bne_iff_ne] at b
    obtain⟨⟨⟨h3,g⟩,c⟩,j⟩:=b
    cases d:i.zero with
    |none=>rw[d] at c;cases c
    |some z=>
     rw[d] at c
     simp only[beq_iff_eq] at c
     exact⟨i,z,rfl,rfl,d,by omega,by omega,h3,g⟩
  |_=>cases a
theorem sO{x y:Operand}{r:bU}{m c:Nat}(D:dO ae ao aX eO)(L:ev S x=some (.val r.v))(M:ev S y=some (.val (.slice aA m c)))
 (l:S.rows=r::aV) (G:r.e=ao) (H:r.size=aX) (p:Src R aX aA m aj) (w:aA=none→c=0) (s:∀u∈aj,u.oneCell'=true) (t:r.n+m≤1000000000) (ab:eO≤100000) (B:d<C.N):
 jA C S R (some d) (.call {callee:= .builtin .append,args:=#[x,y],argTypes:=#[ae,ae]}) ty fun S' R'=>∃f cap,S'={S with bW:=(d,.val (.slice f (r.n+m) cap))::S.bW,rows:=⟨.slice f (r.n+m) cap,r.n+m,r.xs++aj,ao,aX⟩::aV}∧
  r.n+m≤cap∧cap≤9223372036854775807∧(f=none→cap=0)∧Src R' aX f (r.n+m) (r.xs++aj):=by
 intro ad a W pos af Z g
 subst G H
 obtain⟨i,z,hu,E,O,P,K,h,aa⟩:=D.spec
 have e1:=g.eval L
 have e2:=g.eval M
 simp only[AV.den] at e1 e2
 have F:=g.own.row r (l▸hD ..)
 have J:Src W i.size aA m aj:=by
  rw[h]
  refine⟨p.1,p.2.imp id ?_⟩
  rintro⟨b,o,e3,A⟩
  exact⟨b,o,e3,fun j u hu=>(g.own.b9 _ _ _ (A j u hu)).1⟩
 have ac:(r.n+m)*i.bytes≤1000000000*100000:=Nat.mul_le_mul t (by omega)
 obtain⟨ag,W',I,g1,g2,q⟩:=yY ae ty r.e i z hu E O P K r.v r.n r.xs (h▸F) aA m c aj J w s (by unfold maxLen;omega) (by omega)
 rw[h] at g1
 obtain⟨R',f,cap,Q,rfl,T,U,V,X,Y⟩:=g.append l g1 g2 q
 refine⟨.value (.slice f (r.n+m) cap),W',a.put (some d) (.slice f (r.n+m) cap),?_,.inl ⟨_,rfl,rfl⟩,_,R',ad,⟨f,cap,rfl,T,U,V,X⟩,Q,Y.put (x:= .val (.slice f (r.n+m) cap)) B (fun k o ao=>by cases ao),fun _ _=>rfl⟩
 simp[execOp,resolve,invoke,builtin,e1,e2,I,Result.andThen]
theorem Rel.lI(h:Rel C S R a0 cj ah)(e size:Nat):Rel C {S with rows:=⟨zS,0,[],e,size⟩::S.rows} R a0 cj ah:=by
 refine⟨h.size,h.defers,h.slot,h.lt,⟨h.own.box,h.own.inj,?_,?_,List.pairwise_cons.2 ⟨fun s i b c=>(by cases c),h.own.rows⟩,?_⟩,h.cg,h.fO,?_,h.nb,h.fP⟩
 ·intro r a
  rcases dX.1 a with rfl|a
  ·exact World.ownsRow_nil _ _ _ _
  ·exact h.own.row r a
 ·intro r a j g e
  rcases dX.1 a with rfl|a
  ·cases e
  ·exact h.own.apart r a j g e
 ·intro b o u hu
  obtain⟨d,f,h3⟩:=h.own.b9 b o u hu
  refine⟨d,f,fun r a e=> ?_⟩
  rcases dX.1 a with rfl|a
  ·cases e
  ·exact h3 r a e
 ·intro r a b c
  rcases dX.1 a with rfl|a
  ·cases c
  ·exact h.rowAt r a b c
theorem EZ(e size:Nat)(k:VL C ops Q rest {S with rows:=⟨zS,0,[],e,size⟩::S.rows} R):VL C ops Q rest S R:=fun ad a W h=>k ad a W (h.lI e size)
theorem Fb(e size:Nat)(k:VA C K S0 R0 aq ops Q ae bQ {S with rows:=⟨zS,0,[],e,size⟩::S.rows} R):VA C K S0 R0 aq ops Q ae bQ S R:=fun ad a W h=>k ad a W (h.lI e size)
theorem Rel.y0(h:Rel C S R a0 cj ah)(c:aV.Sublist S.rows):Rel C {S with rows:=aV} R a0 cj ah:=by
 refine⟨h.size,h.defers,h.slot,h.lt,⟨h.own.box,h.own.inj,fun r a=>h.own.row r (c.subset a),fun r a=>h.own.apart r (c.subset a),h.own.rows.sublist c,fun b o u hu=> ?_⟩,h.cg,h.fO,fun r a=>h.rowAt r (c.subset a),h.nb,h.fP⟩
 obtain⟨d,e,h3⟩:=h.own.b9 b o u hu
 exact⟨d,e,fun r a=>h3 r (c.subset a)⟩
theorem Fc(b:aV.Sublist S.rows)(k:VL C ops Q rest {S with rows:=aV} R):VL C ops Q rest S R:=fun ad a W h=>k ad a W (h.y0 b)
theorem Rel.perm(h:Rel C S R a0 cj ah)(c:aV.Perm S.rows):Rel C {S with rows:=aV} R a0 cj ah:=by
 refine⟨h.size,h.defers,h.slot,h.lt,⟨h.own.box,h.own.inj,fun r a=>h.own.row r (c.mem_iff.1 a),fun r a=>h.own.apart r (c.mem_iff.1 a),?_,fun b o u hu=> ?_⟩,h.cg,h.fO,fun r a=>h.rowAt r (c.mem_iff.1 a),h.nb,h.fP⟩
 ·exact(List.Perm.pairwise_iff (fun{x y} i b g e=>i b e g) c).2 h.own.rows
 ·obtain⟨d,f,h3⟩:=h.own.b9 b o u hu
  exact⟨d,f,fun r a=>h3 r (c.mem_iff.1 a)⟩
theorem Rel.swap(h:Rel C S R a0 cj ah)(k:S.rows=fV::iI::aV):Rel C {S with rows:=iI::fV::aV} R a0 cj ah:=by
 have g:=h.own
 rw[k] at g
 have d:∀t,t∈iI::fV::aV→t∈S.rows:=by
  intro t a
  rw[k]
  simp only[List.mem_cons] at a⊢
  rcases a with c|c|c
  ·exact .inr (.inl c)
  ·exact .inl c
  ·exact .inr (.inr c)
 have f:=List.pairwise_cons.1 g.rows
 have j:=List.pairwise_cons.1 f.2
 refine⟨h.size,h.defers,h.slot,h.lt,⟨h.own.box,h.own.inj,fun t a=>h.own.row t (d t a),fun t a=>h.own.apart t (d t a),?_,fun b o u hu=> ?_⟩,h.cg,h.fO,fun t a=>h.rowAt t (d t a),h.nb,h.fP⟩
 ·refine List.pairwise_cons.2 ⟨fun t a b i=> ?_,List.pairwise_cons.2 ⟨fun t a=>f.1 t (iT _ a),j.2⟩⟩
  rcases dX.1 a with rfl|a
  ·exact fun e=>f.1 iI (hD ..) b e i
  ·exact j.1 t a b i
 ·obtain⟨c,l,h3⟩:=h.own.b9 b o u hu
  exact⟨c,l,fun t a=>h3 t (d t a)⟩
theorem Fe(b:S.rows=fV::iI::aV)(k:VL C ops Q rest {S with rows:=iI::fV::aV} R):VL C ops Q rest S R:=fun ad a W h=>k ad a W (h.swap b)
theorem Ff(b:S.rows=fV::iI::aV)(k:VA C K S0 R0 aq ops Q ae bQ {S with rows:=iI::fV::aV} R):VA C K S0 R0 aq ops Q ae bQ S R:=fun ad a W h=>k ad a W (h.swap b)
theorem sP{x:Operand}{n c:Nat}(f:ev S x=some (.val (.slice aA n c)))(e:prog.underlying aH=some (.slice ci)):bO Kp S R (.call {callee:= .builtin .len,args:=#[x],argTypes:=#[aH]}) ty (.val (zI n)):=
 bO.of fun ad a W dst pos af g d h=>by
   have b:=d.eval f
   simp only[AV.den] at b
   simp[execOp,resolve,invoke,builtin,b,Builtin.len_,run_underlying e,goInt,Result.andThen]
theorem Fg{x:Operand}(e:ev S x=some (.val (.string aY)))(d:prog.underlying aH=some .string):bO Kp S R (.call {callee:= .builtin .len,args:=#[x],argTypes:=#[aH]}) ty (.val (zI aY.size)):=
 bO.of fun ad a W dst pos af f c g=>by
   have b:=c.eval e
   simp only[AV.den] at b
   simp[execOp,resolve,invoke,builtin,b,Builtin.len_,run_underlying d,goInt,Result.andThen]
theorem a3{x y:Operand}{t e size n c:Nat}{b o:Nat}{i:Nat}(l:aA=some ⟨b,o,none⟩)(q:ev S x=some (.val (.slice aA n c)))(r:ev S y=some (.val (.int fr (i:Int))))(m:i<n)(f:c7 t e size):
 bO Kp S R (.indexAddr t x y) ty (.val (.pointer (some ⟨b,o+i*size,none⟩))):=
 bO.of fun ad a W dst pos af s j u=>by
   subst l
   have g:=j.eval q
   have h:=j.eval r
   simp only[AV.den] at g h
   unfold c7 o4 at f
   simp only[Bool.and_eq_true] at f
   obtain⟨g1,g2⟩:=f
   cases hu:prog.underlying t with
   |none=>rw[hu] at g1;cases g1
   |some D=>
    rw[hu] at g1
    cases D with
    |slice k=>
     simp only[beq_iff_eq] at g1
     subst g1
     cases d:prog.info? k with
     |none=>rw[d] at g2;cases g2
     |some inf=>
      rw[d] at g2
      simp only[Bool.and_eq_true,beq_iff_eq] at g2
      have p:(0:Int)≤i∧(i:Int)<n:=by omega
      simp[execOp,g,h,Instr.indexAt,asIntOf,run_underlying hu,p,sizeOf,typeInfo,d,g2.1.1.1,kp,m]
    |_=>cases g1
theorem u6(a:-9223372036854775808≤bi)(b:bi≤9223372036854775807):IntKind.i64.wrap bi=bi:=by
 have e1:(2^IntKind.i64.bits:Int)=18446744073709551616:=by decide
 have e2:(2^(IntKind.i64.bits -1):Int)=9223372036854775808:=by decide
 unfold IntKind.wrap
 rw[e1,e2]
 simp only[IntKind.signed,Bool.true_and,decide_eq_true_eq]
 split<;>omega
theorem kv{x y:Operand}{a b c:Int}(g:ev S x=some (.val (zI a)))(h:ev S y=some (.val (zI b)))(f:a+b=c)(d:-9223372036854775808≤c)(e:c≤9223372036854775807):bO Kp S R (.binOp .add aH x y ci) ty (.val (zI c)):=by
 subst f
 exact gV g h (fun W=>by
  have:(.ok (zI (IntKind.i64.wrap (a+b))) W:Result Vl)= .ok (zI (a+b)) W:=by rw[u6 d e]
  exact this)
theorem h0{x y:Operand}{a b c:Int}(g:ev S x=some (.val (zI a)))(h:ev S y=some (.val (zI b)))(f:a -b=c)(d:-9223372036854775808≤c)(e:c≤9223372036854775807):bO Kp S R (.binOp .sub aH x y ci) ty (.val (zI c)):=by
 subst f
 exact gV g h (fun W=>by
  have:(.ok (zI (IntKind.i64.wrap (a -b))) W:Result Vl)= .ok (zI (a -b)) W:=by rw[u6 d e]
  exact this)
theorem Fh{x y:Operand}(a:ev S x=some (.val (.int fr bi)))(b:ev S y=some (.val (.int fr c0))):bO Kp S R (.binOp .eql aH x y ci) ty (.val (.bool (bi==c0))):=gV a b (fun W=>by cases fr<;>rfl)
theorem y1{x y:Operand}(a:ev S x=some (.val (.int fr bi)))(b:ev S y=some (.val (.int fr c0))):bO Kp S R (.binOp .neq aH x y ci) ty (.val (.bool (bi !=c0))):=gV a b (fun W=>by cases fr<;>rfl)
theorem Fi{x y:Operand}(a:ev S x=some (.val (.int fr bi)))(b:ev S y=some (.val (.int fr c0))):bO Kp S R (.binOp .lss aH x y ci) ty (.val (.bool (decide (bi<c0)))):=gV a b (fun W=>by cases fr<;>rfl)
theorem Fj{x y:Operand}(a:ev S x=some (.val (.int fr bi)))(b:ev S y=some (.val (.int fr c0))):bO Kp S R (.binOp .leq aH x y ci) ty (.val (.bool (decide (bi≤c0)))):=gV a b (fun W=>by cases fr<;>rfl)
theorem Fk{x y:Operand}(a:ev S x=some (.val (.int fr bi)))(b:ev S y=some (.val (.int fr c0))):bO Kp S R (.binOp .gtr aH x y ci) ty (.val (.bool (decide (bi>c0)))):=gV a b (fun W=>by cases fr<;>rfl)
theorem Fl{x y:Operand}(a:ev S x=some (.val (.int fr bi)))(b:ev S y=some (.val (.int fr c0))):bO Kp S R (.binOp .geq aH x y ci) ty (.val (.bool (decide (bi≥c0)))):=gV a b (fun W=>by cases fr<;>rfl)
theorem Fm{x y:Operand}(a:ev S x=some (.val (.string aY)))(b:ev S y=some (.val (.string im))):bO Kp S R (.binOp .eql aH x y ci) ty (.val (.bool (aY.toList==im.toList))):=gV a b (fun W=>rfl)
theorem Fo{x y:Operand}(a:ev S x=some (.val (.string aY)))(b:ev S y=some (.val (.string im))):bO Kp S R (.binOp .neq aH x y ci) ty (.val (.bool (!(aY.toList==im.toList)))):=gV a b (fun W=>rfl)
theorem bJ{vs:List (Nat×Vl)}{v:Vl}(b:hY.toList.map (fun p=>(p.1,ev S p.2))=vs.map (fun p=>(p.1,some (.val p.2))))(h:∀W,(Instr.build aH vs.toArray).run prog W= .ok v W):bO Kp S R (.build aH hY) ty (.val v):=
 bO.of fun ad a W dst pos af f d g=>by
   have c:(hY.map fun(i,x)=>(i,a.eval x))=vs.toArray:=by
    apply Array.ext'
    rw[Array.toList_map,List.toList_toArray]
    generalize hY.toList=l at b
    clear h
    induction l generalizing vs with
    |nil=>
     cases vs with
     |nil=>rfl
     |cons y ys=>cases b
    |cons x l e=>
     cases vs with
     |nil=>cases b
     |cons y ys=>
      simp only[List.map_cons,List.cons.injEq,Prod.mk.injEq] at b
      rw[List.map_cons,e b.2]
      have:=d.eval b.1.2
      simp only[AV.den] at this
      obtain⟨i,x⟩:=x
      obtain⟨j,y⟩:=y
      simp only at b this
      show(i,a.eval x)::ys=(j,y)::ys
      rw[this,b.1.1]
   have:=h W
   simp only[execOp,c,Sem.run_bind,this,Result.andThen_ok,Sem.run_pure]
end
section
variable{C:er}{ops:Array Oper}{Q:Exit→Act→Wd→Prop}{rest:List Oper}{sl:List (Nat×AV)}{bx cm:List Bx}{rw ft:List bU}{R:Wd}{d:Nat}{ty:TypeId}{pos:String}{af:Array Edge}
theorem vp(h:bO gk ⟨sl,bx,rw⟩ R cx ty cy)(a:Nat.blt d C.N=true)(k:VL C ops Q rest ⟨(d,cy)::sl,bx,rw⟩ R):VL C ops Q (⟨some d,cx,ty,pos,af,none⟩::rest) ⟨sl,bx,rw⟩ R:=Ev h (dn a) k
theorem y2(f:(ops[ae]?).bind (·.dst)=some ao)(g:look sl ao=some (.val (.bool hE)))(a:hE=!ca)(b:Nat.blt d C.N=true)(k:VL C ops Q rest ⟨(d,.val undef)::sl,bx,rw⟩ R):VL C ops Q (⟨some d,cx,ty,pos,af,some (ae,ca)⟩::rest) ⟨sl,bx,rw⟩ R:=by
 subst a
 exact Et f (S:=⟨sl,bx,rw⟩) g (fun e c=>by cases c;exact dn b) k
theorem Fp(e:(ops[ae]?).bind (·.dst)=some ao)(f:look sl ao=some (.val undef))(c:Nat.blt d C.N=true)(k:VL C ops Q rest ⟨(d,.val undef)::sl,bx,rw⟩ R):VL C ops Q (⟨some d,cx,ty,pos,af,some (ae,ca)⟩::rest) ⟨sl,bx,rw⟩ R:=by
 intro ad a W b
 have g:Region.wanted (⟨some d,cx,ty,pos,af,some (ae,ca)⟩:Oper) (yielded ops a.tmps)=false:=by
  simp only[Region.wanted,yielded,e]
  have:=b.slot ao _ f
  simp only[AV.den] at this
  simp[this,undef]
 unfold wpList
 rw[if_neg (by rw[g];simp)]
 exact k ad _ W (b.put (x:= .val undef) (dn c) (fun k o h=>by cases h))
theorem dJ(b:(ops[ae]?).bind (·.dst)=some ao)(c:look sl ao=some (.val (.bool hE)))(a:hE=ca)
 (k:VL C ops Q (⟨fB,cx,ty,pos,af,none⟩::rest) ⟨sl,bx,rw⟩ R):VL C ops Q (⟨fB,cx,ty,pos,af,some (ae,ca)⟩::rest) ⟨sl,bx,rw⟩ R:=by
 subst a
 exact Eu b (S:=⟨sl,bx,rw⟩) c k
theorem j1{x y:Operand}{k off n:Nat}(cm:List Bx)(g:ev ⟨sl,bx,rw⟩ x=some (.ptr k off))(h:ev ⟨sl,bx,rw⟩ y=some (.val az))(d:bx[k]?=some (ci,aj))
 (b:cr aH ca n) (e:az.cells.size=n) (f:Nat.ble (off+n) aj.length=true) (a:az.cells.toList.all (·.oneCell')=true) (c:bx.set k (ci,aj.take off++az.cells.toList++aj.drop (off+n))=cm)
 (i:VL C ops Q rest ⟨sl,cm,rw⟩ R):VL C ops Q (⟨none,.store aH x y,ty,pos,af,none⟩::rest) ⟨sl,bx,rw⟩ R:=
 EJ (S:=⟨sl,bx,rw⟩) g h d b e (Nat.le_of_ble_eq_true f) a rfl (by subst c;exact i)
theorem y3(m:Nat)(cm:List Bx)(e:eQ aH aj)(c:bx.length=m)(a:bx++ [(aH,aj)]=cm)(b:Nat.blt d C.N=true)(f:VL C ops Q rest ⟨(d,.ptr m 0)::sl,cm,rw⟩ R):
 VL C ops Q (⟨some d,.alloc aH,ty,pos,af,none⟩::rest) ⟨sl,bx,rw⟩ R:=by
 subst c a
 exact EK (S:=⟨sl,bx,rw⟩) e (dn b) f
theorem y4{x:Operand}(m:Nat)(cm:List Bx)(f:ev ⟨sl,bx,rw⟩ x=some (.val az))(e:az.cells.toList=aj)(c:bx.length=m)(a:bx++ [(aH,aj)]=cm)(b:Nat.blt d C.N=true)(g:VL C ops Q rest ⟨(d,.ptr m 0)::sl,cm,rw⟩ R):
 VL C ops Q (⟨some d,.box aH x,ty,pos,af,none⟩::rest) ⟨sl,bx,rw⟩ R:=by
 subst c a
 exact EL (S:=⟨sl,bx,rw⟩) f e (dn b) g
def mn (S:St) (parts:Array (Nat×Operand)) (vs:List Value):Prop:=parts.toList.map (fun p=>(p.1,ev S p.2))=(vs.zipIdx 0).map fun x=>(x.2,some (.val x.1))
theorem mn.eval{S:St}{parts:Array (Nat×Operand)}{vs:LV}(h:mn S parts vs){ad:Nat→Nat}{a:Act}(c:jX S ad a):(parts.map fun(i,x)=>(i,a.eval x)).toList=(vs.zipIdx 0).map fun x=>(x.2,x.1):=by
 unfold mn at h
 rw[Array.toList_map]
 generalize parts.toList=l at*
 generalize 0=n at*
 induction l generalizing vs n with
 |nil=>
  cases vs with
  |nil=>rfl
  |cons y ys=>cases h
 |cons p l d=>
  cases vs with
  |nil=>cases h
  |cons y ys=>
   simp only[List.map_cons,List.zipIdx_cons,List.cons.injEq,Prod.mk.injEq] at h
   rw[List.map_cons,d _ h.2,List.zipIdx_cons,List.map_cons]
   obtain⟨i,x⟩:=p
   have:=c.eval h.1.2
   simp only[AV.den] at this
   show(i,a.eval x)::_=(n,y)::_
   have b:i=n:=h.1.1
   rw[this,b]
theorem u7{t e size n:Nat}{vs:LV}{cs:LV}(q:c7 t e size)(l:mn ⟨sl,bx,rw⟩ hY vs)
 (s:vs.all (fun v=>v.cells.size==size)=true) (i:vs.length=n) (m:Nat.blt 0 n=true) (p:Nat.ble n 1000=true) (f:(vs.flatMap fun v=>v.cells.toList)=cs) (h:Nat.blt d C.N=true)
 (k:∀g R',Sub R R'→(∀j u,cs[j]?=some u→R'.cell? ⟨g,j,none⟩=some u)→VL C ops Q rest ⟨(d,.val (.slice (some ⟨g,0,none⟩) n n))::sl,bx,⟨.slice (some ⟨g,0,none⟩) n n,n,cs,e,size⟩::rw⟩ R'):
 VL C ops Q (⟨some d,.buildSlice t n hY,ty,pos,af,none⟩::rest) ⟨sl,bx,rw⟩ R:=by
 refine nT (qx (S:=⟨sl,bx,rw⟩) q (fun ad a o=>l.eval o) (fun v r=>by simpa using List.all_eq_true.1 s v r) i (dn m) (Nat.le_of_ble_eq_true p) f (dn h)) ?_
 rintro S' R' ⟨g,rfl,b⟩ c
 exact k g R' c b
theorem gW{x y:Operand}{n:Nat}{m c:Nat}{news:LV}(p:dO ae ao aX eO)(s:ev ⟨sl,bx,⟨az,n,aj,ao,aX⟩::rw⟩ x=some (.val az))(t:ev ⟨sl,bx,⟨az,n,aj,ao,aX⟩::rw⟩ y=some (.val (.slice aA m c)))
 (q:Src R aX aA m news) (j:aA=none→c=0) (b:∀u∈news,u.oneCell'=true) (i:n+m≤1000000000) (l:Nat.ble eO 100000=true) (o:Nat.blt d C.N=true)
 (k:∀a cap R',Sub R R'→n+m≤cap→cap≤9223372036854775807→(a=none→cap=0)→Src R' aX a (n+m) (aj++news)→
   VL C ops Q rest ⟨(d,.val (.slice a (n+m) cap))::sl,bx,⟨.slice a (n+m) cap,n+m,aj++news,ao,aX⟩::rw⟩ R'):
 VL C ops Q (⟨some d,.call {callee:= .builtin .append,args:=#[x,y],argTypes:=#[ae,ae]},ty,pos,af,none⟩::rest) ⟨sl,bx,⟨az,n,aj,ao,aX⟩::rw⟩ R:=by
 refine nT (sO (S:=⟨sl,bx,⟨az,n,aj,ao,aX⟩::rw⟩) (r:=⟨az,n,aj,ao,aX⟩) p s t rfl rfl rfl q j b i (Nat.le_of_ble_eq_true l) (dn o)) ?_
 rintro S' R' ⟨a,cap,rfl,e,h3,f,g⟩ h
 exact k a cap R' h e h3 f g
theorem nW(e size:Nat)(k:VL C ops Q rest ⟨sl,bx,⟨zS,0,[],e,size⟩::rw⟩ R):VL C ops Q rest ⟨sl,bx,rw⟩ R:=EZ e size k
theorem gN{c:Code}(e size:Nat)(k:V C c Q ⟨sl,bx,⟨zS,0,[],e,size⟩::rw⟩ R):V C c Q ⟨sl,bx,rw⟩ R:=fun ad a W h=>k ad a W (Rel.lI (S:=⟨sl,bx,rw⟩) h e size)
theorem Fq(ft:List bU)(h:ft.Sublist rw)(k:VL C ops Q rest ⟨sl,bx,ft⟩ R):VL C ops Q rest ⟨sl,bx,rw⟩ R:=Fc (S:=⟨sl,bx,rw⟩) h k
theorem o8(ft:List bU)(h:ft.Perm rw)(k:VL C ops Q rest ⟨sl,bx,ft⟩ R):VL C ops Q rest ⟨sl,bx,rw⟩ R:=fun ad a W b=>k ad a W (Rel.perm (S:=⟨sl,bx,rw⟩) b h)
theorem fl{c:Code}(ft:List bU)(h:ft.Perm rw)(k:V C c Q ⟨sl,bx,ft⟩ R):V C c Q ⟨sl,bx,rw⟩ R:=fun ad a W b=>k ad a W (Rel.perm (S:=⟨sl,bx,rw⟩) b h)
theorem u9(ft:List bU)(h:ft.Perm rw)(k:eY C Q eN ⟨sl,bx,ft⟩ R):eY C Q eN ⟨sl,bx,rw⟩ R:=fun ad a W b=>k ad a W (Rel.perm (S:=⟨sl,bx,rw⟩) b h)
theorem gO(k:VL C ops Q rest ⟨sl,bx,iI::fV::rw⟩ R):VL C ops Q rest ⟨sl,bx,fV::iI::rw⟩ R:=Fe (S:=⟨sl,bx,fV::iI::rw⟩) rfl k
def bd (F:FuncId) (args:List Value) (R:World) (eP:Value→World→Prop):Prop:=Spec F (args.map .val) [] [] R fun v _ ts R'=>ts=[]∧eP v R'
theorem cN(f:bd bk aj R hF)(c:aF bk)(g:fb ⟨sl,bx,rw⟩ c8 (aj.map .val))(e:Nat.blt d C.N=true)
 (k:∀v R',Sub R R'→hF v R'→VL C ops Q rest ⟨(d,.val v)::sl,bx,rw⟩ R'):VL C ops Q (⟨some d,.call {callee:= .value (.func bk),args:=c8,argTypes:=fi},ty,pos,af,none⟩::rest) ⟨sl,bx,rw⟩ R:=
 EM (S:=⟨sl,bx,rw⟩) f c g (dn e) (fun v R' a b=>k v R' b a.2) fun v ts R' h=>h.1
theorem be(c:bd bk aj R fun v R'=>R'=R∧qC v)(a:aF bk)(e:fb ⟨sl,bx,rw⟩ c8 (aj.map .val))(b:Nat.blt d C.N=true)
 (k:∀v,qC v→VL C ops Q rest ⟨(d,.val v)::sl,bx,rw⟩ R):VL C ops Q (⟨some d,.call {callee:= .value (.func bk),args:=c8,argTypes:=fi},ty,pos,af,none⟩::rest) ⟨sl,bx,rw⟩ R:=
 cN c a e b fun v R' _ h=>by obtain⟨rfl,h⟩:=h;exact k v h
theorem gm(h:eY C Q .normal ⟨sl,bx,rw⟩ R):VL C ops Q [] ⟨sl,bx,rw⟩ R:=Er h
theorem b5{c:Code}(d:prog.funcs[bk]?=some dx)(b:dx.body=some c)(e:dx.ntmps=ae)(a:Nat.ble aj.length ae=true)
 (f:ij 0 (ik (aj.map .val) 0)=true) (h:∀(w:Wd) (G:Nat→Prop) (ad:Nat→Nat),V ⟨ae,w,R,G,0,ad⟩ c (bodyPost prog dx (End ⟨ae,w,R,G,0,ad⟩ fun v _ ts R'=>ts=[]∧hF v R')) ⟨ik (aj.map .val) 0,[],[]⟩ R):bd bk aj R hF:=
 sM d b e (by rw[List.length_map];exact Nat.le_of_ble_eq_true a) rfl f h
variable{K:HK}{S0:St}{R0:Wd}{aq:Nat→Nat}{ay:Nat}{aN:Array Bool}
theorem nX(i:Nat)(g:ops[i]?=some ⟨some d,cx,ty,pos,af,none⟩)(h:bO (tk K ops i) ⟨sl,bx,rw⟩ R0 cx ty cy)(e:Nat.blt d C.N=true)
 (l:Region.noSelect ops=true) (f:Region.free .any ops aN i=true) (j:(Region.ready .any ops aN).contains i=true) (b:∀c a cy w,Q (.panic c) (Act.put a (some d) cy) w→Q (.panic c) a w)
 (k:VA C K S0 R0 aq ops Q ay (aN.setIfInBounds i true) ⟨(d,cy)::sl,bx,rw⟩ R):VA C K S0 R0 aq ops Q (ay+1) aN ⟨sl,bx,rw⟩ R:=EW (S:=⟨sl,bx,rw⟩) g h (dn e) l f j b k
theorem a7(rs:List Nat)(b:Region.ready .any ops aN=rs)(a:rs.isEmpty=false)(h:fq C K S0 R0 aq ops Q ay aN ⟨sl,bx,rw⟩ R rs):VA C K S0 R0 aq ops Q (ay+1) aN ⟨sl,bx,rw⟩ R:=
 EX b (fun e=>by subst e;cases a) h
theorem mX{i:Nat}{x y:Operand}{k off n:Nat}(cm:List Bx)(g:ops[i]?=some ⟨none,.store aH x y,ty,pos,af,none⟩)(p:ev ⟨sl,bx,rw⟩ x=some (.ptr k off))(q:ev ⟨sl,bx,rw⟩ y=some (.val az))(h:bx[k]?=some (ci,aj))
 (d:cr aH ca n) (l:az.cells.size=n) (m:Nat.ble (off+n) aj.length=true) (b:az.cells.toList.all (·.oneCell')=true) (c:hold K (aN.setIfInBounds i true) k=false) (f:bx.set k (ci,aj.take off++az.cells.toList++aj.drop (off+n))=cm)
 (r:VA C K S0 R0 aq ops Q ay (aN.setIfInBounds i true) ⟨sl,cm,rw⟩ R) (o:fq C K S0 R0 aq ops Q ay aN ⟨sl,bx,rw⟩ R aI):fq C K S0 R0 aq ops Q ay aN ⟨sl,bx,rw⟩ R (i::aI):=by
 refine o7 (S:=⟨sl,bx,rw⟩) g (sH (S:=⟨sl,bx,rw⟩) p q h d l (Nat.le_of_ble_eq_true m) b) ?_ ?_ o
 ·rintro S' R' ⟨rfl,rfl⟩
  refine⟨by simp,fun j a=> ?_⟩
  exact List.getElem?_set_ne (fun e=>by subst e;rw[c] at a;cases a)
 ·rintro S' R' ⟨rfl,rfl⟩ _
  subst f
  exact r
theorem Fs{i:Nat}{t e size n:Nat}(m:ops[i]?=some ⟨some d,.buildSlice t n hY,ty,pos,af,none⟩)(s:c7 t e size)(p:mn ⟨sl,bx,rw⟩ hY aj)
 (x:aj.all (fun v=>v.cells.size==size)=true) (o:aj.length=n) (q:Nat.blt 0 n=true) (r:Nat.ble n 1000=true) (h:(aj.flatMap fun v=>v.cells.toList)=bj) (l:Nat.blt d C.N=true)
 (k:∀g R',Sub R R'→(∀j u,bj[j]?=some u→R'.cell? ⟨g,j,none⟩=some u)→VA C K S0 R0 aq ops Q ay (aN.setIfInBounds i true) ⟨(d,.val (.slice (some ⟨g,0,none⟩) n n))::sl,bx,⟨.slice (some ⟨g,0,none⟩) n n,n,bj,e,size⟩::rw⟩ R')
 (b:fq C K S0 R0 aq ops Q ay aN ⟨sl,bx,rw⟩ R aI):fq C K S0 R0 aq ops Q ay aN ⟨sl,bx,rw⟩ R (i::aI):=by
 refine o7 (S:=⟨sl,bx,rw⟩) m (qx (S:=⟨sl,bx,rw⟩) s (fun ad a b=>p.eval b) (fun v w=>by simpa using List.all_eq_true.1 x v w) o (dn q) (Nat.le_of_ble_eq_true r) h (dn l)) ?_ ?_ b
 ·rintro S' R' ⟨g,rfl,c⟩
  exact⟨a9 _,fun _ _=>rfl⟩
 ·rintro S' R' ⟨g,rfl,c⟩ f
  exact k g R' f c
theorem va{i:Nat}{x y:Operand}{n:Nat}{m c:Nat}{news:LV}(s:ops[i]?=some ⟨some d,.call {callee:= .builtin .append,args:=#[x,y],argTypes:=#[ae,ae]},ty,pos,af,none⟩)
 (q:dO ae ao aX eO) (w:ev ⟨sl,bx,⟨az,n,aj,ao,aX⟩::rw⟩ x=some (.val az)) (z:ev ⟨sl,bx,⟨az,n,aj,ao,aX⟩::rw⟩ y=some (.val (.slice aA m c)))
 (v:Src R aX aA m news) (l:aA=none→c=0) (e:∀u∈news,u.oneCell'=true) (j:n+m≤1000000000) (o:Nat.ble eO 100000=true) (p:Nat.blt d C.N=true)
 (k:∀a cap R',Sub R R'→n+m≤cap→cap≤9223372036854775807→(a=none→cap=0)→Src R' aX a (n+m) (aj++news)→
   VA C K S0 R0 aq ops Q ay (aN.setIfInBounds i true) ⟨(d,.val (.slice a (n+m) cap))::sl,bx,⟨.slice a (n+m) cap,n+m,aj++news,ao,aX⟩::rw⟩ R')
 (t:fq C K S0 R0 aq ops Q ay aN ⟨sl,bx,⟨az,n,aj,ao,aX⟩::rw⟩ R aI):fq C K S0 R0 aq ops Q ay aN ⟨sl,bx,⟨az,n,aj,ao,aX⟩::rw⟩ R (i::aI):=by
 refine o7 (S:=⟨sl,bx,⟨az,n,aj,ao,aX⟩::rw⟩) s (sO (S:=⟨sl,bx,⟨az,n,aj,ao,aX⟩::rw⟩) (r:=⟨az,n,aj,ao,aX⟩) q w z rfl rfl rfl v l e j (Nat.le_of_ble_eq_true o) (dn p)) ?_ ?_ t
 ·rintro S' R' ⟨a,cap,rfl,b⟩
  exact⟨a9 _,fun _ _=>rfl⟩
 ·rintro S' R' ⟨a,cap,rfl,b,h3,f,g⟩ h
  exact k a cap R' h b h3 f g
theorem mo(e size:Nat)(k:VA C K S0 R0 aq ops Q ay aN ⟨sl,bx,⟨zS,0,[],e,size⟩::rw⟩ R):VA C K S0 R0 aq ops Q ay aN ⟨sl,bx,rw⟩ R:=Fb (S:=⟨sl,bx,rw⟩) e size k
theorem Ft(ft:List bU)(h:ft.Perm rw)(k:VA C K S0 R0 aq ops Q ay aN ⟨sl,bx,ft⟩ R):VA C K S0 R0 aq ops Q ay aN ⟨sl,bx,rw⟩ R:=fun ad a W b=>k ad a W (Rel.perm (S:=⟨sl,bx,rw⟩) b h)
theorem iJ(k:VA C K S0 R0 aq ops Q ay aN ⟨sl,bx,iI::fV::rw⟩ R):VA C K S0 R0 aq ops Q ay aN ⟨sl,bx,fV::iI::rw⟩ R:=Ff (S:=⟨sl,bx,fV::iI::rw⟩) rfl k
theorem sS{i:Nat}(f:ops[i]?=some ⟨some d,cx,ty,pos,af,none⟩)(c:bO gk ⟨sl,bx,rw⟩ R cx ty cy)(e:Nat.blt d C.N=true)
 (k:VA C K S0 R0 aq ops Q ay (aN.setIfInBounds i true) ⟨(d,cy)::sl,bx,rw⟩ R) (g:fq C K S0 R0 aq ops Q ay aN ⟨sl,bx,rw⟩ R aI):fq C K S0 R0 aq ops Q ay aN ⟨sl,bx,rw⟩ R (i::aI):=by
 refine o7 (S:=⟨sl,bx,rw⟩) (P:=fun S' R'=>S'=⟨(d,cy)::sl,bx,rw⟩∧R'=R) f ?_ ?_ ?_ g
 ·intro ad a W pos af h b
  exact⟨_,W,_,c.2 ad a W _ _ _ _ b.slot (b.nS _),.inl ⟨_,rfl,rfl⟩,_,R,ad,⟨rfl,rfl⟩,Sub.refl R,b.put (dn e) (c.lt b),fun _ _=>rfl⟩
 ·rintro S' R' ⟨rfl,rfl⟩
  exact⟨a9 _,fun _ _=>rfl⟩
 ·rintro S' R' ⟨rfl,rfl⟩ _
  exact k
theorem dK{i:Nat}{rs:List Nat}(b:ops[i]?=some ⟨some d,.call {callee:= .value (.func bk),args:=c8,argTypes:=fi},ty,pos,af,none⟩)
 (G:bd bk aj R hF) (t:aF bk) (J:fb ⟨sl,bx,rw⟩ c8 (aj.map .val)) (y:Nat.blt d C.N=true)
 (k:∀v R',Sub R R'→hF v R'→VA C K S0 R0 aq ops Q ay (aN.setIfInBounds i true) ⟨(d,.val v)::sl,bx,rw⟩ R')
 (F:fq C K S0 R0 aq ops Q ay aN ⟨sl,bx,rw⟩ R rs):fq C K S0 R0 aq ops Q ay aN ⟨sl,bx,rw⟩ R (i::rs):=by
 intro j f ad a W h g l h3 m p n
 rcases dX.1 f with rfl|f
 ·unfold wpOp
  simp only[b,Region.wanted]
  refine .inl ?_
  unfold Oper.wp
  rw[k7,J.eval h.slot,j0 t]
  have u:=h.own
  refine(G W ad (u.sub (fun i=>i) [] (fun i b=>by cases b) (fun i j b=>by cases b) (eH _))).mono ?_
  rintro E W' ⟨v,q,L,R',rfl,c,B,A,H,I,D⟩
  subst I
  have w:q=[]:=List.eq_nil_of_length_eq_zero (by simpa using A)
  subst w
  have r:=h.called (rs:=rw) (ts:=[]) rfl (fun i=>i) (fun i b=>by cases b) c B rfl H bx rfl (fun i b=>by cases b) (fun _ _=>rfl)
  have s:Rel C ⟨(d,.val v)::sl,bx,rw⟩ R' ad (a.put (some d) v) W':=r.put (x:= .val v) (dn y) (fun k o e=>by cases e)
  exact sN (S':=⟨(d,.val v)::sl,bx,rw⟩) (ad:=ad) (fun k z=>l k (qB z)) g (h3.trans c.sub) m p n (k v R' c.sub D) s
 ·exact F j f ad a W h g l h3 m p n
theorem bS(a:Region.ready .any ops aN=[])(h:eY C Q .normal ⟨sl,bx,rw⟩ R):VA C K S0 R0 aq ops Q ay aN ⟨sl,bx,rw⟩ R:=EY a h
end
def sT (R a:World) (B:Nat):World:={R with heap:=((List.range a.heap.size).map fun i=>if i<B then(R.heap[i]?).getD (.cells #[] 0 (0,0)) else(a.heap[i]?).getD (.cells #[] 0 (0,0))).toArray}
theorem mY(R a:Wd)(B b o:Nat)(h:B≤a.heap.size):(sT R a B).cell? ⟨b,o,none⟩=if b<B then R.cell? ⟨b,o,none⟩ else a.cell? ⟨b,o,none⟩:=by
 unfold sT World.cell?
 simp only[List.getElem?_toArray,List.getElem?_map]
 by_cases d:b<a.heap.size
 ·rw[List.getElem?_range d]
  simp only[Option.map_some]
  by_cases c:b<B
  ·simp only[if_pos c]
   cases f:R.heap[b]?<;>simp
  ·simp only[if_neg c]
   cases f:a.heap[b]?<;>simp
 ·rw[List.getElem?_eq_none (by simpa using d)]
  have e:a.heap[b]?=none:=Array.getElem?_eq_none (by omega)
  rw[if_neg (by omega)]
  simp[e]
theorem bd.Fu(h:∀w,Calls prog bk aj.toArray w fun E d=>Below w.heap.size w d∧∃v,E= .returned v∧∀R',Sub (Data.part d (cg w.heap.size none)) R'→hF v R'):bd bk aj ah hF:=by
 intro w ad g
 have l:((aj.map AV.val).map (AV.den ad)).toArray=aj.toArray:=by rw[List.map_map];congr 1;exact List.map_id'' (fun _=>rfl) aj
 rw[l]
 refine(h w).mono ?_
 rintro E d ⟨a,v,rfl,q⟩
 have p:∀b o u,ah.cell? ⟨b,o,none⟩=some u→b<w.heap.size:=fun b o u hu=>World.block_lt_of_cell? w _ (g.b9 b o u hu).1
 refine⟨v,[],[],sT ah d w.heap.size,rfl,⟨a.os,a.tape,a.output,a.size,fun b e _=>a.block b e,fun b o u e hu=> ?_,fun b o u hu=> ?_⟩,⟨fun k T cs f=>(by cases f),fun i j n=>(by cases n),fun r c=>(by cases c),fun r c=>(by cases c),List.Pairwise.nil,fun b o u hu=>⟨?_,fun k f=>(by cases f),fun r c=>(by cases c)⟩⟩,rfl,fun r c=>(by cases c),rfl,q _ ?_⟩
 ·rw[mY _ _ _ _ _ a.size,if_pos e] at hu
  exact .inl hu
 ·rw[mY _ _ _ _ _ a.size,if_pos (p b o u hu)]
  exact hu
 ·rw[mY _ _ _ _ _ a.size] at hu
  split at hu
  ·exact jz a (a9 _) (g.b9 b o u hu).1
  ·exact hu
 ·intro b o u hu
  rw[uU] at hu
  split at hu
  ·rename_i m
   rw[mY _ _ _ _ _ a.size,if_neg (by have:=(sz.1 m).1;omega)]
   exact hu
  ·cases hu
theorem bd.y5{eP:Vl→Prop}(h:∀w,Calls prog bk aj.toArray w fun E f=>Below w.heap.size w f∧∃v,E= .returned v∧eP v):bd bk aj ah fun v R'=>R'=ah∧eP v:=by
 intro w ad g
 have l:((aj.map AV.val).map (AV.den ad)).toArray=aj.toArray:=by rw[List.map_map];congr 1;exact List.map_id'' (fun _=>rfl) aj
 rw[l]
 refine(h w).mono ?_
 rintro E f ⟨c,v,rfl,n⟩
 refine⟨v,[],[],ah,rfl,⟨c.os,c.tape,c.output,c.size,fun b e _=>c.block b e,fun b o u e hu=> .inl hu,Sub.refl ah⟩,⟨fun k T cs d=>(by cases d),fun i j m=>(by cases m),fun r a=>(by cases a),fun r a=>(by cases a),List.Pairwise.nil,fun b o u hu=>⟨jz c (a9 _) (g.b9 b o u hu).1,fun k d=>(by cases d),fun r a=>(by cases a)⟩⟩,rfl,fun r a=>(by cases a),rfl,rfl,n⟩
def lk {α:Type}:List (Nat×α)→Nat→Option α
 |[],_=>none
 |(k,a)::r,t=>cond (Nat.beq k t) (some a) (lk r t)
theorem qD{α:Type}{p:Nat→α→Prop}:∀{l:List (Nat×α)},(∀x∈l,p x.1 x.2)→∀{t:Nat} {a:α},lk l t=some a→p t a
 |[],_,t,a,h=>by cases h
 |(k,b)::r,d,t,a,h=>by
  simp only[lk] at h
  cases c:Nat.beq k t with
  |true=>
   rw[c] at h
   obtain rfl:=g7 c
   cases h
   exact d _ (hD ..)
  |false=>
   rw[c] at h
   exact qD (fun x e=>d x (iT _ e)) h
def iU:List (Nat×Bool×Nat):=[(3,false,1),(4,false,1),(9,false,1),(23,false,1),(24,false,1),(26,true,2),(27,false,1),(29,true,2),(31,true,6),(34,false,1),(36,true,4),(51,false,1),(58,true,3),(65,true,7),(66,false,1),(67,false,1),(69,true,2),(70,false,1),(71,false,1),(75,true,6),(87,false,1),(89,true,4),(91,true,5),(92,false,1),(96,true,5),(98,true,6),(105,false,1),(106,false,1),(108,true,5),(112,true,11),(129,true,5),(135,true,6),(140,true,5),(153,true,4),(159,false,1),(173,true,2),(194,false,1),(200,false,1),(201,false,1),(202,false,1),(204,true,12),(210,true,5),(222,false,1)]
theorem iV{T n:Nat}(h:lk iU T=some (ca,n)):cr T ca n:=by
 refine qD (p:=fun T (x:Bool×Nat)=>cr T x.1 x.2) (l:=iU) ?_ h
 intro x a
 have:=List.all_eq_true.1 (show iU.all (fun x=>qt prog x.1 x.2.1 x.2.2)=true by kernel_rfl) x a
 exact this
def qE:List (Nat×Nat):=[(2600,0),(2601,1),(3100,0),(3101,1),(3102,2),(3103,3),(3104,4),(3600,0),(3601,1),(3602,2),(3603,3),(5800,0),(5801,1),(6300,0),(6301,1),(6500,0),(6502,2),(6900,0),(6901,1),(7300,0),(7301,2),(7302,3),(7303,4),(7304,5),(7305,6),(7306,7),(7500,0),(7501,1),(7502,5),(8900,0),(8901,1),(8902,2),(8903,3),(9100,0),(9101,1),(9600,0),(9601,1),(9602,2),(9603,3),(9800,0),(9801,1),(9802,2),(9803,3),(9804,4),(10800,0),(10801,1),(10802,2),(10803,3),(11200,0),(11201,1),(11202,2),(11203,3),(11204,9),(12900,0),(12901,1),(13500,0),(13501,2),(14000,0),(14001,1),(15300,0),(15301,1),(15302,2),(17300,0),(17301,1),(19600,0),(19601,1),(19602,2),(20400,0),(20401,1),(20402,7),(20403,8),(20404,9),(20405,10),(20406,11),(21000,0),(21001,1)]
theorem y6{T i off:Nat}(b:Nat.blt i 100=true)(h:lk qE (T*100+i)=some off):qw T i off:=by
 have d:i<100:=Nat.lt_of_succ_le (hP b)
 have a:qv prog ((T*100+i)/100) ((T*100+i)% 100) off=true:=by
  refine qD (p:=fun k o=>qv prog (k/100) (k % 100) o=true) (l:=qE) ?_ h
  intro x c
  exact List.all_eq_true.1 (show qE.all (fun x=>qv prog (x.1/100) (x.1 % 100) x.2)=true by kernel_rfl) x c
 rw[show(T*100+i)/100=T by omega,show(T*100+i)% 100=i by omega] at a
 exact a
def sU:List (Nat×Nat):=[(23,108),(24,112),(27,31),(34,36),(39,91),(47,51),(51,3),(54,65),(66,75),(67,140),(70,129),(71,135),(87,89),(92,96),(105,9),(106,153),(175,210),(201,202),(247,201)]
theorem Fv(h:lk sU ae=some ao):prog.underlying ae=some (.slice ao):=by
 refine qD (p:=fun ae ao=>prog.underlying ae=some (.slice ao)) (l:=sU) ?_ h
 simp only[sU,List.forall_mem_cons]
 exact⟨by kernel_rfl,by kernel_rfl,by kernel_rfl,by kernel_rfl,by kernel_rfl,by kernel_rfl,by kernel_rfl,by kernel_rfl,by kernel_rfl,by kernel_rfl,by kernel_rfl,by kernel_rfl,by kernel_rfl,by kernel_rfl,by kernel_rfl,by kernel_rfl,by kernel_rfl,by kernel_rfl,by kernel_rfl,fun _ h=>by cases h⟩
section
variable{S:St}{R:Wd}{ty:TypeId}{K:Nat→Bool}
def vb (K:Nat→Bool) (S:St) (T:Nat) (x:Operand):Option AV:=match ev S x with
 |some (.ptr k o)=>cond (K k) (match S.boxes[k]? with
  |some (_,cs)=>match lk iU T with
   |some (false,n)=>cond (Nat.beq n 1) (match cs[o]? with|some u=>some (.val u)|none=>none) none
   |some (true,n)=>cond (Nat.beq o 0&& Nat.beq cs.length n) (some (.val (.agg cs.toArray))) none
   |none=>none
  |none=>none) none
 |_=>none
theorem Fw{x:Operand}(h:vb K S ae x=some cy):bO K S R (.load ae x) ty cy:=by
 unfold vb at h
 split at h
 ·rename_i k o e
  cases b:K k with
  |false=>rw[b] at h;cases h
  |true=>
   rw[b] at h
   simp only[cond_true] at h
   split at h
   ·rename_i f cs d
    split at h
    ·rename_i n c
     cases a:Nat.beq n 1 with
     |false=>rw[a] at h;cases h
     |true=>
      rw[a] at h
      simp only[cond_true] at h
      obtain rfl:=g7 a
      split at h
      ·rename_i u hu
       cases h
       exact EE e b d (iV c) hu
      ·cases h
    ·rename_i n c
     cases a:(Nat.beq o 0&& Nat.beq cs.length n) with
     |false=>rw[a] at h;cases h
     |true=>
      rw[a] at h
      cases h
      rw[Bool.and_eq_true] at a
      obtain rfl:=g7 a.1
      obtain rfl:=g7 a.2
      exact yL e b d (iV c)
    ·cases h
   ·cases h
 ·cases h
def vc (S:St) (T:Nat) (x:Operand) (i:Nat):Option AV:=match ev S x with
 |some (.ptr k o)=>cond (Nat.blt i 100) (match lk qE (T*100+i) with|some off=>some (.ptr k (o+off))|none=>none) none
 |_=>none
theorem Fx{T i:Nat}{x:Operand}(h:vc S T x i=some cy):bO K S R (.fieldAddr T x i) ty cy:=by
 unfold vc at h
 split at h
 ·rename_i k o c
  cases a:Nat.blt i 100 with
  |false=>rw[a] at h;cases h
  |true=>
   rw[a] at h
   simp only[cond_true] at h
   split at h
   ·rename_i off b
    cases h
    exact EF c (y6 a b)
   ·cases h
 ·cases h
def vd (S:St) (x:Operand) (i:Nat):Option AV:=match ev S x with
 |some (.val (.tuple vs))=>match vs[i]? with|some u=>some (.val u)|none=>none
 |_=>none
theorem Fy{i:Nat}{x:Operand}(h:vd S x i=some cy):bO K S R (.extract x i) ty cy:=by
 unfold vd at h
 split at h
 ·rename_i vs a
  split at h
  ·rename_i u hu
   cases h
   exact ED a hu
  ·cases h
 ·cases h
def ve (S:St) (op:BinOp) (x y:Operand):Option AV:=match ev S x with
 |some (.val (.int k a))=>match ev S y with
  |some (.val (.int c b))=>match decide (k=c) with
   |true=>match op with
    | .eql=>some (.val (.bool (a==b)))
    | .neq=>some (.val (.bool (a !=b)))
    | .lss=>some (.val (.bool (decide (a<b))))
    | .leq=>some (.val (.bool (decide (a≤b))))
    | .gtr=>some (.val (.bool (decide (a>b))))
    | .geq=>some (.val (.bool (decide (a≥b))))
    |_=>none
   |false=>none
  |_=>none
 |some (.val (.string a))=>match ev S y with
  |some (.val (.string b))=>match op with
   | .eql=>some (.val (.bool (a.toList==b.toList)))
   | .neq=>some (.val (.bool (!(a.toList==b.toList))))
   |_=>none
  |_=>none
 |_=>none
theorem Fz{x y:Operand}(h:ve S sB x y=some cy):bO K S R (.binOp sB aH x y ci) ty cy:=by
 unfold ve at h
 split at h
 ·rename_i k a c
  split at h
  ·rename_i f b d
   split at h
   ·rename_i e
    obtain rfl:=of_decide_eq_true e
    split at h
    ·cases h;exact Fh c d
    ·cases h;exact y1 c d
    ·cases h;exact Fi c d
    ·cases h;exact Fj c d
    ·cases h;exact Fk c d
    ·cases h;exact Fl c d
    ·cases h
   ·cases h
  ·cases h
 ·rename_i a c
  split at h
  ·rename_i b d
   split at h
   ·cases h;exact Fm c d
   ·cases h;exact Fo c d
   ·cases h
  ·cases h
 ·cases h
def vf (S:St) (x:Operand):Option AV:=match ev S x with
 |some (.val (.bool b))=>some (.val (.bool (!b)))
 |_=>none
theorem FA{x:Operand}(h:vf S x=some cy):bO K S R (.unOp .not aH x) ty cy:=by
 unfold vf at h
 split at h
 ·rename_i b a
  cases h
  exact EC a
 ·cases h
def vg (S:St) (c x y:Operand):Option AV:=match ev S c with
 |some (.val (.bool true))=>match ev S x with|some (.val p)=>some (.val p)|_=>none
 |some (.val (.bool false))=>match ev S y with|some (.val p)=>some (.val p)|_=>none
 |_=>none
theorem FB{c x y:Operand}(h:vg S c x y=some cy):bO K S R (.pick c x y) ty cy:=by
 unfold vg at h
 split at h
 ·rename_i a
  split at h
  ·rename_i p b
   cases h
   exact Ey a b
  ·cases h
 ·rename_i a
  split at h
  ·rename_i p b
   cases h
   exact Ez a b
  ·cases h
 ·cases h
def pv (K:Nat→Bool) (S:St):Op→Option AV
 | .move x=>ev S x
 | .assign x=>ev S x
 | .load T x=>vb K S T x
 | .fieldAddr T x i=>vc S T x i
 | .extract x i=>vd S x i
 | .binOp op T x y a=>ve S op x y
 | .unOp op T x=>match op with| .not=>vf S x|_=>none
 | .pick c x y=>vg S c x y
 |_=>none
theorem mZ(h:pv K S cx=some cy):bO K S R cx ty cy:=by
 cases cx with
 |move x=>exact yI h
 |assign x=>exact Ew h
 |load T x=>exact Fw h
 |fieldAddr T x i=>exact Fx h
 |extract x i=>exact Fy h
 |binOp cx T x y a=>exact Fz h
 |unOp cx T x=>
  cases cx with
  |not=>exact FA h
  |_=>cases h
 |pick c x y=>exact FB h
 |_=>cases h
def pg (ops:Array Oper) (N:Nat) (S:St) (o:Oper):Option (Nat×AV):=match o.dst with
 |none=>none
 |some d=>cond (Nat.blt d N) (match o.guard with
  |none=>match pv gk S o.op with|some v=>some (d,v)|none=>none
  |some (j,b)=>match(ops[j]?).bind (·.dst) with
   |some t=>match look S.bW t with
    |some (.val (.bool b'))=>match b'==b with
     |true=>match pv gk S o.op with|some v=>some (d,v)|none=>none
     |false=>some (d,.val undef)
    |_=>none
   |none=>none) none
end
section
variable{C:er}{ops:Array Oper}{Q:Exit→Act→Wd→Prop}{rest:List Oper}{sl:List (Nat×AV)}{bx:List Bx}{rw:List bU}{R:Wd}
theorem P1{p:Nat×AV}(h:pg ops C.N ⟨sl,bx,rw⟩ ea=some p)(k:VL C ops Q rest ⟨p::sl,bx,rw⟩ R):VL C ops Q (ea::rest) ⟨sl,bx,rw⟩ R:=by
 obtain⟨dst,op,ty,pos,af,i⟩:=ea
 unfold pg at h
 cases dst with
 |none=>cases h
 |some d=>
  simp only at h
  cases c:Nat.blt d C.N with
  |false=>rw[c] at h;cases h
  |true=>
   rw[c] at h
   simp only[cond_true] at h
   cases i with
   |none=>
    simp only at h
    cases a:pv gk ⟨sl,bx,rw⟩ op with
    |none=>rw[a] at h;cases h
    |some v=>
     rw[a] at h
     cases h
     exact vp (mZ a) c k
   |some l=>
    obtain⟨j,b⟩:=l
    simp only at h
    cases f:(ops[j]?).bind (·.dst) with
    |none=>rw[f] at h;cases h
    |some t=>
     rw[f] at h
     simp only at h
     split at h
     ·rename_i b' g
      cases e:(b'==b) with
      |true=>
       rw[e] at h
       simp only at h
       cases a:pv gk ⟨sl,bx,rw⟩ op with
       |none=>rw[a] at h;cases h
       |some v=>
        rw[a] at h
        cases h
        exact dJ f g (by simpa using e) (vp (mZ a) c k)
      |false=>
       rw[e] at h
       cases h
       refine y2 f g ?_ c k
       revert e
       cases b'<;>cases b<;>simp
     ·cases h
theorem P2(h:(pg ops C.N ⟨sl,bx,rw⟩ ea,pg ops C.N ⟨hQ::sl,bx,rw⟩ mq)=(some hQ,some jf))(k:VL C ops Q rest ⟨jf::hQ::sl,bx,rw⟩ R):VL C ops Q (ea::mq::rest) ⟨sl,bx,rw⟩ R:=by
 simp only[Prod.mk.injEq] at h
 exact P1 (h.1) (P1 (h.2) (k))
theorem P3(h:(pg ops C.N ⟨sl,bx,rw⟩ ea,pg ops C.N ⟨hQ::sl,bx,rw⟩ mq,pg ops C.N ⟨jf::hQ::sl,bx,rw⟩ qF)=(some hQ,some jf,some m0))(k:VL C ops Q rest ⟨m0::jf::hQ::sl,bx,rw⟩ R):VL C ops Q (ea::mq::qF::rest) ⟨sl,bx,rw⟩ R:=by
 simp only[Prod.mk.injEq] at h
 exact P1 (h.1) (P1 (h.2.1) (P1 (h.2.2) (k)))
theorem P4(h:(pg ops C.N ⟨sl,bx,rw⟩ ea,pg ops C.N ⟨hQ::sl,bx,rw⟩ mq,pg ops C.N ⟨jf::hQ::sl,bx,rw⟩ qF,pg ops C.N ⟨m0::jf::hQ::sl,bx,rw⟩ vh)=(some hQ,some jf,some m0,some sW))(k:VL C ops Q rest ⟨sW::m0::jf::hQ::sl,bx,rw⟩ R):VL C ops Q (ea::mq::qF::vh::rest) ⟨sl,bx,rw⟩ R:=by
 simp only[Prod.mk.injEq] at h
 exact P1 (h.1) (P1 (h.2.1) (P1 (h.2.2.1) (P1 (h.2.2.2) (k))))
theorem P5(h:(pg ops C.N ⟨sl,bx,rw⟩ ea,pg ops C.N ⟨hQ::sl,bx,rw⟩ mq,pg ops C.N ⟨jf::hQ::sl,bx,rw⟩ qF,pg ops C.N ⟨m0::jf::hQ::sl,bx,rw⟩ vh,pg ops C.N ⟨sW::m0::jf::hQ::sl,bx,rw⟩ FC)=(some hQ,some jf,some m0,some sW,some FD))(k:VL C ops Q rest ⟨FD::sW::m0::jf::hQ::sl,bx,rw⟩ R):VL C ops Q (ea::mq::qF::vh::FC::rest) ⟨sl,bx,rw⟩ R:=by
 simp only[Prod.mk.injEq] at h
 exact P1 (h.1) (P1 (h.2.1) (P1 (h.2.2.1) (P1 (h.2.2.2.1) (P1 (h.2.2.2.2) (k)))))
def zL:List (Nat×List Value):=[(3,[.int .i64 0]),(26,[.slice none 0 0,.slice none 0 0]),(29,[.int .i64 0,.int .i64 0]),(31,[.int .i64 0,.string ⟨#[]⟩,.int .i64 0,.slice none 0 0,.int .i64 0,.int .i64 0]),(36,[.int .i64 0,.string ⟨#[]⟩,.int .i64 0,.slice none 0 0]),(58,[.bool false,.int .i64 0,.int .i64 0]),(65,[.string ⟨#[]⟩,.int .i64 0,.int .i64 0,.int .i64 0,.string ⟨#[]⟩,.int .i64 0,.slice none 0 0]),(69,[.slice none 0 0,.int .i64 0]),(75,[.string ⟨#[]⟩,.int .i64 0,.string ⟨#[]⟩,.int .i64 0,.slice none 0 0,.int .i64 0]),(89,[.int .i64 0,.string ⟨#[]⟩,.int .i64 0,.slice none 0 0]),(91,[.slice none 0 0,.int .i64 0,.string ⟨#[]⟩,.int .i64 0,.slice none 0 0]),(96,[.int .i64 0,.string ⟨#[]⟩,.int .i64 0,.int .i64 0,.int .i64 0]),(98,[.slice none 0 0,.int .i64 0,.int .i64 0,.bool false,.int .i64 0,.int .i64 0]),(108,[.string ⟨#[]⟩,.slice none 0 0,.slice none 0 0,.int .i64 0,.int .i64 0]),(112,[.string ⟨#[]⟩,.slice none 0 0,.slice none 0 0,.int .i64 0,.string ⟨#[]⟩,.int .i64 0,.slice none 0 0,.int .i64 0,.int .i64 0,.int .i64 0,.int .i64 0]),(135,[.int .i64 0,.int .i64 0,.int .i64 0,.string ⟨#[]⟩,.int .i64 0,.slice none 0 0]),(140,[.int .i64 0,.int .i64 0,.string ⟨#[]⟩,.int .i64 0,.slice none 0 0]),(141,[.bool false,.bool false,.bool false,.bool false,.bool false,.bool false]),(153,[.string ⟨#[]⟩,.slice none 0 0,.int .i64 0,.int .i64 0]),(173,[.int .i64 0,.int .i64 0]),(201,[.slice none 0 0]),(204,[.int .i64 0,.int .i64 0,.string ⟨#[]⟩,.int .i64 0,.slice none 0 0,.int .i64 0,.int .i64 0,.map none,.pointer none,.int .i64 0,.string ⟨#[]⟩,.slice none 0 0]),(210,[.int .i64 0,.int .i64 0,.string ⟨#[]⟩,.int .i64 0,.slice none 0 0]),(222,[.map none])]
theorem zT(h:lk zL ae=some aj):eQ ae aj:=by
 refine qD (p:=eQ) (l:=zL) ?_ h
 simp only[zL,List.forall_mem_cons]
 exact⟨by unfold eQ;kernel_rfl,by unfold eQ;kernel_rfl,by unfold eQ;kernel_rfl,by unfold eQ;kernel_rfl,by unfold eQ;kernel_rfl,by unfold eQ;kernel_rfl,by unfold eQ;kernel_rfl,by unfold eQ;kernel_rfl,by unfold eQ;kernel_rfl,by unfold eQ;kernel_rfl,by unfold eQ;kernel_rfl,by unfold eQ;kernel_rfl,by unfold eQ;kernel_rfl,by unfold eQ;kernel_rfl,by unfold eQ;kernel_rfl,by unfold eQ;kernel_rfl,by unfold eQ;kernel_rfl,by unfold eQ;kernel_rfl,by unfold eQ;kernel_rfl,by unfold eQ;kernel_rfl,by unfold eQ;kernel_rfl,by unfold eQ;kernel_rfl,by unfold eQ;kernel_rfl,by unfold eQ;kernel_rfl,fun _ h=>by cases h⟩
inductive gn {α:Type}:List α→Nat→α→α→List α→Prop
 |z {a b:α} {l:List α}:gn (a::l) 0 a b (b::l)
 |s {c a b:α} {l l':List α} {k:Nat}:gn l k a b l'→gn (c::l) (k+1) a b (c::l')
theorem gn.eq{l d:List cW}{a b:cW}(h:gn l ae a b d):l[ae]?=some a∧l.set ae b=d:=by
 induction h with
 |z=>exact⟨rfl,rfl⟩
 |s h c=>exact⟨by simpa using c.1,by simp[c.2]⟩
inductive sX {α:Type}:List α→List α→List α→Prop
 |z {l:List α}:sX l [] l
 |s {c v:α} {l vs l':List α}:sX l vs l'→sX (c::l) (v::vs) (v::l')
inductive vi {α:Type}:List α→Nat→List α→List α→Prop
 |z {l vs l':List α}:sX l vs l'→vi l 0 vs l'
 |s {c:α} {l vs l':List α} {k:Nat}:vi l k vs l'→vi (c::l) (k+1) vs (c::l')
inductive Sn {α:Type}:List α→α→Nat→List α→Prop
 |z {b:α}:Sn [] b 0 [b]
 |s {a b:α} {l l':List α} {m:Nat}:Sn l b m l'→Sn (a::l) b (m+1) (a::l')
theorem Sn.eq{l c:List cW}{b:cW}(h:Sn l b ae c):l.length=ae∧l++ [b]=c:=by
 induction h with
 |z=>exact⟨rfl,rfl⟩
 |s h a=>exact⟨by simp[a.1],by simp[a.2]⟩
section
variable{α:Type}{a b x0 x1 x2 x3 x4 x5 x6 x7 x8 x9 OF OG OH OI:α}{l:List α}
theorem E0:gn (a::l) 0 a b (b::l):= .z
theorem E1:gn (x0::a::l) 1 a b (x0::b::l):= .s (.z)
theorem E2:gn (x0::x1::a::l) 2 a b (x0::x1::b::l):= .s (.s (.z))
theorem E3:gn (x0::x1::x2::a::l) 3 a b (x0::x1::x2::b::l):= .s (.s (.s (.z)))
theorem E4:gn (x0::x1::x2::x3::a::l) 4 a b (x0::x1::x2::x3::b::l):= .s (.s (.s (.s (.z))))
theorem E5:gn (x0::x1::x2::x3::x4::a::l) 5 a b (x0::x1::x2::x3::x4::b::l):= .s (.s (.s (.s (.s (.z)))))
theorem E6:gn (x0::x1::x2::x3::x4::x5::a::l) 6 a b (x0::x1::x2::x3::x4::x5::b::l):= .s (.s (.s (.s (.s (.s (.z))))))
theorem E7:gn (x0::x1::x2::x3::x4::x5::x6::a::l) 7 a b (x0::x1::x2::x3::x4::x5::x6::b::l):= .s (.s (.s (.s (.s (.s (.s (.z)))))))
theorem E8:gn (x0::x1::x2::x3::x4::x5::x6::x7::a::l) 8 a b (x0::x1::x2::x3::x4::x5::x6::x7::b::l):= .s (.s (.s (.s (.s (.s (.s (.s (.z))))))))
theorem E9:gn (x0::x1::x2::x3::x4::x5::x6::x7::x8::a::l) 9 a b (x0::x1::x2::x3::x4::x5::x6::x7::x8::b::l):= .s (.s (.s (.s (.s (.s (.s (.s (.s (.z)))))))))
theorem N0:Sn [] b 0 [b]:= .z
theorem N1:Sn [x0] b 1 [x0,b]:= .s (.z)
theorem N2:Sn [x0,x1] b 2 [x0,x1,b]:= .s (.s (.z))
theorem N3:Sn [x0,x1,x2] b 3 [x0,x1,x2,b]:= .s (.s (.s (.z)))
theorem N4:Sn [x0,x1,x2,x3] b 4 [x0,x1,x2,x3,b]:= .s (.s (.s (.s (.z))))
theorem N5:Sn [x0,x1,x2,x3,x4] b 5 [x0,x1,x2,x3,x4,b]:= .s (.s (.s (.s (.s (.z)))))
theorem N7:Sn [x0,x1,x2,x3,x4,x5,x6] b 7 [x0,x1,x2,x3,x4,x5,x6,b]:= .s (.s (.s (.s (.s (.s (.s (.z)))))))
theorem N8:Sn [x0,x1,x2,x3,x4,x5,x6,x7] b 8 [x0,x1,x2,x3,x4,x5,x6,x7,b]:= .s (.s (.s (.s (.s (.s (.s (.s (.z))))))))
end
section
variable{C:er}{ops:Array Oper}{Q:Exit→Act→Wd→Prop}{rest:List Oper}{sl:List (Nat×AV)}{bx cm:List Bx}{rw ft:List bU}{R:Wd}{d:Nat}{ty:TypeId}{pos:String}{af:Array Edge}{K:Nat→Bool}{S:St}
theorem O{x y:Operand}{k n:Nat}(b:gn bx k (ci,aj) (ci,bj) cm)
 (h:(ev ⟨sl,bx,rw⟩ x,ev ⟨sl,bx,rw⟩ y,lk iU aH,Nat.beq bj.length n,Nat.beq aj.length n,bj.all (·.oneCell'))=(some (.ptr k 0),some (.val (.agg bj.toArray)),some (true,n),true,true,true))
 (i:VL C ops Q rest ⟨sl,cm,rw⟩ R):VL C ops Q (⟨none,.store aH x y,ty,pos,af,none⟩::rest) ⟨sl,bx,rw⟩ R:=by
 simp only[Prod.mk.injEq] at h
 obtain⟨f,g,d,e,a,c⟩:=h
 obtain rfl:=g7 e
 have a:=g7 a
 refine j1 cm f g b.eq.1 (iV d) rfl ?_ c ?_ i
 ·exact Nat.ble_eq_true_of_le (by omega)
 ·rw[←b.eq.2]
  have:(Value.agg bj.toArray).cells.toList=bj:=rfl
  rw[this,Nat.zero_add,←a]
  simp
theorem Z{x y:Operand}(b:gn bx ae (ci,aj) (ci,bj) cm)(c:gn aj ao cM az bj)
 (h:(ev ⟨sl,bx,rw⟩ x,ev ⟨sl,bx,rw⟩ y,lk iU aH,az.cells,az.oneCell')=(some (.ptr ae ao),some (.val az),some (false,1),#[az],true))
 (k:VL C ops Q rest ⟨sl,cm,rw⟩ R):VL C ops Q (⟨none,.store aH x y,ty,pos,af,none⟩::rest) ⟨sl,bx,rw⟩ R:=by
 simp only[Prod.mk.injEq] at h
 obtain⟨i,j,f,a,d⟩:=h
 have g:ao<aj.length:=(List.getElem?_eq_some_iff.1 c.eq.1).1
 refine j1 (n:=1) cm i j b.eq.1 (iV f) (by rw[a];rfl) ?_ ?_ ?_ k
 ·exact Nat.ble_eq_true_of_le (by omega)
 ·rw[a];simp[d]
 ·have e:aj.set ao az=aj.take ao++az::aj.drop (ao+1):=by rw[List.set_eq_take_append_cons_drop,if_pos g]
  rw[←b.eq.2,←c.eq.2,a,e]
  simp
theorem am(a:Sn bx (aH,aj) ae cm)(h:(lk zL aH,Nat.blt d C.N)=(some aj,true))(b:VL C ops Q rest ⟨(d,.ptr ae 0)::sl,cm,rw⟩ R):
 VL C ops Q (⟨some d,.alloc aH,ty,pos,af,none⟩::rest) ⟨sl,bx,rw⟩ R:=by
 simp only[Prod.mk.injEq] at h
 exact y3 ae cm (zT h.1) a.eq.1 a.eq.2 h.2 b
end
end
section
variable{C:er}{ops:Array Oper}{Q:Exit→Act→Wd→Prop}{sl k9:List (Nat×AV)}{bx cm:List Bx}{rw:List bU}{R:Wd}{K:HK}{Kp:Nat→Bool}{S0:St}{R0:Wd}{aq:Nat→Nat}{ay:Nat}{aN:Array Bool}
def pa (ops:Array Oper) (N:Nat) (K:Nat→Bool) (S:St) (i:Nat):Option (Nat×AV):=match ops[i]? with
 |some o=>match o.dst with
  |some d=>match o.guard with
   |none=>cond (Nat.blt d N) (match pv K S o.op with|some v=>some (d,v)|none=>none) none
   |some _=>none
  |none=>none
 |none=>none
def h1 (ops:Array Oper) (aN:Array Bool) (i:Nat):Bool:=Region.noSelect ops&& Region.free .any ops aN i&&(Region.ready .any ops aN).contains i
theorem vj{i:Nat}{p:Nat×AV}(h:pa ops C.N Kp bI i=some p):∃op ty pos af,ops[i]?=some ⟨some p.1,op,ty,pos,af,none⟩∧Nat.blt p.1 C.N=true∧∀{R:Wd} {ty:TypeId},bO Kp bI R op ty p.2:=by
 unfold pa at h
 split at h
 ·rename_i o e
  obtain⟨dst,op,ty,pos,af,c⟩:=o
  simp only at h
  cases dst with
  |none=>cases h
  |some d=>
   cases c with
   |some g=>cases h
   |none=>
    simp only at h
    cases a:Nat.blt d C.N with
    |false=>rw[a] at h;cases h
    |true=>
     rw[a] at h
     simp only[cond_true] at h
     cases b:pv Kp bI op with
     |none=>rw[b] at h;cases h
     |some v=>
      rw[b] at h
      cases h
      exact⟨op,ty,pos,af,e,a,mZ b⟩
 ·cases h
theorem ba{p:Nat×AV}(i:Nat)(h:pa ops C.N (tk K ops i) ⟨sl,bx,rw⟩ i=some p)(b:h1 ops aN i=true)(f:∀{c a v w},Q (.panic c) (Act.put a (some p.1) v) w→Q (.panic c) a w)
 (k:VA C K S0 R0 aq ops Q ay (aN.setIfInBounds i true) ⟨p::sl,bx,rw⟩ R):VA C K S0 R0 aq ops Q (ay+1) aN ⟨sl,bx,rw⟩ R:=by
 obtain⟨op,ty,pos,af,d,e,h3⟩:=vj h
 simp only[h1,Bool.and_eq_true] at b
 exact nX i d h3 e b.1.1 b.1.2 b.2 (fun c a v w=>f) k
def sa (ops:Array Oper) (i:Nat):Option (Nat×Operand×Operand):=match ops[i]? with
 |some ⟨none,.store T x y,_,_,_,none⟩=>some (T,x,y)
 |_=>none
theorem y7{i T:Nat}{x y:Operand}(h:sa ops i=some (T,x,y)):∃ty pos af,ops[i]?=some ⟨none,.store T x y,ty,pos,af,none⟩:=by
 unfold sa at h
 split at h
 ·rename_i a
  cases h
  exact⟨_,_,_,a⟩
 ·cases h
theorem av{i:Nat}{p:Nat×AV}(h:pa ops C.N gk ⟨sl,bx,rw⟩ i=some p)
 (d:VA C K S0 R0 aq ops Q ay (aN.setIfInBounds i true) ⟨p::sl,bx,rw⟩ R) (c:fq C K S0 R0 aq ops Q ay aN ⟨sl,bx,rw⟩ R aI):fq C K S0 R0 aq ops Q ay aN ⟨sl,bx,rw⟩ R (i::aI):=by
 obtain⟨op,ty,pos,af,a,b,h3⟩:=vj h
 exact sS a h3 b d c
end
end Go.Proofs.YthnogncknmhgoaaGreat.Vm
