/- Lemmas for ModelOrs (7 of 15). No conditions. -/
import Derived.MapKept
import Derived.LaidEql
import Derived.Test.YthnogncknmhgoaaGreatM1
import Derived.Test.YthnogncknmhgoaaGreatM5
import Derived.Test.YthnogncknmhgoaaGreatM2
import Derived.Test.YthnogncknmhgoaaGreatM3
set_option linter.all false
set_option maxRecDepth 100000
set_option maxHeartbeats 485000000
open Go.Proofs.Tryz
namespace Go.Proofs.YthnogncknmhgoaaGreat.Vm
open ChangeShapes WideShapes ChangeAt RowKit bq Data
variable{cy:AV}{cj Hr:Act}{nM:Act→Wd→Prop}{hY:Array (Nat×Operand)}{bQ:Array Bool}{dw:Array MapEntry}{dk:Array Oper}{c8:Array Operand}{fi:Array TypeId}{aY:BA}{h8:BA→Option Vl}{ca hE:Bool}{iK:Cg}{gl:Code}{rm:Ending}{lG:Ending→Wd→Prop}{eN:Exit}{dx:Func}{bk:FuncId}{aj bj:LV}{bu:List (Nat×AV)}{aS:List Bx}{h2:List lJ}{aI:List Nat}{gb:List Oper}{ov:List PanicEntry}{aV o5:List bU}{wu:MapEntry}{ae ao aX eO:Nat}{hQ jf:Nat×AV}{dl:Nat→Bool}{a0 rj:Nat→Nat}{ix:Nat→Option Vl}{nR Ho:Nat→Prop}{aA:OA}{fH:Obj}{cx:Op}{ea mq:Oper}{wy:Option (Nat×Bool)}{fB:Option Nat}{k8:ResultVar}{bI:St}{o3:St→Wd→Prop}{cW:Type}{aH ci:TypeId}{az cM:Vl}{qC:Vl→Prop}{hF:Vl→Wd→Prop}{ah bR jU nP oZ Hq:Wd}
abbrev Hp:=Nat→Option Obj
structure Hx where
 K:Hp
 H:Hp
structure eF extends er where
 K0:Hp
def dH (A B:Hp):Hp:=fun b=>match A b with|some o=>some o|none=>B b
def aQ (A:Hp) (b:Nat) (o:Obj):Hp:=fun c=>if c=b then some o else A c
def gy (A:Hp) (b:Nat):Hp:=fun c=>if c=b then none else A c
def bH:Hp:=fun _=>none
def hT (b:Nat) (o:Obj):Hp:=aQ bH b o
theorem hp(A:Hp):dH A bH=A:=by funext b;unfold dH bH;cases A b<;>rfl
theorem b0(A:Hp)(b:Nat)(o:Obj):aQ A b o b=some o:=if_pos rfl
theorem bh(A:Hp){b c:Nat}(o:Obj)(h:c≠b):aQ A b o c=A c:=if_neg h
theorem oo(A:Hp){b c:Nat}(h:c≠b):gy A b c=A c:=if_neg h
theorem j8(A:Hp)(o:Obj)(h:A ae=none):gy (aQ A ae o) ae=A:=by
 funext c;unfold gy aQ
 by_cases e:c=ae
 ·subst e;rw[if_pos rfl,h]
 ·rw[if_neg e,if_neg e]
theorem iM(A:Hp)(b:Nat)(o p:Obj):aQ (aQ A b o) b p=aQ A b p:=by funext c;unfold aQ;split<;>rfl
structure j9 (S:St) (R:World) (X:Hx) (ad:Nat→Nat) (W:World):Prop where
 k:∀b ob,X.K b=some ob→W.heap[b]?=some ob
 h:∀b ob,X.H b=some ob→W.heap[b]?=some ob
 kh:∀b,X.K b≠none→X.H b=none
 box:∀b,(X.K b≠none∨X.H b≠none)→∀k,k<S.boxes.length→ad k≠b
 row:∀b,(X.K b≠none∨X.H b≠none)→∀r∈S.rows,r.v.ownBlock≠some b
 b9:∀b,X.H b≠none→∀o,R.cell? ⟨b,o,none⟩=none
structure ck (C:eF) (S:St) (R:World) (X:Hx) (ad:Nat→Nat) (a:Act) (W:World):Prop where
 rel:Rel C.toer S R ad a W
 own:j9 S R X ad W
 gZ:∀b,X.H b≠none→C.w.heap.size≤b∨C.G b
 iZ:∀b ob,X.K b=some ob→b<C.w.heap.size→C.K0 b=some ob∨C.G b
 sub:∀b ob,C.K0 b=some ob→X.K b=some ob
def VX (C:eF) (c:Code) (Q:Exit→Act→World→Prop) (S:St) (R:World) (X:Hx):Prop:=∀ad a W,ck C S R X ad a W→c.wp prog Q a W
def bN (C:eF) (ops:Array Oper) (Q:Exit→Act→World→Prop) (l:List Oper) (S:St) (R:World) (X:Hx):Prop:=∀ad a W,ck C S R X ad a W→wpList prog ops Q l a W
def DX (C:eF) (Q:Exit→Act→World→Prop) (e:Exit) (S:St) (R:World) (X:Hx):Prop:=∀ad a W,ck C S R X ad a W→Q e a W
def GX (H:Hp) (ts:List bU) (b:Nat):Prop:=H b≠none∨∃r∈ts,r.v.ownBlock=some b
abbrev ka:=Ending→List bU→World→Hx→Prop
def cJ (F:FuncId) (args:List Value) (ts:List bU) (R:World) (X:Hx) (eP:ka):Prop:=
 ∀w,Own [] ts R (fun _=>0) w→j9 ⟨[],[],ts⟩ R X (fun _=>0) w→Calls prog F args.toArray w fun E W=>
  ∃a R' X',E≠ .outgrown∧ih w (GX X.H ts) R W R'∧Own [] a R' (fun _=>0) W∧j9 ⟨[],[],a⟩ R' X' (fun _=>0) W∧(∀r∈a,∀b,r.v.ownBlock=some b→w.heap.size≤b∨GX X.H ts b)∧
   (∀b,X'.H b≠none→w.heap.size≤b∨GX X.H ts b)∧(∀b ob,X'.K b=some ob→b<w.heap.size→X.K b=some ob∨GX X.H ts b)∧(∀b ob,X.K b=some ob→X'.K b=some ob)∧eP E a R' X'
def hU (C:eF) (eP:ka) (E:Ending) (W:World):Prop:=
 ∃a R' X',E≠ .outgrown∧ih C.w C.G C.R0 W R'∧Own [] a R' (fun _=>0) W∧j9 ⟨[],[],a⟩ R' X' (fun _=>0) W∧(∀r∈a,∀b,r.v.ownBlock=some b→C.w.heap.size≤b∨C.G b)∧
  (∀b,X'.H b≠none→C.w.heap.size≤b∨C.G b)∧(∀b ob,X'.K b=some ob→b<C.w.heap.size→C.K0 b=some ob∨C.G b)∧(∀b ob,C.K0 b=some ob→X'.K b=some ob)∧eP E a R' X'
theorem cJ.mono{F:FuncId}{args:LV}{ts:List bU}{R:Wd}{X:Hx}{P k:ka}(h:cJ F args ts R X P)(n:∀E j R' X',P E j R' X'→k E j R' X'):cJ F args ts R X k:=
 fun w l m=>(h w l m).mono fun E W ⟨j,R',X',a,b,c,d,e,f,g,i,p⟩=>⟨j,R',X',a,b,c,d,e,f,g,i,n _ _ _ _ p⟩
section
variable{C:eF}{ops:Array Oper}{Q:Exit→Act→Wd→Prop}{rest:List Oper}{S S':St}{R R':Wd}{X X':Hx}{d:Nat}{ty:TypeId}{pos:String}{af:Array Edge}{Kb:Nat→Bool}
theorem j9.lt(h:j9 S R X a0 ah){b:Nat}(a:X.K b≠none∨X.H b≠none):b<ah.heap.size:=by
 rcases a with a|a
 ·cases e:X.K b with
  |none=>exact absurd e a
  |some o=>exact(Array.getElem?_eq_some_iff.1 (h.k b o e)).1
 ·cases e:X.H b with
  |none=>exact absurd e a
  |some o=>exact(Array.getElem?_eq_some_iff.1 (h.h b o e)).1
theorem ih.comp(h:ih ah nR nP bR oZ)(f:ih bR Ho oZ jU Hq)(i:∀b,Ho b→ah.heap.size≤b∨nR b):ih ah nR nP jU Hq:=by
 have j:=h.size
 refine⟨f.os.trans h.os,f.tape.trans h.tape,f.output.trans h.output,dS j f.size,fun b c e=> ?_,fun b o u c hu=> ?_,h.sub.trans f.sub⟩
 ·rw[f.g6 b (by omega) (fun g=>by rcases i b g with a|a;omega;exact e a)]
  exact h.g6 b c e
 ·rcases f.fN b o u (by omega) hu with a|a
  ·exact h.fN b o u c a
  ·rcases i b a with d|d
   ·omega
   ·exact .inr d
theorem ck.oq(h:ck C S R X a0 cj ah)
 (g:Rel ⟨C.N,ah,R,gC a0 S.boxes.length S.rows,S.boxes.length,a0⟩ S' R' rj Hr bR):ck C S' R' X rj Hr bR:=by
 have f:=h.rel
 have l:∀b,gC a0 S.boxes.length S.rows b→C.w.heap.size≤b∨C.G b:=by
  rintro b (⟨k,d,rfl⟩|⟨r,i,e⟩)
  ·exact f.fO k d
  ·exact f.rowAt r i b e
 have j:∀b,(X.K b≠none∨X.H b≠none)→¬gC a0 S.boxes.length S.rows b:=by
  rintro b a (⟨k,d,e⟩|⟨r,i,e⟩)
  ·exact h.own.box b a k d e
  ·exact h.own.row b a r i e
 have n:=f.cg.size
 have m:∀b,(X.K b≠none∨X.H b≠none)→bR.heap[b]?=ah.heap[b]?:=fun b a=>g.cg.g6 b (h.own.lt a) (j b a)
 refine⟨⟨g.size,g.defers,g.slot,g.lt,g.own,f.cg.comp g.cg l,fun k d=> ?_,fun r i b a=> ?_,Nat.le_trans f.nb g.nb,fun k d=>(g.fP k (Nat.lt_of_lt_of_le d f.nb)).trans (f.fP k d)⟩,⟨fun b ob a=>(m b (.inl (by rw[a];simp))).trans (h.own.k b ob a),fun b ob a=>(m b (.inr (by rw[a];simp))).trans (h.own.h b ob a),h.own.kh,fun b a k d e=> ?_,fun b a r i e=> ?_,fun b a o=> ?_⟩,h.gZ,h.iZ,h.sub⟩
 ·rcases g.fO k d with c|c
  ·exact .inl (dS n c)
  ·exact l _ c
 ·rcases g.rowAt r i b a with c|c
  ·exact .inl (dS n c)
  ·exact l _ c
 ·have:=h.own.lt a
  rcases g.fO k d with c|c
  ·simp only at c;omega
  ·exact j b a (e▸c)
 ·have:=h.own.lt a
  rcases g.rowAt r i b e with c|c
  ·simp only at c;omega
  ·exact j b a c
 ·cases e:R'.cell? ⟨b,o,none⟩ with
  |none=>rfl
  |some u=>
   rcases g.cg.fN b o u (h.own.lt (.inr a)) e with c|c
   ·rw[h.own.b9 b a o] at c;cases c
   ·exact absurd c (j b (.inr a))
theorem ck.here(h:ck C S R X a0 cj ah):Rel ⟨C.N,ah,R,gC a0 S.boxes.length S.rows,S.boxes.length,a0⟩ S R a0 cj ah:=
 ⟨h.rel.size,h.rel.defers,h.rel.slot,h.rel.lt,h.rel.own,⟨rfl,rfl,rfl,a9 _,fun _ _ _=>rfl,fun _ _ _ _ hu=> .inl hu,Sub.refl R⟩,fun k c=> .inr (.inl ⟨k,c,rfl⟩),fun r d b a=> .inr (.inr ⟨r,d,a⟩),a9 _,fun _ _=>rfl⟩
theorem pL(h:∀c:er,c.N=C.N→jA c S R fB cx ty o3)(k:∀S' R',o3 S' R'→Sub R R'→bN C ops Q rest S' R' X):bN C ops Q (⟨fB,cx,ty,pos,af,none⟩::rest) S R X:=by
 intro ad a W b
 obtain⟨m,W',l,i,j,S',R',d,h3,e,f,_⟩:=h ⟨C.N,W,R,gC ad S.boxes.length S.rows,S.boxes.length,ad⟩ rfl ad a W pos af none b.here
 refine wpList_plain rfl fun K g=> ?_
 unfold Oper.wp
 rw[i]
 rcases j with⟨v,rfl,rfl⟩|⟨rfl,rfl⟩
 ·exact g _ _ (k S' R' h3 e d _ W' (b.oq f))
 ·exact g _ _ (k S' R' h3 e d _ W' (b.oq f))
def pM (X:Hx) (W:World):Prop:=(∀b ob,X.K b=some ob→W.heap[b]?=some ob)∧∀b ob,X.H b=some ob→W.heap[b]?=some ob
def gF (S:St) (R:World) (X:Hx) (op:Op) (ty:TypeId) (v:AV):Prop:=
 (∀k o,v= .ptr k o→k<S.boxes.length∨∃t,look S.bW t=some (.ptr k o)∨∃c,look S.bW t=some (.ptr k c))∧
 ∀ad a W dst pos af b,jX S ad a→hC gk S.boxes R ad W→pM X W→(execOp a.eval ⟨dst,op,ty,pos,af,b⟩).run prog W= .ok (.value (v.den ad)) W
theorem gF.of{op:Op}{v:AV}(h:bO gk S R op ty v):gF S R X op ty v:=⟨h.1,fun ad a W dst pos af b d c _=>h.2 ad a W dst pos af b d c⟩
theorem gF.lt{op:Op}{v:AV}{d:Wd}(h:gF S d X op ty v){C:er}{ad:Nat→Nat}{a:Act}{W:Wd}(c:Rel C S R ad a W):∀k o,v= .ptr k o→k<S.boxes.length:=by
 intro k o e
 rcases h.1 k o e with b|⟨t,b|⟨f,b⟩⟩
 ·exact b
 ·exact c.lt t k o b
 ·exact c.lt t k f b
theorem ck.put{ad:Nat→Nat}{a:Act}{W:Wd}(h:ck C S R X ad a W){x:AV}(b:d<C.N)(c:∀k o,x= .ptr k o→k<S.boxes.length):ck C {S with bW:=(d,x)::S.bW} R X ad (a.put (some d) (x.den ad)) W:=
 ⟨h.rel.put b c,⟨h.own.k,h.own.h,h.own.kh,h.own.box,h.own.row,h.own.b9⟩,h.gZ,h.iZ,h.sub⟩
theorem ck.has(h:ck C S R X a0 cj ah):pM X ah:=⟨h.own.k,h.own.h⟩
theorem AD(h:gF S R X cx ty cy)(e:d<C.N)(k:bN C ops Q rest {S with bW:=(d,cy)::S.bW} R X):bN C ops Q (⟨some d,cx,ty,pos,af,none⟩::rest) S R X:=by
 intro ad a W b
 refine wpList_plain rfl fun K c=> ?_
 unfold Oper.wp
 rw[h.2 ad a W _ _ _ _ b.rel.slot (b.rel.nS _) b.has]
 exact c _ _ (k ad _ W (b.put e (h.lt b.rel)))
theorem gF.val{op:Op}{v:Vl}(h:∀ad a W dst pos af b,jX S ad a→hC gk S.boxes R ad W→pM X W→(execOp a.eval ⟨dst,op,ty,pos,af,b⟩).run prog W= .ok (.value v) W):gF S R X op ty (.val v):=
 ⟨fun k o e=>(by cases e),h⟩
def Hx.at (X:Hx) (b:Nat) (ob:Obj):Prop:=X.K b=some ob∨X.H b=some ob
theorem pM.heap{W:Wd}(h:pM X W){b:Nat}{ob:Obj}(a:X.at b ob):W.heap[b]?=some ob:=by
 rcases a with a|a
 ·exact h.1 b ob a
 ·exact h.2 b ob a
theorem pN(h:ah.heap[ae]?=some (.cells aj.toArray ao (0,0)))(hu:aj[aX]?=some az):ah.cell? ⟨ae,aX,none⟩=some az:=by
 simp[World.cell?,h,hu]
theorem bw{x:Operand}{b off:Nat}{cs:LV}{u:Vl}(h:ev S x=some (.val (.pointer (some ⟨b,off,none⟩))))(f:X.at b (.cells cs.toArray ci (0,0)))(d:cr aH false 1)(hu:cs[off]?=some u):gF S R X (.load aH x) ty (.val u):=
 gF.val fun ad a W dst pos af i g j e=>by
   have c:=g.eval h
   simp only[AV.den] at c
   have:=o2 (b:=b) (o:=off) (W:=W) d (pN (e.heap f) hu)
   simp only[execOp,c,Sem.run_bind,this,Result.andThen_ok,Sem.run_pure]
theorem lX{x:Operand}{b off n:Nat}{cs ds:LV}(k:ev S x=some (.val (.pointer (some ⟨b,off,none⟩))))(f:X.at b (.cells cs.toArray ci (0,0)))(d:cr aH true n)(g:(cs.drop off).take n=ds)(h:ds.length=n):gF S R X (.load aH x) ty (.val (.agg ds.toArray)):=
 gF.val fun ad a W dst pos af l i m e=>by
   have c:=i.eval k
   simp only[AV.den] at c
   subst h
   have:=o1 (b:=b) (o:=off) (W:=W) d (fun j u hu=>by
    refine pN (e.heap f) ?_
    rw[←g] at hu
    rw[List.getElem?_take] at hu
    split at hu
    ·rw[List.getElem?_drop] at hu;exact hu
    ·cases hu)
   simp only[execOp,c,Sem.run_bind,this,Result.andThen_ok,Sem.run_pure]
theorem AE{x:Operand}{v:Vl}(d:ev S x=some (.val v))(h:∀W,(Instr.makeInterface aH v).run prog W= .ok (.iface aH v) W):bO Kb S R (.makeInterface aH x) ty (.val (.iface aH v)):=
 bO.of fun ad a W dst pos af e c f=>by
   have b:=c.eval d
   simp only[AV.den] at b
   have:=h W
   simp only[execOp,b]
   rw[Sem.run_bind,this]
   rfl
theorem ck.ko{W W':Wd}(h:ck C S R X a0 cj W){b:Nat}{ot:Obj}(i:X.H b≠none)(f:sA W W' b ot):ck C S R ⟨X.K,aQ X.H b ot⟩ a0 cj W':=by
 have d:=h.rel
 have q:∀k,k<S.boxes.length→a0 k≠b:=h.own.box b (.inr i)
 have s:=h.own.row b (.inr i)
 have j:∀c,aQ X.H b ot c≠none→X.H c≠none:=by
  intro c a
  by_cases e:c=b
  ·exact e▸i
  ·rwa[bh _ _ e] at a
 refine⟨⟨d.size,d.defers,d.slot,d.lt,⟨fun k T cs m=> ?_,d.own.inj,fun r n=>o0 (d.own.row r n) fun c a=>f.other c (fun e=>s r n (e▸a)),d.own.apart,d.own.rows,fun c o u hu=> ?_⟩,⟨f.os.trans d.cg.os,f.tape.trans d.cg.tape,f.output.trans d.cg.output,by rw[f.size];exact d.cg.size,fun c a l=> ?_,d.cg.fN,d.cg.sub⟩,d.fO,d.rowAt,d.nb,d.fP⟩,⟨fun c o a=> ?_,fun c o a=> ?_,fun c a=> ?_,fun c a=>h.own.box c (a.imp id (j c)),fun c a=>h.own.row c (a.imp id (j c)),fun c a=>h.own.b9 c (j c a)⟩,fun c a=>h.gZ c (j c a),h.iZ,h.sub⟩
 ·rw[f.other _ (q k (List.getElem?_eq_some_iff.1 m).1)]
  exact d.own.box k T cs m
 ·obtain⟨g,p,h3⟩:=d.own.b9 c o u hu
  refine⟨?_,p,h3⟩
  unfold World.cell? at g⊢
  rw[f.other c (fun e=> ?_)]
  ·exact g
  ·subst e
   rw[h.own.b9 c i o] at hu
   cases hu
 ·rw[f.other c (fun e=> ?_)]
  ·exact d.cg.g6 c a l
  ·subst e
   rcases h.gZ c i with g|g
   ·omega
   ·exact l g
 ·rw[f.other c (fun e=> ?_)]
  ·exact h.own.k c o a
  ·subst e
   exact i (h.own.kh c (by rw[a];simp))
 ·replace a:aQ X.H b ot c=some o:=a
  by_cases e:c=b
  ·subst e
   rw[b0] at a
   cases a
   exact f.at_
  ·rw[bh _ _ e] at a
   rw[f.other c e]
   exact h.own.h c o a
 ·have g:=h.own.kh c a
  show aQ X.H b ot c=none
  rw[bh _ _ (fun e=>by subst e;exact i g)]
  exact g
theorem wj{b off n:Nat}(f:ah.heap[b]?=some (.cells aj.toArray ci (0,0)))(e:cr aH ca n)(a:az.cells.size=n)(g:off+n≤aj.length)(d:az.cells.toList.all (·.oneCell')=true):
 (Instr.storeAt aH (.pointer (some ⟨b,off,none⟩)) az).run prog ah= .ok () (ah.setRow b (aj.take off++az.cells.toList++aj.drop (off+n)).toArray):=by
 have c:=run_storeCells_at prog b off ci az.cells.toList 0 aj.toArray ah f (by simp only[Array.length_toList,List.size_toArray,Nat.add_zero];omega) (fun u hu=>by
  have:=List.all_eq_true.1 d u hu
  exact this)
 simp only[Instr.storeAt,Instr.sureAddr,storeVar,Sem.run_bind,Sem.run_pure,Result.andThen_ok,sF e,a,ne_eq,not_true_eq_false,if_false]
 simp only[List.toList_toArray,Nat.add_zero,Array.length_toList,a] at c
 exact c
theorem AF{x y:Operand}{b off n:Nat}(o:ev S x=some (.val (.pointer (some ⟨b,off,none⟩))))(p:ev S y=some (.val az))(e:X.H b=some (.cells aj.toArray ci (0,0)))
 (j:cr aH ca n) (l:az.cells.size=n) (m:off+n≤aj.length) (g:az.cells.toList.all (·.oneCell')=true) (k:aj.take off++az.cells.toList++aj.drop (off+n)=bj)
 (q:bN C ops Q rest S R ⟨X.K,aQ X.H b (.cells bj.toArray ci (0,0))⟩):bN C ops Q (⟨none,.store aH x y,ty,pos,af,none⟩::rest) S R X:=by
 intro ad a W c
 have e1:=c.rel.eval o
 have e2:=c.rel.eval p
 simp only[AV.den] at e1 e2
 have d:=c.own.h b _ e
 refine wpList_plain rfl fun K i=> ?_
 unfold Oper.wp
 have f:=wj d j l m g
 have:(execOp a.eval ⟨none,.store aH x y,ty,pos,af,none⟩).run prog W= .ok .skip (W.setRow b bj.toArray):=by
  rw[k] at f
  simp only[execOp,e1,e2,Sem.run_bind,f,Result.andThen_ok,Sem.run_pure]
 rw[this]
 exact i _ _ (q ad a _ (c.ko (by rw[e];simp) (sG d)))
theorem ck.alloc{ad:Nat→Nat}{a:Act}{W:Wd}(h:ck C S R X ad a W)(ob:Obj):X.K W.heap.size=none∧X.H W.heap.size=none∧ck C S R ⟨X.K,aQ X.H W.heap.size ob⟩ ad a (W.alloc ob):=by
 have g:=iG.alloc W ob
 have f:=h.rel
 have m:X.K W.heap.size=none:=by
  cases e:X.K W.heap.size with
  |none=>rfl
  |some o=>have:=h.own.lt (b:=W.heap.size) (.inl (by rw[e];simp));omega
 have n:X.H W.heap.size=none:=by
  cases e:X.H W.heap.size with
  |none=>rfl
  |some o=>have:=h.own.lt (b:=W.heap.size) (.inr (by rw[e];simp));omega
 have i:∀c,aQ X.H W.heap.size ob c≠none→c=W.heap.size∨X.H c≠none:=by
  intro c d
  by_cases e:c=W.heap.size
  ·exact .inl e
  ·rw[bh _ _ e] at d;exact .inr d
 refine⟨m,n,⟨f.size,f.defers,f.slot,f.lt,f.own.k5 g,f.cg.k5 g,f.fO,f.rowAt,f.nb,f.fP⟩,⟨fun c o d=> ?_,fun c o d=> ?_,fun c d=> ?_,fun c d k j e=> ?_,fun c d r l e=> ?_,fun c d o=> ?_⟩,fun c d=> ?_,h.iZ,h.sub⟩
 ·rw[g.fN c (h.own.lt (.inl (by rw[d];simp)))]
  exact h.own.k c o d
 ·replace d:aQ X.H W.heap.size ob c=some o:=d
  by_cases e:c=W.heap.size
  ·subst e
   rw[b0] at d
   cases d
   exact heap_alloc_new W _
  ·rw[bh _ _ e] at d
   rw[g.fN c (h.own.lt (.inr (by rw[d];simp)))]
   exact h.own.h c o d
 ·show aQ X.H W.heap.size ob c=none
  rw[bh _ _ (fun e=>by subst e;exact d m)]
  exact h.own.kh c d
 ·rcases d with d|d
  ·exact h.own.box c (.inl d) k j e
  ·rcases i c d with rfl|d
   ·have:=f.own.ii j
    omega
   ·exact h.own.box c (.inr d) k j e
 ·rcases d with d|d
  ·exact h.own.row c (.inl d) r l e
  ·rcases i c d with rfl|d
   ·have:=iH (f.own.row r l) e
    omega
   ·exact h.own.row c (.inr d) r l e
 ·rcases i c d with rfl|d
  ·cases e:R.cell? ⟨W.heap.size,o,none⟩ with
   |none=>rfl
   |some u=>
    have:=World.block_lt_of_cell? W _ (f.own.b9 _ o u e).1
    simp only at this
    omega
  ·exact h.own.b9 c d o
 ·rcases i c d with rfl|d
  ·exact .inl f.cg.size
  ·exact h.gZ c d
theorem Hs(h:d<C.N)(k:∀b,X.K b=none→X.H b=none→bN C ops Q rest {S with bW:=(d,.val (.map (some b)))::S.bW} R ⟨X.K,aQ X.H b (.map #[] 0)⟩):
 bN C ops Q (⟨some d,.makeMap aH none,ty,pos,af,none⟩::rest) S R X:=by
 intro ad a W i
 obtain⟨c,f,h3⟩:=i.alloc (.map #[] 0)
 refine wpList_plain rfl fun K g=> ?_
 unfold Oper.wp
 have:(execOp a.eval ⟨some d,.makeMap aH none,ty,pos,af,none⟩).run prog W= .ok (.value (.map (some W.heap.size))) (W.alloc (.map #[] 0)):=rfl
 rw[this]
 exact g _ _ (k _ c f ad _ _ (h3.put (x:= .val (.map (some W.heap.size))) h (fun k o e=>by cases e)))
def kL (n b:Nat):List (Nat×AV)→List (Nat×AV)
 |[]=> []
 |(t,.ptr k o)::r=>(t,if k=n then .val (.pointer (some ⟨b,o,none⟩)) else .ptr k o)::kL n b r
 |(t,.val v)::r=>(t,.val v)::kL n b r
theorem tM{n b:Nat}:∀{l:List (Nat×AV)} {t:Nat} {x:AV},look (kL n b l) t=some x→∃y,look l t=some y∧x=match y with| .ptr k o=>if k=n then .val (.pointer (some ⟨b,o,none⟩)) else .ptr k o| .val v=> .val v
 |[],t,x,h=>by cases h
 |(t0,.ptr k o)::r,t,x,h=>by
  simp only[kL,look] at h⊢
  cases a:Nat.beq t0 t with
  |true=>rw[a] at h;simp only[cond_true,Option.some.injEq] at h⊢;exact⟨_,rfl,h.symm⟩
  |false=>rw[a] at h;exact tM (l:=r) h
 |(t0,.val v)::r,t,x,h=>by
  simp only[kL,look] at h⊢
  cases a:Nat.beq t0 t with
  |true=>rw[a] at h;simp only[cond_true,Option.some.injEq] at h⊢;exact⟨_,rfl,h.symm⟩
  |false=>rw[a] at h;exact tM (l:=r) h
theorem ck.tN{rw:List bU}(h:ck C ⟨bu,aS++ [(aH,aj)],rw⟩ R X a0 cj ah)(F:C.nb≤aS.length):
 X.K (a0 aS.length)=none∧X.H (a0 aS.length)=none∧ck C ⟨kL aS.length (a0 aS.length) bu,aS,rw⟩ R ⟨X.K,aQ X.H (a0 aS.length) (.cells aj.toArray aH (0,0))⟩ a0 cj ah:=by
 have b:=h.rel
 have g:aS.length<(aS++ [(aH,aj)]).length:=by simp
 have f:∀k,k<aS.length→k<(aS++ [(aH,aj)]).length:=fun k d=>by simp;omega
 have q:X.K (a0 aS.length)=none:=by
  cases e:X.K (a0 aS.length) with
  |none=>rfl
  |some o=>exact absurd rfl (h.own.box _ (.inl (by rw[e];simp)) aS.length g)
 have G:X.H (a0 aS.length)=none:=by
  cases e:X.H (a0 aS.length) with
  |none=>rfl
  |some o=>exact absurd rfl (h.own.box _ (.inr (by rw[e];simp)) aS.length g)
 have m:∀c,aQ X.H (a0 aS.length) (.cells aj.toArray aH (0,0)) c≠none→c=a0 aS.length∨X.H c≠none:=by
  intro c a
  by_cases e:c=a0 aS.length
  ·exact .inl e
  ·rw[bh _ _ e] at a;exact .inr a
 refine⟨q,G,⟨b.size,b.defers,fun t x n=> ?_,fun t k o n=> ?_,⟨fun k s w d=> ?_,fun i j B D=>b.own.inj i j (f i B) (f j D),b.own.row,fun r l k d=>b.own.apart r l k (f k d),b.own.rows,fun c o u hu=> ?_⟩,b.cg,fun k d=>b.fO k (f k d),b.rowAt,F,b.fP⟩,⟨h.own.k,fun c o a=> ?_,fun c a=> ?_,fun c a k d e=> ?_,fun c a r l e=> ?_,fun c a o=> ?_⟩,fun c a=> ?_,h.iZ,h.sub⟩
 ·obtain⟨y,p,rfl⟩:=tM n
  rw[b.slot t y p]
  cases y with
  |val v=>rfl
  |ptr k o=>
   simp only
   split
   ·rename_i e
    subst e
    rfl
   ·rfl
 ·obtain⟨y,p,e⟩:=tM n
  cases y with
  |val v=>cases e
  |ptr L M=>
   simp only at e
   split at e
   ·cases e
   ·rename_i J
    cases e
    have A:=b.lt t k o p
    simp only[List.length_append,List.length_singleton] at A
    show k<aS.length
    omega
 ·have E:=(List.getElem?_eq_some_iff.1 d).1
  exact b.own.box k s w (by rw[List.getElem?_append_left E];exact d)
 ·obtain⟨g1,g2,z⟩:=b.own.b9 c o u hu
  exact⟨g1,fun k d=>g2 k (f k d),z⟩
 ·replace a:aQ X.H (a0 aS.length) (.cells aj.toArray aH (0,0)) c=some o:=a
  by_cases e:c=a0 aS.length
  ·subst e
   rw[b0] at a
   cases a
   exact b.own.box aS.length aH aj (by simp)
  ·rw[bh _ _ e] at a
   exact h.own.h c o a
 ·show aQ X.H (a0 aS.length) (.cells aj.toArray aH (0,0)) c=none
  rw[bh _ _ (fun e=>by subst e;exact a q)]
  exact h.own.kh c a
 ·rcases a with a|a
  ·exact h.own.box c (.inl a) k (f k d) e
  ·rcases m c a with rfl|a
   ·have:=b.own.inj k aS.length (f k d) g e
    have I:k<aS.length:=d
    omega
   ·exact h.own.box c (.inr a) k (f k d) e
 ·rcases a with a|a
  ·exact h.own.row c (.inl a) r l e
  ·rcases m c a with rfl|a
   ·exact b.own.apart r l aS.length g e
   ·exact h.own.row c (.inr a) r l e
 ·rcases m c a with rfl|a
  ·cases e:R.cell? ⟨a0 aS.length,o,none⟩ with
   |none=>rfl
   |some u=>exact absurd rfl ((b.own.b9 _ o u e).2.1 aS.length g)
  ·exact h.own.b9 c a o
 ·rcases m c a with rfl|a
  ·exact b.fO aS.length g
  ·exact h.gZ c a
theorem Ht{c:Code}{rw:List bU}(f:C.nb≤aS.length)(k:∀b,X.K b=none→X.H b=none→VX C c Q ⟨kL aS.length b bu,aS,rw⟩ R ⟨X.K,aQ X.H b (.cells aj.toArray aH (0,0))⟩):VX C c Q ⟨bu,aS++ [(aH,aj)],rw⟩ R X:=by
 intro ad a W h
 obtain⟨d,e,h3⟩:=h.tN f
 exact k _ d e ad a W h3
theorem Hu{rw:List bU}(e:C.nb≤aS.length)(k:∀b,X.K b=none→X.H b=none→bN C ops Q gb ⟨kL aS.length b bu,aS,rw⟩ R ⟨X.K,aQ X.H b (.cells aj.toArray aH (0,0))⟩):bN C ops Q gb ⟨bu,aS++ [(aH,aj)],rw⟩ R X:=by
 intro ad a W h
 obtain⟨c,d,h3⟩:=h.tN e
 exact k _ c d ad a W h3
theorem ck.freeze(h:ck C S R X a0 cj ah)(d:X.H ae=some fH):ck C S R ⟨aQ X.K ae fH,gy X.H ae⟩ a0 cj ah:=by
 have g:∀c,aQ X.K ae fH c≠none→X.K c≠none∨X.H c≠none:=by
  intro c a
  by_cases e:c=ae
  ·exact .inr (by rw[e,d];simp)
  ·rw[bh _ _ e] at a;exact .inl a
 have hh:∀c,gy X.H ae c≠none→c≠ae∧X.H c≠none:=by
  intro c a
  by_cases e:c=ae
  ·rw[e] at a;exact absurd (if_pos rfl) a
  ·rw[oo _ e] at a;exact⟨e,a⟩
 have f:∀c,(aQ X.K ae fH c≠none∨gy X.H ae c≠none)→X.K c≠none∨X.H c≠none:=fun c a=>a.elim (g c) (fun h=> .inr (hh c h).2)
 refine⟨h.rel,⟨fun c o a=> ?_,fun c o a=> ?_,fun c a=> ?_,fun c a=>h.own.box c (f c a),fun c a=>h.own.row c (f c a),fun c a=>h.own.b9 c (hh c a).2⟩,fun c a=>h.gZ c (hh c a).2,fun c o a i=> ?_,fun c o a=> ?_⟩
 ·replace a:aQ X.K ae fH c=some o:=a
  by_cases e:c=ae
  ·subst e
   rw[b0] at a
   cases a
   exact h.own.h c _ d
  ·rw[bh _ _ e] at a
   exact h.own.k c o a
 ·replace a:gy X.H ae c=some o:=a
  have e:c≠ae:=fun e=>by rw[e] at a;unfold gy at a;rw[if_pos rfl] at a;cases a
  rw[oo _ e] at a
  exact h.own.h c o a
 ·show gy X.H ae c=none
  replace a:aQ X.K ae fH c≠none:=a
  by_cases e:c=ae
  ·subst e;exact if_pos rfl
  ·rw[bh _ _ e] at a
   rw[oo _ e]
   exact h.own.kh c a
 ·replace a:aQ X.K ae fH c=some o:=a
  by_cases e:c=ae
  ·subst e
   rcases h.gZ c (by rw[d];simp) with b|b
   ·omega
   ·exact .inr b
  ·rw[bh _ _ e] at a
   exact h.iZ c o a i
 ·have b:=h.sub c o a
  show aQ X.K ae fH c=some o
  rw[bh _ _ (fun e=>by
   subst e
   have:=h.own.kh c (by rw[b];simp)
   rw[d] at this
   cases this)]
  exact b
variable{b1 ff:Hp}
theorem ck.called{ts L rs:List bU}(h:ck C S R X a0 cj ah)(V:S.rows=ts++rs)(P:X.H=dH b1 ff)(ai:∀b,b1 b≠none→ff b=none)
 (f:ih ah (GX b1 ts) R bR R') (o:Own [] L R' (fun _=>0) bR) (z:j9 ⟨[],[],L⟩ R' X' (fun _=>0) bR) (J:∀r∈L,∀b,r.v.ownBlock=some b→ah.heap.size≤b∨GX b1 ts b)
 (O:∀b,X'.H b≠none→ah.heap.size≤b∨GX b1 ts b) (W:∀b ob,X'.K b=some ob→b<ah.heap.size→X.K b=some ob∨GX b1 ts b) (ak:∀b ob,X.K b=some ob→X'.K b=some ob):
 (∀b,X'.H b≠none→ff b=none)∧ck C {S with rows:=L++rs} R' ⟨X'.K,dH X'.H ff⟩ a0 cj bR:=by
 have l:=h.rel
 have q:=l.own
 rw[V] at q
 have ac:=List.pairwise_append.1 q.rows
 have aa:∀r∈ts,r∈S.rows:=fun r d=>V▸lz _ d
 have U:∀r∈rs,r∈S.rows:=fun r d=>V▸jZ _ d
 have M:∀b,b1 b≠none→X.H b≠none:=fun b i=>by
  rw[P];unfold dH
  cases e:b1 b with
  |none=>exact absurd e i
  |some x=>simp
 have t:∀b,ff b≠none→X.H b≠none:=fun b i=>by
  rw[P];unfold dH
  cases e:b1 b with
  |none=>exact i
  |some x=>simp
 have B:∀b,ff b≠none→b<ah.heap.size:=fun b i=>h.own.lt (.inr (t b i))
 have Z:∀b,ff b≠none→b1 b=none:=fun b i=>by
  cases e:b1 b with
  |none=>rfl
  |some x=>exact absurd (ai b (by rw[e];simp)) i
 have E:∀k,k<S.boxes.length→¬GX b1 ts (a0 k):=by
  rintro k m (a|⟨r,d,e⟩)
  ·exact h.own.box _ (.inr (M _ a)) k m rfl
  ·exact q.apart r (lz _ d) k m e
 have I:∀s∈rs,∀b,s.v.ownBlock=some b→¬GX b1 ts b:=by
  rintro s D b i (a|⟨r,d,e⟩)
  ·exact h.own.row b (.inr (M b a)) s (U s D) i
  ·exact ac.2.2 r d s D b e i
 have A:∀b,ff b≠none→¬GX b1 ts b:=by
  rintro b i (a|⟨r,d,e⟩)
  ·exact a (Z b i)
  ·exact h.own.row b (.inr (t b i)) r (aa r d) e
 have F:∀b,GX b1 ts b→C.w.heap.size≤b∨C.G b:=by
  rintro b (a|⟨r,d,e⟩)
  ·exact h.gZ b (M b a)
  ·exact l.rowAt r (aa r d) b e
 have ag:∀b,X'.H b≠none→ff b=none:=fun b i=>by
  cases e:ff b with
  |none=>rfl
  |some x=>
   have p:ff b≠none:=by rw[e];simp
   have a:=B b p
   rcases O b i with j|j
   ·omega
   ·exact absurd j (A b p)
 have af:=l.cg.size
 have Y:∀b,b<ah.heap.size→(X'.K b≠none∨dH X'.H ff b≠none)→(X.K b≠none∨X.H b≠none)∨GX b1 ts b:=by
  rintro b i (a|a)
  ·cases e:X'.K b with
   |none=>exact absurd e a
   |some x=>
    rcases W b x e i with j|j
    ·exact .inl (.inl (by rw[j];simp))
    ·exact .inr j
  ·unfold dH at a
   cases e:X'.H b with
   |none=>rw[e] at a;exact .inl (.inr (t b a))
   |some x=>
    rcases O b (by rw[e];simp) with j|j
    ·omega
    ·exact .inr j
 refine⟨ag,⟨l.size,l.defers,l.slot,l.lt,⟨fun k T cs m=> ?_,l.own.inj,fun r d=> ?_,fun r d k m e=> ?_,?_,fun c n u hu=>⟨(o.b9 c n u hu).1,fun k m e=> ?_,fun r d e=> ?_⟩⟩,l.cg.comp f F,l.fO,fun r d b i=> ?_,l.nb,l.fP⟩,⟨z.k,fun c ob g=> ?_,fun c g=> ?_,fun c g k m e=> ?_,fun c g r d e=> ?_,fun c g n=> ?_⟩,fun c g=> ?_,fun c ob g aj=> ?_,fun c ob g=>ak c ob (h.sub c ob g)⟩
 ·have ab:=(List.getElem?_eq_some_iff.1 m).1
  rw[f.g6 _ (l.own.ii ab) (E k ab)]
  exact l.own.box k T cs m
 ·rcases fM.1 d with d|d
  ·exact o.row r d
  ·have ad:=q.row r (jZ _ d)
   exact o0 ad fun b i=>f.g6 b (iH ad i) (I r d b i)
 ·have al:=l.own.ii m
  rcases fM.1 d with d|d
  ·rcases J r d _ e with a|a
   ·omega
   ·exact E k m a
  ·exact q.apart r (jZ _ d) k m e
 ·refine List.pairwise_append.2 ⟨o.rows,ac.2.1,fun r d s D b i ae=> ?_⟩
  rcases J r d b i with a|a
  ·have:=iH (q.row s (jZ _ D)) ae
   omega
  ·exact I s D b ae a
 ·have Q:=l.own.ii m
  subst e
  rcases f.fN _ n u Q hu with a|a
  ·exact(l.own.b9 _ n u a).2.1 k m rfl
  ·exact E k m a
 ·rcases fM.1 d with d|d
  ·exact(o.b9 c n u hu).2.2 r d e
  ·rcases f.fN c n u (iH (q.row r (jZ _ d)) e) hu with N|N
   ·exact(q.b9 c n u N).2.2 r (jZ _ d) e
   ·exact absurd N (I r d c e)
 ·rcases fM.1 d with d|d
  ·rcases J r d b i with a|a
   ·exact .inl (dS af a)
   ·exact F b a
  ·exact l.rowAt r (U r d) b i
 ·replace g:dH X'.H ff c=some ob:=g
  unfold dH at g
  cases e:X'.H c with
  |some x=>rw[e] at g;cases g;exact z.h c _ e
  |none=>
   rw[e] at g
   have p:ff c≠none:=by rw[show ff c=some ob from g];simp
   rw[f.g6 c (B c p) (A c p)]
   exact h.own.h c ob (by rw[P];unfold dH;rw[Z c p];exact g)
 ·show dH X'.H ff c=none
  unfold dH
  rw[z.kh c g]
  show ff c=none
  cases e:ff c with
  |none=>rfl
  |some x=>
   have p:ff c≠none:=by rw[e];simp
   cases e2:X'.K c with
   |none=>exact absurd e2 g
   |some y=>
    rcases W c y e2 (B c p) with j|j
    ·exact absurd (h.own.kh c (by rw[j];simp)) (t c p)
    ·exact absurd j (A c p)
 ·have Q:=l.own.ii m
  rcases Y c (e▸Q) g with a|a
  ·exact h.own.box c a k m e
  ·exact E k m (e▸a)
 ·rcases fM.1 d with d|d
  ·rcases g with g|g
   ·exact z.row c (.inl g) r d e
   ·replace g:dH X'.H ff c≠none:=g
    unfold dH at g
    cases e2:X'.H c with
    |some x=>exact z.row c (.inr (by rw[e2];simp)) r d e
    |none=>
     rw[e2] at g
     have a:=B c g
     rcases J r d c e with j|j
     ·omega
     ·exact A c g j
  ·rcases Y c (iH (q.row r (jZ _ d)) e) g with a|a
   ·exact h.own.row c a r (U r d) e
   ·exact I r d c e a
 ·replace g:dH X'.H ff c≠none:=g
  unfold dH at g
  cases e:X'.H c with
  |some x=>exact z.b9 c (by rw[e];simp) n
  |none=>
   rw[e] at g
   cases e2:R'.cell? ⟨c,n,none⟩ with
   |none=>rfl
   |some u=>
    rcases f.fN c n u (B c g) e2 with a|a
    ·rw[h.own.b9 c (t c g) n] at a;cases a
    ·exact absurd a (A c g)
 ·replace g:dH X'.H ff c≠none:=g
  unfold dH at g
  cases e:X'.H c with
  |some x=>
   rcases O c (by rw[e];simp) with a|a
   ·exact .inl (dS af a)
   ·exact F c a
  |none=>rw[e] at g;exact h.gZ c (t c g)
 ·rcases W c ob g (by omega) with a|a
  ·exact h.iZ c ob a aj
  ·rcases F c a with j|j
   ·omega
   ·exact .inr j
theorem ck.args(h:ck C S R X a0 cj ah)(a:fb S c8 (aj.map .val)):c8.map cj.eval=aj.toArray:=by
 rw[a.eval h.rel.slot,List.map_map]
 congr 1
 exact List.map_id'' (fun _=>rfl) aj
theorem j9.part(h:j9 S R X a0 ah)(i:S.rows=aV++o5)(d:X.H=dH b1 ff):j9 ⟨[],[],aV⟩ R ⟨X.K,b1⟩ (fun _=>0) ah:=by
 have c:∀b,b1 b≠none→X.H b≠none:=fun b a=>by
  rw[d];unfold dH
  cases e:b1 b with
  |none=>exact absurd e a
  |some x=>simp
 refine⟨h.k,fun b ob a=>h.h b ob (by rw[d];unfold dH;rw[show b1 b=some ob from a]),fun b a=> ?_,fun b _ k f=>(by cases f),fun b a r g=>h.row b (a.imp id (c b)) r (i▸List.mem_append_left _ g),fun b a=>h.b9 b (c b a)⟩
 show b1 b=none
 cases e:b1 b with
 |none=>rfl
 |some x=>exact absurd (h.kh b a) (c b (by rw[e];simp))
theorem Own.AG(h:Own aS (aV++o5) R a0 ah):Own [] aV R (fun _=>0) ah:=
 ⟨fun k T cs a=>(by cases a),fun i j d=>(by cases d),fun r c=>h.row r (lz _ c),fun r c k a=>(by cases a),(List.pairwise_append.1 h.rows).1,fun b o u hu=>⟨(h.b9 b o u hu).1,fun k a=>(by cases a),fun r c=>(h.b9 b o u hu).2.2 r (lz _ c)⟩⟩
variable{dZ:ka}
theorem rk(Hc Hf:Hp)(ts rs:List bU)(t:cJ bk aj ts R ⟨X.K,Hc⟩ dZ)(d:S.rows=ts++rs)(i:X.H=dH Hc Hf)(q:∀b,Hc b≠none→Hf b=none)(c:ck C S R X a0 cj ah):
 Calls prog bk aj.toArray ah fun E W'=>∃a R' X',E≠ .outgrown∧Sub R R'∧(∀b ob,X.K b=some ob→X'.K b=some ob)∧(∀b,X'.H b≠none→Hf b=none)∧dZ E a R' X'∧(∀b ob,Hf b=some ob→W'.heap[b]?=some ob)∧ck C {S with rows:=a++rs} R' ⟨X'.K,dH X'.H Hf⟩ a0 cj W':=by
 have g:=c.rel.own
 rw[d] at g
 refine(t ah g.AG (c.own.part d i)).mono ?_
 rintro E W' ⟨a,R',X',o,l,p,r,u,n,v,m,s⟩
 obtain⟨k,f⟩:=c.called d i q l p r u n v m
 refine⟨a,R',X',o,l.sub,m,k,s,fun b ob j=> ?_,f⟩
 refine f.own.h b ob ?_
 show dH X'.H Hf b=some ob
 unfold dH
 cases e:X'.H b with
 |none=>exact j
 |some x=>
  have:=k b (by rw[e];simp)
  rw[j] at this
  cases this
theorem Hv(Hc Hf:Hp)(ts rs:List bU)(t:cJ bk aj ts R ⟨X.K,Hc⟩ dZ)(m:aF bk)(u:fb S c8 (aj.map .val))(s:S.rows=ts++rs)(p:X.H=dH Hc Hf)(r:∀b,Hc b≠none→Hf b=none)(q:d<C.N)
 (k:∀v c R' X',Sub R R'→(∀b ob,X.K b=some ob→X'.K b=some ob)→(∀b,X'.H b≠none→Hf b=none)→dZ (.returned v) c R' X'→bN C ops Q rest {S with bW:=(d,.val v)::S.bW,rows:=c++rs} R' ⟨X'.K,dH X'.H Hf⟩)
 (w:∀ch c R' X',Sub R R'→(∀b ob,X.K b=some ob→X'.K b=some ob)→(∀b,X'.H b≠none→Hf b=none)→dZ (.panicked ch) c R' X'→DX C Q (.panic ch) {S with rows:=c++rs} R' ⟨X'.K,dH X'.H Hf⟩):
 bN C ops Q (⟨some d,.call {callee:= .value (.func bk),args:=c8,argTypes:=fi},ty,pos,af,none⟩::rest) S R X:=by
 intro ad a W j
 refine wpList_plain rfl fun K n=> ?_
 unfold Oper.wp
 have e1:(execOp a.eval ⟨some d,.call {callee:= .value (.func bk),args:=c8,argTypes:=fi},ty,pos,af,none⟩).run prog W= .ok (.enter bk aj.toArray) W:=by
  rw[k7,j.args u,j0 m]
 rw[e1,Oper.upon_enter]
 refine(rk Hc Hf ts rs t s p r j).mono ?_
 rintro E W' ⟨c,R',X',l,f,g,h3,h,-,i⟩
 cases E with
 |returned v=>exact n _ _ (k v c R' X' f g h3 h ad _ W' (i.put (x:= .val v) q (fun k o e=>by cases e)))
 |panicked ch=>exact w ch c R' X' f g h3 h ad a W' i
 |outgrown=>exact absurd rfl l
theorem cJ.wk(h:bd bk aj R hF):cJ bk aj [] R X fun E m R' X'=>∃v,E= .returned v∧m=[]∧X'=X∧hF v R':=by
 intro w p f
 have hh:=h w (fun _=>0) p
 have e1:((aj.map AV.val).map (AV.den fun _=>0)).toArray=aj.toArray:=by
  rw[List.map_map]
  congr 1
  exact List.map_id'' (fun _=>rfl) aj
 rw[e1] at hh
 refine hh.mono ?_
 rintro E W ⟨v,n,m,R',rfl,d,q,t,z,y,x⟩
 subst y
 have i:∀b,¬gC (fun _=>0) ([]:List Bx).length [] b:=by
  rintro b (⟨k,j,_⟩|⟨r,g,_⟩)
  ·exact absurd j (Nat.not_lt_zero _)
  ·cases g
 have l:∀b,b<w.heap.size→W.heap[b]?=w.heap[b]?:=fun b a=>d.g6 b a (i b)
 have s:n=[]:=List.eq_nil_of_length_eq_zero (by simpa using t)
 subst s
 refine⟨[],R',X,by simp,⟨d.os,d.tape,d.output,d.size,fun b a _=>l b a,fun b o u a hu=> ?_,d.sub⟩,q,⟨fun b ob a=>(l b (f.lt (.inl (by rw[a];simp)))).trans (f.k b ob a),fun b ob a=>(l b (f.lt (.inr (by rw[a];simp)))).trans (f.h b ob a),f.kh,fun b _ k j=>(by cases j),fun b _ r g=>(by cases g),fun b a o=> ?_⟩,fun r g=>(by cases g),fun b a=> .inr (.inl a),fun b ob a _=> .inl a,fun b ob a=>a,v,rfl,rfl,rfl,x⟩
 ·rcases d.fN b o u a hu with c|c
  ·exact .inl c
  ·exact absurd c (i b)
 ·cases e:R'.cell? ⟨b,o,none⟩ with
  |none=>rfl
  |some u=>
   rcases d.fN b o u (f.lt (.inr a)) e with c|c
   ·rw[f.b9 b a o] at c;cases c
   ·exact absurd c (i b)
theorem ou(a:ck C S R X a0 cj ah)(f:rm≠ .outgrown)(e:aV.Sublist S.rows)(m:dZ rm aV R X):hU C dZ rm ah:=
 ⟨aV,R,X,f,a.rel.cg,⟨fun k T cs c=>(by cases c),fun i j l=>(by cases l),fun r d=>a.rel.own.row r (e.subset d),fun r a k c=>(by cases c),a.rel.own.rows.sublist e,fun b o u hu=>⟨(a.rel.own.b9 b o u hu).1,fun k c=>(by cases c),fun r d=>(a.rel.own.b9 b o u hu).2.2 r (e.subset d)⟩⟩,⟨a.own.k,a.own.h,a.own.kh,fun b _ k c=>(by cases c),fun b g r d=>a.own.row b g r (e.subset d),a.own.b9⟩,fun r d=>a.rel.rowAt r (e.subset d),a.gZ,a.iZ,a.sub,m⟩
theorem Hw(c:dx.results=#[])(e:aV.Sublist S.rows)(d:dZ (.returned (.tuple #[])) aV R X):DX C (bodyPost prog dx (hU C dZ)) .ret S R X:=
 fun ad a W b=>⟨b.rel.defers,_,by rw[kt,c];simp,ou b (by simp) e d⟩
theorem jG(d:dx.results=#[k8])(c:ei S k8 az)(f:aV.Sublist S.rows)(e:dZ (.returned az) aV R X):DX C (bodyPost prog dx (hU C dZ)) .ret S R X:=
 fun ad a W b=>⟨b.rel.defers,_,by rw[kt,d];simp[c.run b.rel],ou b (by simp) f e⟩
theorem wl(h:DX C (bodyPost prog dx lG) .ret S R X):DX C (bodyPost prog dx lG) .normal S R X:=h
theorem AH(d:aV.Sublist S.rows)(c:dZ (.panicked ov) aV R X):DX C (bodyPost prog dx (hU C dZ)) (.panic ov) S R X:=
 fun ad a W b=>⟨b.rel.defers,ou b (by simp) d c⟩
theorem eh{c:Code}(m:prog.funcs[bk]?=some dx)(d:dx.body=some c)(p:dx.ntmps=ae)(j:Nat.ble aj.length ae=true)
 (h:∀(w:Wd) (G:Nat→Prop) (ad:Nat→Nat),VX ⟨⟨ae,w,R,G,0,ad⟩,X.K⟩ c (bodyPost prog dx (hU ⟨⟨ae,w,R,G,0,ad⟩,X.K⟩ dZ)) ⟨ik (aj.map .val) 0,[],aV⟩ R X):cJ bk aj aV R X dZ:=by
 intro w l g
 have hh:=h w (GX X.H aV) (fun _=>0)
 have hlen:=hP j
 refine calls_of_wp m d (R:=hU ⟨⟨ae,w,R,GX X.H aV,0,fun _=>0⟩,X.K⟩ dZ) (hh (fun _=>0) _ w ?_)
 refine⟨⟨?_,rfl,fun t x i=> ?_,fun t k o i=> ?_,l,⟨rfl,rfl,rfl,a9 _,fun _ _ _=>rfl,fun _ _ _ _ hu=> .inl hu,Sub.refl R⟩,fun k f=>(by cases f),fun r q b d=> .inr (.inr ⟨r,q,d⟩),a9 _,fun _ f=>(by cases f)⟩,⟨g.k,g.h,g.kh,fun b _ k f=>(by cases f),g.row,g.b9⟩,fun b d=> .inr (.inl d),fun b ob d _=> .inl d,fun b ob d=>d⟩
 ·simp only[Array.size_append,List.size_toArray,Array.size_replicate,p];omega
 ·obtain⟨-,a⟩:=nV _ 0 t x i
  simp only[Nat.sub_zero,List.getElem?_map] at a
  cases e:aj[t]? with
  |none=>rw[e] at a;cases a
  |some u=>
   rw[e] at a
   simp only[Option.map_some,Option.some.injEq] at a
   subst a
   have n:=(List.getElem?_eq_some_iff.1 e).1
   rw[Array.getElem?_append_left (by simpa using n)]
   simp[e,AV.den]
 ·obtain⟨-,a⟩:=nV _ 0 t _ i
  simp only[Nat.sub_zero,List.getElem?_map] at a
  cases e:aj[t]? with
  |none=>rw[e] at a;cases a
  |some u=>rw[e] at a;cases a
theorem kM{x y:Code}(h:VX C x (Exit.then (fun a w=>y.wp prog Q a w) Q) S R X):VX C (.seq x y) Q S R X:=fun ad a W b=>wp_seq (h ad a W b)
theorem AI(h:DX C Q .normal S R X):VX C .skip Q S R X:=fun ad a W b=>wp_skip (h ad a W b)
theorem AJ(h:DX C Q .ret S R X):VX C .ret Q S R X:=fun ad a W b=>wp_ret (h ad a W b)
theorem AK(h:DX C Q (.exit ae) S R X):VX C (.exit ae) Q S R X:=fun ad a W b=>wp_exit (h ad a W b)
theorem wm{c:Code}(h:VX C c (Exit.inBlock ae Q) S R X):VX C (.block ae c) Q S R X:=fun ad a W b=>wp_block (h ad a W b)
theorem AL{c:Operand}{x y:Code}(d:ev S c=some (.val (.bool true)))(e:VX C x Q S R X):VX C (.cond c x y) Q S R X:=fun ad a W b=>wp_cond_true (b.rel.eval d) (e ad a W b)
theorem AM{c:Operand}{x y:Code}(d:ev S c=some (.val (.bool false)))(e:VX C y Q S R X):VX C (.cond c x y) Q S R X:=fun ad a W b=>wp_cond_false (b.rel.eval d) (e ad a W b)
theorem ld{l:List Oper}(h:bN C l.toArray Q l S R X):VX C (.region ae l.toArray false) Q S R X:=fun ad a W b=>wp_region_lit (h ad a W b)
theorem lf(h:VX C gl Q S R X):DX C (Exit.then (fun a w=>gl.wp prog Q a w) Q) .normal S R X:=h
theorem AN(h:DX C Q (.exit ae) S R X):DX C (Exit.then nM Q) (.exit ae) S R X:=h
theorem AO(h:DX C Q .normal S R X):DX C (Exit.inBlock ae Q) .normal S R X:=h
theorem AP(h:DX C Q .normal S R X):DX C (Exit.inBlock ae Q) (.exit ae) S R X:=fun ad a W b=>by simpa[Exit.inBlock] using h ad a W b
theorem Hy(b:Nat.beq ao ae=false)(h:DX C Q (.exit ao) S R X):DX C (Exit.inBlock ae Q) (.exit ao) S R X:=fun ad a W c=>by
 have:ao≠ae:=by rintro rfl;simp at b
 simpa[Exit.inBlock,this] using h ad a W c
theorem Hz(h:DX C Q .normal S R X):bN C ops Q [] S R X:=fun ad a W b=>h ad a W b
theorem HA{x:Operand}{v:Vl}(d:ev S x=some (.val (.iface aH v)))(h:DX C Q (.panic [{v:= .iface aH v,recovered:=false}]) S R X):bN C ops Q (⟨fB,.panic x,ty,pos,af,none⟩::rest) S R X:=by
 intro ad a W c
 refine wpList_plain rfl fun K e=> ?_
 unfold Oper.wp
 have b:=c.rel.eval d
 simp only[AV.den] at b
 have:(execOp a.eval ⟨fB,.panic x,ty,pos,af,none⟩).run prog W= .halt (.panic (.iface aH v)) W:=by
  simp only[execOp,b]
  rfl
 rw[this]
 exact h ad a W c
theorem ck.mV{ad:Nat→Nat}{a:Act}{W:Wd}(h:ck C S R X ad a W)(e:ks S.bW S'.bW)(d:S'.boxes=S.boxes.take S'.boxes.length)(h3:S'.rows.Sublist S.rows)(f:ij S'.boxes.length S'.bW=true)(g:C.nb≤S'.boxes.length):ck C S' R X ad a W:=by
 refine⟨h.rel.mV e d h3 f g,⟨h.own.k,h.own.h,h.own.kh,fun b c k j=>h.own.box b c k ?_,fun b c r i=>h.own.row b c r (h3.subset i),h.own.b9⟩,h.gZ,h.iZ,h.sub⟩
 have:=congrArg List.length d
 rw[List.length_take] at this
 omega
def wo {ι:Type} (C:eF) (J:ι→St) (RR:ι→World) (XX:ι→Hx) (H:ι→Prop) (μ:ι→Nat) (n:Nat) (a:Act) (W:World):Prop:=∃i,H i∧μ i<n∧∃ad,ck C (J i) (RR i) (XX i) ad a W
theorem AQ{ι:Type}{body:Code}(J:ι→St)(RR:ι→Wd)(XX:ι→Hx)(H:ι→Prop)(μ:ι→Nat)(i0:ι)(f:H i0)(m:RR i0=R)(o:XX i0=X)
 (g:ks S.bW (J i0).bW) (h:(J i0).boxes=S.boxes.take (J i0).boxes.length) (h3:(J i0).rows.Sublist S.rows) (k:ij (J i0).boxes.length (J i0).bW=true) (l:C.nb≤(J i0).boxes.length)
 (round:∀i,H i→VX C body (Exit.then (fun a W=>wo C J RR XX H μ (μ i) a W) Q) (J i) (RR i) (XX i)):VX C (.loop body) Q S R X:=by
 intro ad a W b
 refine wp_loop_ghost (fun n a W=>∃i,H i∧μ i=n∧∃ad,ck C (J i) (RR i) (XX i) ad a W) (μ i0) ⟨i0,f,rfl,ad,?_⟩ ?_
 ·rw[m,o];exact b.mV g h h3 k l
 ·rintro n a W ⟨i,p,rfl,ad,b⟩
  refine wp_mono (round i p ad a W b) ?_
  intro e t u c
  cases e with
  |normal=>
   obtain⟨j,q,r,d,s⟩:=c
   exact⟨μ j,r,j,q,rfl,d,s⟩
  |_=>exact c
theorem wq{J:cW→St}{RR:cW→Wd}{XX:cW→Hx}{H:cW→Prop}{μ:cW→Nat}{n:Nat}(i:cW)(h:H i)(j:μ i<n)(f:RR i=R)(g:XX i=X)
 (b:ks S.bW (J i).bW) (c:(J i).boxes=S.boxes.take (J i).boxes.length) (h3:(J i).rows.Sublist S.rows) (d:ij (J i).boxes.length (J i).bW=true) (e:C.nb≤(J i).boxes.length):
 DX C (Exit.then (fun a W=>wo C J RR XX H μ n a W) Q) .normal S R X:=fun ad a W k=>⟨i,h,j,ad,by rw[f,g];exact k.mV b c h3 d e⟩
end
structure iw {κ:Type} (en:κ→Value) (es:Array MapEntry) (f:κ→Option Value):Prop where
 nodup:(es.toList.map (·.key)).Nodup
 get:∀e∈es.toList,∃k,e.key=en k∧f k=some e.val
 rn:∀k v,f k=some v→∃e∈es.toList,e.key=en k
theorem iw.nil{c:Type}{a:c→Vl}:iw a #[] (fun _=>none):=⟨by simp,fun e b=>(by simp at b),fun k v h=>(by cases h)⟩
def gd {a:Type} [DecidableEq a] (f:a→Option Value) (k:a) (v:Value):a→Option Value:=fun b=>if b=k then some v else f b
theorem iw.at{c:cW→Vl}(i:∀a b,c a=c b→a=b){f:cW→Option Vl}(h:iw c dw f)(g:wu∈dw.toList){k:cW}(j:wu.key=c k):f k=some wu.val:=by
 obtain⟨l,d,e⟩:=h.get wu g
 rw[i k l (j.symm.trans d)]
 exact e
theorem iw.push{j:Type} [DecidableEq j]{d:j→Vl}(s:∀a b,d a=d b→a=b){es:Array MapEntry}{f:j→Option Vl}(h:iw d es f){k:j}{v:Vl}{born:Nat}(t:f k=none):iw d (es.push {key:=d k,val:=v,born:=born}) (gd f k v):=by
 have n:∀e∈es.toList,e.key≠d k:=fun e c r=>by
  have:=h.at s c r
  rw[t] at this
  cases this
 refine⟨?_,fun e c=> ?_,fun i u l=> ?_⟩
 ·rw[Array.toList_push,List.map_append]
  refine List.nodup_append.2 ⟨h.nodup,by simp,fun a p b m q=> ?_⟩
  obtain⟨e,c,rfl⟩:=List.mem_map.1 p
  simp only[List.map_cons,List.map_nil,List.mem_singleton] at m
  exact n e c (q.trans m)
 ·rw[Array.toList_push] at c
  rcases fM.1 c with c|c
  ·obtain⟨i,g,o⟩:=h.get e c
   refine⟨i,g,?_⟩
   unfold gd
   rw[if_neg (fun e2=>n e c (by rw[g,e2]))]
   exact o
  ·simp only[List.mem_singleton] at c
   subst c
   exact⟨k,rfl,if_pos rfl⟩
 ·unfold gd at l
  rw[Array.toList_push]
  by_cases e:i=k
  ·subst e
   exact⟨_,jZ _ (tO.2 rfl),rfl⟩
  ·rw[if_neg e] at l
   obtain⟨e,c,g⟩:=h.rn i u l
   exact⟨e,lz _ c,g⟩
theorem iw.modify{m:Type} [DecidableEq m]{c:m→Vl}(I:∀a b,c a=c b→a=b){es:Array MapEntry}{f:m→Option Vl}(h:iw c es f){k:m}{v:Vl}{j:Nat}{e:MapEntry}(l:es[j]?=some e)(p:e.key=c k):iw c (es.modify j fun e=>{e with key:=c k,val:=v}) (gd f k v):=by
 have u:(es.modify j fun e=>{e with key:=c k,val:=v}).toList.map (·.key)=es.toList.map (·.key):=MapKept.modify_keys j _ (fun H t=>by rw[l] at t;cases t;exact p.symm)
 have r:=h.nodup
 refine⟨by rw[u];exact r,fun x s=> ?_,fun g G q=> ?_⟩
 ·obtain⟨i,d⟩:=List.getElem?_of_mem s
  rw[Array.getElem?_toList,Array.getElem?_modify] at d
  by_cases o:j=i
  ·subst o
   rw[if_pos rfl,l] at d
   simp only[Option.map_some,Option.some.injEq] at d
   subst d
   exact⟨k,rfl,if_pos rfl⟩
  ·rw[if_neg o] at d
   have D:x∈es.toList:=Array.mem_toList_iff.2 (Array.mem_of_getElem? d)
   obtain⟨g,g1,g2⟩:=h.get x D
   refine⟨g,g1,?_⟩
   unfold gd
   rw[if_neg (fun e2=> ?_)]
   ·exact g2
   ·have A:(es.toList.map (·.key))[i]?=some (c k):=by rw[List.getElem?_map,Array.getElem?_toList,d];simp[g1,e2]
    have B:(es.toList.map (·.key))[j]?=some (c k):=by rw[List.getElem?_map,Array.getElem?_toList,l];simp[p]
    obtain⟨w,e1⟩:=List.getElem?_eq_some_iff.1 A
    obtain⟨z,e3⟩:=List.getElem?_eq_some_iff.1 B
    rcases Nat.lt_or_gt_of_ne o with n|n
    ·exact List.pairwise_iff_getElem.1 r j i z w n (e3.trans e1.symm)
    ·exact List.pairwise_iff_getElem.1 r i j w z n (e1.trans e3.symm)
 ·have hex:∃e∈es.toList,e.key=c g:=by
   unfold gd at q
   by_cases e2:g=k
   ·subst e2
    exact⟨e,Array.mem_toList_iff.2 (Array.mem_of_getElem? l),p⟩
   ·rw[if_neg e2] at q
    exact h.rn g G q
  obtain⟨x,s,C⟩:=hex
  have:c g∈es.toList.map (·.key):=List.mem_map.2 ⟨x,s,C⟩
  rw[←u] at this
  obtain⟨y,E,F⟩:=List.mem_map.1 this
  exact⟨y,E,F⟩
abbrev g9:=iw Value.string
theorem str_inj:∀a b,Value.string a=Value.string b→a=b:=fun a b h=>by cases h;rfl
theorem strKeys(h:g9 dw h8):∀x∈dw.toList,MapKept.IsKey .string x.key:=fun x b=>by
 obtain⟨k,a,_⟩:=h.get x b
 rw[a]
 exact trivial
theorem AR(h:g9 dw h8)(s:BA):
 (Instr.findNow .string (.string s) dw.toList 0=some none∧h8 s=none)∨∃j e,Instr.findNow .string (.string s) dw.toList 0=some (some (j,e.val))∧dw[j]?=some e∧e.key= .string s∧h8 s=some e.val:=by
 rcases MapKept.findNow_spec (d:= .string) (k:= .string s) trivial dw.toList 0 (strKeys h) with⟨b,a⟩|⟨j,e,b,a,h3⟩
 ·refine .inl ⟨b,?_⟩
  cases e:h8 s with
  |none=>rfl
  |some v=>
   obtain⟨x,f,c⟩:=h.rn _ _ e
   exact absurd c (a x f)
 ·rw[Array.getElem?_toList] at a
  exact .inr ⟨j,e,by simpa using b,a,h3,h.at str_inj (Array.mem_toList_iff.2 (Array.mem_of_getElem? a)) h3⟩
def kc (T:TypeId) (c:TypeDesc) (z:Value):Prop:=∃b a,prog.underlying T=some (.map b a)∧prog.underlying b=some c∧∀W,(zeroValue a).run prog W= .ok z W
theorem HB(g:kc aH .string az)(d:ah.heap[ae]?=some (.map dw ao))(h:g9 dw h8)(s:BA)(c:Bool):
 (Instr.lookup aH (.map (some ae)) (.string s) c).run prog ah= .ok (if c then .tuple #[(h8 s).getD az,.bool (h8 s).isSome] else(h8 s).getD az) ah:=by
 obtain⟨l,i,b,a,h3⟩:=g
 rcases AR h s with⟨g1,g2⟩|⟨j,e,g1,_,_,f⟩
 ·simp only[Instr.lookup,Sem.run_bind,run_underlying b,Result.andThen_ok,MapKept.run_getObj_map d,Sem.run_pure,MapKept.run_checkKey a (k:= .string s) trivial,MapKept.run_findKey a g1,h3,g2]
  cases c<;>rfl
 ·simp only[Instr.lookup,Sem.run_bind,run_underlying b,Result.andThen_ok,MapKept.run_getObj_map d,Sem.run_pure,MapKept.run_checkKey a (k:= .string s) trivial,MapKept.run_findKey a g1,h3,f]
  cases c<;>rfl
theorem tP(a:ah.heap[ae]?=some (.map dw ao)):sA ah {ah with heap:=ah.heap.setIfInBounds ae fH} ae fH:=
 ⟨rfl,rfl,rfl,by simp,(MapKept.heap_set a).1,fun k b=>(MapKept.heap_set a).2 k b⟩
theorem AS(l:kc aH .string az)(b:ah.heap[ae]?=some (.map dw ao))(h:g9 dw h8)(s:BA)(v:Vl):
 ∃c i,(Instr.mapUpdate aH (.map (some ae)) (.string s) v).run prog ah= .ok () {ah with heap:=ah.heap.setIfInBounds ae (.map c i)}∧g9 c (gd h8 s v):=by
 obtain⟨n,m,g,a,_⟩:=l
 rcases AR h s with⟨g1,g2⟩|⟨j,e,g1,g2,f,_⟩
 ·refine⟨dw.push {key:= .string s,val:=v,born:=ao},ao+1,?_,h.push str_inj g2⟩
  simp only[Instr.mapUpdate,Sem.run_bind,run_underlying g,Result.andThen_ok,MapKept.run_getObj_map b,MapKept.run_checkKey a (k:= .string s) trivial,MapKept.run_findKey a g1,MapKept.run_setObj_map _ b]
 ·refine⟨dw.modify j fun e=>{e with key:= .string s,val:=v},ao,?_,h.modify str_inj g2 f⟩
  simp only[Instr.mapUpdate,Sem.run_bind,run_underlying g,Result.andThen_ok,MapKept.run_getObj_map b,MapKept.run_checkKey a (k:= .string s) trivial,MapKept.run_findKey a g1,MapKept.run_setObj_map _ b,g2,Option.map_some,Option.getD_some,f,MapKept.run_keyThatStays (d:= .string) (k:= .string s) trivial]
def bP (b:Nat):Value:= .pointer (some ⟨b,0,none⟩)
theorem wv:∀a b,bP a=bP b→a=b:=fun a b h=>by unfold bP at h;cases h;rfl
def kN (W:World) (b:Nat):Prop:=∃cs T,W.heap[b]?=some (.cells cs T (0,0))
def np (T:TypeId):Prop:=∃te i,prog.underlying T=some (.pointer te)∧prog.info? te=some i∧i.size≠0
theorem HC{i:TypeInfo}(c:prog.underlying aH=some (.pointer ci))(d:prog.info? ci=some i)(h3:i.size≠0)(W:Wd)(a b n:Nat):
 (Op.equalIn (n+1) aH (bP a) (bP b)).run prog W=(sameAddr ⟨a,0,none⟩ ⟨b,0,none⟩).run prog W:=by
 simp[Op.equalIn,bP,run_underlying c,sizeOf,typeInfo,d,h3,Result.andThen]
theorem AT(j:np aH){a b:Nat}(c:kN ah a)(f:kN ah b):(Op.equal aH (bP a) (bP b)).run prog ah= .ok (decide (a=b)) ah:=by
 obtain⟨te,i,g,h,h3⟩:=j
 obtain⟨m,k,c⟩:=c
 obtain⟨n,l,f⟩:=f
 have e:(Op.equal aH (bP a) (bP b)).run prog ah=(sameAddr ⟨a,0,none⟩ ⟨b,0,none⟩).run prog ah:=HC g h h3 ah a b 9999
 rw[e]
 by_cases d:a=b
 ·subst d
  rw[run_sameAddr_same]
  simp
 ·rw[run_sameAddr_other ah (a:=⟨a,0,none⟩) (b:=⟨b,0,none⟩) (fun e=>d (by cases e;rfl)) c f]
  simp[d]
abbrev kd:=iw bP
theorem AU{T:TypeId}(k:np T){W:Wd}{a:Nat}(m:kN W a):∀(l:List MapEntry) (i:Nat),(∀x∈l,∃b,x.key=bP b∧kN W b)→
 ((Instr.findAsking T (bP a) l i).run prog W= .ok none W∧∀x∈l,x.key≠bP a)∨∃j e,(Instr.findAsking T (bP a) l i).run prog W= .ok (some (i+j,e.val)) W∧l[j]?=some e∧e.key=bP a
 |[],i,_=> .inl ⟨by simp[Instr.findAsking],by simp⟩
 |e::es,i,h=>by
  obtain⟨b,c,o⟩:=h e (.head _)
  have g:=AT k m o
  by_cases f:a=b
  ·subst f
   refine .inr ⟨0,e,?_,rfl,c⟩
   simp only[Instr.findAsking,Sem.run_bind,c,g,Result.andThen_ok,decide_true,if_true,Sem.run_pure,Nat.add_zero]
  ·have n:e.key≠bP a:=fun q=>f (wv _ _ (q.symm.trans c))
   rcases AU k m es (i+1) (fun x d=>h x (.tail _ d)) with⟨h1,h2⟩|⟨j,e',h1,h2,h3⟩
   ·refine .inl ⟨?_,fun x d=> ?_⟩
    ·simp only[Instr.findAsking,Sem.run_bind,c,g,Result.andThen_ok,f,decide_false,Bool.false_eq_true,if_false,h1]
    ·cases d with
     |head=>exact n
     |tail _ d=>exact h2 x d
   ·refine .inr ⟨j+1,e',?_,by simpa using h2,h3⟩
    simp only[Instr.findAsking,Sem.run_bind,c,g,Result.andThen_ok,f,decide_false,Bool.false_eq_true,if_false,h1]
    rw[show i+1+j=i+(j+1) by omega]
theorem HD{te:TypeId}{a:Nat}:∀(l:List MapEntry) (i:Nat),l=[]∨Instr.findNow (.pointer te) (bP a) l i=none
 |[],_=> .inl rfl
 |e::es,i=> .inr (by simp[Instr.findNow,Instr.sameNow])
theorem HE(c:np aH){a:Nat}(l:List MapEntry):(Instr.findKey aH (bP a) l).run prog ah=(Instr.findAsking aH (bP a) l).run prog ah:=by
 obtain⟨te,i,b,_⟩:=c
 rcases HD (te:=te) (a:=a) l 0 with rfl|h
 ·simp[Instr.findKey,run_underlying b,Instr.findNow,Instr.findAsking,Result.andThen]
 ·simp[Instr.findKey,run_underlying b,h,Result.andThen]
theorem AW(g:np aH)(h:kd dw ix)(l:∀b,ix b≠none→kN ah b)(i:kN ah ae):
 ((Instr.findKey aH (bP ae) dw.toList).run prog ah= .ok none ah∧ix ae=none)∨∃j e,(Instr.findKey aH (bP ae) dw.toList).run prog ah= .ok (some (j,e.val)) ah∧dw[j]?=some e∧e.key=bP ae∧ix ae=some e.val:=by
 rw[HE g]
 have d:∀x∈dw.toList,∃b,x.key=bP b∧kN ah b:=fun x f=>by
  obtain⟨k,c,a⟩:=h.get x f
  exact⟨k,c,l k (by rw[a];simp)⟩
 rcases AU g i dw.toList 0 d with⟨c,a⟩|⟨j,e,c,a,h3⟩
 ·refine .inl ⟨c,?_⟩
  cases e:ix ae with
  |none=>rfl
  |some v=>
   obtain⟨x,f,d⟩:=h.rn _ _ e
   exact absurd d (a x f)
 ·rw[Array.getElem?_toList] at a
  exact .inr ⟨j,e,by simpa using c,a,h3,h.at wv (Array.mem_toList_iff.2 (Array.mem_of_getElem? a)) h3⟩
theorem wx(d:np aH)(a:Nat)(c:Bool)(n:Nat):(Instr.checkKey c (n+1) aH (bP a)).run prog ah= .ok () ah:=by
 obtain⟨te,i,b,_⟩:=d
 unfold Instr.checkKey
 simp only[Sem.run_bind,run_underlying b,Result.andThen_ok]
 rfl
def pO (T:TypeId) (z:Value):Prop:=∃b a,prog.underlying T=some (.map b a)∧np b∧∀W,(zeroValue a).run prog W= .ok z W
theorem HF(f:pO aH az)(c:ah.heap[ae]?=some (.map dw ao))(h:kd dw ix)(i:∀ae,ix ae≠none→kN ah ae)(g:kN ah aX):
 (Instr.lookup aH (.map (some ae)) (bP aX) false).run prog ah= .ok ((ix aX).getD az) ah:=by
 obtain⟨l,k,b,a,h3⟩:=f
 rcases AW a h i g with⟨g1,g2⟩|⟨j,e,g1,_,_,d⟩
 ·simp only[Instr.lookup,Sem.run_bind,run_underlying b,Result.andThen_ok,MapKept.run_getObj_map c,Sem.run_pure,wx a,g1,h3,g2]
  rfl
 ·simp only[Instr.lookup,Sem.run_bind,run_underlying b,Result.andThen_ok,MapKept.run_getObj_map c,Sem.run_pure,wx a,g1,h3,d]
  rfl
theorem HG(i:pO aH az)(d:ah.heap[ae]?=some (.map dw ao))(h:kd dw ix)(m:∀ae,ix ae≠none→kN ah ae)(k:kN ah aX)(l:ix aX=none)(v:Vl):
 ∃a f,(Instr.mapUpdate aH (.map (some ae)) (bP aX) v).run prog ah= .ok () {ah with heap:=ah.heap.setIfInBounds ae (.map a f)}∧kd a (gd ix aX v):=by
 obtain⟨o,n,g,c,_⟩:=i
 rcases AW c h m k with⟨g1,g2⟩|⟨j,e,_,_,_,b⟩
 ·refine⟨dw.push {key:=bP aX,val:=v,born:=ao},ao+1,?_,h.push wv g2⟩
  simp only[Instr.mapUpdate,Sem.run_bind,run_underlying g,Result.andThen_ok,MapKept.run_getObj_map d,wx c,g1,MapKept.run_setObj_map _ d]
 ·rw[l] at b
  cases b
section
variable{C:eF}{ops:Array Oper}{Q:Exit→Act→Wd→Prop}{rest:List Oper}{S S' S0:St}{R R' R0:Wd}{X X':Hx}{d:Nat}{ty:TypeId}{pos:String}{af:Array Edge}{Kb:Nat→Bool}{HH:Hp}{aq:Nat→Nat}
theorem jl{x y:Operand}{z r:Vl}{c:Bool}(k:ev S x=some (.val (.map (some ae))))(l:ev S y=some (.val (.string aY)))(i:X.at ae (.map dw ao))(h:g9 dw h8)(f:kc aH .string z)
 (j:(if c then .tuple #[(h8 aY).getD z,.bool (h8 aY).isSome] else(h8 aY).getD z)=r):gF S R X (.lookup aH x y c) ty (.val r):=
 gF.val fun ad a W dst pos af m e n g=>by
   have b:=e.eval k
   have d:=e.eval l
   simp only[AV.den] at b d
   have:=HB f (g.heap i) h aY c
   rw[j] at this
   simp only[execOp,b,d,Sem.run_bind,this,Result.andThen_ok,Sem.run_pure]
theorem HI{x y u:Operand}(m:ev S x=some (.val (.map (some ae))))(n:ev S y=some (.val (.string aY)))(hu:ev S u=some (.val cM))(i:X.H ae=some (.map dw ao))(h:g9 dw h8)(l:kc aH .string az)
 (k:∀b d,g9 b (gd h8 aY cM)→bN C ops Q rest S R ⟨X.K,aQ X.H ae (.map b d)⟩):bN C ops Q (⟨none,.mapUpdate aH x y u,ty,pos,af,none⟩::rest) S R X:=by
 intro ad a W c
 have e:=c.rel.eval m
 have f:=c.rel.eval n
 have h3:=c.rel.eval hu
 simp only[AV.den] at e f h3
 have g:=c.own.h ae _ i
 obtain⟨b,d,g1,g2⟩:=AS l g h aY cM
 refine wpList_plain rfl fun K j=> ?_
 unfold Oper.wp
 have:(execOp a.eval ⟨none,.mapUpdate aH x y u,ty,pos,af,none⟩).run prog W= .ok .skip {W with heap:=W.heap.setIfInBounds ae (.map b d)}:=by
  simp only[execOp,e,f,h3,Sem.run_bind,g1,Result.andThen_ok,Sem.run_pure]
 rw[this]
 exact j _ _ (k b d g2 ad a _ (c.ko (by rw[i];simp) (tP g)))
def rp (Kb:Nat→Bool) (S0:St) (R0:World) (aq:Nat→Nat) (HH:Hp) (w:World):Prop:=hC Kb S0.boxes R0 aq w∧∀b ob,HH b=some ob→w.heap[b]?=some ob
structure lY (Kb:Nat→Bool) (HH:Hp) (S0:St) (R0:World) (aq:Nat→Nat) (S:St) (R:World) (X:Hx) (ad:Nat→Nat):Prop where
 ad:∀k,k<S0.boxes.length→ad k=aq k
 bx:∀k,Kb k=true→S.boxes[k]?=S0.boxes[k]?
 sub:Sub R0 R
 le:S0.boxes.length≤S.boxes.length
 hh:∀b ob,HH b=some ob→X.at b ob
def cQ (C:eF) (Kb:Nat→Bool) (HH:Hp) (S0:St) (R0:World) (aq:Nat→Nat) (ops:Array Oper) (Q:Exit→Act→World→Prop) (ay:Nat) (aN:Array Bool) (S:St) (R:World) (X:Hx):Prop:=
 ∀ad a W,ck C S R X ad a W→lY Kb HH S0 R0 aq S R X ad→wpAnyH prog .any ops Q (rp Kb S0 R0 aq HH) ay aN a W
def dV (C:eF) (Kb:Nat→Bool) (HH:Hp) (S0:St) (R0:World) (aq:Nat→Nat) (ops:Array Oper) (Q:Exit→Act→World→Prop) (ay:Nat) (aN:Array Bool) (S:St) (R:World) (X:Hx) (rs:List Nat):Prop:=
 ∀i∈rs,∀ad a W,ck C S R X ad a W→lY Kb HH S0 R0 aq S R X ad→
  wpOp prog ops Q i (fun c b=>rp Kb S0 R0 aq HH b∧wpAnyH prog .any ops Q (rp Kb S0 R0 aq HH) ay (aN.setIfInBounds i true) c b) a W
theorem ck.drew{ad:Nat→Nat}{a:Act}{W:Wd}(h:ck C S R X ad a W):ck C S R X ad a {W with drawn:=W.drawn+1}:=
 ⟨h.rel.drew,⟨h.own.k,h.own.h,h.own.kh,h.own.box,h.own.row,h.own.b9⟩,h.gZ,h.iZ,h.sub⟩
theorem ck.held{ad:Nat→Nat}{a:Act}{W:Wd}(h:ck C S R X ad a W)(i:lY Kb HH S0 R0 aq S R X ad):rp Kb S0 R0 aq HH W:=⟨h.rel.held i.ad i.bx i.sub,fun b ob c=>h.has.heap (i.hh b ob c)⟩
theorem dM(d:prog.follows .mixedOrders=true)(Kb:Nat→Bool)(HH:Hp)(c:∀b ob,HH b=some ob→X.at b ob)(h:∀aq,cQ C Kb HH S R aq ops Q ops.size (Array.replicate ops.size false) S R X):VX C (.region ae ops true) Q S R X:=
 fun ad a W e=>wp_region_held (S:=rp Kb S R ad HH) d (h ad ad a _ e.drew ⟨fun _ _=>rfl,fun _ _=>rfl,Sub.refl R,a9 _,c⟩)
def kO (Kb:Nat→Bool) (HH:Hp) (S:St) (R0:World) (op:Op) (ty:TypeId) (v:AV):Prop:=
 (∀k o,v= .ptr k o→k<S.boxes.length∨∃t,look S.bW t=some (.ptr k o)∨∃d,look S.bW t=some (.ptr k d))∧
 ∀ad a W dst pos af c,jX S ad a→hC Kb S.boxes R0 ad W→(∀b ob,HH b=some ob→W.heap[b]?=some ob)→(execOp a.eval ⟨dst,op,ty,pos,af,c⟩).run prog W= .ok (.value (v.den ad)) W
theorem kO.of{op:Op}{v:AV}(h:bO Kb S R0 op ty v):kO Kb HH S R0 op ty v:=⟨h.1,fun ad a W dst pos af b d c _=>h.2 ad a W dst pos af b d c⟩
theorem ja{x:Operand}{b off:Nat}(i:ev S x=some (.val (.pointer (some ⟨b,off,none⟩))))(g:HH b=some (.cells aj.toArray ci (0,0)))(d:cr aH false 1)(hu:aj[off]?=some az):kO Kb HH S R0 (.load aH x) ty (.val az):=
 ⟨fun k o e=>(by cases e),fun ad a W dst pos af j h l f=>by
   have c:=h.eval i
   simp only[AV.den] at c
   have:=o2 (b:=b) (o:=off) (W:=W) d (pN (f b _ g) hu)
   simp only[execOp,c,Sem.run_bind,this,Result.andThen_ok,Sem.run_pure,AV.den]⟩
theorem kO.lt{op:Op}{v:AV}(h:kO Kb HH S R0 op ty v){C:er}{ad:Nat→Nat}{a:Act}{W:Wd}(c:Rel C S R ad a W):∀k o,v= .ptr k o→k<S.boxes.length:=by
 intro k o e
 rcases h.1 k o e with b|⟨t,b|⟨d,b⟩⟩
 ·exact b
 ·exact c.lt t k o b
 ·exact c.lt t k d b
theorem tQ{i ay:Nat}{v:AV}(q:ops[i]?=some ⟨some d,cx,ty,pos,af,wy⟩)(p:∀ad a,jX S ad a→Region.wanted (⟨some d,cx,ty,pos,af,wy⟩:Oper) (yielded ops a.tmps)=true)(j:kO Kb HH S R0 cx ty v)(n:d<C.N)
 (s:Region.noSelect ops=true) (o:Region.free .any ops bQ i=true) (r:(Region.ready .any ops bQ).contains i=true) (l:∀c a v w,Q (.panic c) (Act.put a (some d) v) w→Q (.panic c) a w)
 (k:cQ C Kb HH S0 R0 aq ops Q ay (bQ.setIfInBounds i true) {S with bW:=(d,v)::S.bW} R X):cQ C Kb HH S0 R0 aq ops Q (ay+1) bQ S R X:=by
 intro ad a W h b
 refine wpAnyH_take (v:=v.den ad) q s o r (fun c a w=>l c a _ w) (.inl ⟨p ad a h.rel.slot,fun w e=> ?_⟩) (h.held b) (k ad _ W (h.put n (j.lt h.rel)) ⟨b.ad,b.bx,b.sub,b.le,b.hh⟩)
 refine j.2 ad a w _ _ _ _ h.rel.slot ⟨fun k T cs g m=> ?_,e.1.b9⟩ e.2
 have f:S0.boxes[k]?=some (T,cs):=(b.bx k g).symm.trans m
 rw[b.ad k (List.getElem?_eq_some_iff.1 f).1]
 exact e.1.box k T cs g f
theorem HJ{i ay:Nat}(m:ops[i]?=some ⟨some d,cx,ty,pos,af,wy⟩)(l:∀ad a,jX S ad a→Region.wanted (⟨some d,cx,ty,pos,af,wy⟩:Oper) (yielded ops a.tmps)=false)(g:d<C.N)
 (p:Region.noSelect ops=true) (j:Region.free .any ops bQ i=true) (n:(Region.ready .any ops bQ).contains i=true) (f:∀c a v w,Q (.panic c) (Act.put a (some d) v) w→Q (.panic c) a w)
 (k:cQ C Kb HH S0 R0 aq ops Q ay (bQ.setIfInBounds i true) {S with bW:=(d,.val undef)::S.bW} R X):cQ C Kb HH S0 R0 aq ops Q (ay+1) bQ S R X:=by
 intro ad a W h b
 exact wpAnyH_take (v:=undef) m p j n (fun c a w=>f c a _ w) (.inr ⟨l ad a h.rel.slot,rfl⟩) (h.held b) (k ad _ W (h.put (x:= .val undef) g (fun k o e=>by cases e)) ⟨b.ad,b.bx,b.sub,b.le,b.hh⟩)
theorem HL(e:Region.ready .any ops bQ=aI)(d:aI≠ [])(h:dV C Kb HH S0 R0 aq ops Q ae bQ S R X aI):cQ C Kb HH S0 R0 aq ops Q (ae+1) bQ S R X:=
 fun ad a W hh b=>wpAnyH_all e d fun i c=>h i c ad a W hh b
theorem bt:dV C Kb HH S0 R0 aq ops Q ae bQ S R X []:=fun i a=>by cases a
theorem HM(b:Region.ready .any ops bQ=[])(h:DX C Q .normal S R X):cQ C Kb HH S0 R0 aq ops Q ae bQ S R X:=
 fun ad a W hh c=>wpAnyH_done b (h ad a W hh) ae
theorem pP{ay i:Nat}(t:ops[i]?=some ⟨fB,cx,ty,pos,af,none⟩)(s:∀f:er,f.N=C.N→jA f S R fB cx ty o3)
 (m:∀S' R',o3 S' R'→S.boxes.length≤S'.boxes.length∧∀k,Kb k=true→S'.boxes[k]?=S.boxes[k]?)
 (k:∀S' R',o3 S' R'→Sub R R'→cQ C Kb HH S0 R0 aq ops Q ay (bQ.setIfInBounds i true) S' R' X) (u:dV C Kb HH S0 R0 aq ops Q ay bQ S R X aI):dV C Kb HH S0 R0 aq ops Q ay bQ S R X (i::aI):=by
 intro j e ad a W h b
 rcases dX.1 e with rfl|e
 ·obtain⟨x,W',w,g1,g2,S',R',g,d,l,q,r⟩:=s ⟨C.N,W,R,gC ad S.boxes.length S.rows,S.boxes.length,ad⟩ rfl ad a W pos af none h.here
  have p:=h.oq q
  have o:lY Kb HH S0 R0 aq S' R' X g:=⟨fun k c=>(r k (lA c b.le)).trans (b.ad k c),fun k c=>((m S' R' d).2 k c).trans (b.bx k c),b.sub.trans l,dS b.le (m S' R' d).1,b.hh⟩
  have n:=And.intro (p.held o) (k S' R' d l g _ W' p o)
  unfold wpOp
  simp only[t,Region.wanted]
  refine .inl ?_
  unfold Oper.wp
  rw[g1]
  rcases g2 with⟨v,rfl,rfl⟩|⟨rfl,rfl⟩
  ·exact n
  ·exact n
 ·exact u j e ad a W h b
theorem AX{ay i:Nat}(m:ops[i]?=some ⟨some d,cx,ty,pos,af,none⟩)(f:gF S R X cx ty cy)(l:d<C.N)
 (k:cQ C Kb HH S0 R0 aq ops Q ay (bQ.setIfInBounds i true) {S with bW:=(d,cy)::S.bW} R X) (n:dV C Kb HH S0 R0 aq ops Q ay bQ S R X aI):dV C Kb HH S0 R0 aq ops Q ay bQ S R X (i::aI):=by
 intro j c ad a W h b
 rcases dX.1 c with rfl|c
 ·have g:=h.put l (f.lt h.rel)
  have e:lY Kb HH S0 R0 aq {S with bW:=(d,cy)::S.bW} R X ad:=⟨b.ad,b.bx,b.sub,b.le,b.hh⟩
  unfold wpOp
  simp only[m,Region.wanted]
  refine .inl ?_
  unfold Oper.wp
  rw[f.2 ad a W _ _ _ _ h.rel.slot (h.rel.nS _) h.has]
  exact⟨g.held e,k ad _ W g e⟩
 ·exact n j c ad a W h b
variable{dZ:ka}
theorem HN{ay i:Nat}(Hc Hf:Hp)(ts rr:List bU)(B:ops[i]?=some ⟨some d,.call {callee:= .value (.func bk),args:=c8,argTypes:=fi},ty,pos,af,none⟩)
 (G:cJ bk aj ts R ⟨X.K,Hc⟩ dZ) (t:aF bk) (I:fb S c8 (aj.map .val)) (F:S.rows=ts++rr) (w:X.H=dH Hc Hf) (A:∀b,Hc b≠none→Hf b=none) (z:d<C.N) (u:∀b ob,HH b=some ob→X.K b=some ob∨Hf b=some ob)
 (k:∀v c R' X',Sub R R'→(∀b ob,X.K b=some ob→X'.K b=some ob)→(∀b,X'.H b≠none→Hf b=none)→dZ (.returned v) c R' X'→cQ C Kb HH S0 R0 aq ops Q ay (bQ.setIfInBounds i true) {S with bW:=(d,.val v)::S.bW,rows:=c++rr} R' ⟨X'.K,dH X'.H Hf⟩)
 (J:∀ch c R' X',Sub R R'→(∀b ob,X.K b=some ob→X'.K b=some ob)→(∀b,X'.H b≠none→Hf b=none)→dZ (.panicked ch) c R' X'→DX C Q (.panic ch) {S with rows:=c++rr} R' ⟨X'.K,dH X'.H Hf⟩)
 (D:dV C Kb HH S0 R0 aq ops Q ay bQ S R X aI):dV C Kb HH S0 R0 aq ops Q ay bQ S R X (i::aI):=by
 intro j m ad a W h f
 rcases dX.1 m with rfl|m
 ·unfold wpOp
  simp only[B,Region.wanted]
  refine .inl ?_
  unfold Oper.wp
  rw[k7,h.args I,j0 t,Oper.upon_enter]
  refine(rk Hc Hf ts rr G F w A h).mono ?_
  rintro E W' ⟨c,R',X',s,g1,g2,l,n,_,p⟩
  cases E with
  |returned v=>
   have r:=p.put (x:= .val v) z (fun k o e=>by cases e)
   have q:lY Kb HH S0 R0 aq {S with bW:=(d,.val v)::S.bW,rows:=c++rr} R' ⟨X'.K,dH X'.H Hf⟩ ad:=⟨f.ad,f.bx,f.sub.trans g1,f.le,fun b ob y=>by
    rcases u b ob y with g|g
    ·exact .inl (g2 b ob g)
    ·refine .inr ?_
     show dH X'.H Hf b=some ob
     unfold dH
     cases e:X'.H b with
     |none=>exact g
     |some x=>
      have:=l b (by rw[e];simp)
      rw[g] at this
      cases this⟩
   exact⟨r.held q,k v c R' X' g1 g2 l n ad _ W' r q⟩
  |panicked ch=>exact J ch c R' X' g1 g2 l n ad a W' p
  |outgrown=>exact absurd rfl s
 ·exact D j m ad a W h f
theorem ck.lI{ad:Nat→Nat}{a:Act}{W:Wd}(h:ck C S R X ad a W)(e size:Nat):ck C {S with rows:=⟨zS,0,[],e,size⟩::S.rows} R X ad a W:=
 ⟨h.rel.lI e size,⟨h.own.k,h.own.h,h.own.kh,h.own.box,fun b d r c=>by
   rcases dX.1 c with rfl|c
   ·intro e;cases e
   ·exact h.own.row b d r c,h.own.b9⟩,h.gZ,h.iZ,h.sub⟩
theorem ck.rows{ad:Nat→Nat}{a:Act}{W:Wd}(h:ck C S R X ad a W){d:List bU}(c:d.Sublist S.rows):ck C {S with rows:=d} R X ad a W:=
 ⟨h.rel.y0 c,⟨h.own.k,h.own.h,h.own.kh,h.own.box,fun b e r f=>h.own.row b e r (c.subset f),h.own.b9⟩,h.gZ,h.iZ,h.sub⟩
theorem ck.perm{ad:Nat→Nat}{a:Act}{W:Wd}(h:ck C S R X ad a W){d:List bU}(c:d.Perm S.rows):ck C {S with rows:=d} R X ad a W:=
 ⟨h.rel.perm c,⟨h.own.k,h.own.h,h.own.kh,h.own.box,fun b e r f=>h.own.row b e r (c.mem_iff.1 f),h.own.b9⟩,h.gZ,h.iZ,h.sub⟩
end
section
variable{C:eF}{ops:Array Oper}{Q:Exit→Act→Wd→Prop}{rest:List Oper}{sl:List (Nat×AV)}{bx cm:List Bx}{rw ft:List bU}{R R':Wd}{X:Hx}{d:Nat}{ty:TypeId}{pos:String}{af:Array Edge}
theorem xp{v:AV}(h:bO gk ⟨sl,bx,rw⟩ R cx ty v)(a:Nat.blt d C.N=true)(k:bN C ops Q rest ⟨(d,v)::sl,bx,rw⟩ R X):bN C ops Q (⟨some d,cx,ty,pos,af,none⟩::rest) ⟨sl,bx,rw⟩ R X:=AD (gF.of h) (dn a) k
theorem bz(h:gF ⟨sl,bx,rw⟩ R X cx ty cy)(a:Nat.blt d C.N=true)(k:bN C ops Q rest ⟨(d,cy)::sl,bx,rw⟩ R X):bN C ops Q (⟨some d,cx,ty,pos,af,none⟩::rest) ⟨sl,bx,rw⟩ R X:=AD h (dn a) k
theorem AY(f:(ops[ae]?).bind (·.dst)=some ao)(g:look sl ao=some (.val az))(c:pf az ca=false)(d:∀e,fB=some e→e<C.N)(k:bN C ops Q rest ⟨match fB with|some e=>(e,.val undef)::sl|none=>sl,bx,rw⟩ R X):bN C ops Q (⟨fB,cx,ty,pos,af,some (ae,ca)⟩::rest) ⟨sl,bx,rw⟩ R X:=by
 intro ad a W b
 have i:Region.wanted (⟨fB,cx,ty,pos,af,some (ae,ca)⟩:Oper) (yielded ops a.tmps)=false:=by
  exact(mr b.rel.slot f g).trans c
 unfold wpList
 rw[if_neg (by rw[i];simp)]
 cases fB with
 |none=>exact k ad _ W b
 |some e=>exact k ad _ W (b.put (x:= .val undef) (d e rfl) (fun k o h=>by cases h))
theorem AZ(f:(ops[ae]?).bind (·.dst)=some ao)(g:look sl ao=some (.val (.bool hE)))(a:hE=!ca)(b:Nat.blt d C.N=true)(k:bN C ops Q rest ⟨(d,.val undef)::sl,bx,rw⟩ R X):bN C ops Q (⟨some d,cx,ty,pos,af,some (ae,ca)⟩::rest) ⟨sl,bx,rw⟩ R X:=
 AY f g (by subst a;cases ca<;>rfl) (fun e c=>by cases c;exact dn b) k
theorem HO(c:(ops[ae]?).bind (·.dst)=some ao)(f:look sl ao=some (.val undef))(a:Nat.blt d C.N=true)(k:bN C ops Q rest ⟨(d,.val undef)::sl,bx,rw⟩ R X):bN C ops Q (⟨some d,cx,ty,pos,af,some (ae,ca)⟩::rest) ⟨sl,bx,rw⟩ R X:=
 AY c f rfl (fun e b=>by cases b;exact dn a) k
theorem eX(d:(ops[ae]?).bind (·.dst)=some ao)(e:look sl ao=some (.val (.bool hE)))(c:hE=ca)
 (k:bN C ops Q (⟨fB,cx,ty,pos,af,none⟩::rest) ⟨sl,bx,rw⟩ R X):bN C ops Q (⟨fB,cx,ty,pos,af,some (ae,ca)⟩::rest) ⟨sl,bx,rw⟩ R X:=by
 intro ad a W b
 have f:Region.wanted (⟨fB,cx,ty,pos,af,some (ae,ca)⟩:Oper) (yielded ops a.tmps)=true:=by
  rw[mr b.rel.slot d e,c]
  cases ca<;>rfl
 have:=k ad a W b
 unfold wpList at this⊢
 rw[if_pos f]
 rw[if_pos (by simp[Region.wanted])] at this
 exact this
theorem rq{x y:Operand}{k off n:Nat}(cm:List Bx)(g:ev ⟨sl,bx,rw⟩ x=some (.ptr k off))(i:ev ⟨sl,bx,rw⟩ y=some (.val az))(d:bx[k]?=some (ci,aj))
 (b:cr aH ca n) (e:az.cells.size=n) (f:Nat.ble (off+n) aj.length=true) (a:az.cells.toList.all (·.oneCell')=true) (c:bx.set k (ci,aj.take off++az.cells.toList++aj.drop (off+n))=cm)
 (j:bN C ops Q rest ⟨sl,cm,rw⟩ R X):bN C ops Q (⟨none,.store aH x y,ty,pos,af,none⟩::rest) ⟨sl,bx,rw⟩ R X:=
 pL (fun l _=>sH (S:=⟨sl,bx,rw⟩) g i d b e (Nat.le_of_ble_eq_true f) a) fun S' R' h _=>by obtain⟨rfl,rfl⟩:=h;subst c;exact j
theorem A0(m:Nat)(cm:List Bx)(f:eQ aH aj)(e:bx.length=m)(b:bx++ [(aH,aj)]=cm)(c:Nat.blt d C.N=true)(g:bN C ops Q rest ⟨(d,.ptr m 0)::sl,cm,rw⟩ R X):
 bN C ops Q (⟨some d,.alloc aH,ty,pos,af,none⟩::rest) ⟨sl,bx,rw⟩ R X:=
 pL (fun i a=>sI (S:=⟨sl,bx,rw⟩) f (a▸dn c)) fun S' R' h _=>by obtain⟨rfl,rfl⟩:=h;subst e b;exact g
theorem ow{x:Operand}(m:Nat)(cm:List Bx)(g:ev ⟨sl,bx,rw⟩ x=some (.val az))(f:az.cells.toList=aj)(e:bx.length=m)(b:bx++ [(aH,aj)]=cm)(c:Nat.blt d C.N=true)(i:bN C ops Q rest ⟨(d,.ptr m 0)::sl,cm,rw⟩ R X):
 bN C ops Q (⟨some d,.box aH x,ty,pos,af,none⟩::rest) ⟨sl,bx,rw⟩ R X:=
 pL (fun j a=>uX (S:=⟨sl,bx,rw⟩) g f (a▸dn c)) fun S' R' h _=>by obtain⟨rfl,rfl⟩:=h;subst e b;exact i
theorem HP{t e size n:Nat}(r:c7 t e size)(m:mn ⟨sl,bx,rw⟩ hY aj)
 (w:aj.all (fun v=>v.cells.size==size)=true) (l:aj.length=n) (o:Nat.blt 0 n=true) (q:Nat.ble n 1000=true) (h:(aj.flatMap fun v=>v.cells.toList)=bj) (i:Nat.blt d C.N=true)
 (k:∀g R',Sub R R'→(∀j u,bj[j]?=some u→R'.cell? ⟨g,j,none⟩=some u)→bN C ops Q rest ⟨(d,.val (.slice (some ⟨g,0,none⟩) n n))::sl,bx,⟨.slice (some ⟨g,0,none⟩) n n,n,bj,e,size⟩::rw⟩ R' X):
 bN C ops Q (⟨some d,.buildSlice t n hY,ty,pos,af,none⟩::rest) ⟨sl,bx,rw⟩ R X:=by
 refine pL (fun x f=>qx (S:=⟨sl,bx,rw⟩) r (fun ad a p=>m.eval p) (fun v s=>by simpa using List.all_eq_true.1 w v s) l (dn o) (Nat.le_of_ble_eq_true q) h (f▸dn i)) ?_
 rintro S' R' ⟨g,rfl,b⟩ c
 exact k g R' c b
theorem jH{x y:Operand}{n:Nat}{m c:Nat}{news:LV}(q:dO ae ao aX eO)(t:ev ⟨sl,bx,⟨az,n,aj,ao,aX⟩::rw⟩ x=some (.val az))(v:ev ⟨sl,bx,⟨az,n,aj,ao,aX⟩::rw⟩ y=some (.val (.slice aA m c)))
 (s:Src R aX aA m news) (j:aA=none→c=0) (b:∀u∈news,u.oneCell'=true) (i:n+m≤1000000000) (o:Nat.ble eO 100000=true) (p:Nat.blt d C.N=true)
 (k:∀a cap R',Sub R R'→n+m≤cap→cap≤9223372036854775807→(a=none→cap=0)→Src R' aX a (n+m) (aj++news)→
   bN C ops Q rest ⟨(d,.val (.slice a (n+m) cap))::sl,bx,⟨.slice a (n+m) cap,n+m,aj++news,ao,aX⟩::rw⟩ R' X):
 bN C ops Q (⟨some d,.call {callee:= .builtin .append,args:=#[x,y],argTypes:=#[ae,ae]},ty,pos,af,none⟩::rest) ⟨sl,bx,⟨az,n,aj,ao,aX⟩::rw⟩ R X:=by
 refine pL (fun w l=>sO (S:=⟨sl,bx,⟨az,n,aj,ao,aX⟩::rw⟩) (r:=⟨az,n,aj,ao,aX⟩) q t v rfl rfl rfl s j b i (Nat.le_of_ble_eq_true o) (l▸dn p)) ?_
 rintro S' R' ⟨a,cap,rfl,e,h3,f,g⟩ h
 exact k a cap R' h e h3 f g
theorem pQ(e size:Nat)(k:bN C ops Q rest ⟨sl,bx,⟨zS,0,[],e,size⟩::rw⟩ R X):bN C ops Q rest ⟨sl,bx,rw⟩ R X:=fun ad a W h=>k ad a W (ck.lI (S:=⟨sl,bx,rw⟩) h e size)
theorem lg{c:Code}(e size:Nat)(k:VX C c Q ⟨sl,bx,⟨zS,0,[],e,size⟩::rw⟩ R X):VX C c Q ⟨sl,bx,rw⟩ R X:=fun ad a W h=>k ad a W (ck.lI (S:=⟨sl,bx,rw⟩) h e size)
theorem A1(ft:List bU)(h:ft.Sublist rw)(k:bN C ops Q rest ⟨sl,bx,ft⟩ R X):bN C ops Q rest ⟨sl,bx,rw⟩ R X:=fun ad a W b=>k ad a W (ck.rows (S:=⟨sl,bx,rw⟩) b h)
theorem lZ(ft:List bU)(h:ft.Perm rw)(k:bN C ops Q rest ⟨sl,bx,ft⟩ R X):bN C ops Q rest ⟨sl,bx,rw⟩ R X:=fun ad a W b=>k ad a W (ck.perm (S:=⟨sl,bx,rw⟩) b h)
theorem l0(h:DX C Q .normal ⟨sl,bx,rw⟩ R X):bN C ops Q [] ⟨sl,bx,rw⟩ R X:=Hz h
variable{dZ:ka}
theorem kP{Hc Hf:Hp}{ts rs:List bU}(i:cJ bk aj ts R ⟨X.K,Hc⟩ dZ)(c:aF bk)(j:fb ⟨sl,bx,rw⟩ c8 (aj.map .val))(h:rw=ts++rs)(e:X.H=dH Hc Hf)(g:∀b,Hc b≠none→Hf b=none)(f:Nat.blt d C.N=true)
 (k:∀v a R' X',Sub R R'→(∀b ob,X.K b=some ob→X'.K b=some ob)→(∀b,X'.H b≠none→Hf b=none)→dZ (.returned v) a R' X'→bN C ops Q rest ⟨(d,.val v)::sl,bx,a++rs⟩ R' ⟨X'.K,dH X'.H Hf⟩)
 (l:∀ch a R' X',Sub R R'→(∀b ob,X.K b=some ob→X'.K b=some ob)→(∀b,X'.H b≠none→Hf b=none)→dZ (.panicked ch) a R' X'→DX C Q (.panic ch) ⟨sl,bx,a++rs⟩ R' ⟨X'.K,dH X'.H Hf⟩):
 bN C ops Q (⟨some d,.call {callee:= .value (.func bk),args:=c8,argTypes:=fi},ty,pos,af,none⟩::rest) ⟨sl,bx,rw⟩ R X:=
 Hv (S:=⟨sl,bx,rw⟩) Hc Hf ts rs i c j h e g (dn f) k l
theorem eS(j:cJ bk aj [] R ⟨X.K,bH⟩ (fun E ts R' X'=>ts=[]∧E= .panicked ov))(g:aF bk)(k:fb ⟨sl,bx,rw⟩ c8 (aj.map .val))(i:Nat.blt d C.N=true)
 (l:∀R' X',DX C Q (.panic ov) ⟨sl,bx,rw⟩ R' X'):bN C ops Q (⟨some d,.call {callee:= .value (.func bk),args:=c8,argTypes:=fi},ty,pos,af,none⟩::rest) ⟨sl,bx,rw⟩ R X:=by
 refine kP (X:=X) (Hc:=bH) (Hf:=X.H) (ts:=[]) (rs:=rw) j g k rfl rfl (fun b h=>absurd rfl h) i ?_ ?_
 ·rintro v m R' X' a f h3 ⟨_,e⟩
  cases e
 ·rintro c m R' X' a f h3 ⟨rfl,e⟩
  cases e
  exact l _ _
theorem dP(i:cJ bk aj [] R X dZ)(g:aF bk)(j:fb ⟨sl,bx,rw⟩ c8 (aj.map .val))(h:Nat.blt d C.N=true)
 (k:∀v a R' X',Sub R R'→(∀b ob,X.K b=some ob→X'.K b=some ob)→dZ (.returned v) a R' X'→bN C ops Q rest ⟨(d,.val v)::sl,bx,a++rw⟩ R' X')
 (l:∀ch a R' X',Sub R R'→(∀b ob,X.K b=some ob→X'.K b=some ob)→dZ (.panicked ch) a R' X'→DX C Q (.panic ch) ⟨sl,bx,a++rw⟩ R' X'):
 bN C ops Q (⟨some d,.call {callee:= .value (.func bk),args:=c8,argTypes:=fi},ty,pos,af,none⟩::rest) ⟨sl,bx,rw⟩ R X:=by
 refine kP (X:=X) (Hc:=X.H) (Hf:=bH) (ts:=[]) (rs:=rw) i g j rfl (hp _).symm (fun b m=>rfl) h ?_ ?_
 ·rintro v a R' X' c e h3 f
  rw[hp]
  exact k v a R' X' c e f
 ·rintro v a R' X' c e h3 f
  rw[hp]
  exact l v a R' X' c e f
theorem kQ(j:bd bk aj R hF)(f:aF bk)(l:fb ⟨sl,bx,rw⟩ c8 (aj.map .val))(h:Nat.blt d C.N=true)
 (k:∀v R',Sub R R'→hF v R'→bN C ops Q rest ⟨(d,.val v)::sl,bx,rw⟩ R' X):
 bN C ops Q (⟨some d,.call {callee:= .value (.func bk),args:=c8,argTypes:=fi},ty,pos,af,none⟩::rest) ⟨sl,bx,rw⟩ R X:=by
 refine kP (X:=X) (Hc:=bH) (Hf:=X.H) (ts:=[]) (rs:=rw) (cJ.wk j) f l rfl rfl (fun b g=>absurd rfl g) h ?_ ?_
 ·rintro v m R' X' a c h3 ⟨n,e,rfl,rfl,i⟩
  cases e
  exact k v R' a i
 ·rintro ch m R' X' a c h3 ⟨n,e,_⟩
  cases e
theorem ru(c:bd bk aj R fun v R'=>R'=R∧qC v)(a:aF bk)(e:fb ⟨sl,bx,rw⟩ c8 (aj.map .val))(b:Nat.blt d C.N=true)
 (k:∀v,qC v→bN C ops Q rest ⟨(d,.val v)::sl,bx,rw⟩ R X):bN C ops Q (⟨some d,.call {callee:= .value (.func bk),args:=c8,argTypes:=fi},ty,pos,af,none⟩::rest) ⟨sl,bx,rw⟩ R X:=
 kQ c a e b fun v R' _ h=>by obtain⟨rfl,h⟩:=h;exact k v h
theorem ke{x y:Operand}{b off n:Nat}{cs:LV}(a:LV)(i:ev ⟨sl,bx,rw⟩ x=some (.val (.pointer (some ⟨b,off,none⟩))))(j:ev ⟨sl,bx,rw⟩ y=some (.val az))(e:X.H b=some (.cells cs.toArray ci (0,0)))
 (d:cr aH ca n) (g:az.cells.size=n) (h:Nat.ble (off+n) cs.length=true) (c:az.cells.toList.all (·.oneCell')=true) (f:cs.take off++az.cells.toList++cs.drop (off+n)=a)
 (k:∀X',X'=⟨X.K,aQ X.H b (.cells a.toArray ci (0,0))⟩→X'.H b=some (.cells a.toArray ci (0,0))→bN C ops Q rest ⟨sl,bx,rw⟩ R X'):bN C ops Q (⟨none,.store aH x y,ty,pos,af,none⟩::rest) ⟨sl,bx,rw⟩ R X:=
 AF (S:=⟨sl,bx,rw⟩) i j e d g (Nat.le_of_ble_eq_true h) c f (k _ rfl (b0 _ _ _))
theorem rv(e:Nat.blt d C.N=true)(k:∀b X',X.K b=none→X.H b=none→X'=⟨X.K,aQ X.H b (.map #[] 0)⟩→bN C ops Q rest ⟨(d,.val (.map (some b)))::sl,bx,rw⟩ R X'):
 bN C ops Q (⟨some d,.makeMap aH none,ty,pos,af,none⟩::rest) ⟨sl,bx,rw⟩ R X:=Hs (S:=⟨sl,bx,rw⟩) (dn e) fun b a c=>k b _ a c rfl
theorem A2{x y u:Operand}{f:BA→Option Vl}(e:ev ⟨sl,bx,rw⟩ x=some (.val (.map (some ae))))(g:ev ⟨sl,bx,rw⟩ y=some (.val (.string aY)))(hu:ev ⟨sl,bx,rw⟩ u=some (.val cM))(d:X.H ae=some (.map dw ao))(h:g9 dw f)(c:kc aH .string az)
 (k:∀a b X',g9 a (gd f aY cM)→X'=⟨X.K,aQ X.H ae (.map a b)⟩→bN C ops Q rest ⟨sl,bx,rw⟩ R X'):bN C ops Q (⟨none,.mapUpdate aH x y u,ty,pos,af,none⟩::rest) ⟨sl,bx,rw⟩ R X:=HI (S:=⟨sl,bx,rw⟩) e g hu d h c fun a b h=>k a b _ h rfl
theorem A3{x:Operand}{v:Vl}(a:ev ⟨sl,bx,rw⟩ x=some (.val (.iface aH v)))(h:DX C Q (.panic [{v:= .iface aH v,recovered:=false}]) ⟨sl,bx,rw⟩ R X):bN C ops Q (⟨fB,.panic x,ty,pos,af,none⟩::rest) ⟨sl,bx,rw⟩ R X:=HA (S:=⟨sl,bx,rw⟩) a h
variable{K:Nat→Bool}{HH:Hp}{S0:St}{R0:Wd}{aq:Nat→Nat}{ay:Nat}{aN:Array Bool}
theorem pR(i:Nat)(g:ops[i]?=some ⟨some d,cx,ty,pos,af,none⟩)(h:bO K ⟨sl,bx,rw⟩ R0 cx ty cy)(e:Nat.blt d C.N=true)
 (l:Region.noSelect ops=true) (f:Region.free .any ops aN i=true) (j:(Region.ready .any ops aN).contains i=true) (b:∀c a cy w,Q (.panic c) (Act.put a (some d) cy) w→Q (.panic c) a w)
 (k:cQ C K HH S0 R0 aq ops Q ay (aN.setIfInBounds i true) ⟨(d,cy)::sl,bx,rw⟩ R X):cQ C K HH S0 R0 aq ops Q (ay+1) aN ⟨sl,bx,rw⟩ R X:=tQ (S:=⟨sl,bx,rw⟩) g (fun ad a _=>by simp[Region.wanted]) (kO.of h) (dn e) l f j b k
theorem HQ(i:Nat)(g:ops[i]?=some ⟨some d,cx,ty,pos,af,none⟩)(h:kO K HH ⟨sl,bx,rw⟩ R0 cx ty cy)(e:Nat.blt d C.N=true)
 (l:Region.noSelect ops=true) (f:Region.free .any ops aN i=true) (j:(Region.ready .any ops aN).contains i=true) (b:∀c a cy w,Q (.panic c) (Act.put a (some d) cy) w→Q (.panic c) a w)
 (k:cQ C K HH S0 R0 aq ops Q ay (aN.setIfInBounds i true) ⟨(d,cy)::sl,bx,rw⟩ R X):cQ C K HH S0 R0 aq ops Q (ay+1) aN ⟨sl,bx,rw⟩ R X:=tQ (S:=⟨sl,bx,rw⟩) g (fun ad a _=>by simp[Region.wanted]) h (dn e) l f j b k
theorem HR(i:Nat)(j:ops[i]?=some ⟨some d,cx,ty,pos,af,some (ae,ca)⟩)(l:(ops[ae]?).bind (·.dst)=some ao)(o:look sl ao=some (.val (.bool hE)))(f:(hE==ca)=true)(m:bO K ⟨sl,bx,rw⟩ R0 cx ty cy)(g:Nat.blt d C.N=true)
 (b:Region.noSelect ops=true) (h:Region.free .any ops aN i=true) (n:(Region.ready .any ops aN).contains i=true) (e:∀c a cy w,Q (.panic c) (Act.put a (some d) cy) w→Q (.panic c) a w)
 (k:cQ C K HH S0 R0 aq ops Q ay (aN.setIfInBounds i true) ⟨(d,cy)::sl,bx,rw⟩ R X):cQ C K HH S0 R0 aq ops Q (ay+1) aN ⟨sl,bx,rw⟩ R X:=tQ (S:=⟨sl,bx,rw⟩) j (fun ad a b=>(mr b l o).trans f) (kO.of m) (dn g) b h n e k
theorem HS(i:Nat)(j:ops[i]?=some ⟨some d,cx,ty,pos,af,some (ae,ca)⟩)(l:(ops[ae]?).bind (·.dst)=some ao)(o:look sl ao=some (.val (.bool hE)))(f:(hE==ca)=true)(m:kO K HH ⟨sl,bx,rw⟩ R0 cx ty cy)(g:Nat.blt d C.N=true)
 (b:Region.noSelect ops=true) (h:Region.free .any ops aN i=true) (n:(Region.ready .any ops aN).contains i=true) (e:∀c a cy w,Q (.panic c) (Act.put a (some d) cy) w→Q (.panic c) a w)
 (k:cQ C K HH S0 R0 aq ops Q ay (aN.setIfInBounds i true) ⟨(d,cy)::sl,bx,rw⟩ R X):cQ C K HH S0 R0 aq ops Q (ay+1) aN ⟨sl,bx,rw⟩ R X:=tQ (S:=⟨sl,bx,rw⟩) j (fun ad a b=>(mr b l o).trans f) m (dn g) b h n e k
theorem A4(i:Nat)(j:ops[i]?=some ⟨some d,cx,ty,pos,af,some (ae,ca)⟩)(l:(ops[ae]?).bind (·.dst)=some ao)(n:look sl ao=some (.val az))(f:pf az ca=false)(g:Nat.blt d C.N=true)
 (b:Region.noSelect ops=true) (h:Region.free .any ops aN i=true) (m:(Region.ready .any ops aN).contains i=true) (e:∀c a az w,Q (.panic c) (Act.put a (some d) az) w→Q (.panic c) a w)
 (k:cQ C K HH S0 R0 aq ops Q ay (aN.setIfInBounds i true) ⟨(d,.val undef)::sl,bx,rw⟩ R X):cQ C K HH S0 R0 aq ops Q (ay+1) aN ⟨sl,bx,rw⟩ R X:=HJ (S:=⟨sl,bx,rw⟩) j (fun ad a b=>(mr b l n).trans f) (dn g) b h m e k
theorem bp(rs:List Nat)(b:Region.ready .any ops aN=rs)(a:rs.isEmpty=false)(h:dV C K HH S0 R0 aq ops Q ay aN ⟨sl,bx,rw⟩ R X rs):cQ C K HH S0 R0 aq ops Q (ay+1) aN ⟨sl,bx,rw⟩ R X:=
 HL b (fun e=>by subst e;cases a) h
theorem du(a:Region.ready .any ops aN=[])(h:DX C Q .normal ⟨sl,bx,rw⟩ R X):cQ C K HH S0 R0 aq ops Q ay aN ⟨sl,bx,rw⟩ R X:=HM a h
theorem pS{i:Nat}{x y:Operand}{k off n:Nat}(cm:List Bx)(g:ops[i]?=some ⟨none,.store aH x y,ty,pos,af,none⟩)(p:ev ⟨sl,bx,rw⟩ x=some (.ptr k off))(q:ev ⟨sl,bx,rw⟩ y=some (.val az))(h:bx[k]?=some (ci,aj))
 (d:cr aH ca n) (l:az.cells.size=n) (m:Nat.ble (off+n) aj.length=true) (b:az.cells.toList.all (·.oneCell')=true) (c:K k=false) (f:bx.set k (ci,aj.take off++az.cells.toList++aj.drop (off+n))=cm)
 (r:cQ C K HH S0 R0 aq ops Q ay (aN.setIfInBounds i true) ⟨sl,cm,rw⟩ R X) (o:dV C K HH S0 R0 aq ops Q ay aN ⟨sl,bx,rw⟩ R X aI):dV C K HH S0 R0 aq ops Q ay aN ⟨sl,bx,rw⟩ R X (i::aI):=by
 refine pP (S:=⟨sl,bx,rw⟩) g (fun s _=>sH (S:=⟨sl,bx,rw⟩) p q h d l (Nat.le_of_ble_eq_true m) b) ?_ ?_ o
 ·rintro S' R' ⟨rfl,rfl⟩
  refine⟨by simp,fun j a=> ?_⟩
  exact List.getElem?_set_ne (fun e=>by subst e;rw[c] at a;cases a)
 ·rintro S' R' ⟨rfl,rfl⟩ _
  subst f
  exact r
theorem jm{i:Nat}{t e size n:Nat}{vs:LV}{cs:LV}(o:ops[i]?=some ⟨some d,.buildSlice t n hY,ty,pos,af,none⟩)(w:c7 t e size)(q:mn ⟨sl,bx,rw⟩ hY vs)
 (y:vs.all (fun v=>v.cells.size==size)=true) (p:vs.length=n) (r:Nat.blt 0 n=true) (s:Nat.ble n 1000=true) (l:(vs.flatMap fun v=>v.cells.toList)=cs) (m:Nat.blt d C.N=true)
 (k:∀g R',Sub R R'→(∀j u,cs[j]?=some u→R'.cell? ⟨g,j,none⟩=some u)→cQ C K HH S0 R0 aq ops Q ay (aN.setIfInBounds i true) ⟨(d,.val (.slice (some ⟨g,0,none⟩) n n))::sl,bx,⟨.slice (some ⟨g,0,none⟩) n n,n,cs,e,size⟩::rw⟩ R' X)
 (b:dV C K HH S0 R0 aq ops Q ay aN ⟨sl,bx,rw⟩ R X aI):dV C K HH S0 R0 aq ops Q ay aN ⟨sl,bx,rw⟩ R X (i::aI):=by
 refine pP (S:=⟨sl,bx,rw⟩) o (fun z h=>qx (S:=⟨sl,bx,rw⟩) w (fun ad a b=>q.eval b) (fun v x=>by simpa using List.all_eq_true.1 y v x) p (dn r) (Nat.le_of_ble_eq_true s) l (h▸dn m)) ?_ ?_ b
 ·rintro S' R' ⟨g,rfl,c⟩
  exact⟨a9 _,fun _ _=>rfl⟩
 ·rintro S' R' ⟨g,rfl,c⟩ f
  exact k g R' f c
theorem kR{i:Nat}{x y:Operand}{n:Nat}{m c:Nat}{news:LV}(t:ops[i]?=some ⟨some d,.call {callee:= .builtin .append,args:=#[x,y],argTypes:=#[ae,ae]},ty,pos,af,none⟩)
 (s:dO ae ao aX eO) (z:ev ⟨sl,bx,⟨az,n,aj,ao,aX⟩::rw⟩ x=some (.val az)) (A:ev ⟨sl,bx,⟨az,n,aj,ao,aX⟩::rw⟩ y=some (.val (.slice aA m c)))
 (w:Src R aX aA m news) (l:aA=none→c=0) (e:∀u∈news,u.oneCell'=true) (j:n+m≤1000000000) (p:Nat.ble eO 100000=true) (q:Nat.blt d C.N=true)
 (k:∀a cap R',Sub R R'→n+m≤cap→cap≤9223372036854775807→(a=none→cap=0)→Src R' aX a (n+m) (aj++news)→
   cQ C K HH S0 R0 aq ops Q ay (aN.setIfInBounds i true) ⟨(d,.val (.slice a (n+m) cap))::sl,bx,⟨.slice a (n+m) cap,n+m,aj++news,ao,aX⟩::rw⟩ R' X)
 (v:dV C K HH S0 R0 aq ops Q ay aN ⟨sl,bx,⟨az,n,aj,ao,aX⟩::rw⟩ R X aI):dV C K HH S0 R0 aq ops Q ay aN ⟨sl,bx,⟨az,n,aj,ao,aX⟩::rw⟩ R X (i::aI):=by
 refine pP (S:=⟨sl,bx,⟨az,n,aj,ao,aX⟩::rw⟩) t (fun B o=>sO (S:=⟨sl,bx,⟨az,n,aj,ao,aX⟩::rw⟩) (r:=⟨az,n,aj,ao,aX⟩) s z A rfl rfl rfl w l e j (Nat.le_of_ble_eq_true p) (o▸dn q)) ?_ ?_ v
 ·rintro S' R' ⟨a,cap,rfl,b⟩
  exact⟨a9 _,fun _ _=>rfl⟩
 ·rintro S' R' ⟨a,cap,rfl,b,h3,f,g⟩ h
  exact k a cap R' h b h3 f g
theorem A5{i:Nat}{x:Operand}(m:Nat)(cm:List Bx)(h:ops[i]?=some ⟨some d,.box aH x,ty,pos,af,none⟩)(p:ev ⟨sl,bx,rw⟩ x=some (.val az))(o:az.cells.toList=aj)(l:bx.length=m)(f:bx++ [(aH,aj)]=cm)(g:Nat.blt d C.N=true)(b:K m=false)
 (q:cQ C K HH S0 R0 aq ops Q ay (aN.setIfInBounds i true) ⟨(d,.ptr m 0)::sl,cm,rw⟩ R X) (n:dV C K HH S0 R0 aq ops Q ay aN ⟨sl,bx,rw⟩ R X aI):dV C K HH S0 R0 aq ops Q ay aN ⟨sl,bx,rw⟩ R X (i::aI):=by
 subst l f
 refine pP (S:=⟨sl,bx,rw⟩) h (fun r c=>uX (S:=⟨sl,bx,rw⟩) p o (c▸dn g)) ?_ ?_ n
 ·rintro S' R' ⟨rfl,rfl⟩
  refine⟨by simp,fun k a=> ?_⟩
  have s:k≠bx.length:=fun e=>by subst e;rw[b] at a;cases a
  by_cases j:k<bx.length
  ·exact List.getElem?_append_left j
  ·show(bx++ [(aH,aj)])[k]?=bx[k]?
   rw[List.getElem?_eq_none (by simp;omega),List.getElem?_eq_none (by omega)]
 ·rintro S' R' ⟨rfl,rfl⟩ _
  exact q
theorem A6{i:Nat}(b:ops[i]?=some ⟨some d,cx,ty,pos,af,none⟩)(c:bO gk ⟨sl,bx,rw⟩ R cx ty cy)(a:Nat.blt d C.N=true)
 (k:cQ C K HH S0 R0 aq ops Q ay (aN.setIfInBounds i true) ⟨(d,cy)::sl,bx,rw⟩ R X) (e:dV C K HH S0 R0 aq ops Q ay aN ⟨sl,bx,rw⟩ R X aI):dV C K HH S0 R0 aq ops Q ay aN ⟨sl,bx,rw⟩ R X (i::aI):=AX (S:=⟨sl,bx,rw⟩) b (gF.of c) (dn a) k e
theorem fT{i:Nat}(b:ops[i]?=some ⟨some d,cx,ty,pos,af,none⟩)(c:gF ⟨sl,bx,rw⟩ R X cx ty cy)(a:Nat.blt d C.N=true)
 (k:cQ C K HH S0 R0 aq ops Q ay (aN.setIfInBounds i true) ⟨(d,cy)::sl,bx,rw⟩ R X) (e:dV C K HH S0 R0 aq ops Q ay aN ⟨sl,bx,rw⟩ R X aI):dV C K HH S0 R0 aq ops Q ay aN ⟨sl,bx,rw⟩ R X (i::aI):=AX (S:=⟨sl,bx,rw⟩) b c (dn a) k e
theorem wz{i:Nat}{Hc Hf:Hp}{ts rr:List bU}(j:ops[i]?=some ⟨some d,.call {callee:= .value (.func bk),args:=c8,argTypes:=fi},ty,pos,af,none⟩)
 (n:cJ bk aj ts R ⟨X.K,Hc⟩ dZ) (c:aF bk) (o:fb ⟨sl,bx,rw⟩ c8 (aj.map .val)) (m:rw=ts++rr) (f:X.H=dH Hc Hf) (h:∀b,Hc b≠none→Hf b=none) (g:Nat.blt d C.N=true) (e:∀b ob,HH b=some ob→X.K b=some ob∨Hf b=some ob)
 (k:∀v a R' X',Sub R R'→(∀b ob,X.K b=some ob→X'.K b=some ob)→(∀b,X'.H b≠none→Hf b=none)→dZ (.returned v) a R' X'→cQ C K HH S0 R0 aq ops Q ay (aN.setIfInBounds i true) ⟨(d,.val v)::sl,bx,a++rr⟩ R' ⟨X'.K,dH X'.H Hf⟩)
 (p:∀ch a R' X',Sub R R'→(∀b ob,X.K b=some ob→X'.K b=some ob)→(∀b,X'.H b≠none→Hf b=none)→dZ (.panicked ch) a R' X'→DX C Q (.panic ch) ⟨sl,bx,a++rr⟩ R' ⟨X'.K,dH X'.H Hf⟩)
 (l:dV C K HH S0 R0 aq ops Q ay aN ⟨sl,bx,rw⟩ R X aI):dV C K HH S0 R0 aq ops Q ay aN ⟨sl,bx,rw⟩ R X (i::aI):=
 HN (S:=⟨sl,bx,rw⟩) Hc Hf ts rr j n c o m f h (dn g) e k p l
theorem fY{i:Nat}(m:ops[i]?=some ⟨some d,.call {callee:= .value (.func bk),args:=c8,argTypes:=fi},ty,pos,af,none⟩)
 (o:cJ bk aj [] R X dZ) (h:aF bk) (p:fb ⟨sl,bx,rw⟩ c8 (aj.map .val)) (l:Nat.blt d C.N=true) (j:∀b ob,HH b=some ob→X.K b=some ob)
 (k:∀v a R' X',Sub R R'→(∀b ob,X.K b=some ob→X'.K b=some ob)→dZ (.returned v) a R' X'→cQ C K HH S0 R0 aq ops Q ay (aN.setIfInBounds i true) ⟨(d,.val v)::sl,bx,a++rw⟩ R' X')
 (q:∀ch a R' X',Sub R R'→(∀b ob,X.K b=some ob→X'.K b=some ob)→dZ (.panicked ch) a R' X'→DX C Q (.panic ch) ⟨sl,bx,a++rw⟩ R' X')
 (n:dV C K HH S0 R0 aq ops Q ay aN ⟨sl,bx,rw⟩ R X aI):dV C K HH S0 R0 aq ops Q ay aN ⟨sl,bx,rw⟩ R X (i::aI):=by
 refine wz (X:=X) (Hc:=X.H) (Hf:=bH) (ts:=[]) (rr:=rw) m o h p rfl (hp _).symm (fun b g=>rfl) l (fun b ob g=> .inl (j b ob g)) ?_ ?_ n
 ·rintro v a R' X' c e h3 f
  rw[hp]
  exact k v a R' X' c e f
 ·rintro v a R' X' c e h3 f
  rw[hp]
  exact q v a R' X' c e f
theorem iy{i:Nat}(l:ops[i]?=some ⟨some d,.call {callee:= .value (.func bk),args:=c8,argTypes:=fi},ty,pos,af,none⟩)
 (o:bd bk aj R hF) (f:aF bk) (p:fb ⟨sl,bx,rw⟩ c8 (aj.map .val)) (j:Nat.blt d C.N=true) (g:∀b ob,HH b=some ob→X.K b=some ob∨X.H b=some ob)
 (k:∀v R',Sub R R'→hF v R'→cQ C K HH S0 R0 aq ops Q ay (aN.setIfInBounds i true) ⟨(d,.val v)::sl,bx,rw⟩ R' X)
 (n:dV C K HH S0 R0 aq ops Q ay aN ⟨sl,bx,rw⟩ R X aI):dV C K HH S0 R0 aq ops Q ay aN ⟨sl,bx,rw⟩ R X (i::aI):=by
 refine wz (X:=X) (Hc:=bH) (Hf:=X.H) (ts:=[]) (rr:=rw) l (cJ.wk o) f p rfl rfl (fun b h=>absurd rfl h) j g ?_ ?_ n
 ·rintro v q R' X' a c h3 ⟨r,e,rfl,rfl,m⟩
  cases e
  exact k v R' a m
 ·rintro ch q R' X' a c h3 ⟨r,e,_⟩
  cases e
end
section
variable{C:eF}{ops:Array Oper}{Q:Exit→Act→Wd→Prop}{rest:List Oper}{sl:List (Nat×AV)}{bx cm:List Bx}{rw:List bU}{R:Wd}{X:Hx}{d:Nat}{ty:TypeId}{pos:String}{af:Array Edge}
theorem Y1{p:Nat×AV}(h:pg ops C.N ⟨sl,bx,rw⟩ ea=some p)(k:bN C ops Q rest ⟨p::sl,bx,rw⟩ R X):bN C ops Q (ea::rest) ⟨sl,bx,rw⟩ R X:=by
 obtain⟨dst,op,ty,pos,af,i⟩:=ea
 unfold pg at h
 cases dst with
 |none=>cases h
 |some d=>
  simp only at h
  cases c:Nat.blt d C.N with
  |false=>rw[c] at h;cases h
  |true=>
   rw[c] at h
   simp only[cond_true] at h
   cases i with
   |none=>
    simp only at h
    cases a:pv gk ⟨sl,bx,rw⟩ op with
    |none=>rw[a] at h;cases h
    |some v=>
     rw[a] at h
     cases h
     exact xp (mZ a) c k
   |some l=>
    obtain⟨j,b⟩:=l
    simp only at h
    cases f:(ops[j]?).bind (·.dst) with
    |none=>rw[f] at h;cases h
    |some t=>
     rw[f] at h
     simp only at h
     split at h
     ·rename_i b' g
      cases e:(b'==b) with
      |true=>
       rw[e] at h
       simp only at h
       cases a:pv gk ⟨sl,bx,rw⟩ op with
       |none=>rw[a] at h;cases h
       |some v=>
        rw[a] at h
        cases h
        exact eX f g (by simpa using e) (xp (mZ a) c k)
      |false=>
       rw[e] at h
       cases h
       refine AZ f g ?_ c k
       revert e
       cases b'<;>cases b<;>simp
     ·cases h
theorem Y2(h:(pg ops C.N ⟨sl,bx,rw⟩ ea,pg ops C.N ⟨hQ::sl,bx,rw⟩ mq)=(some hQ,some jf))(k:bN C ops Q rest ⟨jf::hQ::sl,bx,rw⟩ R X):bN C ops Q (ea::mq::rest) ⟨sl,bx,rw⟩ R X:=by
 simp only[Prod.mk.injEq] at h
 exact Y1 (h.1) (Y1 (h.2) (k))
theorem aa{x y:Operand}{k n:Nat}(b:gn bx k (ci,aj) (ci,bj) cm)
 (h:(ev ⟨sl,bx,rw⟩ x,ev ⟨sl,bx,rw⟩ y,lk iU aH,Nat.beq bj.length n,Nat.beq aj.length n,bj.all (·.oneCell'))=(some (.ptr k 0),some (.val (.agg bj.toArray)),some (true,n),true,true,true))
 (i:bN C ops Q rest ⟨sl,cm,rw⟩ R X):bN C ops Q (⟨none,.store aH x y,ty,pos,af,none⟩::rest) ⟨sl,bx,rw⟩ R X:=by
 simp only[Prod.mk.injEq] at h
 obtain⟨f,g,d,e,a,c⟩:=h
 obtain rfl:=g7 e
 have a:=g7 a
 refine rq cm f g b.eq.1 (iV d) rfl ?_ c ?_ i
 ·exact Nat.ble_eq_true_of_le (by omega)
 ·rw[←b.eq.2]
  have:(Value.agg bj.toArray).cells.toList=bj:=rfl
  rw[this,Nat.zero_add,←a]
  simp
theorem ab{x y:Operand}(b:gn bx ae (ci,aj) (ci,bj) cm)(c:gn aj ao cM az bj)
 (h:(ev ⟨sl,bx,rw⟩ x,ev ⟨sl,bx,rw⟩ y,lk iU aH,az.cells,az.oneCell')=(some (.ptr ae ao),some (.val az),some (false,1),#[az],true))
 (k:bN C ops Q rest ⟨sl,cm,rw⟩ R X):bN C ops Q (⟨none,.store aH x y,ty,pos,af,none⟩::rest) ⟨sl,bx,rw⟩ R X:=by
 simp only[Prod.mk.injEq] at h
 obtain⟨i,j,f,a,d⟩:=h
 have g:ao<aj.length:=(List.getElem?_eq_some_iff.1 c.eq.1).1
 refine rq (n:=1) cm i j b.eq.1 (iV f) (by rw[a];rfl) ?_ ?_ ?_ k
 ·exact Nat.ble_eq_true_of_le (by omega)
 ·rw[a];simp[d]
 ·have e:aj.set ao az=aj.take ao++az::aj.drop (ao+1):=by rw[List.set_eq_take_append_cons_drop,if_pos g]
  rw[←b.eq.2,←c.eq.2,a,e]
  simp
theorem ag(a:Sn bx (aH,aj) ae cm)(h:(lk zL aH,Nat.blt d C.N)=(some aj,true))(b:bN C ops Q rest ⟨(d,.ptr ae 0)::sl,cm,rw⟩ R X):
 bN C ops Q (⟨some d,.alloc aH,ty,pos,af,none⟩::rest) ⟨sl,bx,rw⟩ R X:=by
 simp only[Prod.mk.injEq] at h
 exact A0 ae cm (zT h.1) a.eq.1 a.eq.2 h.2 b
end
theorem A7{C:eF}{i:Nat}{p:Nat×AV}(h:pa dk C.N dl bI i=some p):∃op ty pos af,dk[i]?=some ⟨some p.1,op,ty,pos,af,none⟩∧Nat.blt p.1 C.N=true∧∀{R:Wd} {ty:TypeId},bO dl bI R op ty p.2:=vj (C:=C.toer) h
section
variable{C:eF}{ops:Array Oper}{Q:Exit→Act→Wd→Prop}{sl k9:List (Nat×AV)}{bx cm:List Bx}{rw:List bU}{R:Wd}{X:Hx}{K:Nat→Bool}{HH:Hp}{S0:St}{R0:Wd}{aq:Nat→Nat}{ay:Nat}{aN:Array Bool}
theorem da{p:Nat×AV}(i:Nat)(h:pa ops C.N K ⟨sl,bx,rw⟩ i=some p)(b:h1 ops aN i=true)(f:∀{c a v w},Q (.panic c) (Act.put a (some p.1) v) w→Q (.panic c) a w)
 (k:cQ C K HH S0 R0 aq ops Q ay (aN.setIfInBounds i true) ⟨p::sl,bx,rw⟩ R X):cQ C K HH S0 R0 aq ops Q (ay+1) aN ⟨sl,bx,rw⟩ R X:=by
 obtain⟨op,ty,pos,af,d,e,h3⟩:=A7 h
 simp only[h1,Bool.and_eq_true] at b
 exact pR i d h3 e b.1.1 b.1.2 b.2 (fun c a v w=>f) k
theorem df{i T c:Nat}{x y:Operand}{k n:Nat}(d:gn bx k (c,aj) (c,bj) cm)
 (h:(sa ops i,ev ⟨sl,bx,rw⟩ x,ev ⟨sl,bx,rw⟩ y,lk iU T,Nat.beq bj.length n,Nat.beq aj.length n,bj.all (·.oneCell'),K k)=(some (T,x,y),some (.ptr k 0),some (.val (.agg bj.toArray)),some (true,n),true,true,true,false))
 (p:cQ C K HH S0 R0 aq ops Q ay (aN.setIfInBounds i true) ⟨sl,cm,rw⟩ R X) (l:dV C K HH S0 R0 aq ops Q ay aN ⟨sl,bx,rw⟩ R X aI):dV C K HH S0 R0 aq ops Q ay aN ⟨sl,bx,rw⟩ R X (i::aI):=by
 simp only[Prod.mk.injEq] at h
 obtain⟨b,m,o,g,j,a,e,f⟩:=h
 obtain⟨ty,pos,af,b⟩:=y7 b
 obtain rfl:=g7 j
 have a:=g7 a
 refine pS cm b m o d.eq.1 (iV g) rfl ?_ e f ?_ p l
 ·exact Nat.ble_eq_true_of_le (by omega)
 ·rw[←d.eq.2]
  have:(Value.agg bj.toArray).cells.toList=bj:=rfl
  rw[this,Nat.zero_add,←a]
  simp
theorem dg{i T c:Nat}{x y:Operand}(d:gn bx ae (c,aj) (c,bj) cm)(f:gn aj ao cM az bj)
 (h:(sa ops i,ev ⟨sl,bx,rw⟩ x,ev ⟨sl,bx,rw⟩ y,lk iU T,az.cells,az.oneCell',K ae)=(some (T,x,y),some (.ptr ae ao),some (.val az),some (false,1),#[az],true,false))
 (q:cQ C K HH S0 R0 aq ops Q ay (aN.setIfInBounds i true) ⟨sl,cm,rw⟩ R X) (m:dV C K HH S0 R0 aq ops Q ay aN ⟨sl,bx,rw⟩ R X aI):dV C K HH S0 R0 aq ops Q ay aN ⟨sl,bx,rw⟩ R X (i::aI):=by
 simp only[Prod.mk.injEq] at h
 obtain⟨b,o,p,k,a,g,j⟩:=h
 obtain⟨ty,pos,af,b⟩:=y7 b
 have l:ao<aj.length:=(List.getElem?_eq_some_iff.1 f.eq.1).1
 refine pS (n:=1) cm b o p d.eq.1 (iV k) (by rw[a];rfl) ?_ ?_ j ?_ q m
 ·exact Nat.ble_eq_true_of_le (by omega)
 ·rw[a];simp[g]
 ·have e:aj.set ao az=aj.take ao++az::aj.drop (ao+1):=by rw[List.set_eq_take_append_cons_drop,if_pos l]
  rw[←d.eq.2,←f.eq.2,a,e]
  simp
theorem db(i:Nat){x y:Operand}{k n:Nat}(a:gn bx k (ao,aj) (ao,bj) cm)(b:Region.ready .any ops aN=[i])
 (h:(sa ops i,ev ⟨sl,bx,rw⟩ x,ev ⟨sl,bx,rw⟩ y,lk iU ae,Nat.beq bj.length n,Nat.beq aj.length n,bj.all (·.oneCell'),K k)=(some (ae,x,y),some (.ptr k 0),some (.val (.agg bj.toArray)),some (true,n),true,true,true,false))
 (c:cQ C K HH S0 R0 aq ops Q ay (aN.setIfInBounds i true) ⟨sl,cm,rw⟩ R X):cQ C K HH S0 R0 aq ops Q (ay+1) aN ⟨sl,bx,rw⟩ R X:=
 bp [i] b rfl (df a h c bt)
theorem dc(i:Nat){x y:Operand}(a:gn bx aX (ao,aj) (ao,bj) cm)(b:gn aj eO cM az bj)(c:Region.ready .any ops aN=[i])
 (h:(sa ops i,ev ⟨sl,bx,rw⟩ x,ev ⟨sl,bx,rw⟩ y,lk iU ae,az.cells,az.oneCell',K aX)=(some (ae,x,y),some (.ptr aX eO),some (.val az),some (false,1),#[az],true,false))
 (d:cQ C K HH S0 R0 aq ops Q ay (aN.setIfInBounds i true) ⟨sl,cm,rw⟩ R X):cQ C K HH S0 R0 aq ops Q (ay+1) aN ⟨sl,bx,rw⟩ R X:=
 bp [i] c rfl (dg a b h d bt)
theorem dh{i:Nat}{p:Nat×AV}(h:pa ops C.N gk ⟨sl,bx,rw⟩ i=some p)
 (d:cQ C K HH S0 R0 aq ops Q ay (aN.setIfInBounds i true) ⟨p::sl,bx,rw⟩ R X) (c:dV C K HH S0 R0 aq ops Q ay aN ⟨sl,bx,rw⟩ R X aI):dV C K HH S0 R0 aq ops Q ay aN ⟨sl,bx,rw⟩ R X (i::aI):=by
 obtain⟨op,ty,pos,af,a,b,h3⟩:=A7 h
 exact A6 a h3 b d c
theorem dd{p:Nat×AV}(i:Nat)(a:Region.ready .any ops aN=[i])(h:pa ops C.N gk ⟨sl,bx,rw⟩ i=some p)
 (b:cQ C K HH S0 R0 aq ops Q ay (aN.setIfInBounds i true) ⟨p::sl,bx,rw⟩ R X):cQ C K HH S0 R0 aq ops Q (ay+1) aN ⟨sl,bx,rw⟩ R X:=
 bp [i] a rfl (dh h b bt)
end
section
variable{C:eF}{Q:Exit→Act→Wd→Prop}{rw:List bU}{R:Wd}{X:Hx}
def jI (C:eF) (Q:Exit→Act→World→Prop) (rw:List bU) (R:World) (X:Hx):Cg→Prop
 |⟨.V c,k,sl,bx⟩=>VX C c (eb k Q) ⟨sl,bx,rw⟩ R X
 |⟨.L ops l,k,sl,bx⟩=>bN C ops (eb k Q) l ⟨sl,bx,rw⟩ R X
 |⟨.D e,k,sl,bx⟩=>DX C (eb k Q) e ⟨sl,bx,rw⟩ R X
theorem HT(h:qI C.N rw dk ea gb h2 bu aS=some iK)(g:jI C Q rw R X iK):bN C dk (eb h2 Q) (ea::gb) ⟨bu,aS,rw⟩ R X:=by
 obtain⟨dst,op,ty,pos,af,m⟩:=ea
 unfold qI at h
 cases dst with
 |none=>cases h
 |some d=>
  simp only at h
  cases e:Nat.blt d C.N with
  |false=>rw[e] at h;cases h
  |true=>
   rw[e] at h
   simp only[cond_true] at h
   have key:∀{v:AV},pv gk ⟨bu,aS,rw⟩ op=some v∨pw gk ⟨bu,aS,rw⟩ op=some v→iK=⟨.L dk gb,h2,(d,v)::bu,aS⟩→bN C dk (eb h2 Q) (⟨some d,op,ty,pos,af,none⟩::gb) ⟨bu,aS,rw⟩ R X:=by
    rintro v c rfl
    rcases c with c|c
    ·exact xp (mZ c) e g
    ·exact xp (vn c) e g
   cases m with
   |none=>
    simp only[gw] at h
    split at h
    ·rename_i v c;cases h;exact key (.inl c) rfl
    ·split at h
     ·rename_i v c;cases h;exact key (.inr c) rfl
     ·cases h
   |some n=>
    obtain⟨j,b⟩:=n
    simp only[gw] at h
    cases f:(dk[j]?).bind (·.dst) with
    |none=>rw[f] at h;cases h
    |some t=>
     rw[f] at h
     simp only at h
     cases i:look bu t with
     |none=>rw[i] at h;cases h
     |some u=>
      rw[i] at h
      cases u with
      |ptr _ _=>cases h
      |val u=>
       cases u with
       |bool b'=>
        simp only at h
        cases k:(b'==b) with
        |true=>
         rw[k] at h
         simp only at h
         refine eX f i (by simpa using k) ?_
         split at h
         ·rename_i v c;cases h;exact key (.inl c) rfl
         ·split at h
          ·rename_i v c;cases h;exact key (.inr c) rfl
          ·cases h
        |false=>
         rw[k] at h
         cases h
         refine AZ f i ?_ e g
         revert k
         cases b'<;>cases b<;>simp
       |tuple a=>
        simp only at h
        cases l:a.toList with
        |cons _ _=>rw[l] at h;cases h
        |nil=>
         rw[l] at h
         cases h
         obtain rfl:a=#[]:=Array.ext' l
         exact HO f i e g
       |_=>cases h
theorem HU(h:qJ C.N rw dk ea gb h2 bu aS=some iK)(g:jI C Q rw R X iK):bN C dk (eb h2 Q) (ea::gb) ⟨bu,aS,rw⟩ R X:=by
 obtain⟨dst,op,ty,pos,af,s⟩:=ea
 unfold qJ at h
 simp only at h
 split at h
 ·rename_i T d
  cases f:Nat.blt d C.N with
  |false=>rw[f] at h;cases h
  |true=>
   rw[f] at h
   simp only[cond_true] at h
   cases l:lk zL T with
   |none=>rw[l] at h;cases h
   |some cs=>
    rw[l] at h
    have:=pc (n:=0) qH h
    cases this
    exact A0 aS.length _ (zT l) rfl rfl f (by simpa[jI] using g)
 ·rename_i T x d
  cases f:Nat.blt d C.N with
  |false=>rw[f] at h;cases h
  |true=>
   rw[f] at h
   simp only[cond_true] at h
   split at h
   ·rename_i v r
    rw[qG] at h
    have:=pc (n:=0) qH h
    cases this
    exact ow aS.length _ r rfl rfl rfl f (by simpa[jI] using g)
   ·cases h
 ·rename_i T x y
  split at h
  ·rename_i b off p
   split at h
   ·rename_i n j
    split at h
    ·rename_i a k
     cases c:(a.toList.all (·.oneCell')&& Nat.beq a.toList.length n) with
     |false=>rw[c] at h;cases h
     |true=>
      rw[c] at h
      simp only[cond_true] at h
      rw[Bool.and_eq_true] at c
      obtain⟨q,cs,i,m,h3⟩:=n0 h
      cases h3
      have o:=g7 c.2
      have e:a.size=n:=by rw[←Array.length_toList];exact o
      exact rq _ p k i (iV j) e (Nat.ble_eq_true_of_le (by omega)) c.1 rfl (by rw[o] at g;exact g)
    ·cases h
   ·rename_i n j
    split at h
    ·rename_i v k
     cases c:(n3 v&& Nat.beq n 1) with
     |false=>rw[c] at h;cases h
     |true=>
      rw[c] at h
      simp only[cond_true] at h
      rw[Bool.and_eq_true] at c
      obtain⟨q,cs,i,m,h3⟩:=n0 h
      cases h3
      obtain rfl:=g7 c.2
      obtain⟨e1,e2⟩:=vm c.1
      refine rq (n:=1) _ p k i (iV j) (by rw[e1];rfl) (Nat.ble_eq_true_of_le m) (by rw[e1];simp[e2]) rfl ?_
      rw[e1];exact g
    ·cases h
   ·cases h
  ·cases h
 ·exact HT h g
theorem HV{c:Code}(h:qK rw c h2 bu aS=some iK)(g:jI C Q rw R X iK):VX C c (eb h2 Q) ⟨bu,aS,rw⟩ R X:=by
 unfold qK at h
 split at h
 ·cases h;exact kM g
 ·cases h;exact AI g
 ·cases h;exact AJ g
 ·cases h;exact AK g
 ·cases h;exact wm g
 ·split at h
  ·rename_i b;cases h;exact AL b g
  ·rename_i b;cases h;exact AM b g
  ·cases h
 ·rename_i ops;cases h;exact ld (l:=ops.toList) g
 ·rename_i body;cases h;exact fun ad a W d=>wp_loop_rounds 20 (by rw[rounds_succ];exact g ad a W d)
 ·cases h
theorem HW(h:qL eN h2 bu aS=some iK)(g:jI C Q rw R X iK):DX C (eb h2 Q) eN ⟨bu,aS,rw⟩ R X:=by
 unfold qL at h
 split at h
 ·split at h
  ·cases h;exact g
  ·rename_i b
   cases h
   cases eN<;>first|exact absurd rfl b|exact g
 ·split at h
  ·split at h
   ·rename_i c
    obtain rfl:=g7 c
    cases h;exact AP g
   ·rename_i c
    cases h;exact Hy c g
  ·rename_i b
   cases h
   cases eN<;>first|exact absurd rfl (b _)|exact g
 ·split at h
  ·cases h
  ·rename_i b
   cases h
   cases eN<;>first|exact absurd rfl b|exact g
 ·split at h
  ·split at h
   ·cases h;exact fun ad a W d=>(rounds_succ (P:=prog)).mpr (g ad a W d)
   ·cases h
  ·rename_i b
   cases h
   cases eN<;>first|exact absurd rfl b|exact g
 ·cases h
theorem HX{c c':Cg}(h:n4 C.N rw c=some c')(g:jI C Q rw R X c'):jI C Q rw R X c:=by
 unfold n4 at h
 split at h
 ·exact HV h g
 ·cases h;exact l0 g
 ·exact HU h g
 ·exact HW h g
theorem go_okX:∀{n:Nat} {c c':Cg},go C.N rw n c=some c'→jI C Q rw R X c'→jI C Q rw R X c
 |0,c,c',h,g=>by cases h;exact g
 |n+1,c,c',h,g=>by
  rw[go] at h
  split at h
  ·rename_i c1 a;exact HX a (go_okX h g)
  ·cases h
variable{k:List lJ}{sl:List (Nat×AV)}{bx:List Bx}{c':Cg}{c:Code}{ops:Array Oper}{l:List Oper}{e:Exit}
theorem aE(n:Nat)(h:go C.N rw n ⟨.V c,k,sl,bx⟩=some c')(g:jI C Q rw R X c'):VX C c (eb k Q) ⟨sl,bx,rw⟩ R X:=go_okX h g
theorem an(n:Nat)(h:go C.N rw n ⟨.L ops l,k,sl,bx⟩=some c')(g:jI C Q rw R X c'):bN C ops (eb k Q) l ⟨sl,bx,rw⟩ R X:=go_okX h g
theorem br(n:Nat)(h:go C.N rw n ⟨.D e,k,sl,bx⟩=some c')(g:jI C Q rw R X c'):DX C (eb k Q) e ⟨sl,bx,rw⟩ R X:=go_okX h g
theorem cG(n:Nat)(h:go C.N rw n ⟨.V c,[],sl,bx⟩=some c')(g:jI C Q rw R X c'):VX C c Q ⟨sl,bx,rw⟩ R X:=go_okX h g
end
def wA {ι:Type} (C:eF) (F:ι→St×World×Hx×Prop×Nat) (n:Nat) (a:Act) (W:World):Prop:=wo C (fun i=>(F i).1) (fun i=>(F i).2.1) (fun i=>(F i).2.2.1) (fun i=>(F i).2.2.2.1) (fun i=>(F i).2.2.2.2) n a W
def wB {ι:Type} (C:eF) (F:ι→St×World×Hx×Prop) (a:Act) (W:World):Prop:=∃i,(F i).2.2.2∧∃ad,ck C (F i).1 (F i).2.1 (F i).2.2.1 ad a W
section
variable{C:eF}{Q:Exit→Act→Wd→Prop}{S:St}{R:Wd}{X:Hx}{k:List lJ}{ι:Type}
theorem A8{body:Code}(F:ι→St×Wd×Hx×Prop×Nat)(i0:ι)(f:(F i0).2.1=R)(g:(F i0).2.2.1=X)(h:lL S C.nb (F i0).1=lM (F i0).1)(m:List Nat)(h3:kw m S.rows=(F i0).1.rows)(e:(F i0).2.2.2.1)
 (round:∀i,(F i).2.2.2.1→VX C body (eb (.fn (wA C F (F i).2.2.2.2)::k) Q) (F i).1 (F i).2.1 (F i).2.2.1):VX C (.loop body) (eb k Q) S R X:=by
 obtain⟨a,b,c,d⟩:=pd h
 exact AQ (fun i=>(F i).1) (fun i=>(F i).2.1) (fun i=>(F i).2.2.1) (fun i=>(F i).2.2.2.1) (fun i=>(F i).2.2.2.2) i0 e f g a b (pe h3) c d round
theorem dI{F:ι→St×Wd×Hx×Prop×Nat}{n:Nat}(i:ι)(e:(F i).2.1=R)(f:(F i).2.2.1=X)(h:lL S C.nb (F i).1=lM (F i).1)(m:List Nat)(h3:kw m S.rows=(F i).1.rows)(g:(F i).2.2.2.1)(j:(F i).2.2.2.2<n):
 DX C (eb (.fn (wA C F n)::k) Q) .normal S R X:=by
 obtain⟨a,b,c,d⟩:=pd h
 exact wq (J:=fun i=>(F i).1) (RR:=fun i=>(F i).2.1) (XX:=fun i=>(F i).2.2.1) (H:=fun i=>(F i).2.2.2.1) (μ:=fun i=>(F i).2.2.2.2) i g j e f a b (pe h3) c d
theorem tR{x y:Code}(F:ι→St×Wd×Hx×Prop)(j:VX C x (eb (.fn (wB C F)::k) Q) S R X)(l:∀i,(F i).2.2.2→VX C y (eb k Q) (F i).1 (F i).2.1 (F i).2.2.1):VX C (.seq x y) (eb k Q) S R X:=by
 intro ad a W g
 refine wp_seq (wp_mono (j ad a W g) ?_)
 intro e c m b
 cases e with
 |normal=>
  obtain⟨i,f,d,h⟩:=b
  exact l i f d c m h
 |_=>exact b
theorem ry{F:ι→St×Wd×Hx×Prop}(i:ι)(e:(F i).2.1=R)(f:(F i).2.2.1=X)(h:lL S C.nb (F i).1=lM (F i).1)(m:List Nat)(h3:kw m S.rows=(F i).1.rows)(g:(F i).2.2.2):
 DX C (eb (.fn (wB C F)::k) Q) .normal S R X:=by
 obtain⟨a,b,c,d⟩:=pd h
 exact fun ad l W j=>⟨i,g,ad,by rw[e,f];exact j.mV a b (pe h3) c d⟩
theorem eA{body:Code}(d:List Nat)(nb:Nat)(e:(qM S.bW d some,qN S.boxes nb some)=(some bu,some aS))(F:ι→St×Wd×Hx×Prop×Nat)(i0:ι)(b:(F i0).2.1=R)(c:(F i0).2.2.1=X)(h:lL S C.nb (iW bu aS (F i0).1)=lM (iW bu aS (F i0).1))(m:List Nat)(h3:kw m S.rows=(F i0).1.rows)(a:(F i0).2.2.2.1)
 (round:∀i,(F i).2.2.2.1→VX C body (eb (.fn (wA C (fun i=>(iW bu aS (F i).1,(F i).2)) (F i).2.2.2.2)::k) Q) (iW bu aS (F i).1) (F i).2.1 (F i).2.2.1):VX C (.loop body) (eb k Q) S R X:=
 A8 (fun i=>(iW bu aS (F i).1,(F i).2)) i0 b c h m h3 a round
theorem HY{x y:Code}(c:List Nat)(nb:Nat)(d:(qM S.bW c some,qN S.boxes nb some)=(some bu,some aS))(F:ι→St×Wd×Hx×Prop)(a:VX C x (eb (.fn (wB C (fun i=>(iW bu aS (F i).1,(F i).2)))::k) Q) S R X)(b:∀i,(F i).2.2.2→VX C y (eb k Q) (iW bu aS (F i).1) (F i).2.1 (F i).2.2.1):VX C (.seq x y) (eb k Q) S R X:=
 tR (fun i=>(iW bu aS (F i).1,(F i).2)) a b
end
section
variable{C:eF}{ops:Array Oper}{Q:Exit→Act→Wd→Prop}{sl:List (Nat×AV)}{bx:List Bx}{rw:List bU}{R:Wd}{X:Hx}{d:Nat}{ty:TypeId}{pos:String}{af:Array Edge}{K:Nat→Bool}{HH:Hp}{S0:St}{R0:Wd}{aq:Nat→Nat}{ay:Nat}{aN:Array Bool}{op:Op}{v:AV}{j t:Nat}{b b':Bool}
theorem xt(i:Nat)(g:ops[i]?=some ⟨some d,op,ty,pos,af,none⟩)(h:bO K ⟨sl,bx,rw⟩ R0 op ty v)(f:Nat.blt d C.N=true)(b:h1 ops aN i=true)(e:∀{c a v w},Q (.panic c) (Act.put a (some d) v) w→Q (.panic c) a w)
 (k:cQ C K HH S0 R0 aq ops Q ay (aN.setIfInBounds i true) ⟨(d,v)::sl,bx,rw⟩ R X):cQ C K HH S0 R0 aq ops Q (ay+1) aN ⟨sl,bx,rw⟩ R X:=by
 simp only[h1,Bool.and_eq_true] at b
 exact pR i g h f b.1.1 b.1.2 b.2 (fun c a v w=>e) k
theorem lh(i:Nat)(g:ops[i]?=some ⟨some d,op,ty,pos,af,none⟩)(h:kO K HH ⟨sl,bx,rw⟩ R0 op ty v)(f:Nat.blt d C.N=true)(b:h1 ops aN i=true)(e:∀{c a v w},Q (.panic c) (Act.put a (some d) v) w→Q (.panic c) a w)
 (k:cQ C K HH S0 R0 aq ops Q ay (aN.setIfInBounds i true) ⟨(d,v)::sl,bx,rw⟩ R X):cQ C K HH S0 R0 aq ops Q (ay+1) aN ⟨sl,bx,rw⟩ R X:=by
 simp only[h1,Bool.and_eq_true] at b
 exact HQ i g h f b.1.1 b.1.2 b.2 (fun c a v w=>e) k
theorem HZ(i:Nat)(l:ops[i]?=some ⟨some d,op,ty,pos,af,some (j,b)⟩)(m:(ops[j]?).bind (·.dst)=some t)(o:look sl t=some (.val (.bool b')))(g:(b'==b)=true)(n:bO K ⟨sl,bx,rw⟩ R0 op ty v)(h:Nat.blt d C.N=true)(e:h1 ops aN i=true)(f:∀{c a v w},Q (.panic c) (Act.put a (some d) v) w→Q (.panic c) a w)
 (k:cQ C K HH S0 R0 aq ops Q ay (aN.setIfInBounds i true) ⟨(d,v)::sl,bx,rw⟩ R X):cQ C K HH S0 R0 aq ops Q (ay+1) aN ⟨sl,bx,rw⟩ R X:=by
 simp only[h1,Bool.and_eq_true] at e
 exact HR i l m o g n h e.1.1 e.1.2 e.2 (fun c a v w=>f) k
theorem rz(i:Nat)(l:ops[i]?=some ⟨some d,op,ty,pos,af,some (j,b)⟩)(m:(ops[j]?).bind (·.dst)=some t)(o:look sl t=some (.val (.bool b')))(g:(b'==b)=true)(n:kO K HH ⟨sl,bx,rw⟩ R0 op ty v)(h:Nat.blt d C.N=true)(e:h1 ops aN i=true)(f:∀{c a v w},Q (.panic c) (Act.put a (some d) v) w→Q (.panic c) a w)
 (k:cQ C K HH S0 R0 aq ops Q ay (aN.setIfInBounds i true) ⟨(d,v)::sl,bx,rw⟩ R X):cQ C K HH S0 R0 aq ops Q (ay+1) aN ⟨sl,bx,rw⟩ R X:=by
 simp only[h1,Bool.and_eq_true] at e
 exact HS i l m o g n h e.1.1 e.1.2 e.2 (fun c a v w=>f) k
end
section
variable{C:eF}{ops:Array Oper}{Q:Exit→Act→Wd→Prop}{rw:List bU}{R:Wd}{X:Hx}{K:Nat→Bool}{HH:Hp}{S0:St}{R0:Wd}{aq:Nat→Nat}
theorem bm:∀(is:List Nat) {ay s:Nat} {aN A:Array Bool} {sl k9:List (Nat×AV)} {bx cm:List Bx},m2 ops C.N (fun _ k=>K k) (fun _=>K) rw is aN ay sl bx=some (s,A,k9,cm)→pi ops is aN=true→
 (∀{c a d v w},Q (.panic c) (Act.put a (some d) v) w→Q (.panic c) a w)→cQ C K HH S0 R0 aq ops Q s A ⟨k9,cm,rw⟩ R X→cQ C K HH S0 R0 aq ops Q ay aN ⟨sl,bx,rw⟩ R X
 |[],ay,s,aN,A,sl,k9,bx,cm,h,e,f,k=>by cases h;exact k
 |i::is,0,_,_,_,_,_,_,_,h,_,_,_=>by cases h
 |i::is,ay+1,s,aN,A,sl,k9,bx,cm,h,e,f,k=>by
  unfold m2 at h
  unfold pi at e
  cases E:Nat.blt i 1000 with
  |true=>
   rw[E] at h e
   simp only[Bool.and_eq_true] at h e
   cases l:ops[i]? with
   |none=>rw[l] at h;cases h
   |some o=>
    rw[l] at h
    obtain⟨dst,op,ty,pos,af,B⟩:=o
    cases dst with
    |none=>cases h
    |some d=>
     simp only at h
     cases g:Nat.blt d C.N with
     |false=>rw[g] at h;cases h
     |true=>
      rw[g] at h
      simp only[cond_true] at h
      cases B with
      |none=>
       simp only[gw] at h
       split at h
       ·rename_i v r
        exact xt i l (ph r) g e.1 f (bm is h e.2 f k)
       ·cases h
      |some S=>
       obtain⟨j,b⟩:=S
       simp only[gw] at h
       cases p:(ops[j]?).bind (·.dst) with
       |none=>rw[p] at h;cases h
       |some t=>
        rw[p] at h
        simp only at h
        cases q:look sl t with
        |none=>rw[q] at h;cases h
        |some u=>
         rw[q] at h
         have m:=e.1
         simp only[h1,Bool.and_eq_true] at m
         cases u with
         |ptr _ _=>cases h
         |val u=>
          cases u with
          |bool b'=>
           simp only at h
           cases y:(b'==b) with
           |true=>
            rw[y] at h
            simp only at h
            split at h
            ·rename_i v r
             exact HZ i l p q y (ph r) g e.1 f (bm is h e.2 f k)
            ·cases h
           |false=>
            rw[y] at h
            exact A4 i l p q y g m.1.1 m.1.2 m.2 (fun c a v w=>f) (bm is h e.2 f k)
          |tuple a=>
           simp only at h
           cases D:a.toList with
           |cons _ _=>rw[D] at h;cases h
           |nil=>
            rw[D] at h
            exact A4 i l p q rfl g m.1.1 m.1.2 m.2 (fun c a v w=>f) (bm is h e.2 f k)
          |_=>cases h
  |false=>
   rw[E] at h e
   simp only[Bool.and_eq_true] at h e
   have F:Region.ready .any ops aN=[i -1000]:=eq_of_beq e.1
   cases l:ops[i -1000]? with
   |none=>rw[l] at h;cases h
   |some o=>
    rw[l] at h
    obtain⟨dst,op,ty,pos,af,B⟩:=o
    simp only at h
    cases dst with
    |none=>
     simp only at h
     obtain⟨T,x,z,ty,pos,af,b,off,v,n,agg,U,cs,g1,g2,H,I,J,L,M,O,P,G⟩:=vu h
     exact bp [i -1000] F rfl (pS _ g1 g2 H I J L M O P rfl (bm is G e.2 f k) bt)
    |some d=>
     cases B with
     |some _=>cases h
     |none=>
      simp only at h
      cases g:Nat.blt d C.N with
      |false=>rw[g] at h;cases h
      |true=>
       rw[g] at h
       simp only[cond_true] at h
       split at h
       ·rename_i v r
        exact bp [i -1000] F rfl (A6 l (ph r) g (bm is h e.2 f k) bt)
       ·cases h
end
section
variable{C:eF}{ops:Array Oper}{Q:Exit→Act→Wd→Prop}{rest:List Oper}{sl:List (Nat×AV)}{bx:List Bx}{rw:List bU}{R:Wd}{X:Hx}{d:Nat}{ty:TypeId}{pos:String}{af:Array Edge}{t e size n:Nat}{parts:Array (Nat×Operand)}{vs cs:LV}
theorem fc(i:c7 t e size)(h:pj ⟨sl,bx,rw⟩ parts.toList n size C.N d=some (vs,cs))(k:∀g R',Sub R R'→(∀j u,cs[j]?=some u→R'.cell? ⟨g,j,none⟩=some u)→bN C ops Q rest ⟨(d,.val (.slice (some ⟨g,0,none⟩) n n))::sl,bx,⟨.slice (some ⟨g,0,none⟩) n n,n,cs,e,size⟩::rw⟩ R' X):bN C ops Q (⟨some d,.buildSlice t n parts,ty,pos,af,none⟩::rest) ⟨sl,bx,rw⟩ R X:=by
 obtain⟨a,b,c,c2,c3,f,c5⟩:=s7 h
 exact HP i a b c c2 c3 f c5 k
variable{b1:Hp}
theorem jn{ay i:Nat}(o:c7 t e size)(h:s8 ops i ⟨sl,bx,rw⟩ size C.N=some (t,n,d,vs,cs))(k:∀g R',Sub R R'→(∀j u,cs[j]?=some u→R'.cell? ⟨g,j,none⟩=some u)→cQ C dl b1 bI ah a0 ops Q ay (bQ.setIfInBounds i true) ⟨(d,.val (.slice (some ⟨g,0,none⟩) n n))::sl,bx,⟨.slice (some ⟨g,0,none⟩) n n,n,cs,e,size⟩::rw⟩ R' X)(m:dV C dl b1 bI ah a0 ops Q ay bQ ⟨sl,bx,rw⟩ R X aI):dV C dl b1 bI ah a0 ops Q ay bQ ⟨sl,bx,rw⟩ R X (i::aI):=by
 obtain⟨parts,ty,pos,af,l,h⟩:=ze h
 obtain⟨a,b,c,c2,c3,f,c5⟩:=s7 h
 exact jm l o a b c c2 c3 f c5 k m
end
section
variable{C:eF}{S:St}{R:Wd}{X:Hx}{fn:Func}{eP:ka}{r1:ResultVar}{v1:Vl}{ch:List PanicEntry}
theorem kS(a:fn.results=#[])(b:eP (.returned (.tuple #[])) [] R X):DX C (bodyPost prog fn (hU C eP)) .ret S R X:=Hw a (eH _) b
theorem dm(b:fn.results=#[r1])(a:ei S r1 v1)(c:eP (.returned v1) [] R X):DX C (bodyPost prog fn (hU C eP)) .ret S R X:=jG b a (eH _) c
theorem cL(a:eP (.panicked ch) [] R X):DX C (bodyPost prog fn (hU C eP)) (.panic ch) S R X:=AH (eH _) a
end
end Go.Proofs.YthnogncknmhgoaaGreat.Vm
