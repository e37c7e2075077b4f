/- Lemmas for ModelOrs (12 of 15). No conditions. -/
import Derived.RangeFuncKeeps
import Derived.RangeFuncLeaves
import Derived.WalkKit
import Derived.OwnWalkIn
import Derived.TacticsInMore
import Derived.LoopNIn
import Derived.LoopIn
import Derived.Test.YthnogncknmhgoaaGreatM10
set_option linter.all false
set_option maxRecDepth 100000
set_option maxHeartbeats 485000000
open Go.Proofs.Tryz
namespace Go.Proofs.YthnogncknmhgoaaGreat.Vm
open ChangeShapes WideShapes ChangeAt RowKit bq Data Mo
variable{cj:Act}{bQ:Array Bool}{ky:Array Edge}{dk:Array Oper}{c8:Array Operand}{fi:Array TypeId}{aY:BA}{ca hE:Bool}{dj:eF}{b3:Env}{aM:Ex}{eN:Exit}{dy:Exit→Act→Wd→Prop}{cI:cT}{bk:FuncId}{b1:Hp}{aJ:Hx}{bi:Int}{aj bj:LV}{ux:List (Int×Ty)}{jS:List (List Int×Ty)}{ct:List (List Int)}{bu:List (Nat×AV)}{aS:List Bx}{cC:List Int}{aI gA:List Nat}{ue:List PC}{b4:List Ty}{ak:Md}{uk:Mo.ei (Ty×List Nat×Nat)}{gh:Mo.ei Nat}{ie:Mo.ei Ty}{ae ao aX eO:Nat}{dl:Nat→Bool}{gI:Nat→M Unit}{a0:Nat→Nat}{aA:OA}{ga oN si:Option (List (List Int×Ty)×(Nat→Bool))}{l1:PC}{ap aW:PS}{dZ:ka}{aD:cU}{bI:St}{kx:String}{hs:tS}{bC:Ty}{cW wC:Type}{aH ci:TypeId}{az cM:Vl}{ah bR:Wd}
section
variable{C:eF}{ops:Array Oper}{Q:Exit→Act→Wd→Prop}{rest:List Oper}{S:St}{sl:List (Nat×AV)}{bx:List Bx}{rw:List bU}{R:Wd}{X:Hx}{d:Nat}{ty:TypeId}{pos:String}{af:Array Edge}{K:Nat→Bool}
theorem Lu(c:c7 ae ao aX)(b:Nat.blt d C.N=true)(k:∀g,bN C ops Q rest ⟨(d,.val (.slice (some ⟨g,0,none⟩) 0 0))::sl,bx,⟨.slice (some ⟨g,0,none⟩) 0 0,0,[],ao,aX⟩::rw⟩ R X):
 bN C ops Q (⟨some d,.buildSlice ae 0 #[],ty,pos,af,none⟩::rest) ⟨sl,bx,rw⟩ R X:=by
 refine pL (S:=⟨sl,bx,rw⟩) (fun e a=>Bv (S:=⟨sl,bx,rw⟩) c (a▸dn b)) ?_
 rintro S' R' ⟨g,rfl,rfl⟩ _
 exact k g
def xL (P:Program) (t n:Nat):Bool:=match P.underlying t with|some (.array m e)=>m==n&&(match P.info? e with|some i=>i.size==1|none=>false)|_=>false
theorem mK{x y:Operand}{t n k o i:Nat}(d:ev S x=some (.ptr k o))(p:ev S y=some (.val (zI (i:Int))))(b:xL prog t n=true)(l:i<n):bO K S R (.indexAddr t x y) ty (.ptr k (o+i)):=by
 refine⟨fun s u e=> ?_,fun ad a W dst pos af q h r=> ?_⟩
 ·cases e
  cases x with
  |tmp t=>exact .inr ⟨t,.inr ⟨o,d⟩⟩
  |_=>cases d
 ·have f:=h.eval d
  have g:=h.eval p
  simp only[AV.den] at f g
  unfold xL at b
  cases hu:prog.underlying t with
  |none=>rw[hu] at b;cases b
  |some D=>
   rw[hu] at b
   cases D with
   |array m e=>
    simp only[Bool.and_eq_true,beq_iff_eq] at b
    obtain⟨rfl,h3⟩:=b
    cases c:prog.info? e with
    |none=>rw[c] at h3;cases h3
    |some inf=>
     rw[c] at h3
     have j:inf.size=1:=by simpa using h3
     simp[execOp,f,g,Instr.indexAt,asIntOf,run_underlying hu,Instr.sureAddr,l,sizeOf,typeInfo,c,j,AV.den,Addr.add]
   |_=>cases b
end
theorem mL:xL prog 141 6=true:=by kernel_rfl
def km (R:World) (p:List Int) (c:List Value):Prop:=∃v,c=[v]∧a6 dU 1 R v p
theorem jv:eR km 1:=by
 refine⟨fun h c=> ?_,fun h=> ?_,fun h u hu=> ?_⟩
 ·obtain⟨v,a,b⟩:=h;exact⟨v,a,a6.sub cP b c⟩
 ·obtain⟨v,rfl,-⟩:=h;rfl
 ·obtain⟨v,rfl,A,cap,rfl,-⟩:=h
  simp at hu
  subst hu
  rfl
theorem ig:eR fw 5:=by
 refine⟨fun h b=>fw.sub h b,fun h=> ?_,fun h u hu=> ?_⟩
 ·obtain⟨A,cap,a,rfl,-,-,h⟩:=h
  rw[List.length_cons,a2.len h]
 ·obtain⟨A,cap,a,rfl,-,-,h⟩:=h
  rcases dX.1 hu with rfl|hu
  ·rfl
  ·exact a2.one h u hu
theorem Lv{rw:List bU}(b size:Nat)(k:DX dj dy eN ⟨bu,aS,⟨zS,0,[],b,size⟩::rw⟩ ah aJ):DX dj dy eN ⟨bu,aS,rw⟩ ah aJ:=fun ad a W h=>k ad a W (ck.lI (S:=⟨bu,aS,rw⟩) h b size)
abbrev Pr:=List Int→Mo.ei Ty→Prop
def kids (p:List Int) (n:Nat):List (List Int):=(List.range n).map fun k:Nat=>p++ [(k:Int)]
def hx (m:Nat→Bool) (w:Nat):Nat→Bool:=fun k=>if k=w then true else m k
inductive e9 (P:Pr):List (List Int)→Nat→List (List Int×Ty)→(Nat→Bool)→Option (List (List Int×Ty)×(Nat→Bool))→Prop
 |fin {k acc met}:e9 P [] k acc met (some (acc,met))
 |kY {p st acc met}:e9 P (p::st) 4096 acc met none
 |hn {p st k acc met t s f}:k≠4096→P p (.ok (t,s))→e9 P st (k+1) (acc++ [(p,t)]) (hx met 0) f→e9 P (p::st) k acc met f
 |more {p st k acc met t f}:k≠4096→P p (.error t)→t.1=1→e9 P (kids p t.2.toNat++st) (k+1) acc (hx met 1) f→e9 P (p::st) k acc met f
 |stop {p st k acc met t f}:k≠4096→P p (.error t)→t.1≠1→e9 P st (k+1) acc (hx met t.1) f→e9 P (p::st) k acc met f
def gj (met:Nat→Bool):Int:=if met 4 then 7 else if met 5 then 6 else if met 3 then 10 else 0
def r7 (R:World) (f:Option (List (List Int×Ty)×(Nat→Bool))) (v:Value):Prop:=match f with
 |none=>v= .tuple #[.slice none 0 0,.slice none 0 0,.int .i64 6]
 |some (acc,met)=>if gj met=0 then∃a b,v= .tuple #[a,b,.int .i64 0]∧a6 km 1 R a (acc.map Prod.fst)∧a6 fw 5 R b (acc.map Prod.snd)
  else v= .tuple #[.slice none 0 0,.slice none 0 0,.int .i64 (gj met)]
def lr (R:World) (a:List Value) (L:List (List Int)):Prop:=∀i (h:i<L.length),∃v,a[i]?=some v∧a6 dU 1 R v L[i]
theorem lr.sub{R R':Wd}{a:LV}{L:List (List Int)}(h:lr R a L)(e:Sub R R'):lr R' a L:=fun i d=>by
 obtain⟨v,b,c⟩:=h i d
 exact⟨v,b,a6.sub cP c e⟩
theorem lr.pop{p:List Int}(h:lr ah aj (ct++ [p])):lr ah aj ct:=fun i c=>by
 obtain⟨v,b,a⟩:=h i (by simp;omega)
 rw[List.getElem_append_left c] at a
 exact⟨v,b,a⟩
theorem lr.push{p:List Int}(h:lr ah aj ct)(l:a6 dU 1 ah az p)(k:ct.length≤aj.length)(f:bj.take (ct.length+1)=aj.take ct.length++ [az]):lr ah bj (ct++ [p]):=fun i b=>by
 have m:∀j,j<ct.length+1→bj[j]?=(aj.take ct.length++ [az])[j]?:=fun j g=>by
  rw[←f,List.getElem?_take_of_lt g]
 simp only[List.length_append,List.length_singleton] at b
 rw[m i b]
 have a:(aj.take ct.length).length=ct.length:=by rw[List.length_take];exact Nat.min_eq_left k
 by_cases e:i<ct.length
 ·obtain⟨u,c,d⟩:=h i e
  refine⟨u,?_,?_⟩
  ·rw[List.getElem?_append_left (by rw[a];exact e),List.getElem?_take_of_lt e]
   exact c
  ·rw[List.getElem_append_left e]
   exact d
 ·have e2:i=ct.length:=by omega
  subst e2
  refine⟨az,?_,?_⟩
  ·rw[List.getElem?_append_right (by rw[a];exact Nat.le_refl _),a]
   simp
  ·simpa using l
theorem OL(A:Hp):dH bH A=A:=rfl
theorem r8:c7 39 91 5:=by unfold c7;kernel_rfl
theorem kn:c7 47 51 1:=by unfold c7;kernel_rfl
theorem r9:dO 39 91 5 80:=by unfold dO;kernel_rfl
theorem sb:dO 47 51 1 24:=by unfold dO;kernel_rfl
theorem Lw:aF 54:=by unfold aF;kernel_rfl
theorem ck.drop(h:ck dj bI ah aJ a0 cj bR):ck dj bI ah ⟨dj.K0,bH⟩ a0 cj bR:=by
 have d:∀b,dj.K0 b≠none→aJ.K b≠none:=fun b a=>by
  cases e:dj.K0 b with
  |none=>exact absurd e a
  |some o=>rw[h.sub b o e];simp
 have c:∀b,(dj.K0 b≠none∨bH b≠none)→aJ.K b≠none∨aJ.H b≠none:=fun b a=>by
  rcases a with a|a
  ·exact .inl (d b a)
  ·exact absurd rfl a
 exact⟨h.rel,⟨fun b ob a=>h.own.k b ob (h.sub b ob a),fun b ob a=>(by cases a),fun b _=>rfl,fun b a=>h.own.box b (c b a),fun b a=>h.own.row b (c b a),fun b a=>absurd rfl a⟩,fun b a=>absurd rfl a,fun b ob a _=> .inl a,fun b ob a=>a⟩
theorem sc(k:DX dj dy eN bI ah ⟨dj.K0,bH⟩):DX dj dy eN bI ah aJ:=fun ad a W h=>k ad a W h.drop
theorem Ly(g i c size:Nat):sliced (some ⟨g,0,none⟩) 0 i c size= .slice (some ⟨g,0,none⟩) i c:=by
 unfold sliced
 simp[Addr.add]
def lu (p:List Int) (i n:Nat):List (List Int):=(((List.range n).drop i).map fun k:Nat=>p++ [(k:Int)]).reverse
theorem LA(p:List Int)(n:Nat):lu p n n=[]:=by unfold lu;simp
theorem LB(p:List Int)(n:Nat):(lu p 0 n).reverse=kids p n:=by unfold lu kids;simp
theorem LC{p:List Int}{i n:Nat}(h:i<n):lu p i n=lu p (i+1) n++ [p++ [(i:Int)]]:=by
 unfold lu
 have:(List.range n).drop i=i::(List.range n).drop (i+1):=by
  rw[List.drop_eq_getElem_cons (by simpa using h)]
  simp
 rw[this,List.map_cons,List.reverse_cons]
theorem LD{L:List cW}(h:0<L.length):∃a p,L=a++ [p]:=by
 rcases List.eq_nil_or_concat L with rfl|⟨a,p,e⟩
 ·cases h
 ·exact⟨a,p,by simpa using e⟩
theorem LF(a:1≤ae)(b:ae≤5):ae=1∨ae=2∨ae=3∨ae=4∨ae=5:=by omega
theorem CX{rw:List bU}(ft:List bU)(h:ft.Perm rw)(k:DX dj dy eN ⟨bu,aS,ft⟩ ah aJ):DX dj dy eN ⟨bu,aS,rw⟩ ah aJ:=fun ad a W b=>k ad a W (ck.perm (S:=⟨bu,aS,rw⟩) b h)
theorem LG{l:List Int}(h:a6 dU 1 ah az l):cJ 55 [az] [] ah aJ (fun E ts R' X'=>X'=aJ∧∃A cap xs,E= .returned (.slice A l.length cap)∧ts=[⟨.slice A l.length cap,l.length,xs,3,1⟩]∧dL dU 1 R' A l cap xs):=by
 obtain⟨A,cap,rfl,hh,n⟩:=h
 refine eh func55 rfl ntmps55 rfl fun w G ad=> ?_
 cases A with
 |none=>
  refine cG 9 rfl (xp (pY (b:=true) rfl rfl tv rfl) rfl (an 10 rfl ?_))
  have m:l=[]:=mR (by have:=hh.1;have:=hh.2.2.2 rfl;omega)
  subst m
  refine Lv 3 1 ?_
  exact jG results55 (aT rfl) (List.Sublist.refl _) ⟨rfl,none,0,[],rfl,rfl,dL.nil⟩
 |some a=>
  obtain⟨xs,p,c⟩:=n
  refine cG 9 rfl (xp (pY (b:=false) rfl rfl tv rfl) rfl (an 7 rfl ?_))
  refine Lu gE rfl ?_
  intro g
  refine an 1 rfl ?_
  refine jH (news:=xs) om rfl rfl p (fun h=>by cases h) (aL.one cP c) (by have:=hh.2.2.1;omega) rfl rfl ?_
  intro d e q o f i j k
  refine an 4 rfl ?_
  rw[Nat.zero_add] at*
  exact jG results55 (aT rfl) (List.Sublist.refl _) ⟨rfl,d,e,_,rfl,rfl,bg cP o c,by simpa using k,f,i,j⟩
theorem CY(bV:qa)(bC:Md.Cs ah ak aj)(cF:∀r∈ak.rs,r.eo≤100000)(cE:ak.rs.length≤1000)(bu:Ex.Cs ah aM bj)(cC:aM.k≠8)(cO:aM.size≤100000)(n:Int)(cells:List PC)(cS:Gh (hd ak) cells.length gI)(cT:∀c,aR (gI c)):
 cJ 22 [.agg aj.toArray,.agg bj.toArray,zI n] [] ah ⟨bH,bH⟩ (fun E ts R' X'=>ts=[]∧X'=⟨bH,bH⟩∧∃f v,E= .returned v∧e9 (fun p r=>aG (fun g=>hv (aB (hd ak) g) gI aM) ⟨cells,iC n,p⟩ r) [[]] 0 [] (fun _=>false) f∧r7 R' f v):=by
 have cN:∀s,(hd ak s).length≤1000:=fun s=>dS (List.length_filter_le _ _) cE
 generalize hP:(fun(p:List Int) (r:Mo.ei Ty)=>aG (fun g=>hv (aB (hd ak) g) gI aM) ⟨cells,iC n,p⟩ r)=P
 have aK:∀p r,aG (fun g=>hv (aB (hd ak) g) gI aM) ⟨cells,iC n,p⟩ r→P p r:=fun p r h=>by rw[←hP];exact h
 have cD:=bC
 obtain⟨cV,c8,cX,da,rfl,_⟩:=bC
 have cu:=bu
 obtain⟨cW,c9,rfl,_⟩:=fo bu
 refine eh func22 rfl ntmps22 rfl fun w G ad=> ?_
 refine cG 26 rfl ?_
 refine Ls (vs:=[zS]) (cs:=[zS]) kn rfl rfl rfl rfl rfl rfl rfl ?_
 rintro g c5 _ _ rfl _
 refine an 10 rfl ?_
 refine ul 51 1 ?_
 refine ul 91 5 ?_
 refine gi _ (List.Perm.swap _ _ _) ?_
 refine eA (ι:=Nat×(List (List Int))×(List (List Int×Ty))×(Nat→Bool)×Wd×Nat×Nat×LV×OA×Nat×LV×OA×Nat×LV) [2,3,4,11] 2 rfl (fun(k,L,acc,met,Z,g,cap,C,H,J,A,F,I,B)=>(⟨[(9,.val (.slice H (acc.map Prod.fst).length J)),(10,.val (.slice F (acc.map Prod.snd).length I)),(12,.val (.slice (some ⟨g,0,none⟩) L.length cap)),(13,.val (zI (k:Nat)))],[(141,[.bool (met 0),.bool (met 1),.bool (met 2),.bool (met 3),.bool (met 4),.bool (met 5)])],[⟨.slice H (acc.map Prod.fst).length J,(acc.map Prod.fst).length,A,51,1⟩,⟨.slice F (acc.map Prod.snd).length I,(acc.map Prod.snd).length,B,91,5⟩]⟩,Z,⟨bH,aQ bH g (.cells (C).toArray 51 (0,0))⟩,k≤4096∧Sub ah Z∧C.length=cap∧L.length≤cap∧cap≤maxLen∧L.length≤1+1000*k∧lr Z C L∧dL km 1 Z H (acc.map Prod.fst) J A∧dL fw 5 Z F (acc.map Prod.snd) I B∧acc.length≤k∧(∀q∈L,q.length≤k)∧∀f,e9 P L.reverse k acc met f→e9 P [[]] 0 [] (fun _=>false) f,4097 -k)) (0,[[]],[],fun _=>false,ah,g,1,[zS],none,0,[],none,0,[]) rfl rfl rfl [1,1,1,1,1,1] rfl ?_ ?_
 exact⟨Nat.zero_le _,sR,rfl,Nat.le_refl _,by decide,by decide,fun i bx=>⟨zS,by(have ar:i=0:=by simpa using bx);subst ar;rfl,by(have ar:i=0:=by simpa using bx);subst ar;exact a6.nil⟩,dL.nil,dL.nil,Nat.le_refl _,fun q e=>by(rcases List.mem_singleton.1 e with rfl);exact Nat.le_refl _,fun f O=>O⟩
 rintro⟨k,L,acc,met,Z,g,cap,C,H,J,A,F,I,B⟩ ⟨dt,ax,aP,dk,aS,dm,bG,R,S,dp,au,ae⟩
 show VX _ _ _ ⟨_,_,_⟩ Z ⟨bH,aQ bH g (.cells (C).toArray 51 (0,0))⟩
 have dr:(acc.map Prod.fst).length=acc.length:=List.length_map _
 have dq:(acc.map Prod.snd).length=acc.length:=List.length_map _
 refine aE 8 rfl ?_
 cases aN:(decide (((L.length:Nat):Int)>0))
 have bW:L=[]:=mR (by have:=of_decide_eq_false aN;omega)
 subst bW
 refine aE 10 rfl (xp (mK (i:=4) rfl rfl mL (by decide)) rfl (an 4 rfl ?_))
 cases bk:(met 4)
 have aA:¬met 4=true:=by rw[bk];decide
 refine aE 3 rfl (xp (mK (i:=5) rfl rfl mL (by decide)) rfl (an 4 rfl ?_))
 cases bl:(met 5)
 have aU:¬met 5=true:=by rw[bl];decide
 refine aE 3 rfl (xp (mK (i:=3) rfl rfl mL (by decide)) rfl (an 4 rfl ?_))
 cases bn:(met 3)
 have a0:¬met 3=true:=by rw[bn];decide
 refine aE 14 rfl ?_
 refine sc ?_
 have ap:gj met=0:=by unfold gj;rw[if_neg aA,if_neg aU,if_neg a0]
 exact kk results22 (aT rfl) (aT rfl) (aT rfl) (List.nil_sublist _) ⟨rfl,rfl,some (acc,met),_,rfl,ae _ .fin,by unfold r7;simp only;rw[if_pos ap];exact⟨_,_,rfl,⟨H,J,rfl,⟨R.2.2.1,R.2.2.2.1,by omega,R.2.2.2.2⟩,cz R.2.1 R.1⟩,⟨F,I,rfl,⟨S.2.2.1,S.2.2.2.1,by omega,S.2.2.2.2⟩,cz S.2.1 S.1⟩⟩⟩
 have a0:met 3=true:=bn
 refine aE 11 rfl ?_
 refine sc ?_
 have ap:gj met=10:=by unfold gj;rw[if_neg aA,if_neg aU,if_pos a0]
 refine ww 3 ?_
 rotate_left
 have aU:met 5=true:=bl
 refine aE 11 rfl ?_
 refine sc ?_
 have ap:gj met=6:=by unfold gj;rw[if_neg aA,if_pos aU]
 refine ww 3 ?_
 rotate_left
 have aA:met 4=true:=bk
 refine aE 11 rfl ?_
 refine sc ?_
 have ap:gj met=7:=by unfold gj;rw[if_pos aA]
 refine ww 3 ?_
 rotate_left
 obtain⟨y,p,rfl⟩:=LD (L:=L) (by have:=of_decide_eq_true aN;omega)
 have dn:(y++ [p]).length=y.length+1:=by simp
 have aV:=bG.pop
 obtain⟨vp,bD,m,o,rfl,Q,T⟩:=bG y.length (by omega)
 rw[List.getElem_concat_length rfl] at Q T bD
 refine aE 12 rfl ?_
 cases az:(((k:Nat):Int)==4096)
 have bB:k≠4096:=by have:=az;simp at this;omega
 refine aE 8 rfl (xp (h0 (c:=((y.length:Nat):Int)) rfl rfl (by omega) (by omega) (by omega)) rfl ?_)
 have bY:y.length<(y++ [p]).length:=by omega
 refine xp (a3 (i:=y.length) rfl rfl rfl bY kn) rfl (bz (bw (cs:=C) rfl (.inr (b0 _ _ _)) kT (by rw[Nat.zero_add,Nat.mul_one];exact bD)) rfl (an 8 rfl (xp (h0 (c:=((y.length:Nat):Int)) rfl rfl (by omega) (by omega) (by omega)) rfl (xp (pA (i:=y.length) rfl rfl (by omega) kn (Ly g y.length cap 1)) rfl (an 9 rfl ?_)))))
 refine kP (Hc:=bH) (ts:=[]) (Lp bV (CT cD ax) cF (cu.sub ax) cC cO ⟨m,o,rfl,Q,T⟩ n cells cS) Lw rfl rfl rfl (fun b cr=>absurd rfl cr) rfl ?_ ?_
 rintro dz a5 ag c2 a - -⟨rfl,rfl,v,aM,r,av,e⟩
 cases aM
 simp only[OL]
 rcases r with t|⟨t,b6⟩
 have e:=e
 obtain⟨cQ,cR,dv,dw⟩:=Lt (d:=0) cN cT av
 replace e:_=_:=e
 subst e
 obtain⟨M,dx⟩:∃M:Nat,t.2=(M:Int):=⟨t.2.toNat,by omega⟩
 rcases LF cQ cR with K|K|K|K|K
 rw[K]
 refine an 13 rfl (xp (mK (i:=1) rfl rfl mL (by decide)) rfl (an 26 rfl (xp (h0 (c:=((M:Nat):Int) -1) rfl rfl (by omega) (by omega) (by omega)) rfl (an 4 rfl ?_))))
 refine eA (ι:=Nat×(List (List Int))×Wd×Nat×Nat×LV) [2,3,4,9,10,11,13,14] 4 rfl (fun(i,N,al,ay,am,ac)=>(⟨[(12,.val (.slice (some ⟨ay,0,none⟩) N.length am)),(18,.val (zI (((i:Nat):Int) -1)))],[],[⟨.slice H (acc.map Prod.fst).length J,(acc.map Prod.fst).length,A,51,1⟩,⟨.slice F (acc.map Prod.snd).length I,(acc.map Prod.snd).length,B,91,5⟩]⟩,al,⟨bH,aQ bH ay (.cells (ac).toArray 51 (0,0))⟩,i≤M∧Sub ag al∧ac.length=am∧N.length≤am∧am≤maxLen∧lr al ac N∧N=y++lu p i M∧N.length+i=y.length+M,i)) (M,y,ag,g,cap,C) rfl rfl rfl [1,1,1,1,1,1] rfl ?_ ?_
 exact⟨Nat.le_refl _,sR,aP,by omega,aS,aV.sub a,by rw[LA];simp,rfl⟩
 rintro⟨i,N,al,ay,am,ac⟩ ⟨ds,aF,bo,bX,bq,bI,aJ,dl⟩
 show VX _ _ _ ⟨_,_,_⟩ al ⟨bH,aQ bH ay (.cells (ac).toArray 51 (0,0))⟩
 refine aE 7 rfl ?_
 cases aO:(decide ((((i:Nat):Int) -1)≥0))
 have ar:i=0:=by have:=of_decide_eq_false aO;omega
 refine aE 10 rfl (xp (bA rfl rfl (by omega)) rfl (an 2 rfl ?_))
 refine dI (k+1,N,acc,hx met 1,al,ay,am,ac,H,J,A,F,I,B) rfl rfl rfl [1,1] rfl ?_ ?_
 dsimp only
 refine⟨by omega,ax.trans (a.trans aF),bo,by omega,bq,?_,bI,R.sub jv (a.trans aF),S.sub ig (a.trans aF),by omega,?_,fun f O=>ae f ?_⟩
 rw[aJ,ar,List.length_append]
 have:(lu p 0 M).length=M:=by unfold lu;simp
 omega
 intro q e
 rw[aJ] at e
 rcases fM.1 e with e|e
 exact Nat.le_succ_of_le (au q (lz _ e))
 unfold lu at e
 simp only[List.mem_reverse,List.mem_map] at e
 obtain⟨j,-,rfl⟩:=e
 have:=au p (by simp)
 simp only[List.length_append,List.length_singleton]
 omega
 rw[List.reverse_append]
 rw[aJ,ar,List.reverse_append,LB] at O
 exact .more (by omega) (aK _ _ av) K (by rw[show t.2.toNat=M from by omega];exact O)
 show 4097 -(k+1)<4097 -k;omega
 obtain⟨i,rfl⟩:∃j,i=j+1:=⟨i -1,by have:=of_decide_eq_true aO;omega⟩
 refine aE 8 rfl ?_
 refine dP (LG (l:=p) (a6.sub cP ⟨m,o,rfl,Q,T⟩ (a.trans aF))) Br rfl rfl ?_ ?_
 rintro dA a5 c1 c7 bF -⟨aY,bJ,bT,cU,aM,rfl,cI⟩
 cases aM
 replace aY:=aY.symm
 subst aY
 show bN _ _ _ _ ⟨_,_,[⟨.slice bJ p.length bT,p.length,cU,3,1⟩,⟨.slice H (acc.map Prod.fst).length J,(acc.map Prod.fst).length,A,51,1⟩,⟨.slice F (acc.map Prod.snd).length I,(acc.map Prod.snd).length,B,91,5⟩]⟩ _ _
 refine an 1 rfl ?_
 refine fc gE rfl ?_
 intro dg cZ a4 cy
 refine lZ _ (List.Perm.swap _ _ _) ?_
 refine jH (news:=[zI ((((i+1:Nat):Int)) -1)]) om rfl rfl (cd rfl cy) (fun h=>by cases h) (fun u hu=>by simp at hu;subst hu;rfl) (by have:=Q.2.2.1;omega) rfl rfl ?_
 intro aW aX bK a1 bZ b1 b2 b3
 rw[show p.length+1=(p++ [((i:Nat):Int)]).length by simp]
 have dy:=au p (by simp)
 have cH:a6 dU 1 bK (.slice aW (p++ [((i:Nat):Int)]).length aX) (p++ [((i:Nat):Int)]):=⟨aW,aX,rfl,⟨by simpa using bZ,b1,by rw[List.length_append,List.length_singleton];omega,b2⟩,cz (by simpa using b3) (aL.append (aL.sub cP (Sub.trans a4 a1) cI.1) (aL.single rfl))⟩
 refine fc kn rfl ?_
 intro dd bL a2 cv
 refine Lr (mJ:=ac) (news:=[.slice aW (p++ [((i:Nat):Int)]).length aX]) sb rfl rfl (b0 _ _ _) (by rw[bo,Nat.mul_one]) bX bq (cd rfl cv) (fun h=>by cases h) (fun u hu=>by simp at hu;subst hu;rfl) (by omega) (by decide) rfl rfl ?_
 rintro g2 bU bS c3 -_ aN aO az aZ rfl
 rw[j8 bH _ rfl]
 rw[Nat.mul_one] at az aZ
 rw[Nat.mul_one] at aZ
 rw[show N.length+1=(N++ [p++ [((i:Nat):Int)]]).length by simp]
 refine an 6 rfl (xp (h0 (c:=((i:Nat):Int) -1) rfl rfl (by omega) (by omega) (by omega)) rfl (an 2 rfl ?_))
 refine dI (i,N++ [p++ [((i:Nat):Int)]],bL,g2,bS,bU) rfl rfl rfl [0,0,0,1,1] rfl ?_ ?_
 dsimp only
 refine⟨by omega,aF.trans (ai (ai (ai bF a4) a1) a2),az,by rw[List.length_append,List.length_singleton];exact aN,aO,(bI.sub (ai (ai (ai bF a4) a1) a2)).push (a6.sub cP cH a2) (by omega) aZ,by rw[aJ,List.append_assoc,←LC (p:=p) (i:=i) (n:=M) (by omega)],by rw[List.length_append,List.length_singleton];omega⟩
 show i<i+1;omega
 rintro ch a5 bQ bR _ _ ⟨_,_,_,_,aM,_⟩
 cases aM
 rw[K]
 refine an 13 rfl (xp (mK (i:=2) rfl rfl mL (by decide)) rfl (an 29 rfl (xp (bA rfl rfl (by omega)) rfl (an 2 rfl ?_))))
 refine dI (k+1,y,acc,hx met 2,ag,g,cap,C,H,J,A,F,I,B) rfl rfl rfl [1,1] rfl ?_ ?_
 refine ww 2 ?_
 rotate_left
 show 4097 -(k+1)<4097 -k;omega
 rw[K]
 refine an 13 rfl (xp (mK (i:=3) rfl rfl mL (by decide)) rfl (an 29 rfl (xp (bA rfl rfl (by omega)) rfl (an 2 rfl ?_))))
 refine dI (k+1,y,acc,hx met 3,ag,g,cap,C,H,J,A,F,I,B) rfl rfl rfl [1,1] rfl ?_ ?_
 refine ww 2 ?_
 rotate_left
 show 4097 -(k+1)<4097 -k;omega
 rw[K]
 refine an 13 rfl (xp (mK (i:=4) rfl rfl mL (by decide)) rfl (an 29 rfl (xp (bA rfl rfl (by omega)) rfl (an 2 rfl ?_))))
 refine dI (k+1,y,acc,hx met 4,ag,g,cap,C,H,J,A,F,I,B) rfl rfl rfl [1,1] rfl ?_ ?_
 refine ww 2 ?_
 rotate_left
 show 4097 -(k+1)<4097 -k;omega
 rw[K]
 refine an 13 rfl (xp (mK (i:=5) rfl rfl mL (by decide)) rfl (an 29 rfl (xp (bA rfl rfl (by omega)) rfl (an 2 rfl ?_))))
 refine dI (k+1,y,acc,hx met 5,ag,g,cap,C,H,J,A,F,I,B) rfl rfl rfl [1,1] rfl ?_ ?_
 refine ww 2 ?_
 rotate_left
 show 4097 -(k+1)<4097 -k;omega
 obtain⟨db,bs,rfl⟩:=e
 have ao:=bs
 obtain⟨X,aa,dc,rfl,_,_,ct⟩:=bs
 obtain⟨U,W,V,ys⟩:=t
 obtain⟨Y,ab,rfl,_⟩:=ct
 generalize ht:(.mk U W V ys:Ty)=t at ao av
 refine an 13 rfl (xp (mK (i:=0) rfl rfl mL (by decide)) rfl (an 16 rfl ?_))
 refine dM mixed (fun k=>k==3) bH (fun _ _ h=>by cases h) fun aq=> ?_
 refine bm [0,1,4,5] rfl (by kernel_rfl) id (bp [2,6] (by kernel_rfl) rfl ?_)
 refine jn kn rfl ?_ ?_
 intro de ba x bv
 refine nA ?_
 refine bp [3,6] (by kernel_rfl) rfl ?_
 refine kR (news:=[.slice m p.length o]) rfl sb rfl rfl (cd rfl bv) (fun h=>by cases h) (fun u hu=>jv.one (show km ba p [.slice m p.length o] from⟨_,rfl,a6.sub cP ⟨m,o,rfl,Q,T⟩ (ai a x)⟩) u hu) (by omega) rfl rfl ?_ ?_
 intro a7 bf bM af b4 b5 b7 b8
 rw[show (acc.map Prod.fst).length+1=((acc++ [(p,t)]).map Prod.fst).length by simp]
 have cK:dL km 1 bM a7 ((acc++ [(p,t)]).map Prod.fst) bf (A++ [.slice m p.length o]):=⟨by rw[List.map_append];exact c6 (bg jv (ai (ai a x) af) R.1) (c4 (jv.sub (show km ba p [.slice m p.length o] from⟨_,rfl,a6.sub cP ⟨m,o,rfl,Q,T⟩ (ai a x)⟩) af)),by simpa using b8,by simpa using b4,b5,b7⟩
 refine bp [6] (by kernel_rfl) rfl ?_
 refine jn r8 rfl ?_ bt
 intro df cY aw cw
 refine p6 _ ((List.Perm.swap _ _ _).trans (List.Perm.cons _ ((List.Perm.swap _ _ _).trans (List.Perm.cons _ (List.Perm.swap _ _ _))))) ?_
 refine bp [7] (by kernel_rfl) rfl ?_
 refine kR (news:=[.slice X 0 aa,zI U,.string W,zI V,.slice Y ys.length ab]) rfl r9 rfl rfl (cd rfl cw) (fun h=>by cases h) (fun u hu=>ig.one (fw.sub ao (ai (ai x af) aw)) u hu) (by omega) rfl rfl ?_ bt
 intro a8 bh bb aC b9 ca cb cc
 rw[show (acc.map Prod.snd).length+1=((acc++ [(p,t)]).map Prod.snd).length by simp]
 have cL:dL fw 5 bb a8 ((acc++ [(p,t)]).map Prod.snd) bh (B++ [.slice X 0 aa,zI U,.string W,zI V,.slice Y ys.length ab]):=⟨by rw[List.map_append];exact c6 (bg ig (ai (ai (ai (ai a x) af) aw) aC) S.1) (c4 (ig.sub (fw.sub ao (ai (ai x af) aw)) aC)),by simpa using cc,by simpa using b9,ca,cb⟩
 refine bm [8,9] rfl (by kernel_rfl) id (du (by kernel_rfl) (br 5 rfl (xp (bA rfl rfl (by omega)) rfl (an 2 rfl ?_))))
 refine CX _ ((List.Perm.swap _ _ _).trans (List.Perm.cons _ (List.Perm.swap _ _ _))) ?_
 refine dI (k+1,y,acc++ [(p,t)],hx met 0,bb,g,cap,C,a7,bf,A++ [.slice m p.length o],a8,bh,B++ [.slice X 0 aa,zI U,.string W,zI V,.slice Y ys.length ab]) rfl rfl rfl [1,1] rfl ?_ ?_
 dsimp only
 refine⟨by omega,ax.trans (ai (ai (ai (ai a x) af) aw) aC),aP,by omega,aS,by omega,(aV.sub (ai (ai (ai (ai a x) af) aw) aC)),(cK.sub jv (ai aw aC)),(cL.sub ig sR),by simp;omega,fun q e=>Nat.le_succ_of_le (au q (List.mem_append_left _ e)),fun f O=>ae f ?_⟩
 rw[List.reverse_append]
 exact .hn (by omega) (aK _ _ av) O
 show 4097 -(k+1)<4097 -k;omega
 refine jn r8 rfl ?_ bt
 intro dh bc z cx
 refine nA ?_
 refine bp [3] (by kernel_rfl) rfl ?_
 refine kR (news:=[.slice m p.length o]) rfl sb rfl rfl (cd rfl (fun j u hu=>z _ _ _ (bv j u hu))) (fun h=>by cases h) (fun u hu=>jv.one (show km bc p [.slice m p.length o] from⟨_,rfl,a6.sub cP ⟨m,o,rfl,Q,T⟩ (ai (ai a x) z)⟩) u hu) (by omega) rfl rfl ?_ bt
 intro aH aI bO D ce cf cg ci
 rw[show (acc.map Prod.fst).length+1=((acc++ [(p,t)]).map Prod.fst).length by simp]
 have bE:dL km 1 bO aH ((acc++ [(p,t)]).map Prod.fst) aI (A++ [.slice m p.length o]):=⟨by rw[List.map_append];exact c6 (bg jv (ai (ai (ai a x) z) D) R.1) (c4 (jv.sub (show km bc p [.slice m p.length o] from⟨_,rfl,a6.sub cP ⟨m,o,rfl,Q,T⟩ (ai (ai a x) z)⟩) D)),by simpa using ci,by simpa using ce,cf,cg⟩
 refine p6 _ ((List.Perm.swap _ _ _).trans (List.Perm.cons _ ((List.Perm.swap _ _ _).trans (List.Perm.cons _ (List.Perm.swap _ _ _))))) ?_
 refine bp [7] (by kernel_rfl) rfl ?_
 refine kR (news:=[.slice X 0 aa,zI U,.string W,zI V,.slice Y ys.length ab]) rfl r9 rfl rfl (cd rfl (fun j u hu=>D _ _ _ (cx j u hu))) (fun h=>by cases h) (fun u hu=>ig.one (fw.sub ao (ai (ai x z) D)) u hu) (by omega) rfl rfl ?_ bt
 refine ww 1 ?_
 rotate_left
 refine jn r8 rfl ?_ bt
 intro di c0 x cA
 refine bp [2] (by kernel_rfl) rfl ?_
 refine jn kn rfl ?_ bt
 intro dj be z cB
 refine p6 _ ((List.Perm.swap _ _ _).trans (List.Perm.cons _ (List.Perm.swap _ _ _))) ?_
 refine bp [3] (by kernel_rfl) rfl ?_
 refine kR (news:=[.slice m p.length o]) rfl sb rfl rfl (cd rfl cB) (fun h=>by cases h) (fun u hu=>jv.one (show km be p [.slice m p.length o] from⟨_,rfl,a6.sub cP ⟨m,o,rfl,Q,T⟩ (ai (ai a x) z)⟩) u hu) (by omega) rfl rfl ?_ bt
 intro aH aI bP D cn co cp cq
 rw[show (acc.map Prod.fst).length+1=((acc++ [(p,t)]).map Prod.fst).length by simp]
 have bE:dL km 1 bP aH ((acc++ [(p,t)]).map Prod.fst) aI (A++ [.slice m p.length o]):=⟨by rw[List.map_append];exact c6 (bg jv (ai (ai (ai a x) z) D) R.1) (c4 (jv.sub (show km be p [.slice m p.length o] from⟨_,rfl,a6.sub cP ⟨m,o,rfl,Q,T⟩ (ai (ai a x) z)⟩) D)),by simpa using cq,by simpa using cn,co,cp⟩
 refine p6 _ ((List.Perm.swap _ _ _).trans (List.Perm.cons _ ((List.Perm.swap _ _ _).trans (List.Perm.cons _ (List.Perm.swap _ _ _))))) ?_
 refine bp [7] (by kernel_rfl) rfl ?_
 refine kR (news:=[.slice X 0 aa,zI U,.string W,zI V,.slice Y ys.length ab]) rfl r9 rfl rfl (cd rfl (fun j u hu=>(ai z D) _ _ _ (cA j u hu))) (fun h=>by cases h) (fun u hu=>ig.one (fw.sub ao (ai (ai x z) D)) u hu) (by omega) rfl rfl ?_ bt
 refine ww 1 ?_
 rotate_left
 rintro ch a5 bQ bR _ _ _ ⟨_,_,_,aM,_⟩
 cases aM
 have bB:k=4096:=by have:=az;simp at this;omega
 refine aE 15 rfl ?_
 refine sc ?_
 subst bB
 exact kk results22 (aT rfl) (aT rfl) (aT rfl) (List.nil_sublist _) ⟨rfl,rfl,none,_,rfl,ae none (by rw[List.reverse_append];exact .kY),rfl⟩
 any_goals
  refine uw 1 ?_
  intro a9 bi bd aD cj ck cl cm
  rw[show (acc.map Prod.snd).length+1=((acc++ [(p,t)]).map Prod.snd).length by simp]
  have cM:dL fw 5 bd a9 ((acc++ [(p,t)]).map Prod.snd) bi (B++ [.slice X 0 aa,zI U,.string W,zI V,.slice Y ys.length ab]):=⟨by rw[List.map_append];exact c6 (bg ig (ai (ai (ai (ai a x) z) D) aD) S.1) (c4 (ig.sub (fw.sub ao (ai (ai x z) D)) aD)),by simpa using cm,by simpa using cj,ck,cl⟩
  refine bm [8,9] rfl (by kernel_rfl) id (du (by kernel_rfl) (br 5 rfl (xp (bA rfl rfl (by omega)) rfl (an 2 rfl ?_))))
  refine CX _ (List.Perm.swap _ _ _) ?_
  refine dI (k+1,y,acc++ [(p,t)],hx met 0,bd,g,cap,C,aH,aI,A++ [.slice m p.length o],a9,bi,B++ [.slice X 0 aa,zI U,.string W,zI V,.slice Y ys.length ab]) rfl rfl rfl [1,1] rfl ?_ ?_
  dsimp only
  refine⟨by omega,ax.trans (ai (ai (ai (ai a x) z) D) aD),aP,by omega,aS,by omega,(aV.sub (ai (ai (ai (ai a x) z) D) aD)),(bE.sub jv aD),(cM.sub ig sR),by simp;omega,fun q e=>Nat.le_succ_of_le (au q (List.mem_append_left _ e)),fun f O=>ae f ?_⟩
  rw[List.reverse_append]
  exact .hn (by omega) (aK _ _ av) O
  show 4097 -(k+1)<4097 -k;omega
 any_goals
  refine uw 2 ?_
  dsimp only
  refine⟨by omega,ax.trans a,aP,by omega,aS,by omega,(aV.sub a),R.sub jv a,S.sub ig a,by omega,fun q e=>Nat.le_succ_of_le (au q (lz _ e)),fun f O=>ae f ?_⟩
  rw[List.reverse_append]
  exact .stop (by omega) (aK _ _ av) (by omega) (by rw[K];exact O)
 any_goals
  refine uw 3 ?_
  exact kk results22 (aT rfl) (aT rfl) (aT rfl) (List.nil_sublist _) ⟨rfl,rfl,some (acc,met),_,rfl,ae _ .fin,by unfold r7;simp only;rw[if_neg (by rw[ap];decide),ap]⟩
theorem CZ:aF 22:=by unfold aF;kernel_rfl
def sd (R:World) (f:Option (List (List Int×Ty)×(Nat→Bool))) (v:Value):Prop:=match f with
 |none=>v= .tuple #[.slice none 0 0,.int .i64 6]
 |some (acc,met)=>if gj met=0 then∃a,v= .tuple #[a,.int .i64 0]∧a6 fw 5 R a (acc.map Prod.snd) else v= .tuple #[.slice none 0 0,.int .i64 (gj met)]
def uu (R:World) (f:Option (List (List Int×Ty)×(Nat→Bool))) (v:Value):Prop:=match f with
 |none=>v= .tuple #[.slice none 0 0,.int .i64 6]
 |some (acc,met)=>if gj met=0 then∃a,v= .tuple #[a,.int .i64 0]∧a6 km 1 R a (acc.map Prod.fst) else v= .tuple #[.slice none 0 0,.int .i64 (gj met)]
theorem C0(h:r7 ah ga az):∃a b c,az= .tuple #[a,b,zI c]∧sd ah ga (.tuple #[b,zI c])∧uu ah ga (.tuple #[a,zI c]):=by
 cases ga with
 |none=>exact⟨_,_,_,h,rfl,rfl⟩
 |some x=>
  obtain⟨acc,met⟩:=x
  unfold r7 at h
  simp only at h
  unfold sd uu
  simp only
  by_cases e:gj met=0
  ·rw[if_pos e] at h
   obtain⟨a,b,d,f,h3⟩:=h
   exact⟨a,b,0,d,by rw[if_pos e];exact⟨b,rfl,h3⟩,by rw[if_pos e];exact⟨a,rfl,f⟩⟩
  ·rw[if_neg e] at h
   exact⟨_,_,_,h,by rw[if_neg e],by rw[if_neg e]⟩
theorem xM(d:qa)(b:Md.Cs ah ak aj)(m:∀r∈ak.rs,r.eo≤100000)(l:ak.rs.length≤1000)(a:Ex.Cs ah aM bj)(i:aM.k≠8)(o:aM.size≤100000)(n:Int)(cells:List PC)(t:Gh (hd ak) cells.length gI)(u:∀c,aR (gI c)):
 cJ 7 [.agg aj.toArray,.agg bj.toArray,zI n] [] ah ⟨bH,bH⟩ (fun E ts R' X'=>ts=[]∧X'=⟨bH,bH⟩∧∃f v,E= .returned v∧e9 (fun p r=>aG (fun g=>hv (aB (hd ak) g) gI aM) ⟨cells,iC n,p⟩ r) [[]] 0 [] (fun _=>false) f∧sd R' f v):=by
 have j:=b
 obtain⟨y,H,A,J,rfl,_⟩:=b
 have e:=a
 obtain⟨z,I,rfl,_⟩:=fo a
 refine eh func7 rfl ntmps7 rfl fun w G ad=> ?_
 refine cG 13 rfl ?_
 refine dP (CY d j m l e i o n cells t u) CZ rfl rfl ?_ ?_
 rintro M x B D _ -⟨rfl,rfl,f,v,aM,h,q⟩
 cases aM
 obtain⟨K,L,c,rfl,s,_⟩:=C0 q
 refine an 18 rfl ?_
 exact nC results7 (aT rfl) (aT rfl) (eH _) ⟨rfl,rfl,f,_,rfl,h,s⟩
 rintro ch x C F _ _ ⟨_,_,_,_,aM,_⟩
 cases aM
theorem LH(d:qa){m:Md}(b:Md.Cs ah m aj)(o:∀r∈m.rs,r.eo≤100000)(l:m.rs.length≤1000)(a:Ex.Cs ah aM bj)(i:aM.k≠8)(q:aM.size≤100000)(n:Int)(cells:List PC)(u:Gh (hd m) cells.length gI)(x:∀c,aR (gI c)):
 cJ 10 [.agg aj.toArray,.agg bj.toArray,zI n] [] ah ⟨bH,bH⟩ (fun E ts R' X'=>ts=[]∧X'=⟨bH,bH⟩∧∃f v,E= .returned v∧e9 (fun p r=>aG (fun g=>hv (aB (hd m) g) gI aM) ⟨cells,iC n,p⟩ r) [[]] 0 [] (fun _=>false) f∧uu R' f v):=by
 have j:=b
 obtain⟨z,I,B,K,rfl,_⟩:=b
 have e:=a
 obtain⟨A,J,rfl,_⟩:=fo a
 refine eh func10 rfl ntmps10 rfl fun w G ad=> ?_
 refine cG 13 rfl ?_
 refine dP (CY d j o l e i q n cells u x) CZ rfl rfl ?_ ?_
 rintro N y C F _ -⟨rfl,rfl,f,v,aM,h,s⟩
 cases aM
 obtain⟨L,M,c,rfl,_,t⟩:=C0 s
 refine an 18 rfl ?_
 exact nC results10 (aT rfl) (aT rfl) (eH _) ⟨rfl,rfl,f,_,rfl,h,t⟩
 rintro ch y D H _ _ ⟨_,_,_,_,aM,_⟩
 cases aM
theorem C1:aF 98:=by unfold aF;kernel_rfl
theorem xN:aF 112:=by unfold aF;kernel_rfl
theorem xO:∀l:List UInt8,Op.bytesLess l l=false
 |[]=>rfl
 |a::r=>by
  unfold Op.bytesLess
  simp[xO r]
section
variable{S:St}{R:Wd}{ty:TypeId}{K:Nat→Bool}
theorem LI{x y:Operand}(a:ev S x=some (.val (.string aY)))(b:ev S y=some (.val (.string aY))):bO K S R (.binOp .lss aH x y ci) ty (.val (.bool false)):=
 gV a b (fun W=>by
  have h:(Op.stringOp .lss aY aY).run prog W= .ok (.bool (Op.bytesLess aY.toList aY.toList)) W:=rfl
  rw[xO] at h
  exact h)
theorem LJ{x y:Operand}(a:ev S x=some (.val (.string aY)))(b:ev S y=some (.val (.string aY))):bO K S R (.binOp .gtr aH x y ci) ty (.val (.bool false)):=
 gV a b (fun W=>by
  have h:(Op.stringOp .gtr aY aY).run prog W= .ok (.bool (!(Op.bytesLess aY.toList aY.toList||aY.toList==aY.toList))) W:=rfl
  rw[xO] at h
  have e:(aY.toList==aY.toList)=true:=beq_self_eq_true _
  rw[e] at h
  exact h)
theorem LK{x y:Operand}(a:ev S x=some (.val (.string aY)))(b:ev S y=some (.val (.string aY))):bO K S R (.binOp .neq aH x y ci) ty (.val (.bool false)):=
 gV a b (fun W=>by
  have h:(Op.stringOp .neq aY aY).run prog W= .ok (.bool (!(aY.toList==aY.toList))) W:=rfl
  have e:(aY.toList==aY.toList)=true:=beq_self_eq_true _
  rw[e] at h
  exact h)
end
def xP (N:Nat):Prop:=∀{R:World} {X:Hx} {t:Ty} {c1 c2:List Value},Ty.Cs R t c1→Ty.Cs R t c2→t.size≤N→cJ 98 [.agg c1.toArray,.agg c2.toArray] [] R X (ic X fun v _=>v= .int .i64 0)
theorem xQ(a:Int):cJ 112 [zI a,zI a] [] ah aJ (ic aJ fun v R'=>v=zI 0):=by
 refine eh func112 rfl ntmps112 rfl fun w G ad=> ?_
 refine cG 13 rfl ?_
 cases b:(decide (a<a))
 refine aE 11 rfl ?_
 cases c:(decide (a>a))
 refine aE 9 rfl ?_
 exact dm results112 (aT rfl) ⟨rfl,rfl,_,rfl,rfl⟩
 exact absurd (of_decide_eq_true c) (by omega)
 exact absurd (of_decide_eq_true b) (by omega)
theorem LL(H:∀x,x<ae→xP x):xP ae:=by
 intro R X t c1 c2 E F S
 obtain⟨k,aK,n,ys⟩:=t
 obtain⟨aa,av,rfl,M,s⟩:=E
 obtain⟨ab,aw,rfl,aA,v⟩:=F
 replace s:=a8.1 s
 replace v:=a8.1 v
 have aC:ys.length≤490000000:=M.2.2.1
 rw[Ty.size_mk] at S
 refine eh func98 rfl ntmps98 rfl fun w G ad=> ?_
 refine cG 14 rfl ?_
 refine dP (xQ k) xN rfl rfl ?_ ?_
 rintro aR a ag aj N -⟨rfl,l,aN,e,T⟩
 cases e
 replace l:=l.symm
 subst l
 subst T
 refine an 19 rfl ?_
 refine dP (xQ n) xN rfl rfl ?_ ?_
 rintro aS a ah ak O -⟨rfl,m,aO,e,U⟩
 cases e
 replace m:=m.symm
 subst m
 subst U
 refine an 19 rfl (xp (LI rfl rfl) rfl (an 12 rfl (xp (LJ rfl rfl) rfl (an 14 rfl ?_))))
 refine dP (xQ ((ys.length:Nat):Int)) xN rfl rfl ?_ ?_
 rintro aU a A al P -⟨rfl,o,aP,e,V⟩
 cases e
 replace o:=o.symm
 subst o
 subst V
 refine an 22 rfl ?_
 refine eA (ι:=Nat×Wd) [2,3,48] 2 rfl (fun(i,d)=>(⟨[(49,.val (zI (i:Nat)))],[],[]⟩,d,X,i≤ys.length∧Sub R d,ys.length -i)) (0,A) rfl rfl rfl [] rfl ?_ ?_
 exact⟨b2 _,(ai (ai N O) P)⟩
 rintro⟨i,d⟩ ⟨aB,c⟩
 show VX _ _ _ ⟨_,_,_⟩ d X
 refine aE 6 rfl ?_
 cases y:(decide (((i:Nat):Int)<((ys.length:Nat):Int)))
 have az:ys.length≤i:=by have:=of_decide_eq_false y;omega
 refine aE 12 rfl ?_
 exact dm results98 (aT rfl) ⟨rfl,rfl,_,rfl,rfl⟩
 have b:i<ys.length:=by have:=of_decide_eq_true y;omega
 refine aE 12 rfl ?_
 refine dM mixed (fun k=>k==0||k==1) bH (fun _ _ h=>by cases h) fun aq=> ?_
 refine bm [0,1,2] rfl (by kernel_rfl) id ?_
 obtain⟨ar,aI,ax,C,q,K⟩:=a5.get a2 s i b
 cases C
 have I:=q
 obtain⟨⟨aD,aL,aG,aW⟩,Y⟩:∃z,z=ys[i]:=⟨_,rfl⟩
 rw[←Y] at q
 obtain⟨ac,ao,rfl,_⟩:=q
 refine xt 3 rfl (a3 rfl rfl rfl b jc) rfl (by kernel_rfl) id (xt 4 rfl (cl rfl (fun j u hu=>c _ _ _ (K j u hu)) rfl) rfl (by kernel_rfl) id (bm [5,6,7] rfl (by kernel_rfl) id ?_))
 obtain⟨au,aJ,ay,D,r,L⟩:=a5.get a2 v i b
 cases D
 have J:=r
 obtain⟨⟨aF,aM,aH,aX⟩,Z⟩:∃z,z=ys[i]:=⟨_,rfl⟩
 rw[←Z] at r
 obtain⟨af,ap,rfl,_⟩:=r
 refine xt 8 rfl (a3 rfl rfl rfl b jc) rfl (by kernel_rfl) id (xt 9 rfl (cl rfl (fun j u hu=>c _ _ _ (L j u hu)) rfl) rfl (by kernel_rfl) id (bp [10] (by kernel_rfl) rfl ?_))
 refine fY rfl (H ys[i].size (by have:=jV b;omega) (Ty.Cs.sub I c) (Ty.Cs.sub J c) (a9 _)) C1 rfl rfl (fun _ _ h=>by cases h) ?_ ?_ ?_
 rintro aV a B am Q -⟨rfl,p,aQ,e,W⟩
 cases e
 replace p:=p.symm
 subst p
 subst W
 refine bm [11] rfl (by kernel_rfl) id (du (by kernel_rfl) (br 12 rfl (xp (bA rfl rfl (by omega)) rfl (an 2 rfl ?_))))
 refine dI (i+1,B) rfl rfl rfl [] rfl ?_ ?_
 exact⟨by omega,c.trans Q⟩
 show ys.length -(i+1)<ys.length -i;omega
 rintro ch a f g _ _ ⟨_,_,_,e,_⟩
 cases e
 exact bt
 rintro ch a f g _ _ ⟨_,_,_,e,_⟩
 cases e
 rintro ch a f g _ _ ⟨_,_,_,e,_⟩
 cases e
 rintro ch a f g _ _ ⟨_,_,_,e,_⟩
 cases e
theorem LM(N:Nat):xP N:=by
 induction N using Nat.strongRecOn with
 |ind N a=>exact LL a
theorem C2{X:Hx}{l:List Int}(e:a6 dU 1 ah az l)(f:a6 dU 1 ah cM l):cJ 11 [az,cM] [] ah X (ic X fun v _=>v= .bool true):=by
 obtain⟨x,B,rfl,s,t⟩:=e
 obtain⟨y,C,rfl,H,u⟩:=f
 have J:l.length≤490000000:=s.2.2.1
 refine eh func11 rfl ntmps11 rfl fun w G ad=> ?_
 refine cG 15 rfl ?_
 cases g:(((l.length:Nat):Int) !=((l.length:Nat):Int))
 refine aE 12 rfl ?_
 refine eA (ι:=Nat) [0,1,12] 0 rfl (fun(i)=>(⟨[(13,.val (zI (i:Nat)))],[],[]⟩,ah,X,i≤l.length,l.length -i)) (0) rfl rfl rfl [] rfl ?_ ?_
 exact b2 _
 rintro i I
 show VX _ _ _ ⟨_,_,_⟩ ah X
 refine aE 6 rfl ?_
 cases b:(decide (((i:Nat):Int)<((l.length:Nat):Int)))
 have F:l.length≤i:=by have:=of_decide_eq_false b;omega
 refine aE 12 rfl ?_
 exact dm results11 (aT rfl) ⟨rfl,rfl,_,rfl,rfl⟩
 have a:i<l.length:=by have:=of_decide_eq_true b;omega
 refine aE 12 rfl ?_
 refine dM mixed (fun k=>false) bH (fun _ _ h=>by cases h) fun aq=> ?_
 refine bm [0,1] rfl (by kernel_rfl) id ?_
 obtain⟨z,K,D,c,m,q⟩:=a5.get cP t i a
 cases c
 have o:=q 0 (zI l[i]) (by rw[m];rfl)
 refine xt 2 rfl (a3 rfl rfl rfl a gE) rfl (by kernel_rfl) id (xt 3 rfl (dT rfl bG o) rfl (by kernel_rfl) id (bm [4,5] rfl (by kernel_rfl) id ?_))
 obtain⟨A,L,E,d,n,r⟩:=a5.get cP u i a
 cases d
 have p:=r 0 (zI l[i]) (by rw[n];rfl)
 refine xt 6 rfl (a3 rfl rfl rfl a gE) rfl (by kernel_rfl) id (xt 7 rfl (dT rfl bG p) rfl (by kernel_rfl) id (bm [8] rfl (by kernel_rfl) id (du (by kernel_rfl) (br 1 rfl ?_))))
 cases j:((l[i]) !=(l[i]))
 refine aE 5 rfl (xp (bA rfl rfl (by omega)) rfl (an 2 rfl ?_))
 refine dI (i+1) rfl rfl rfl [] rfl ?_ ?_
 show i+1≤l.length;omega
 show l.length -(i+1)<l.length -i;omega
 exact absurd j (by simp)
 exact absurd g (by simp)
mutual
def iR:Ty→Prop
 | .mk k s n ys=>(k=3→s=⟨#[]⟩∧ys=[]∧0≤n∧n<1000)∧oL ys
def oL:List Ty→Prop
 |[]=>True
 |t::r=>iR t∧oL r
end
theorem xR:∀{l:List Ty},oL l↔∀t∈l,iR t
 |[]=>by simp[oL]
 |t::r=>by rw[oL,xR (l:=r)];simp
theorem qc{n:Int}:iR (.mk bi aY n b4)↔(bi=3→aY=⟨#[]⟩∧b4=[]∧0≤n∧n<1000)∧∀t∈b4,iR t:=by rw[iR,xR]
mutual
theorem C3{m:Int→Int}(b:∀n,0≤m n∧m n<1000):∀t,iR (kX m t)
 | .mk k s n ys=>by
   by_cases e:k=3
   ·subst e
    rw[CI,qc]
    exact⟨fun _=>⟨rfl,rfl,b n⟩,fun t a=>by cases a⟩
   ·rw[xx m e,qc]
    refine⟨fun q=>absurd q e,fun t a=> ?_⟩
    exact xR.1 (C4 b ys) t a
theorem C4{m:Int→Int}(a:∀n,0≤m n∧m n<1000):∀l,oL (ib m l)
 |[]=>by rw[ib];trivial
 |t::r=>by rw[ib,oL];exact⟨C3 a t,C4 a r⟩
end
theorem filter_one{a:Int}:∀{l:List Int},l.Nodup→l.length≤(l.filter fun x=>decide (x≠a)).length+1
 |[],_=>by simp
 |b::l,h=>by
  obtain⟨c,d⟩:=List.nodup_cons.1 h
  by_cases e:b=a
  ·subst e
   rw[List.filter_cons_of_neg (by simp)]
   have:(l.filter fun x=>decide (x≠b))=l:=List.filter_eq_self.2 fun x f=>by simp;exact fun q=>c (q▸f)
   rw[this]
   simp
  ·rw[List.filter_cons_of_pos (by simpa using e)]
   have:=filter_one (a:=a) d
   simp only[List.length_cons]
   omega
theorem se:∀{m:Nat} {l:List Int},l.Nodup→(∀x∈l,0≤x∧x<(m:Int))→l.length≤m
 |0,l,_,h=>by
  cases l with
  |nil=>simp
  |cons a r=>have:=h a (hD ..);omega
 |m+1,l,b,h=>by
  have e:=filter_one (a:=(m:Int)) b
  have f:=se (m:=m) (b.filter fun x=>decide (x≠(m:Int))) (fun x d=>by
   obtain⟨h3,c⟩:=List.mem_filter.1 d
   have:=h x h3
   simp at c
   omega)
  omega
theorem xT{l:List Ty}:∀{acc:List Int},acc.Nodup→(∀x∈acc,0≤x∧x<1000)→(∀u∈l,u.k=3→0≤u.n∧u.n<1000)→(l.foldl kl acc).Nodup∧∀x∈l.foldl kl acc,0≤x∧x<1000:=by
 induction l with
 |nil=>intro acc d e h3;exact⟨d,e⟩
 |cons t r i=>
  intro acc d e h3
  rw[List.foldl_cons]
  refine i ?_ ?_ (fun u hu=>h3 u (iT _ hu))
  ·unfold kl
   split
   ·rename_i f
    exact List.nodup_append.2 ⟨d,by simp,fun a g b h=>by rw[List.mem_singleton.1 h];exact fun q=>f.2 (q▸g)⟩
   ·exact d
  ·unfold kl
   split
   ·rename_i f
    intro x c
    rcases fM.1 c with c|c
    ·exact e x c
    ·rw[List.mem_singleton.1 c]
     exact h3 t (hD ..) f.1
   ·exact e
theorem C5(h:g3 bC):(varsOf bC).length≤1000:=by
 have b:=xT (l:=iD bC) (acc:=[]) List.nodup_nil (fun x a=>by cases a) h
 exact se b.1 fun x a=>b.2 x a
theorem LN(h:g3 bC):iR (jR bC):=by
 refine C3 (fun n=> ?_) bC
 have b:=C5 h
 unfold p9
 cases e:(varsOf bC).idxOf? n with
 |none=>exact⟨by decide,by decide⟩
 |some i=>
  rw[List.idxOf?,List.findIdx?_eq_some_iff_getElem] at e
  obtain⟨a,_⟩:=e
  simp only[Option.map_some,Option.getD_some]
  omega
def sf (R:World) (b:Int×Ty) (c:List Value):Prop:=∃a,c= .int .i64 b.1::a∧Ty.Cs R b.2 a
theorem uv:eR sf 5:=by
 refine⟨fun h b=> ?_,fun h=> ?_,fun h u hu=> ?_⟩
 ·obtain⟨a,rfl,h⟩:=h;exact⟨a,rfl,Ty.Cs.sub h b⟩
 ·obtain⟨a,rfl,h⟩:=h;rw[List.length_cons,a2.len h]
 ·obtain⟨a,rfl,h⟩:=h
  rcases dX.1 hu with rfl|hu
  ·rfl
  ·exact a2.one h u hu
structure lv (l:List (Int×Ty)):Prop where
 eq:∀b∈l,b.2= .mk 3 ⟨#[]⟩ b.1 []
 nd:(l.map Prod.fst).Nodup
 sm:∀b∈l,0≤b.1∧b.1<1000
theorem lv.len(h:lv ux):ux.length≤1000:=by
 have:=se (m:=1000) h.nd (fun x c=>by
  obtain⟨b,a,rfl⟩:=List.mem_map.1 c
  exact h.sm b a)
 simpa using this
theorem lv.nil:lv []:=⟨fun b a=>(by cases a),List.nodup_nil,fun b a=>(by cases a)⟩
theorem lv.snoc{n:Int}(h:lv ux)(f:∀b∈ux,b.1≠n)(d:0≤n∧n<1000):lv (ux++ [(n,.mk 3 ⟨#[]⟩ n [])]):=by
 refine⟨fun b c=> ?_,?_,fun b c=> ?_⟩
 ·rcases fM.1 c with c|c
  ·exact h.eq b c
  ·rw[List.mem_singleton.1 c]
 ·rw[List.map_append]
  refine List.nodup_append.2 ⟨h.nd,by simp,fun a e b c=> ?_⟩
  obtain⟨x,g,rfl⟩:=List.mem_map.1 e
  rw[show b=n by simpa using c]
  exact f x g
 ·rcases fM.1 c with c|c
  ·exact h.sm b c
  ·rw[List.mem_singleton.1 c];exact d
section
variable{S:St}{R:Wd}{ty:TypeId}{K:Nat→Bool}
theorem xU{x y:Operand}(a:ev S x=some (.val (zI bi)))(b:ev S y=some (.val (zI bi))):bO K S R (.binOp .neq aH x y ci) ty (.val (.bool false)):=by
 have h:bO K S R (.binOp .neq aH x y ci) ty (.val (.bool (bi !=bi))):=y1 a b
 rw[show (bi !=bi)=false by simp] at h
 exact h
end
theorem LO{ay d:Nat}{rw:List bU}{i:Nat}{x y:Operand}{n:Nat}{nk:LV}{g m c:Nat}{news:LV}(r:dk[i]?=some ⟨some d,.call {callee:= .builtin .append,args:=#[x,y],argTypes:=#[ae,ae]},aH,kx,ky,none⟩)
 (q:dO ae ao aX eO) (z:ev ⟨bu,aS,rw⟩ x=some (.val (.slice aA n n))) (A:ev ⟨bu,aS,rw⟩ y=some (.val (.slice (some ⟨g,0,none⟩) m c)))
 (v:Src bR aX aA n nk) (j:aA=none→n=0) (w:Src bR aX (some ⟨g,0,none⟩) m news) (s:0<m) {n1:Nat} (t:n1=n+m) (h:n1≤1000000000) (o:Nat.ble eO 100000=true) (p:Nat.blt d dj.N=true)
 (k:∀a cap R',Sub bR R'→n1≤cap→cap≤9223372036854775807→Src R' aX (some ⟨a,0,none⟩) n1 (nk++news)→
   cQ dj dl b1 bI ah a0 dk dy ay (bQ.setIfInBounds i true) ⟨(d,.val (.slice (some ⟨a,0,none⟩) n1 cap))::bu,aS,rw⟩ R' aJ)
 (u:dV dj dl b1 bI ah a0 dk dy ay bQ ⟨bu,aS,rw⟩ bR aJ aI):dV dj dl b1 bI ah a0 dk dy ay bQ ⟨bu,aS,rw⟩ bR aJ (i::aI):=by
 subst t
 refine pP (S:=⟨bu,aS,rw⟩) r (fun B l=>An (S:=⟨bu,aS,rw⟩) q z A v j w s h (Nat.le_of_ble_eq_true o) (l▸dn p)) ?_ ?_ u
 ·rintro S' R' ⟨a,cap,rfl,b⟩
  exact⟨a9 _,fun _ _=>rfl⟩
 ·rintro S' R' ⟨a,cap,rfl,b,h3,e⟩ f
  exact k a cap R' f b h3 e
def xV (N:Nat):Prop:=∀{R:World} {X:Hx} {t:Ty} {c1 c2:List Value} {c:Value} {l:List (Int×Ty)},a6 sf 5 R c l→lv l→iR t→Ty.Cs R t c1→Ty.Cs R t c2→t.size≤N→
 cJ 78 [c,.agg c1.toArray,.agg c2.toArray] [] R X (ic X fun v R'=>∃b a,v= .tuple #[b,.bool true]∧a6 sf 5 R' b a∧lv a)
theorem xW:c7 175 210 5:=by unfold c7;kernel_rfl
theorem LP:dO 175 210 5 64:=by unfold dO;kernel_rfl
theorem C6:aF 78:=by unfold aF;kernel_rfl
theorem LQ(aB:∀L,L<ae→xV L):xV ae:=by
 intro R X t c1 c2 b6 l a f C M N a0
 obtain⟨k,d,n,ys⟩:=t
 have B:=a
 have bN:=M
 have O:=N
 obtain⟨ag,ao,rfl,U,ab⟩:=a
 obtain⟨bk,bE,rfl,aP,H⟩:=M
 obtain⟨q,s,rfl,bP,I⟩:=N
 replace H:=a8.1 H
 replace I:=a8.1 I
 have bR:ys.length≤490000000:=aP.2.2.1
 have bQ:=f.len
 rw[Ty.size_mk] at a0
 refine eh func78 rfl ntmps78 rfl fun w G ad=> ?_
 refine cG 16 rfl ?_
 cases aC:(k==3)
 refine aE 10 rfl (xp (xU rfl rfl) rfl (an 5 rfl (eX rfl rfl rfl (xp (xU rfl rfl) rfl (an 6 rfl (eX rfl rfl rfl (xp (LK rfl rfl) rfl (an 14 rfl ?_))))))))
 cases bO:(k==2)
 refine aE 12 rfl (xp (xU rfl rfl) rfl (an 20 rfl ?_))
 refine eA (ι:=Nat×Wd×(List (Int×Ty))×OA×Nat) [4,5,10,79] 2 rfl (fun(i,m,lb,r,x)=>(⟨[(0,.val (.slice r lb.length x)),(80,.val (zI (i:Nat)))],[],[]⟩,m,X,i≤ys.length∧Sub R m∧a6 sf 5 m (.slice r lb.length x) lb∧lv lb,ys.length -i)) (0,R,l,ag,ao) rfl rfl rfl [] rfl ?_ ?_
 exact⟨b2 _,sR,B,f⟩
 rintro⟨i,m,lb,r,x⟩ ⟨aQ,o,Y,aa⟩
 show VX _ _ _ ⟨_,_,_⟩ m X
 refine aE 6 rfl ?_
 cases P:(decide (((i:Nat):Int)<((ys.length:Nat):Int)))
 have T:ys.length≤i:=by have:=of_decide_eq_false P;omega
 refine aE 14 rfl ?_
 exact nC results78 (aT rfl) (aT rfl) (eH _) ⟨rfl,rfl,_,rfl,_,lb,rfl,Y,aa⟩
 have c:i<ys.length:=by have:=of_decide_eq_true P;omega
 refine aE 12 rfl ?_
 refine dM mixed (fun k=>k==0||k==1) bH (fun _ _ h=>by cases h) fun aq=> ?_
 refine bm [0,1,2,3] rfl (by kernel_rfl) id ?_
 obtain⟨bB,bW,bG,ar,D,aN⟩:=a5.get a2 H i c
 cases ar
 have aH:=D
 obtain⟨⟨bS,bZ,bU,b8⟩,ba⟩:∃z,z=ys[i]:=⟨_,rfl⟩
 rw[←ba] at D
 obtain⟨bo,bx,rfl,_⟩:=D
 refine xt 4 rfl (a3 rfl rfl rfl c jc) rfl (by kernel_rfl) id (xt 5 rfl (cl rfl (fun j u hu=>o _ _ _ (aN j u hu)) rfl) rfl (by kernel_rfl) id (bm [6,7,8] rfl (by kernel_rfl) id ?_))
 obtain⟨bC,bX,bI,au,E,aO⟩:=a5.get a2 I i c
 cases au
 have aI:=E
 obtain⟨⟨bT,b0,bV,b9⟩,bb⟩:∃z,z=ys[i]:=⟨_,rfl⟩
 rw[←bb] at E
 obtain⟨bq,bz,rfl,_⟩:=E
 refine xt 9 rfl (a3 rfl rfl rfl c jc) rfl (by kernel_rfl) id (xt 10 rfl (cl rfl (fun j u hu=>o _ _ _ (aO j u hu)) rfl) rfl (by kernel_rfl) id (bp [11] (by kernel_rfl) rfl ?_))
 refine fY rfl (aB ys[i].size (by have:=jV c;omega) Y aa ((qc.1 C).2 _ (fL c)) (Ty.Cs.sub aH o) (Ty.Cs.sub aI o) (a9 _)) C6 rfl rfl (fun _ _ h=>by cases h) ?_ ?_ ?_
 rintro b4 K aj bv aY -⟨rfl,y,b1,e,a4⟩
 cases e
 replace y:=y.symm
 subst y
 obtain⟨b7,be,rfl,V,aW⟩:=a4
 have aR:=V
 obtain⟨ah,ap,rfl,_⟩:=V
 refine bm [12,13,14,15,16] rfl (by kernel_rfl) id (du (by kernel_rfl) (br 12 rfl (xp (bA rfl rfl (by omega)) rfl (an 2 rfl ?_))))
 refine dI (i+1,aj,be,ah,ap) rfl rfl rfl [] rfl ?_ ?_
 exact⟨by omega,o.trans aY,aR,aW⟩
 show ys.length -(i+1)<ys.length -i;omega
 rintro ch K ak al _ _ ⟨_,_,_,e,_⟩
 cases e
 exact bt
 refine aE 10 rfl ?_
 exact nC results78 (aT rfl) (aT rfl) (eH _) ⟨rfl,rfl,_,rfl,_,l,rfl,B,f⟩
 have p:=cb aC
 refine aE 10 rfl ?_
 refine eA (ι:=Nat) [0,4,5,15,16] 2 rfl (fun(i)=>(⟨[(17,.val (zI (i:Nat)))],[],[]⟩,R,X,i≤l.length∧∀b∈l.take i,b.1≠n,l.length -i)) (0) rfl rfl rfl [] rfl ?_ ?_
 exact⟨Nat.zero_le _,fun b a=>by simp at a⟩
 rintro i ⟨aQ,Z⟩
 show VX _ _ _ ⟨_,_,_⟩ R X
 refine aE 6 rfl ?_
 cases Q:(decide (((i:Nat):Int)<((l.length:Nat):Int)))
 have T:l.length≤i:=by have:=of_decide_eq_false Q;omega
 refine aE 7 rfl ?_
 obtain⟨bl,aD,ax,bi,aX,aF⟩:=a6.clip uv U ab
 refine dM mixed (fun k=>k==0||k==1) bH (fun _ _ h=>by cases h) fun aq=> ?_
 refine bm [0,1,2,3,4] rfl (by kernel_rfl) id (xt 5 rfl (vR (i:=l.length) rfl rfl rfl U.1 xW aD) rfl (by kernel_rfl) id (bm [6,7,8] rfl (by kernel_rfl) id (xt 9 rfl (bJ (vs:=[(0,zI n),(1,.agg #[zI k,.string d,zI n,.slice q ys.length s])]) (v:= .agg #[zI n,zI k,.string d,zI n,.slice q ys.length s]) rfl (fun W=>by kernel_rfl)) rfl (by kernel_rfl) id (bp [10] (by kernel_rfl) rfl ?_))))
 refine jn xW rfl ?_ bt
 intro bM bs J aL
 refine bp [11] (by kernel_rfl) rfl ?_
 refine LO (nk:=bi) (news:=[zI n,zI k,.string d,zI n,.slice q ys.length s]) rfl LP rfl rfl (eL aX J) ax (cd rfl aL) (by decide) (n1:=(l++ [(n,(.mk k d n ys:Ty))]).length) (by simp) (by simp;omega) rfl rfl ?_ bt
 intro aw am ai ac ay az aA
 have aU:a6 sf 5 ai (.slice (some ⟨aw,0,none⟩) (l++ [(n,(.mk k d n ys:Ty))]).length am) (l++ [(n,.mk k d n ys)]):=⟨_,_,rfl,⟨ay,az,by simp;omega,fun h=>by cases h⟩,cz aA (c6 (bg uv (J.trans ac) aF) (c4 ⟨_,rfl,Ty.Cs.sub O (J.trans ac)⟩))⟩
 refine bm [12,13] rfl (by kernel_rfl) id (du (by kernel_rfl) (br 3 rfl ?_))
 have g:=(qc.1 C).1 p
 have a1:(.mk k d n ys:Ty)= .mk 3 ⟨#[]⟩ n []:=by rw[p,g.1,g.2.1]
 have aV:∀b∈l,b.1≠n:=fun b a=>Z b (by rw[List.take_of_length_le T];exact a)
 exact nC results78 (aT rfl) (aT rfl) (List.nil_sublist _) ⟨rfl,rfl,_,rfl,_,_,rfl,aU,by rw[a1];exact f.snoc aV g.2.2⟩
 have c:i<l.length:=by have:=of_decide_eq_true Q;omega
 refine aE 7 rfl ?_
 obtain⟨bD,bY,bK,av,aG,aM⟩:=a5.get uv ab i c
 cases av
 obtain⟨bL,rfl,F⟩:=aG
 obtain⟨⟨bd,bh,bf,bj⟩,af⟩:∃z,z=l[i].2:=⟨_,rfl⟩
 rw[←af] at F
 have aJ:=F
 obtain⟨bn,bF,rfl,_⟩:=F
 refine xp (a3 rfl rfl rfl c xW) rfl (xp (cl rfl (fun j u hu=>aM j u hu) rfl) rfl (an 13 rfl ?_))
 cases S:((l[i].1)==n)
 have aS:l[i].1≠n:=by simpa using S
 refine aE 5 rfl (xp (bA rfl rfl (by omega)) rfl (an 2 rfl ?_))
 refine dI (i+1) rfl rfl rfl [] rfl ?_ ?_
 refine⟨by omega,fun b a=> ?_⟩
 rw[List.take_succ_eq_append_getElem c] at a
 rcases fM.1 a with a|a
 exact Z b a
 rw[List.mem_singleton.1 a];exact aS
 show l.length -(i+1)<l.length -i;omega
 have aK:l[i].1=n:=by simpa using S
 refine aE 7 rfl ?_
 have g:=(qc.1 C).1 p
 have bc:(.mk bd bh bf bj:Ty)= .mk k d n ys:=by rw[af,f.eq _ (List.getElem_mem c),aK,p,g.1,g.2.1]
 refine dP (LM _ aJ (by rw[bc];exact O) (Nat.le_refl _)) C1 rfl rfl ?_ ?_
 rintro b5 K bu bw aZ -⟨rfl,A,b3,e,a7⟩
 cases e
 replace A:=A.symm
 subst A
 subst a7
 refine an 12 rfl ?_
 exact nC results78 (aT rfl) (aT rfl) (eH _) ⟨rfl,rfl,_,rfl,_,l,rfl,a6.sub uv B aZ,f⟩
 rintro ch K ak al _ _ ⟨_,_,_,e,_⟩
 cases e
theorem LR(N:Nat):xV N:=by
 induction N using Nat.strongRecOn with
 |ind N a=>exact LQ a
theorem C7(g:iR bC)(b:Ty.Cs ah bC aj)(c:Ty.Cs ah bC bj):cJ 56 [.agg aj.toArray,.agg bj.toArray] [] ah aJ (ic aJ fun v _=>v= .bool true):=by
 obtain⟨k,x,n,ys⟩:=bC
 have d:=b
 have f:=c
 obtain⟨j,s,rfl,_⟩:=b
 obtain⟨m,t,rfl,_⟩:=c
 refine eh func56 rfl ntmps56 rfl fun w G ad=> ?_
 refine cG 11 rfl ?_
 refine dP (LR _ (l:=[]) a6.nil lv.nil g d f (a9 _)) C6 rfl rfl ?_ ?_
 rintro z i o q _ -⟨rfl,a,y,e,h⟩
 cases e
 replace a:=a.symm
 subst a
 obtain⟨A,u,rfl,_⟩:=h
 refine an 14 rfl ?_
 exact dm results56 (aT rfl) ⟨rfl,rfl,_,rfl,rfl⟩
 rintro ch i p r _ _ ⟨_,_,_,e,_⟩
 cases e
theorem uy{c:LV}(h:fw ah bC c):cJ 57 [.agg c.toArray] [] ah aJ (ic aJ fun v R'=>∃a,v= .agg a.toArray∧Ty.Cs R' (.mk 1 ⟨#[]⟩ 0 [bC]) a):=by
 obtain⟨A,cap,c2,rfl,_,p,h⟩:=h
 obtain⟨k,f,n,ys⟩:=bC
 have b:=h
 obtain⟨g,i,rfl,_⟩:=h
 refine eh func57 rfl ntmps57 rfl fun w G ad=> ?_
 refine cG 8 rfl (xp (bJ (vs:=[(0,zI 1)]) (v:= .agg #[zI 1,.string ⟨#[]⟩,zI 0,zS]) rfl (fun W=>by kernel_rfl)) rfl (an 10 rfl ?_))
 refine pQ 89 4 ?_
 refine jH (news:=[]) rS rfl rfl ⟨rfl,.inl rfl⟩ p (fun u hu=>by cases hu) (by decide) rfl rfl ?_
 intro s C z e _ _ _ _
 refine an 10 rfl ?_
 refine fc jc rfl ?_
 intro D x d q
 refine lZ _ (List.Perm.swap _ _ _) ?_
 refine jH (news:=[zI k,.string f,zI n,.slice g ys.length i]) rS rfl rfl (cd rfl q) (fun h=>by cases h) (fun u hu=>a2.one (Ty.Cs.sub b (ai e d)) u hu) (by decide) rfl rfl ?_
 intro t B y r j l m o
 refine an 11 rfl ?_
 exact dm results57 (aK rfl rfl iB) ⟨rfl,rfl,_,rfl,_,rfl,aP (ys:=[.mk k f n ys]) ⟨j,l,by simp,m⟩ (a5.of o (aL.single (Ty.Cs.sub b (Sub.trans (Sub.trans e d) r))))⟩
theorem LS:aF 23:=by unfold aF;kernel_rfl
theorem C8:aF 56:=by unfold aF;kernel_rfl
theorem uz:aF 57:=by unfold aF;kernel_rfl
theorem uA{ay d:Nat}{rw:List bU}{i:Nat}(u:dk[i]?=some ⟨some d,.call {callee:= .value (.func bk),args:=c8,argTypes:=fi},aH,kx,ky,some (ae,ca)⟩)
 (w:(dk[ae]?).bind (·.dst)=some ao) (A:look bu ao=some (.val (.bool hE))) (f:(hE==ca)=true) (z:cJ bk aj [] bR aJ dZ) (r:aF bk) (C:fb ⟨bu,aS,rw⟩ c8 (aj.map .val)) (t:Nat.blt d dj.N=true) (s:∀ca ob,b1 ca=some ob→aJ.K ca=some ob)
 (k:∀v b R' X',Sub bR R'→(∀ca ob,aJ.K ca=some ob→X'.K ca=some ob)→dZ (.returned v) b R' X'→cQ dj dl b1 bI ah a0 dk dy ay (bQ.setIfInBounds i true) ⟨(d,.val v)::bu,aS,b++rw⟩ R' X')
 (D:∀ch b R' X',Sub bR R'→(∀ca ob,aJ.K ca=some ob→X'.K ca=some ob)→dZ (.panicked ch) b R' X'→DX dj dy (.panic ch) ⟨bu,aS,b++rw⟩ R' X')
 (y:dV dj dl b1 bI ah a0 dk dy ay bQ ⟨bu,aS,rw⟩ bR aJ aI):dV dj dl b1 bI ah a0 dk dy ay bQ ⟨bu,aS,rw⟩ bR aJ (i::aI):=by
 intro q j ad a W h c
 rcases dX.1 j with rfl|j
 ·have B:Region.wanted (⟨some d,.call {callee:= .value (.func bk),args:=c8,argTypes:=fi},aH,kx,ky,some (ae,ca)⟩:Oper) (yielded dk a.tmps)=true:=(mr h.rel.slot w A).trans f
  unfold wpOp
  simp only[u]
  rw[if_pos B]
  refine .inl ?_
  unfold Oper.wp
  rw[k7,h.args C,j0 r,Oper.upon_enter]
  refine(rk aJ.H bH [] rw z rfl (hp _).symm (fun ca f=>rfl) h).mono ?_
  rintro E W' ⟨b,R',X',p,g1,g2,_,l,_,g⟩
  rw[hp] at g
  cases E with
  |returned v=>
   have n:=g.put (x:= .val v) (dn t) (fun k o e=>by cases e)
   have m:lY dl b1 bI ah a0 ⟨(d,.val v)::bu,aS,b++rw⟩ R' X' ad:=⟨c.ad,c.bx,c.sub.trans g1,c.le,fun ca ob f=> .inl (g2 ca ob (s ca ob f))⟩
   exact⟨n.held m,k v b R' X' g1 g2 l ad _ W' n m⟩
  |panicked ch=>exact D ch b R' X' g1 g2 l ad a W' g
  |outgrown=>exact absurd rfl p
 ·exact y q j ad a W h c
theorem LU(D:iR bC)(d:fw ah bC aj)(f:fw ah bC bj):cJ 23 [.agg aj.toArray,.agg bj.toArray] [] ah aJ (ic aJ fun v _=>v= .bool true):=by
 have s:=d
 have t:=f
 obtain⟨S,av,d1,rfl,-,-,d⟩:=d
 obtain⟨T,aw,d2,rfl,-,-,f⟩:=f
 obtain⟨k,R,n,ys⟩:=bC
 have x:iR (.mk 1 ⟨#[]⟩ 0 [.mk k R n ys]):=qc.2 ⟨fun q=>absurd q (by decide),fun u hu=>by rw[List.mem_singleton.1 hu];exact D⟩
 obtain⟨Y,ar,rfl,_⟩:=d
 obtain⟨Z,au,rfl,_⟩:=f
 refine eh func23 rfl ntmps23 rfl fun w G ad=> ?_
 refine cG 8 rfl ?_
 refine dM mixed (fun k=>k==0||k==1) bH (fun _ _ h=>by cases h) fun aq=> ?_
 refine bm [0,2] rfl (by kernel_rfl) id (bp [1] (by kernel_rfl) rfl ?_)
 refine fY rfl (uy (fw.sub s sR)) uz rfl rfl (fun _ _ h=>by cases h) ?_ ?_ ?_
 rintro aM a aa ak p -⟨rfl,g,aF,e,L⟩
 cases e
 replace g:=g.symm
 subst g
 obtain⟨ax,rfl,y⟩:=L
 have E:=y
 obtain⟨U,aB,rfl,_⟩:=E
 refine bp [3] (by kernel_rfl) rfl ?_
 refine fY rfl (uy (fw.sub t p)) uz rfl rfl (fun _ _ h=>by cases h) ?_ ?_ ?_
 rintro aN a ab al r -⟨rfl,i,aG,e,M⟩
 cases e
 replace i:=i.symm
 subst i
 obtain⟨ay,rfl,z⟩:=M
 have F:=z
 obtain⟨V,aC,rfl,_⟩:=F
 refine bp [4] (by kernel_rfl) rfl ?_
 refine fY rfl (C7 x (Ty.Cs.sub y r) (Ty.Cs.sub z sR)) C8 rfl rfl (fun _ _ h=>by cases h) ?_ ?_ ?_
 rintro aO a ac am C -⟨rfl,j,aH,e,N⟩
 cases e
 replace j:=j.symm
 subst j
 subst N
 refine bm [5,6,8] rfl (by kernel_rfl) id (bp [7] (by kernel_rfl) rfl ?_)
 refine uA rfl rfl rfl rfl (uy (fw.sub t (ai (ai p r) C))) uz rfl rfl (fun _ _ h=>by cases h) ?_ ?_ ?_
 rintro aP a ae an J -⟨rfl,l,aI,e,O⟩
 cases e
 replace l:=l.symm
 subst l
 obtain⟨az,rfl,A⟩:=O
 have H:=A
 obtain⟨W,aD,rfl,_⟩:=H
 refine bp [9] (by kernel_rfl) rfl ?_
 refine uA rfl rfl rfl rfl (uy (fw.sub s (ai (ai (ai p r) C) J))) uz rfl rfl (fun _ _ h=>by cases h) ?_ ?_ ?_
 rintro aQ a af ao K -⟨rfl,m,aK,e,P⟩
 cases e
 replace m:=m.symm
 subst m
 obtain⟨aA,rfl,B⟩:=P
 have I:=B
 obtain⟨X,aE,rfl,_⟩:=I
 refine bp [10] (by kernel_rfl) rfl ?_
 refine uA rfl rfl rfl rfl (C7 x (Ty.Cs.sub A K) (Ty.Cs.sub B sR)) C8 rfl rfl (fun _ _ h=>by cases h) ?_ ?_ ?_
 rintro aR a ag ap _ -⟨rfl,o,aL,e,Q⟩
 cases e
 replace o:=o.symm
 subst o
 subst Q
 refine bm [11,12] rfl (by kernel_rfl) id (du (by kernel_rfl) (br 2 rfl ?_))
 exact dm results23 (aT rfl) ⟨rfl,rfl,_,rfl,rfl⟩
 rintro ch a b c _ _ ⟨_,_,_,e,_⟩
 cases e
 exact bt
 rintro ch a b c _ _ ⟨_,_,_,e,_⟩
 cases e
 exact bt
 rintro ch a b c _ _ ⟨_,_,_,e,_⟩
 cases e
 exact bt
 rintro ch a b c _ _ ⟨_,_,_,e,_⟩
 cases e
 exact bt
 rintro ch a b c _ _ ⟨_,_,_,e,_⟩
 cases e
 exact bt
 rintro ch a b c _ _ ⟨_,_,_,e,_⟩
 cases e
 exact bt
theorem LW{X:Hx}(y:∀t∈b4,iR t)(r:a6 fw 5 ah az b4)(s:a6 fw 5 ah cM b4):cJ 8 [az,cM] [] ah X (ic X fun v _=>v= .bool true):=by
 obtain⟨N,ab,rfl,E,F⟩:=r
 obtain⟨O,ac,rfl,am,H⟩:=s
 have ap:b4.length≤490000000:=E.2.2.1
 refine eh func8 rfl ntmps8 rfl fun w G ad=> ?_
 refine cG 15 rfl ?_
 cases x:(((b4.length:Nat):Int) !=((b4.length:Nat):Int))
 refine aE 12 rfl ?_
 refine eA (ι:=Nat×Wd) [0,1,12] 0 rfl (fun(i,c)=>(⟨[(13,.val (zI (i:Nat)))],[],[]⟩,c,X,i≤b4.length∧Sub ah c,b4.length -i)) (0,ah) rfl rfl rfl [] rfl ?_ ?_
 exact⟨b2 _,sR⟩
 rintro⟨i,c⟩ ⟨ao,b⟩
 show VX _ _ _ ⟨_,_,_⟩ c X
 refine aE 6 rfl ?_
 cases f:(decide (((i:Nat):Int)<((b4.length:Nat):Int)))
 have al:b4.length≤i:=by have:=of_decide_eq_false f;omega
 refine aE 12 rfl ?_
 exact dm results8 (aT rfl) ⟨rfl,rfl,_,rfl,rfl⟩
 have a:i<b4.length:=by have:=of_decide_eq_true f;omega
 refine aE 12 rfl ?_
 refine dM mixed (fun k=>false) bH (fun _ _ h=>by cases h) fun aq=> ?_
 refine bm [0,1] rfl (by kernel_rfl) id ?_
 obtain⟨Z,ax,ag,p,m,C⟩:=a5.get ig F i a
 cases p
 have A:=m
 obtain⟨R,aj,ae,rfl,-,-,g⟩:=m
 obtain⟨⟨ar,aA,av,aF⟩,K⟩:∃z,z=b4[i]:=⟨_,rfl⟩
 rw[←K] at g
 obtain⟨P,W,rfl,_⟩:=g
 refine xt 2 rfl (a3 rfl rfl rfl a r8) rfl (by kernel_rfl) id (xt 3 rfl (cl rfl (fun j u hu=>b _ _ _ (C j u hu)) rfl) rfl (by kernel_rfl) id (bm [4,5] rfl (by kernel_rfl) id ?_))
 obtain⟨aa,ay,ai,q,n,D⟩:=a5.get ig H i a
 cases q
 have B:=n
 obtain⟨S,ak,af,rfl,-,-,l⟩:=n
 obtain⟨⟨au,aB,aw,aG⟩,L⟩:∃z,z=b4[i]:=⟨_,rfl⟩
 rw[←L] at l
 obtain⟨Q,Y,rfl,_⟩:=l
 refine xt 6 rfl (a3 rfl rfl rfl a r8) rfl (by kernel_rfl) id (xt 7 rfl (cl rfl (fun j u hu=>b _ _ _ (D j u hu)) rfl) rfl (by kernel_rfl) id (bp [8] (by kernel_rfl) rfl ?_))
 refine fY rfl (LU (y _ (fL a)) (fw.sub A b) (fw.sub B b)) LS rfl rfl (fun _ _ h=>by cases h) ?_ ?_ ?_
 rintro aD M o U I -⟨rfl,d,aC,e,J⟩
 cases e
 replace d:=d.symm
 subst d
 subst J
 refine bm [9] rfl (by kernel_rfl) id (du (by kernel_rfl) (br 6 rfl (xp (bA rfl rfl (by omega)) rfl (an 2 rfl ?_))))
 refine dI (i+1,o) rfl rfl rfl [] rfl ?_ ?_
 exact⟨by omega,b.trans I⟩
 show b4.length -(i+1)<b4.length -i;omega
 rintro ch M T V _ _ ⟨_,_,_,e,_⟩
 cases e
 exact bt
 exact absurd x (by simp)
theorem LX:aF 109:=by unfold aF;kernel_rfl
def C9:Prop:=∀{R:World} {v:Value} {t:Ty},a6 Ty.Cs 4 R v [t]→g3 t→bd 109 [v] R (fun u R'=>a6 dU 1 R' u (varsOf t))
theorem ck.LY(h:ck dj bI ah aJ a0 cj bR):ck dj bI ah ⟨dj.K0,aJ.H⟩ a0 cj bR:=by
 have c:∀b,dj.K0 b≠none→aJ.K b≠none:=fun b a=>by
  cases e:dj.K0 b with
  |none=>exact absurd e a
  |some o=>rw[h.sub b o e];simp
 have d:∀b,(dj.K0 b≠none∨aJ.H b≠none)→aJ.K b≠none∨aJ.H b≠none:=fun b a=>a.imp (c b) id
 exact⟨h.rel,⟨fun b ob a=>h.own.k b ob (h.sub b ob a),h.own.h,fun b a=>h.own.kh b (c b a),fun b a=>h.own.box b (d b a),fun b a=>h.own.row b (d b a),h.own.b9⟩,h.gZ,fun b ob a _=> .inl a,fun b ob a=>a⟩
theorem LZ(k:DX dj dy eN bI ah ⟨dj.K0,aJ.H⟩):DX dj dy eN bI ah aJ:=fun ad a W h=>k ad a W h.LY
def nF (vs:List Int) (i:Nat) (n:Int):Option Int:=((vs.take i).idxOf? n).map fun i:Nat=>(i:Int)
theorem L0(vs:List Int):nF vs 0=fun _=>none:=by funext n;simp[nF]
theorem L1(g:cC.Nodup){i:Nat}(h:i<cC.length):(fun n=>(nF cC (i+1) n).map (Value.int .i64))=gd (fun n=>(nF cC i n).map (Value.int .i64)) cC[i] (zI (i:Int)):=by
 funext n
 unfold gd nF
 rw[List.take_succ_eq_append_getElem h]
 have d:(cC.take i).length=i:=by rw[List.length_take];omega
 by_cases e:n=cC[i]
 ·subst e
  have k:cC[i]∉cC.take i:=fun q=>by
   obtain⟨j,f,e⟩:=List.getElem_of_mem q
   rw[List.getElem_take] at e
   rw[d] at f
   have:=(List.getElem_inj g).1 e
   omega
  rw[if_pos rfl]
  have c:(cC.take i).idxOf? cC[i]=none:=by
   rw[List.idxOf?,List.findIdx?_eq_none_iff]
   intro x b
   simp only[beq_eq_false_iff_ne,ne_eq]
   exact fun q=>k (q▸b)
  have a:(cC.take i++ [cC[i]]).idxOf? cC[i]=some i:=by
   unfold List.idxOf? at c⊢
   rw[List.findIdx?_append,c]
   simp[d]
  rw[a]
  rfl
 ·rw[if_neg e]
  have a:(cC.take i++ [cC[i]]).idxOf? n=(cC.take i).idxOf? n:=by
   unfold List.idxOf?
   rw[List.findIdx?_append]
   have:([cC[i]]:List Int).findIdx? (·==n)=none:=by
    rw[List.findIdx?_eq_none_iff]
    intro x b
    rw[List.mem_singleton.1 b]
    simpa using fun q:cC[i]=n=>e q.symm
   rw[this]
   simp
  rw[a]
theorem L2(h:g3 bC):(varsOf bC).Nodup:=(xT (l:=iD bC) (acc:=[]) List.nodup_nil (fun x a=>by cases a) h).1
theorem uB(aq:C9):qa:=by
 intro R X v t U M
 have aI:=U
 obtain⟨aP,a8,rfl,bl,aJ⟩:=U
 refine eh func97 rfl ntmps97 rfl fun w G ad=> ?_
 have V:=L2 M
 have aN:=C5 M
 generalize hvs:varsOf t=vs at V aN
 refine cG 7 rfl ?_
 refine rv rfl ?_
 rintro c aZ _ ap rfl
 refine an 8 rfl ?_
 refine kQ (aq aI M) LX rfl rfl ?_
 rintro _ D aL Y
 rw[hvs] at Y
 obtain⟨aR,ba,rfl,bm,aK⟩:=Y
 refine an 5 rfl ?_
 refine eA (ι:=Nat×(Array MapEntry)×Nat) [0,2,3,11,12] 1 rfl (fun(i,es,o)=>(⟨[(13,.val (zI (i:Nat)))],[],[]⟩,D,⟨X.K,aQ X.H c (.map es o)⟩,i≤vs.length∧ma es (fun n=>(nF vs i n).map (Value.int .i64)),vs.length -i)) (0,#[],0) rfl rfl rfl [] rfl ?_ ?_
 exact⟨Nat.zero_le _,by rw[L0];exact iw.nil⟩
 rintro⟨i,es,o⟩ ⟨bn,I⟩
 show VX _ _ _ ⟨_,_,_⟩ D ⟨X.K,aQ X.H c (.map es o)⟩
 refine aE 6 rfl ?_
 cases P:(decide (((i:Nat):Int)<((vs.length:Nat):Int)))
 have aD:i=vs.length:=by have:=of_decide_eq_false P;omega
 refine aE 7 rfl ?_
 refine uq (bs:=[]) rfl rfl ?_
 rintro f a0 bk y rfl
 have S:f≠c:=fun q=>by rw[q] at y;exact absurd y (by show aQ X.H c _ c≠none;rw[b0];simp)
 have bf:X.H f=none:=(bh _ _ S).symm.trans y
 refine uh (b:=f) (b0 _ _ _) ?_
 intro bi
 rw[j8 _ _ y]
 refine uh (b:=c) (b0 _ _ _) ?_
 intro bj
 rw[j8 _ _ ap]
 have p:∃d:Hx,d=⟨aQ (aQ X.K f (.cells [.map (some c)].toArray 222 (0,0))) c (.map es o),X.H⟩:=⟨_,rfl⟩
 obtain⟨d,p⟩:=p
 have ax:xy d f (p9 t):=by
  rw[p]
  refine⟨c,es,o,(bh _ _ S).trans (b0 _ _ _),b0 _ _ _,?_⟩
  have ao:nF vs i=p9 t:=by
   funext n
   unfold nF p9
   rw[aD,List.take_length,hvs]
  rw[ao] at I
  exact I
 rw[←p]
 obtain⟨a,E⟩:∃a:Ty→Ty,a=kX (fun n=>(p9 t n).getD 0):=⟨_,rfl⟩
 refine aE 13 rfl ?_
 refine ul 89 4 ?_
 refine eA (ι:=Nat×Wd×OA×Nat×LV) [2,3,22,23] 0 rfl (fun(j,l,k,m,C)=>(⟨[(6,.val (.slice k (([t].take j).map a).length m)),(24,.val (zI (j:Nat)))],[],[⟨.slice k (([t].take j).map a).length m,(([t].take j).map a).length,C,89,4⟩]⟩,l,d,j≤1∧Sub R l∧dL Ty.Cs 4 l k (([t].take j).map a) m C,1 -j)) (0,D,none,0,[]) rfl rfl rfl [1,1,1,1,1,1] rfl ?_ ?_
 exact⟨b2 _,aL,dL.nil⟩
 rintro⟨j,l,k,m,C⟩ ⟨bo,L,g⟩
 show VX _ _ _ ⟨_,_,_⟩ l d
 refine aE 6 rfl ?_
 cases Q:(decide (((j:Nat):Int)<(([t].length:Nat):Int)))
 have aF:j=1:=by have:=of_decide_eq_false Q;simp at this;omega
 subst aF
 refine aE 13 rfl ?_
 refine LZ ?_
 rw[show d.H=X.H by rw[p]]
 exact dm results97 (aT rfl) ⟨rfl,rfl,_,rfl,k,m,by rw[E];rfl,⟨g.2.2.1,g.2.2.2.1,by simp,g.2.2.2.2⟩,by have:=a5.of g.2.1 g.1;rw[E] at this;exact this⟩
 have x:j=0:=by have:=of_decide_eq_true Q;simp at this;omega
 subst x
 refine aE 7 rfl ?_
 obtain⟨a7,bt,bd,am,A,aG⟩:=a5.get a2 aJ 0 (by simp)
 cases am
 rw[List.getElem_cons_zero] at A
 have az:=A
 obtain⟨⟨bp,bu,bq,bw⟩,aM⟩:∃z,z=t:=⟨_,rfl⟩
 rw[←aM] at A
 obtain⟨aS,a4,rfl,_⟩:=A
 refine xp (a3 (i:=0) rfl rfl rfl (by simp) jc) rfl (xp (cl rfl (fun j u hu=>L _ _ _ (aG j u hu)) rfl) rfl (an 7 rfl (xp (v:= .val (.func (.func 111) #[] [.pointer (some ⟨f,0,none⟩)].toArray)) (KB rfl) rfl ?_)))
 refine dP (KP t.size (Ty.Cs.sub az L) (a9 _) ax) CH rfl rfl ?_ ?_
 rintro bv aO aV aY W -⟨rfl,F,_,e,bb,rfl,r⟩
 cases e
 replace F:=F.symm
 subst F
 rw[←E] at r
 obtain⟨⟨aa,ac,ab,ae⟩,Z⟩:∃z,z=a t:=⟨_,rfl⟩
 rw[←Z] at r
 have ay:=r
 obtain⟨N,O,rfl,_⟩:=ay
 refine fc jc rfl ?_
 intro be aU B aB
 refine lZ _ (List.Perm.swap _ _ _) ?_
 refine jH (news:=[zI aa,.string ac,zI ab,.slice N ae.length O]) rS rfl rfl (cd rfl aB) (fun h=>by cases h) (fun u hu=>a2.one (Ty.Cs.sub r B) u hu) (by simp) rfl rfl ?_
 intro af aj ag J ar au av aw
 rw[show (([t].take 0).map a).length+1=(([t].take (0+1)).map a).length from rfl]
 refine an 5 rfl (xp (bA rfl rfl (by omega)) rfl (an 2 rfl ?_))
 refine dI (0+1,ag,af,aj,C++ [zI aa,.string ac,zI ab,.slice N ae.length O]) rfl rfl rfl [1] rfl ?_ ?_
 exact⟨by decide,L.trans (ai (ai W B) J),⟨by rw[show [t].take (0+1)=[t].take 0++ [t] from rfl,List.map_append];exact c6 (bg a2 (ai (ai W B) J) g.1) (c4 (by rw[←Z];exact Ty.Cs.sub r (ai B J))),aw,ar,au,av⟩⟩
 show 1 -(0+1)<1 -0;omega
 rintro ch aO aW a1 _ _ ⟨_,_,_,e,_⟩
 cases e
 have x:i<vs.length:=by have:=of_decide_eq_true P;omega
 refine aE 8 rfl ?_
 obtain⟨a6,br,bc,al,aA,aH⟩:=a5.get cP aK i x
 cases al
 have aC:=aH 0 (zI vs[i]) (by rw[aA];rfl)
 refine xp (a3 rfl rfl rfl x gE) rfl (xp (dT rfl bG aC) rfl (an 8 rfl ?_))
 refine KG (s:=vs[i]) (v:=zI (i:Nat)) rfl rfl rfl (b0 _ _ _) I CG ?_
 rintro ak ah aX T rfl
 simp only[iM]
 rw[←L1 V x] at T
 refine an 4 rfl (xp (bA rfl rfl (by omega)) rfl (an 2 rfl ?_))
 refine dI (i+1,ak,ah) rfl rfl rfl [] rfl ?_ ?_
 exact⟨by omega,T⟩
 show vs.length -(i+1)<vs.length -i;omega
def bK {α:Type} (m a:M α):Prop:=∀st r,m st=some r→a st=some r
theorem bK.refl{α:Type}(m:M α):bK m m:=fun _ _ h=>h
abbrev cf:=@bK.refl
theorem bK.bind{α β:Type}{m b:M α}{q c:α→M β}(d:bK m b)(f:∀a,bK (q a) (c a)):bK (m.bind q) (b.bind c):=by
 intro st r h
 unfold M.bind at h⊢
 cases e:m st with
 |none=>rw[e] at h;cases h
 |some x=>
  rw[e] at h
  rw[d st _ e]
  rcases x with t|⟨a,a1⟩
  ·exact h
  ·exact f a a1 r h
theorem bK.ite{c:Prop} [Decidable c]{a d b b':M cW}(e:c→bK a d)(f:¬c→bK b b'):bK (if c then a else b) (if c then d else b'):=by
 by_cases h:c
 ·rw[if_pos h,if_pos h];exact e h
 ·rw[if_neg h,if_neg h];exact f h
structure eD (f f':cT):Prop where
 force:∀c,bK (f.force c) (f'.force c)
 eval:∀e v,bK (f.eval e v) (f'.eval e v)
 func:∀s l,bK (f.func s l) (f'.func s l)
 fU:∀p c v,bK (f.fU p c v) (f'.fU p c v)
 whole:∀c s,bK (f.whole c s) (f'.whole c s)
 read:∀c l r,bK (f.read c l r) (f'.read c l r)
section
variable{f f':cT}
theorem bK.apply(h:eD f f')(c:Nat)(args:List Nat):bK (apply f c args) (apply f' c args):=by
 cases args with
 |nil=>exact cf _
 |cons a r=>
  dsimp only[Mo.apply]
  refine(cf (cell c)).bind fun x=> ?_
  cases x with
  |fn s l=>exact h.func _ _
  |_=>exact cf _
theorem bK.name(h:eD f f')(s:BA)(v:Env)(args:List Nat):bK (name f s v args) (name f' s v args):=by
 unfold Mo.name
 cases v s with
 |none=>exact h.func _ _
 |some i=>exact(h.force _).bind fun c=>bK.apply h c args
theorem bK.jo(h:eD f f')(c:Nat):bK (jo f c) (jo f' c):=by
 refine(cf (cell c)).bind fun x=> ?_
 cases x with
 |dF e v=>exact(h.eval _ _).bind fun x=>cf _
 |_=>exact cf _
theorem bK.gQ(h:eD f f')(e:Ex)(v:Env):bK (gQ f e v) (gQ f' e v):=
 (cf _).bind fun i=>(h.force i).bind fun c=>cf _
theorem bK.oper(h:eD f f')(e:Ex)(v:Env):bK (oper f e v) (oper f' e v):=by
 unfold Mo.oper
 cases e.ys with
 |nil=>exact cf _
 |cons x r=>
  cases r with
  |nil=>exact cf _
  |cons y r=>
   cases r with
   |nil=>
    refine bK.ite (fun _=> ?_) (fun _=> ?_)
    ·exact(cf _).bind fun k=>(cf _).bind fun i=>h.force i
    ·exact(bK.gQ h _ _).bind fun a=>(bK.gQ h _ _).bind fun b=>cf _
   |cons z r=>exact cf _
theorem bK.other(h:eD f f')(e:Ex)(v:Env):bK (other f e v) (other f' e v):=by
 unfold Mo.other
 refine bK.ite (fun _=>cf _) (fun _=>bK.ite (fun _=>bK.oper h e v) (fun _=>bK.ite (fun _=> ?_) (fun _=>bK.ite (fun _=> ?_) (fun _=>bK.ite (fun _=> ?_) (fun _=>cf _)))))
 ·match e.ys with
  |[]=>exact cf _
  |[_]=>exact cf _
  |[_,_]=>exact cf _
  |[x,y,z]=>exact(cf _).bind fun i=>(h.force i).bind fun c=>(cf _).bind fun k=>h.eval _ _
  |_::_::_::_::_=>exact cf _
 ·match e.ys with
  |[]=>exact cf _
  |[_]=>exact cf _
  |[x,y]=>exact(cf _).bind fun i=>h.eval _ _
  |_::_::_::_=>exact cf _
 ·match e.ys with
  |[]=>exact cf _
  |[x]=>exact(cf _).bind fun i=>h.eval _ _
  |_::_::_=>exact cf _
theorem bK.iO(h:eD f f')(e:Ex)(v:Env):bK (iO f e v) (iO f' e v):=by
 refine(cf tick).bind fun _=>bK.ite (fun _=>cf _) (fun _=>bK.ite (fun _=> ?_) (fun _=> ?_))
 ·exact(cf _).bind fun l=>bK.name h _ _ _
 ·cases cA e with
  |nil=>exact bK.other h e v
  |cons x r=>exact(cf _).bind fun i=>(h.force i).bind fun c=>(cf _).bind fun l=>bK.apply h c l
theorem bK.dB(h:eD f f'):∀(ps:List Ex) (cs:List Nat) (v:Env),bK (dB f ps cs v) (dB f' ps cs v)
 |[],_,v=>by unfold Mo.dB;exact cf _
 |_::_,[],v=>by unfold Mo.dB;exact cf _
 |p::ps,c::cs,v=>by unfold Mo.dB;exact(h.fU p c v).bind fun v=>bK.dB h ps cs v
theorem bK.guards(h:eD f f')(v:Env):∀l,bK (guards f v l) (guards f' v l)
 |[]=>cf _
 |g::r=>by
  unfold Mo.guards
  refine(cf _).bind fun i=>(h.force i).bind fun c=>(cf (cell c)).bind fun x=> ?_
  cases x with
  |unknown=>exact(cf _).bind fun _=>bK.guards h v r
  |cw s l=>exact bK.ite (fun _=>bK.guards h v r) (fun _=>cf _)
  |_=>exact cf _
theorem bK.hJ(h:eD f f')(r:Rl)(args:List Nat):bK (hJ f r args) (hJ f' r args):=(bK.dB h _ _ _).bind fun v=>(bK.guards h v _).bind fun _=>(cf _).bind fun i=>h.force i
theorem bK.ha(h:eD f f')(rules:List Rl)(args:List Nat):bK (ha f rules args) (ha f' rules args):=by
 match rules with
 |[]=>exact cf _
 |[r]=>exact bK.hJ h _ _
 |r::s::l=>exact(cf _).bind fun k=>bK.hJ h _ _
theorem bK.hb(h:eD f f')(rs:cU)(s:BA)(args:List Nat):bK (hb rs f s args) (hb rs f' s args):=by
 unfold Mo.hb
 cases rs s with
 |nil=>exact cf _
 |cons r l=>exact bK.ite (fun _=>cf _) (fun _=>(bK.ha h _ _).bind fun c=>bK.apply h c _)
theorem bK.h9(h:eD f f')(p:Ex)(c:Nat)(v:Env):bK (h9 f p c v) (h9 f' p c v):=by
 unfold Mo.h9
 refine bK.ite (fun _=>cf _) (fun _=>bK.ite (fun _=>cf _) (fun _=>(h.force c).bind fun c=>bK.ite (fun _=>cf _) (fun _=>(cf (cell c)).bind fun x=> ?_)))
 cases x with
 |unknown=>exact(cf _).bind fun l=>(cf _).bind fun _=>bK.dB h _ _ _
 |cw s l=>exact bK.ite (fun _=>bK.dB h _ _ _) (fun _=>cf _)
 |_=>exact cf _
theorem bK.gg(h:eD f f'):∀l s,bK (gg f l s) (gg f' l s)
 |[],s=>cf _
 |x::r,s=>(h.whole x s).bind fun s=>bK.gg h r s
theorem bK.eB(h:eD f f')(c:Nat)(s:List Nat):bK (eB f c s) (eB f' c s):=by
 refine(cf (cell c)).bind fun x=> ?_
 cases x with
 |cw n l=>exact bK.ite (fun _=>cf _) (fun _=>bK.gg h _ _)
 |_=>exact cf _
theorem bK.kf(h:eD f f')(c:Nat)(s:List Nat):bK (kf f c s) (kf f' c s):=(h.force c).bind fun c=>bK.eB h c s
theorem bK.reads(h:eD f f'):∀l s r,bK (reads f l s r) (reads f' l s r)
 |[],s,r=>cf _
 |x::q,s,r=>(h.read x s r).bind fun a=>(bK.reads h q _ _).bind fun b=>cf _
theorem bK.fm(h:eD f f')(c:Nat)(s:List Nat)(r:Nat):bK (fm f c s r) (fm f' c s r):=by
 refine(cf (cell c)).bind fun x=> ?_
 cases x with
 |cw n l=>exact(bK.reads h _ _ _).bind fun b=>cf _
 |_=>exact cf _
theorem bK.iP(h:eD f f')(c:Nat)(s:List Nat)(r:Nat):bK (iP f c s r) (iP f' c s r):=by
 cases r with
 |zero=>exact cf _
 |succ r=>exact(h.force c).bind fun c=>bK.fm h c s _
theorem eD.next(h:eD f f')(rs:cU):eD (next rs f) (next rs f'):=
 ⟨bK.jo h,bK.iO h,bK.hb h rs,bK.h9 h,bK.kf h,bK.iP h⟩
end
theorem eD.refl(f:cT):eD f f:=⟨fun _=>cf _,fun _ _=>cf _,fun _ _=>cf _,fun _ _ _=>cf _,fun _ _=>cf _,fun _ _ _=>cf _⟩
theorem eD.trans{f g h:cT}(a:eD f g)(b:eD g h):eD f h:=⟨fun c st r q=>b.force c st r (a.force c st r q),fun e v st r q=>b.eval e v st r (a.eval e v st r q),fun s l st r q=>b.func s l st r (a.func s l st r q),fun p c v st r q=>b.fU p c v st r (a.fU p c v st r q),fun c s st r q=>b.whole c s st r (a.whole c s st r q),fun c l n st r q=>b.read c l n st r (a.read c l n st r q)⟩
theorem eD.step(rs:cU):∀g,eD (aB rs g) (aB rs (g+1))
 |0=>⟨fun _ st r h=>(by cases h),fun _ _ st r h=>(by cases h),fun _ _ st r h=>(by cases h),fun _ _ _ st r h=>(by cases h),fun _ _ st r h=>(by cases h),fun _ _ _ st r h=>(by cases h)⟩
 |g+1=>(eD.step rs g).next rs
theorem eD.le(rs:cU){g:Nat}:∀{h:Nat},g≤h→eD (aB rs g) (aB rs h)
 |0,a=>by obtain rfl:g=0:=by omega
          exact eD.refl _
 |h+1,a=>by
  by_cases e:g=h+1
  ·subst e;exact eD.refl _
  ·exact(eD.le rs (h:=h) (by omega)).trans (eD.step rs h)
theorem aG.at{m:cT→M cW}(a:∀{f f'},eD f f'→bK (m f) (m f')){r:Mo.ei cW}(h:m (aB aD ae) ap=some r):aG (fun ae=>m (aB aD ae)) ap r:=⟨ae,fun b hh=>a (eD.le aD hh) ap r h⟩
theorem aG.parts{m:cT→M cW}{k:cT→cW→M wC}(c:∀{f f'},eD f f'→bK (m f) (m f'))(d:∀a {f f'},eD f f'→bK (k f a) (k f' a)){r:Mo.ei wC}(h:aG (fun g=>(m (aB aD g)).bind (k (aB aD g))) ap r):
 (∃t,aG (fun g=>m (aB aD g)) ap (.error t)∧r= .error t)∨∃a a1,aG (fun g=>m (aB aD g)) ap (.ok (a,a1))∧aG (fun g=>k (aB aD g) a) a1 r:=by
 obtain⟨G,h⟩:=h
 have b:((m (aB aD G)).bind (k (aB aD G))) ap=some r:=h G (a9 _)
 unfold M.bind at b
 cases e:m (aB aD G) ap with
 |none=>rw[e] at b;cases b
 |some x=>
  rw[e] at b
  rcases x with t|⟨a,a1⟩
  ·cases b
   exact .inl ⟨t,aG.at c e,rfl⟩
  ·exact .inr ⟨a,a1,aG.at c e,aG.at (d a) b⟩
theorem aG.Da{m:Nat→M cW}{r:Mo.ei cW}(h:aG m ap r):aG (fun g=>m (g+1)) ap r:=by
 obtain⟨G,h⟩:=h
 exact⟨G,fun g a=>h (g+1) (by omega)⟩
def sg (f:cT):M Ty:=(f.force 1).bind fun r=>(put 0 (.link r)).bind fun _=>(eB f r []).bind fun _=>(fm f r [] 999).bind fun a=>M.ret (jR a.1)
theorem aU.L3(h:gz cI):aU (sg cI):=(h.force 1).bind fun r=>(aU.put _ _).bind fun _=>(aU.eB h _ _).bind fun _=>(aU.fm h _ _ _).bind fun a=>aU.ret _
theorem L4{n k:Nat}{p:List Int}(h:aG (fun g=>sg (aB aD g)) ⟨ue,n,p⟩ ie)(b:¬pT ie):aG (fun g=>sg (aB aD g)) ⟨ue,n+k,p⟩ (rA k ie):=by
 obtain⟨G,h⟩:=h
 exact⟨G,fun g a=>aU.L3 (gz.aB aD g) k _ ie (h g a) b⟩
def hK (c:Nat):M Unit:=put 0 (.link c)
theorem Gh.sh:Gh aD 1 hK:=fun c st w a=>⟨{st with cells:=st.cells.set 0 (.link c)},rfl,rfl,jq,rfl,fun i b=>by
 rw[nq]
 exact if_neg (fun q=>by omega)⟩
theorem aR.sh(c:Nat):aR (hK c):=aR.put _ _
theorem nG:later aM Env.nil ap=some (.ok (ap.len,{ap with cells:=ap.cells++ [.dF aM Env.nil]})):=by
 unfold later
 have:(if aM.k=1 then Env.nil aM.s else none)=none:=by split<;>rfl
 rw[this]
 rfl
theorem Db{d c a:Nat}(w:WF aD d ap)(e:In d ap c)(i:ap.at c= .dF aM b3)(h:aG (fun g=>(aB aD g).force c) ap (.ok (a,aW))):aW.at c= .link a:=by
 have l:aG (fun g=>jo (aB aD g) c) ap (.ok (a,aW)):=aG.Da h
 refine jO l fun g b=> ?_
 replace b:=cp b
 obtain⟨x,b6,k,b⟩:=b
 obtain⟨j,rfl⟩:=jL k
 rw[i] at j
 subst j
 have f:=w.ok c e
 rw[i] at f
 replace b:=cp b
 obtain⟨y,o,h3,b⟩:=b
 replace b:=cp b
 obtain⟨u,p,m,b⟩:=b
 obtain⟨rfl,rfl⟩:=dG b
 have n:=((eT.aB aD d g).eval w f h3).1
 cases m
 rw[nq,if_pos ⟨rfl,Nat.lt_of_lt_of_le e.2 n.le.len⟩]
theorem xX{d c:Nat}(w:WF aD d ap)(a:In d ap c)(e:di d ap aI)(h:aG (fun g=>eB (aB aD g) c aI) ap (.ok (gA,aW))):Mo.Good aD d ap aW:=jO h fun g b=>(Bj (eT.aB aD d g) w a e b).1
theorem xY{c j:Nat}(h:Le ap aW)(a:c<ap.len)(b:ap.at c= .link j):aW.at c= .link j:=by
 have:=h.cell c a
 rw[b] at this
 exact this
theorem uC{c a room:Nat}(d:ap.at c= .link a):aG (fun g=>(aB aD g).read c aI (room+1)) ap uk↔aG (fun g=>fm (aB aD g) a aI room) ap uk:=by
 constructor
 ·intro h
  have e:aG (fun g=>((aB aD g).force c).bind fun c=>fm (aB aD g) c aI room) ap uk:=aG.Da h
  rcases aG.parts (m:=fun f=>f.force c) (k:=fun f c=>fm f c aI room) (fun h=>h.force c) (fun a _ _ h=>bK.fm h a aI room) e with⟨t,h3,rfl⟩|⟨b,a1,h3,h4⟩
  ·have:=h3.one (oA d)
   cases this
  ·have:=h3.one (oA d)
   cases this
   exact h4
 ·exact fun h=>lo (oA d) h
theorem L5{x:Ex}{n:Nat}{p:List Int}(h:aG (fun g=>hv (aB aD g) hK x) ⟨[l1],n,p⟩ ie):aG (fun g=>sg (aB aD g)) ⟨[l1,.dF x Env.nil],n,p⟩ ie:=by
 have w0:WF aD 1 (⟨[l1],n,p⟩:PS):=xu (cells:=[l1])
 have B:=hV (e:=x) w0 ed.nil (nG)
 have r:WF aD 1 (⟨[l1,.dF x Env.nil],n,p⟩:PS):=B.1.wf
 have j:In 1 (⟨[l1,.dF x Env.nil],n,p⟩:PS) 1:=B.2
 have C:aG (fun g=>(mI (aB aD g) hK 1).bind fun t=>M.ret (jR t)) ⟨[l1,.dF x Env.nil],n,p⟩ ie:=by
  rcases aG.parts (m:=fun _=>later x Env.nil) (k:=fun f c=>(mI f hK c).bind fun t=>M.ret (jR t)) (fun _=>cf _) (fun a _ _ h=>(((h.force a).bind fun c=>(cf _).bind fun _=>bK.eB h _ _).bind fun _=>(h.read _ _ _).bind fun a=>cf _).bind fun t=>cf _) h with⟨t,h3,_⟩|⟨b,a1,h3,h4⟩
  ·have:=h3.one (b8 (m:=later x Env.nil) nG)
   cases this
  ·have:=h3.one (b8 (m:=later x Env.nil) nG)
   cases this
   exact h4
 have D:∀{f f':cT},eD f f'→bK (mI f hK 1) (mI f' hK 1):=fun h=>((h.force 1).bind fun c=>(cf _).bind fun _=>bK.eB h _ _).bind fun _=>(h.read _ _ _).bind fun a=>cf _
 rcases aG.parts (m:=fun f=>mI f hK 1) (k:=fun _ t=>M.ret (jR t)) D (fun _ _ _ _=>cf _) C with⟨t,h2,rfl⟩|⟨ty,st4,h2,h3⟩
 all_goals rcases aG.parts (m:=fun f=>nx f hK 1 []) (k:=fun f _=>(f.read 1 [] 1000).bind fun a=>M.ret a.1) (fun h=>(h.force 1).bind fun c=>(cf _).bind fun _=>bK.eB h _ _) (fun _ _ _ h=>(h.read _ _ _).bind fun a=>cf _) h2 with⟨t2,h5,e5⟩|⟨s,st3,h5,h6⟩
 all_goals rcases aG.parts (m:=fun f=>f.force 1) (k:=fun f c=>(hK c).bind fun _=>eB f c []) (fun h=>h.force 1) (fun a _ _ h=>(cf _).bind fun _=>bK.eB h _ _) h5 with⟨t7,h7,e7⟩|⟨r1,b6,h7,h8⟩
 all_goals try(cases e7)
 all_goals try(cases e5)
 ·exact ej h7
 ·have d:aG (fun g=>eB (aB aD g) r1 []) {b6 with cells:=b6.cells.set 0 (.link r1)} (.error t):=by
   rcases aG.parts (m:=fun _=>hK r1) (k:=fun f _=>eB f r1 []) (fun _=>cf _) (fun _ _ _ h=>bK.eB h _ _) h8 with⟨t3,h10,_⟩|⟨_,a1,h10,h11⟩
   ·have:=h10.one (b8 (m:=hK r1) rfl);cases this
   ·have:=h10.one (b8 (m:=hK r1) rfl);cases this;exact h11
  exact bB h7 (bB (m:=fun _=>put 0 (.link r1)) (b8 rfl) (ej d))
 ·have d:aG (fun g=>eB (aB aD g) r1 []) {b6 with cells:=b6.cells.set 0 (.link r1)} (.ok (s,st3)):=by
   rcases aG.parts (m:=fun _=>hK r1) (k:=fun f _=>eB f r1 []) (fun _=>cf _) (fun _ _ _ h=>bK.eB h _ _) h8 with⟨t3,h10,_⟩|⟨_,a1,h10,h11⟩
   ·have:=h10.one (b8 (m:=hK r1) rfl);cases this
   ·have:=h10.one (b8 (m:=hK r1) rfl);cases this;exact h11
  obtain⟨g1,v,_⟩:=kU r j h7
  have y:=Db r j rfl h7
  have o:∀i,1≤i→({b6 with cells:=b6.cells.set 0 (.link r1)}:PS).at i=b6.at i:=fun i l=>by
   rw[nq]
   exact if_neg (fun q=>by omega)
  have A:WF aD 1 {b6 with cells:=b6.cells.set 0 (.link r1)}:=xe g1.wf jq o
  have w:In 1 {b6 with cells:=b6.cells.set 0 (.link r1)} r1:=(jQ jq).2 v
  have u:=xX A w (fun i l=>by cases l) d
  have z:st3.at 1= .link r1:=xY u.le (by rw[jq];exact Nat.lt_of_lt_of_le j.2 g1.le.len) ((o 1 (Nat.le_refl _)).trans y)
  rcases aG.parts (m:=fun f=>f.read 1 [] 1000) (k:=fun _ (a:Ty×List Nat×Nat)=>M.ret a.1) (fun h=>h.read _ _ _) (fun _ _ _ _=>cf _) h6 with⟨t3,h10,e10⟩|⟨a,st5,_,h11⟩
  ·cases e10
   exact bB h7 (bB (m:=fun _=>put 0 (.link r1)) (b8 rfl) (bB d (ej ((uC z).1 h10))))
  ·have:=h11.one fD
   cases this
 ·have d:aG (fun g=>eB (aB aD g) r1 []) {b6 with cells:=b6.cells.set 0 (.link r1)} (.ok (s,st3)):=by
   rcases aG.parts (m:=fun _=>hK r1) (k:=fun f _=>eB f r1 []) (fun _=>cf _) (fun _ _ _ h=>bK.eB h _ _) h8 with⟨t3,h10,_⟩|⟨_,a1,h10,h11⟩
   ·have:=h10.one (b8 (m:=hK r1) rfl);cases this
   ·have:=h10.one (b8 (m:=hK r1) rfl);cases this;exact h11
  obtain⟨g1,v,_⟩:=kU r j h7
  have y:=Db r j rfl h7
  have o:∀i,1≤i→({b6 with cells:=b6.cells.set 0 (.link r1)}:PS).at i=b6.at i:=fun i l=>by
   rw[nq]
   exact if_neg (fun q=>by omega)
  have A:WF aD 1 {b6 with cells:=b6.cells.set 0 (.link r1)}:=xe g1.wf jq o
  have w:In 1 {b6 with cells:=b6.cells.set 0 (.link r1)} r1:=(jQ jq).2 v
  have u:=xX A w (fun i l=>by cases l) d
  have z:st3.at 1= .link r1:=xY u.le (by rw[jq];exact Nat.lt_of_lt_of_le j.2 g1.le.len) ((o 1 (Nat.le_refl _)).trans y)
  rcases aG.parts (m:=fun f=>f.read 1 [] 1000) (k:=fun _ (a:Ty×List Nat×Nat)=>M.ret a.1) (fun h=>h.read _ _ _) (fun _ _ _ _=>cf _) h6 with⟨t3,_,e10⟩|⟨a,st5,h10,h11⟩
  ·cases e10
  ·have:=h11.one fD
   cases this
   have:=h3.one fD
   subst this
   exact bB h7 (bB (m:=fun _=>put 0 (.link r1)) (b8 rfl) (bB d (bB ((uC z).1 h10) fD)))
def fa (x y:Ex):Ex:= .mk 5 sQ 0 [x,y] 0 0
theorem Dc{x y:Ex}{n:Nat}{p:List Int}(h:aG (fun g=>(aB aD g).force 1) ⟨[.dF (fa x y) Env.nil,.dF (if ca then y else x) Env.nil],n,p⟩ gh):
 aG (fun g=>(aB aD g).eval (fa x y) Env.nil) ⟨[.dF (fa x y) Env.nil],n+1,(if ca then 1 else 0)::p⟩ gh:=by
 refine aG.step (m:=fun g=>(aB aD g).eval (fa x y) Env.nil) ?_
 show aG (fun g=>iO (aB aD g) (fa x y) Env.nil) _ gh
 have e1:∀f:cT,iO f (fa x y) Env.nil=tick.bind fun _=>(pick 2).bind fun k=>(later (if k=0 then x else y) Env.nil).bind fun i=>f.force i:=fun f=>by rfl
 simp only[e1]
 refine bB (m:=fun _=>tick) (a:=()) (a1:=⟨[.dF (fa x y) Env.nil],n,(if ca then 1 else 0)::p⟩) (b8 rfl) ?_
 cases ca with
 |false=>
  refine bB (m:=fun _=>pick 2) (a:=0) (a1:=⟨[.dF (fa x y) Env.nil],n,p⟩) (b8 rfl) ?_
  exact bB (m:=fun _=>later x Env.nil) (b8 nG) h
 |true=>
  refine bB (m:=fun _=>pick 2) (a:=1) (a1:=⟨[.dF (fa x y) Env.nil],n,p⟩) (b8 rfl) ?_
  exact bB (m:=fun _=>later y Env.nil) (b8 nG) h
theorem L6{x y:Ex}{n:Nat}:aG (fun g=>hv (aB aD g) (fun _=>M.ret ()) (fa x y)) ⟨[],n+1,[]⟩ (.error (1,2)):=by
 refine bB (m:=fun _=>later (fa x y) Env.nil) (b8 nG) (ej (ej (ej (wN (v:=Env.nil) (e:=fa x y) rfl ?_))))
 refine aG.step (m:=fun g=>(aB aD g).eval (fa x y) Env.nil) ?_
 show aG (fun g=>iO (aB aD g) (fa x y) Env.nil) _ _
 have e1:∀f:cT,iO f (fa x y) Env.nil=tick.bind fun _=>(pick 2).bind fun k=>(later (if k=0 then x else y) Env.nil).bind fun i=>f.force i:=fun f=>by rfl
 simp only[e1]
 exact bB (m:=fun _=>tick) (a:=()) (a1:=⟨[.dF (fa x y) Env.nil],n,[]⟩) (b8 rfl) (ej (m:=fun _=>pick 2) (b8 rfl))
theorem L7{rs:cU}{x y:Ex}{n:Nat}{p:List Int}(h:aG (fun g=>sg (aB rs g)) ⟨[.dF (fa x y) Env.nil,.dF (if ca then y else x) Env.nil],n,p⟩ ie):
 aG (fun g=>hv (aB rs g) (fun _=>M.ret ()) (fa x y)) ⟨[],n+1,(if ca then 1 else 0)::p⟩ ie:=by
 refine bB (m:=fun _=>later (fa x y) Env.nil) (b8 nG) ?_
 have c:(⟨[.dF (fa x y) Env.nil],n+1,(if ca then 1 else 0)::p⟩:PS).at 0= .dF (fa x y) Env.nil:=rfl
 show aG _ ⟨[.dF (fa x y) Env.nil],n+1,(if ca then 1 else 0)::p⟩ ie
 have w0:WF rs 0 (⟨[.dF (fa x y) Env.nil],n+1,(if ca then 1 else 0)::p⟩:PS):=(hV (e:=fa x y) (xu (rs:=rs) (cells:=[]) (ay:=n+1) (jJ:=(if ca then 1 else 0)::p)) ed.nil nG).1.wf
 have v:In 0 (⟨[.dF (fa x y) Env.nil],n+1,(if ca then 1 else 0)::p⟩:PS) 0:=⟨a9 _,Nat.zero_lt_one⟩
 rcases aG.parts (m:=fun f=>f.force 1) (k:=fun f ie=>(put 0 (.link ie)).bind fun _=>(eB f ie []).bind fun _=>(fm f ie [] 999).bind fun a=>M.ret (jR a.1)) (fun h=>h.force 1) (fun a _ _ h=>(cf _).bind fun _=>(bK.eB h _ _).bind fun _=>(bK.fm h _ _ _).bind fun a=>cf _) h with⟨t,h7,rfl⟩|⟨r1,b6,h7,h8⟩
 ·exact ej (ej (ej (wN c (Dc h7))))
 ·have b:=Bq c (Dc h7)
  obtain⟨g1,u,_⟩:=kU w0 v b
  have j:0<b6.len:=by
   have:=g1.le.len
   rw[jq] at this
   exact lA Nat.zero_lt_one this
  have w:({b6 with cells:=b6.cells.set 0 (.link r1)}:PS).at 0= .link r1:=by rw[nq,if_pos ⟨rfl,j⟩]
  have q:aG (fun g=>(eB (aB rs g) r1 []).bind fun _=>(fm (aB rs g) r1 [] 999).bind fun a=>M.ret (jR a.1)) {b6 with cells:=b6.cells.set 0 (.link r1)} ie:=by
   rcases aG.parts (m:=fun _=>put 0 (.link r1)) (k:=fun f _=>(eB f r1 []).bind fun _=>(fm f r1 [] 999).bind fun a=>M.ret (jR a.1)) (fun _=>cf _) (fun _ _ _ h=>(bK.eB h _ _).bind fun _=>(bK.fm h _ _ _).bind fun a=>cf _) h8 with⟨t3,h10,_⟩|⟨_,a1,h10,h11⟩
   ·have:=h10.one (b8 (m:=put 0 (.link r1)) rfl);cases this
   ·have:=h10.one (b8 (m:=put 0 (.link r1)) rfl);cases this;exact h11
  rcases aG.parts (m:=fun f=>eB f r1 []) (k:=fun f _=>(fm f r1 [] 999).bind fun a=>M.ret (jR a.1)) (fun h=>bK.eB h _ _) (fun _ _ _ h=>(bK.fm h _ _ _).bind fun a=>cf _) q with⟨t,h10,rfl⟩|⟨s,st3,h10,h11⟩
  ·exact ej (ej (bB b (bB (m:=fun _=>M.ret ()) fD h10)))
  ·have o:=xX g1.wf u (fun i r=>by cases r) h10
   have d:st3.at 0= .link r1:=xY o.le (by rw[jq];exact j) w
   have l:aG (fun g=>nx (aB rs g) (fun _=>M.ret ()) 0 []) ⟨[.dF (fa x y) Env.nil],n+1,(if ca then 1 else 0)::p⟩ (.ok (s,st3)):=bB b (bB (m:=fun _=>M.ret ()) fD h10)
   rcases aG.parts (m:=fun f=>fm f r1 [] 999) (k:=fun _ (a:Ty×List Nat×Nat)=>M.ret (jR a.1)) (fun h=>bK.fm h _ _ _) (fun _ _ _ _=>cf _) h11 with⟨t,h12,rfl⟩|⟨a,st5,h12,h13⟩
   ·exact ej (bB l (ej ((uC d).2 h12)))
   ·have:=h13.one fD
    subst this
    exact bB (bB l (bB ((uC d).2 h12) fD)) fD
theorem Dd{x y:Ex}{n k:Nat}{b:Bool}{p:List Int}(h:aG (fun g=>hv (aB aD g) hK (if b then y else x)) ⟨[.dF (fa x y) Env.nil],n,p⟩ ie)(a:¬pT ie):
 aG (fun g=>hv (aB aD g) (fun _=>M.ret ()) (fa x y)) ⟨[],n+k+1,(if b then 1 else 0)::p⟩ (rA k ie):=L7 (L4 (L5 h) a)
theorem kZ(h:dl ao=true):hx dl ae ao=true:=by
 unfold hx
 by_cases e:ao=ae
 ·rw[if_pos e]
 ·rw[if_neg e];exact h
theorem nH(a:ao≠ae)(h:hx dl ae ao=true):dl ao=true:=by
 unfold hx at h
 rwa[if_neg a] at h
theorem qd(m:Nat→Bool)(a:Nat):hx m a a=true:=if_pos rfl
variable{nI:Pr}
theorem L8(h:e9 nI ct ae jS dl ga):∀ex rest,ct=ex++rest→ga=none∨∃d c b,e9 nI rest d c b ga∧∀w,dl w=true→b w=true:=by
 induction h with
 |fin=>
  intro ex rest e
  obtain⟨rfl,rfl⟩:=List.append_eq_nil_iff.1 e.symm
  exact .inr ⟨0,_,_,.fin,fun _ h=>h⟩
 |kY=>exact fun _ _ _=> .inl rfl
 |hn f g h j=>
  intro ex rest e
  cases ex with
  |nil=>rw[List.nil_append] at e;subst e;exact .inr ⟨_,_,_,.hn f g h,fun _ h=>h⟩
  |cons a ex=>
   cases e
   rcases j ex rest rfl with q|⟨d,c,b,k,l⟩
   ·exact .inl q
   ·exact .inr ⟨d,c,b,k,fun w i=>l w (kZ i)⟩
 |more f g m h j=>
  intro ex rest e
  cases ex with
  |nil=>rw[List.nil_append] at e;subst e;exact .inr ⟨_,_,_,.more f g m h,fun _ h=>h⟩
  |cons a ex=>
   cases e
   rcases j (kids _ _++ex) rest (List.append_assoc _ _ _).symm with q|⟨d,c,b,k,l⟩
   ·exact .inl q
   ·exact .inr ⟨d,c,b,k,fun w i=>l w (kZ i)⟩
 |stop f g m h j=>
  intro ex rest e
  cases ex with
  |nil=>rw[List.nil_append] at e;subst e;exact .inr ⟨_,_,_,.stop f g m h,fun _ h=>h⟩
  |cons a ex=>
   cases e
   rcases j ex rest rfl with q|⟨d,c,b,k,l⟩
   ·exact .inl q
   ·exact .inr ⟨d,c,b,k,fun w i=>l w (kZ i)⟩
theorem xZ(h:e9 nI ct ae jS dl ga):∀b a,ga=some (b,a)→∀w,dl w=true→a w=true:=by
 induction h with
 |fin=>intro b a e w c;cases e;exact c
 |kY=>intro b a e;cases e
 |hn f g h d=>exact fun b a e w c=>d b a e w (kZ c)
 |more f g i h d=>exact fun b a e w c=>d b a e w (kZ c)
 |stop f g i h d=>exact fun b a e w c=>d b a e w (kZ c)
theorem De(b:Int)(p:List Int)(n:Nat):kids (b::p) n=(kids p n).map (b::·):=by
 unfold kids
 rw[List.map_map]
 rfl
def uD (P a:Pr) (b:Int) (k:Nat):Prop:=∀p r,P p r→¬pT r→a (b::p) (rA k r)
theorem Df:¬pT (.ok (bC,ap):Mo.ei Ty):=fun⟨_,h⟩=>by cases h
theorem uE(h:hs.1≠5):¬pT (.error hs:Mo.ei Ty):=fun⟨n,e⟩=>by cases e;exact h rfl
variable{hL:Pr}
theorem Dg(x:∀p r M,hL p r→hL p M→r=M)(J:uD nI hL bi ae)(h:e9 nI ct ao jS dl ga):
 ∀rest n k c g,e9 hL (ct.map (bi::·)++rest) n k c g→(∀w,w≠5→dl w=true→c w=true)→∀l j,ga=some (l,j)→
  g=none∨∃u o i,e9 hL rest u o i g∧(∀w,w≠5→j w=true→i w=true)∧∀w,c w=true→i w=true:=by
 induction h with
 |fin=>
  intro rest n k c g v s l j e
  cases e
  exact .inr ⟨n,k,c,v,s,fun _ h=>h⟩
 |kY=>intro rest n k c g v s l j e;cases e
 | @hn p st ao jS dl t N f L H h F=>
   intro rest n k c g v s l j e
   have m:hL (bi::p) (.ok (t,up ae N)):=J _ _ H Df
   have E:e9 hL ((bi::p)::(st.map (bi::·)++rest)) n k c g:=v
   have G:∀w,w≠5→hx dl 0 w=true→hx c 0 w=true:=fun w b A=>by
    by_cases e0:w=0
    ·subst e0;exact qd _ _
    ·exact kZ (s w b (nH e0 A))
   cases E with
   |kY=>exact .inl rfl
   |hn y a d=>
    rcases F rest _ _ _ _ d G l j e with q|⟨u,o,i,C,z,D⟩
    ·exact .inl q
    ·exact .inr ⟨u,o,i,C,z,fun w b=>D w (kZ b)⟩
   |more y a B d=>have:=x _ _ _ m a;cases this
   |stop y a B d=>have:=x _ _ _ m a;cases this
 | @more p st ao jS dl t f L H I h F=>
   intro rest n k c g v s l j e
   have m:hL (bi::p) (.error t):=J _ _ H (uE (by rw[I];decide))
   have E:e9 hL ((bi::p)::(st.map (bi::·)++rest)) n k c g:=v
   have G:∀w,w≠5→hx dl 1 w=true→hx c 1 w=true:=fun w b A=>by
    by_cases e0:w=1
    ·subst e0;exact qd _ _
    ·exact kZ (s w b (nH e0 A))
   cases E with
   |kY=>exact .inl rfl
   |hn y a d=>have:=x _ _ _ m a;cases this
   |more y a B d=>
    have:=x _ _ _ m a
    cases this
    rw[De,←List.append_assoc,←List.map_append] at d
    rcases F rest _ _ _ _ d G l j e with q|⟨u,o,i,C,z,D⟩
    ·exact .inl q
    ·exact .inr ⟨u,o,i,C,z,fun w b=>D w (kZ b)⟩
   |stop y a B d=>have:=x _ _ _ m a;cases this;exact absurd I B
 | @stop p st ao jS dl t f L H I h F=>
   intro rest n k c g v s l j e
   have E:e9 hL ((bi::p)::(st.map (bi::·)++rest)) n k c g:=v
   by_cases K:t.1=5
   ·rcases L8 E [bi::p] (st.map (bi::·)++rest) rfl with q|⟨k1,acc1,met1,C,z⟩
    ·exact .inl q
    ·rcases F rest _ _ _ _ C (fun w b A=>z w (s w b (nH (by rw[K];exact b) A))) l j e with q|⟨u,o,i,D,q4,q5⟩
     ·exact .inl q
     ·exact .inr ⟨u,o,i,D,q4,fun w b=>q5 w (z w b)⟩
   ·have m:hL (bi::p) (.error t):=J _ _ H (uE K)
    have G:∀w,w≠5→hx dl t.1 w=true→hx c t.1 w=true:=fun w b A=>by
     by_cases e0:w=t.1
     ·subst e0;exact qd _ _
     ·exact kZ (s w b (nH e0 A))
    cases E with
    |kY=>exact .inl rfl
    |hn y a d=>have:=x _ _ _ m a;cases this
    |more y a B d=>have:=x _ _ _ m a;cases this;exact absurd B I
    |stop y a B d=>
     have:=x _ _ _ m a
     cases this
     rcases F rest _ _ _ _ d G l j e with q|⟨u,o,i,C,z,D⟩
     ·exact .inl q
     ·exact .inr ⟨u,o,i,C,z,fun w b=>D w (kZ b)⟩
theorem Dh(m:∀p r J,hL p r→hL p J→r=J)(G:uD nI hL bi ae)(h:e9 nI ct ao jS dl ga):
 ∀rest l k j g,e9 hL (ct.map (bi::·)++rest) l k j g→∀c b,ga=some (c,b)→b 5≠true→
  g=none∨∃x s new,c=jS++new∧e9 hL rest x (k++new.map fun q=>(bi::q.1,q.2)) s g∧∀w,s w=true→j w=true∨b w=true:=by
 induction h with
 |fin=>
  intro rest l k j g n c b e u
  cases e
  exact .inr ⟨l,j,[],by simp,by simpa using n,fun w h=> .inl h⟩
 |kY=>intro rest l k j g n c b e;cases e
 | @hn p st ao jS dl t L f H z h B=>
   intro rest l k j g n c b e u
   have i:hL (bi::p) (.ok (t,up ae L)):=G _ _ z Df
   have y:e9 hL ((bi::p)::(st.map (bi::·)++rest)) l k j g:=n
   cases y with
   |kY=>exact .inl rfl
   |hn o a d=>
    have:=m _ _ _ i a
    cases this
    rcases B rest _ _ _ _ d c b e u with q|⟨x,s,new,C,D,E⟩
    ·exact .inl q
    ·refine .inr ⟨x,s,(p,t)::new,by rw[C];simp,by simpa using D,fun w A=> ?_⟩
     rcases E w A with q|q
     ·by_cases e0:w=0
      ·subst e0;exact .inr (xZ h c b e 0 (qd _ _))
      ·exact .inl (nH e0 q)
     ·exact .inr q
   |more o a v d=>have:=m _ _ _ i a;cases this
   |stop o a v d=>have:=m _ _ _ i a;cases this
 | @more p st ao jS dl t f H z F h B=>
   intro rest l k j g n c b e u
   have i:hL (bi::p) (.error t):=G _ _ z (uE (by rw[F];decide))
   have y:e9 hL ((bi::p)::(st.map (bi::·)++rest)) l k j g:=n
   cases y with
   |kY=>exact .inl rfl
   |hn o a d=>have:=m _ _ _ i a;cases this
   |more o a v d=>
    have:=m _ _ _ i a
    cases this
    rw[De,←List.append_assoc,←List.map_append] at d
    rcases B rest _ _ _ _ d c b e u with q|⟨x,s,new,C,D,E⟩
    ·exact .inl q
    ·refine .inr ⟨x,s,new,C,D,fun w A=> ?_⟩
     rcases E w A with q|q
     ·by_cases e0:w=1
      ·subst e0;exact .inr (xZ h c b e 1 (qd _ _))
      ·exact .inl (nH e0 q)
     ·exact .inr q
   |stop o a v d=>have:=m _ _ _ i a;cases this;exact absurd F v
 | @stop p st ao jS dl t f H z F h B=>
   intro rest l k j g n c b e u
   have y:e9 hL ((bi::p)::(st.map (bi::·)++rest)) l k j g:=n
   have I:b t.1=true:=xZ h c b e t.1 (qd _ _)
   have K:t.1≠5:=fun q=>u (by rw[←q];exact I)
   have i:hL (bi::p) (.error t):=G _ _ z (uE K)
   cases y with
   |kY=>exact .inl rfl
   |hn o a d=>have:=m _ _ _ i a;cases this
   |more o a v d=>have:=m _ _ _ i a;cases this;exact absurd v F
   |stop o a v d=>
    have:=m _ _ _ i a
    cases this
    rcases B rest _ _ _ _ d c b e u with q|⟨x,s,new,C,D,E⟩
    ·exact .inl q
    ·refine .inr ⟨x,s,new,C,D,fun w A=> ?_⟩
     rcases E w A with q|q
     ·by_cases e0:w=t.1
      ·subst e0;exact .inr I
      ·exact .inl (nH e0 q)
     ·exact .inr q
def codeF (f:Option (List (List Int×Ty)×(Nat→Bool))):Int:=match f with
 |none=>6
 |some (_,met)=>gj met
def uF (rs:cU) (x y:Ex) (b:Bool) (n:Nat):Pr:=fun p r=>aG (fun g=>hv (aB rs g) hK (if b then y else x)) ⟨[.dF (fa x y) Env.nil],n,p⟩ r
def oM (rs:cU) (x y:Ex) (n:Nat):Pr:=fun p r=>aG (fun g=>hv (aB rs g) (fun _=>M.ret ()) (fa x y)) ⟨[],n,p⟩ r
theorem ya(h:gj dl=0):dl 4≠true∧dl 5≠true∧dl 3≠true:=by
 unfold gj at h
 split at h
 ·cases h
 ·split at h
  ·cases h
  ·split at h
   ·cases h
   ·rename_i a b c
    exact⟨a,b,c⟩
theorem L9(a:dl 4≠true)(b:dl 5≠true)(h3:dl 3≠true):gj dl=0:=by
 unfold gj
 rw[if_neg a,if_neg b,if_neg h3]
theorem Di(a:gj dl≠0)(b:gj dl≠6):dl 4=true∨dl 3=true:=by
 unfold gj at a b
 by_cases c:dl 4=true
 ·exact .inl c
 ·rw[if_neg c] at a b
  by_cases d:dl 5=true
  ·rw[if_pos d] at b;exact absurd rfl b
  ·rw[if_neg d] at a b
   by_cases h3:dl 3=true
   ·exact .inr h3
   ·rw[if_neg h3] at a;exact absurd rfl a
theorem Ma(h:dl 4=true∨dl 3=true):gj dl≠0:=fun q=>by
 obtain⟨a,_,c⟩:=ya q
 rcases h with h|h
 ·exact a h
 ·exact c h
theorem Mb{rs:cU}{x y:Ex}(P:e9 (uF rs x y false 1000) [[]] 0 [] (fun _=>false) ga)(Q:e9 (uF rs x y true 1000) [[]] 0 [] (fun _=>false) oN)(V:e9 (oM rs x y 2000) [[]] 0 [] (fun _=>false) si):
 (codeF ga≠0∨codeF oN≠0→codeF si≠0∨codeF ga=6∨codeF oN=6)∧
   (codeF ga=0→codeF oN=0→codeF si=6∨(codeF si=0∧∃a g c i K Z,ga=some (a,g)∧oN=some (c,i)∧si=some (K,Z)∧K.map Prod.snd=a.map Prod.snd++c.map Prod.snd)):=by
 have d:∀p r J,oM rs x y 2000 p r→oM rs x y 2000 p J→r=J:=fun p r J j S=>aG.one j S
 have N:uD (uF rs x y false 1000) (oM rs x y 2000) 0 999:=fun p r h l=>Dd (k:=999) (b:=false) h l
 have O:uD (uF rs x y true 1000) (oM rs x y 2000) 1 999:=fun p r h l=>Dd (k:=999) (b:=true) h l
 have D:oM rs x y 2000 [] (.error (1,2)):=L6 (n:=1999)
 have L:e9 (oM rs x y 2000) (([[]]:List (List Int)).map ((0:Int)::·)++(([[]]:List (List Int)).map ((1:Int)::·)++ [])) (0+1) [] (hx (fun _=>false) 1) si:=by
  cases V with
  |hn M o h=>have:=d _ _ _ D o;cases this
  |more M o l h=>have:=d _ _ _ D o;cases this;exact h
  |stop M o l h=>have:=d _ _ _ D o;cases this;exact absurd rfl l
 refine⟨fun B=> ?_,fun u j=> ?_⟩
 ·by_cases s:codeF ga=6
  ·exact .inr (.inl s)
  by_cases t:codeF oN=6
  ·exact .inr (.inr t)
  refine .inl ?_
  cases e:ga with
  |none=>rw[e] at s;exact absurd rfl s
  |some H=>
   obtain⟨a,g⟩:=H
   cases f:oN with
   |none=>rw[f] at t;exact absurd rfl t
   |some I=>
    obtain⟨c,i⟩:=I
    rw[e] at B s
    rw[f] at B t
    rcases Dg d N P _ _ _ _ _ L (fun w _ h=>by cases h) a g e with q|⟨X,acc2,aa,F,v,_⟩
    ·rw[q];decide
    ·rcases Dg d O Q _ _ _ _ _ F (fun w _ h=>by cases h) c i f with q|⟨Y,acc4,E,G,z,A⟩
     ·rw[q];decide
     ·cases G
      show gj E≠0
      refine Ma ?_
      rcases B with m|m
      ·rcases Di m s with h|h
       ·exact .inl (A 4 (v 4 (by decide) h))
       ·exact .inr (A 3 (v 3 (by decide) h))
      ·rcases Di m t with h|h
       ·exact .inl (z 4 (by decide) h)
       ·exact .inr (z 3 (by decide) h)
 ·cases e:ga with
  |none=>rw[e] at u;cases u
  |some H=>
   obtain⟨a,g⟩:=H
   cases f:oN with
   |none=>rw[f] at j;cases j
   |some I=>
    obtain⟨c,i⟩:=I
    rw[e] at u
    rw[f] at j
    obtain⟨x4,x5,x3⟩:=ya u
    obtain⟨ad,R,ac⟩:=ya j
    rcases Dh d N P _ _ _ _ _ L a g e x5 with q|⟨X,aa,new,F,v,ab⟩
    ·rw[q];exact .inl rfl
    ·rcases Dh d O Q _ _ _ _ _ v c i f R with q|⟨Y,E,ae,G,z,A⟩
     ·rw[q];exact .inl rfl
     ·cases z
      have C:∀w,w≠1→g w≠true→i w≠true→E w≠true:=fun w W T m U=>by
       rcases A w U with q|q
       ·rcases ab w q with q|q
        ·have:=nH W q
         cases this
        ·exact T q
       ·exact m q
      refine .inr ⟨L9 (C 4 (by decide) x4 ad) (C 5 (by decide) x5 R) (C 3 (by decide) x3 ac),a,g,c,i,_,_,rfl,rfl,rfl,?_⟩
      rw[F,G]
      simp[Function.comp_def]
end Go.Proofs.YthnogncknmhgoaaGreat.Vm
namespace Go.Proofs.YthnogncknmhgoaaGreat.Vm
open Data Mo
variable{cI Mc:cT}{ga:Option (List (List Int×Ty)×(Nat→Bool))}
def e0:Ex:= .mk 5 ⟨#[63]⟩ 0 [.mk 3 ⟨#[]⟩ 1 [] 1 1,.mk 3 ⟨#[]⟩ 2 [] 1 5] 1 3
def mM (f:cT):M Ty:=hv f (fun _=>M.ret ()) e0
theorem Dj(h:eD cI Mc):bK (mM cI) (mM Mc):=by
 unfold mM hv mI nx
 refine bK.bind (cf _) fun c=>bK.bind (bK.bind (bK.bind (h.force _) fun _=>bK.bind (cf _) fun _=>bK.eB h _ _) fun _=>bK.bind (h.read _ _ _) fun _=>cf _) fun _=>cf _
def okB (p:List Int):Bool:=match mM (aB (hd ⟨[],[]⟩) 12) ⟨[],100,p⟩ with|some (.ok _)=>true|_=>false
theorem Me:okB [0]=true:=by kernel_rfl
theorem yb:okB [1]=true:=by kernel_rfl
theorem Mf:mM (aB (hd ⟨[],[]⟩) 12) ⟨[],100,[]⟩=some (.error (1,2)):=by kernel_rfl
theorem Dk{p:List Int}(h:okB p=true):∃q,aG (fun g=>mM (aB (hd ⟨[],[]⟩) g)) ⟨[],100,p⟩ (.ok q):=by
 unfold okB at h
 split at h
 ·rename_i q a
  exact⟨q,aG.at (m:=mM) Dj a⟩
 ·cases h
theorem Mg(h:e9 (fun p r=>aG (fun g=>hv (aB (hd ⟨[],[]⟩) g) (fun _=>M.ret ()) e0) ⟨[],iC 100,p⟩ r) [[]] 0 [] (fun _=>false) ga):
 ∃acc met,ga=some (acc,met)∧gj met=0∧acc.map Prod.fst=[[0],[1]]:=by
 have c:aG (fun g=>mM (aB (hd ⟨[],[]⟩) g)) ⟨[],100,[]⟩ (.error (1,2)):=aG.at (m:=mM) Dj Mf
 obtain⟨⟨t0,f⟩,d⟩:=Dk Me
 obtain⟨⟨t1,i⟩,e⟩:=Dk yb
 cases h with
 |hn _ a _=>have:=aG.one c a;cases this
 |stop _ a b _=>have:=aG.one c a;cases this;exact absurd rfl b
 |more _ a b h=>
  have:=aG.one c a
  cases this
  change e9 _ ([[0],[1]]:List (List Int)) _ _ _ _ at h
  cases h with
  |stop _ a b _=>have:=aG.one d a;cases this
  |more _ a b _=>have:=aG.one d a;cases this
  |hn _ a h=>
   cases h with
   |stop _ a b _=>have:=aG.one e a;cases this
   |more _ a b _=>have:=aG.one e a;cases this
   |hn _ a h=>
    cases h
    exact⟨_,_,rfl,rfl,rfl⟩
end Go.Proofs.YthnogncknmhgoaaGreat.Vm
namespace Go.Proofs.YthnogncknmhgoaaGreat.Vm
open ChangeShapes WideShapes ChangeAt RowKit bq Data Mo
variable{hg:Array Vl}{gl yc:Code}{lG:Ending→Wd→Prop}{aJ:Hx}{bi:Int}{cC:List Int}{b4:List Ty}{ae ao aX:Nat}{oK:Program}{bC:Ty}{az:Vl}{ah:Wd}
theorem Mh:aF 120:=by unfold aF;kernel_rfl
def Mi (l:List Int) (b:Int) (v:Value):Prop:=(v= .int .i64 (-1)∧b∉l)∨∃i:Nat,v= .int .i64 (i:Int)∧b∈l
theorem Mj(h:a6 dU 1 ah az cC):cJ 120 [az,zI bi] [] ah aJ (ic aJ fun u _=>Mi cC bi u):=by
 obtain⟨A,cap,rfl,hh,o⟩:=h
 have s:cC.length≤490000000:=hh.2.2.1
 refine eh func120 rfl ntmps120 rfl fun w G ad=> ?_
 refine cG 14 rfl ?_
 refine eA (ι:=Nat) [0,1,6,7] 0 rfl (fun(i)=>(⟨[(8,.val (zI (i:Nat)))],[],[]⟩,ah,aJ,i≤cC.length∧bi∉cC.take i,cC.length -i)) (0) rfl rfl rfl [] rfl ?_ ?_
 exact⟨Nat.zero_le _,by simp⟩
 rintro i ⟨r,c⟩
 show VX _ _ _ ⟨_,_,_⟩ ah aJ
 refine aE 6 rfl ?_
 cases d:(decide (((i:Nat):Int)<((cC.length:Nat):Int)))
 have l:cC.length≤i:=by have:=of_decide_eq_false d;omega
 refine aE 12 rfl ?_
 exact dm results120 (aT rfl) ⟨rfl,rfl,_,rfl,.inl ⟨rfl,by rw[List.take_of_length_le l] at c;exact c⟩⟩
 have b:i<cC.length:=by have:=of_decide_eq_true d;omega
 refine aE 16 rfl ?_
 obtain⟨p,t,q,f,g,m⟩:=a5.get cP o i b
 cases f
 have k:=m 0 (zI cC[i]) (by rw[g];rfl)
 refine xp (a3 rfl rfl rfl b gE) rfl (xp (dT rfl bG k) rfl (an 3 rfl ?_))
 cases e:(bi==(cC[i]))
 have n:bi≠cC[i]:=by simpa using e
 refine aE 5 rfl (xp (bA rfl rfl (by omega)) rfl (an 2 rfl ?_))
 refine dI (i+1) rfl rfl rfl [] rfl ?_ ?_
 refine⟨by omega,fun a=> ?_⟩
 rw[List.take_succ_eq_append_getElem b] at a
 rcases fM.1 a with a|a
 exact c a
 exact n (tO.1 a)
 show cC.length -(i+1)<cC.length -i;omega
 have j:bi=cC[i]:=by simpa using e
 refine aE 13 rfl ?_
 exact dm results120 (aT rfl) ⟨rfl,rfl,_,rfl,.inr ⟨i,rfl,by rw[j];exact List.getElem_mem b⟩⟩
theorem Mk{R:Wd}{X:Hx}{b:Int}(h:a6 dU 1 R az cC):cJ 116 [az,zI b] [] R X (ic X fun u _=>u= .bool (decide (b∈cC))):=by
 have c:=h
 obtain⟨A,cap,rfl,_⟩:=h
 refine eh func116 rfl ntmps116 rfl fun w G ad=> ?_
 refine cG 9 rfl ?_
 refine dP (Mj c) Mh rfl rfl ?_ ?_
 rintro p i j l _ -⟨rfl,a,o,e,g⟩
 cases e
 replace a:=a.symm
 subst a
 rcases g with⟨rfl,f⟩|⟨n,rfl,d⟩
 refine an 5 rfl ?_
 exact dm results116 (aT rfl) ⟨rfl,rfl,_,rfl,by rw[decide_eq_false f];rfl⟩
 refine an 5 rfl ?_
 exact dm results116 (aT rfl) ⟨rfl,rfl,_,rfl,by rw[decide_eq_true d];simp⟩
 rintro ch i k m _ _ ⟨_,_,_,e,_⟩
 cases e
section
attribute [local go_sem] Oper.semAt_some
def mN (R W:World):Prop:=∀b o u,R.cell? ⟨b,o,none⟩=some u→W.cell? ⟨b,o,none⟩=some u
def iE (n₀:Nat) (A B:World):Prop:=Below n₀ A B∧∀(b:Nat) (a:Array Value) (p:Nat×Nat),A.heap[b]?=some (Obj.cells a 89 p)→B.heap[b]?=some (Obj.cells a 89 p)
theorem iE.refl(n₀:Nat)(A:Wd):iE n₀ A A:=⟨Below.refl _ _,fun _ _ _ h=>h⟩
theorem iE.trans{n₀:Nat}{A B C:Wd}(h:iE n₀ A B)(g:iE n₀ B C):iE n₀ A C:=⟨h.1.trans g.1,fun b a p q=>g.2 b a p (h.2 b a p q)⟩
theorem iE.put(g:ae≤ah.heap.size)(W:Wd)(l:Nat)(o c:Obj)(f:ah.heap.size≤l)(h:W.heap[l]?=some o)(d:o.isCells=false)(j:o.isWalk=false):iE ae W (W.putObj l c):=
 ⟨belowK_b g W l o c f h d j,fun b a p q=>by
   have i:b≠l:=fun e=>by subst e;rw[h] at q;cases q;cases d
   rw[←q]
   exact(grownBy_putObj' W l c).block b (Array.getElem?_eq_some_iff.1 q).1 (by simpa using i)⟩
abbrev Pt (R:World):Type:={p:Ty×List Value//Ty.Cs R p.1 p.2∧(p.1.k=3→0≤p.1.n∧p.1.n<1000)}
def Pt.ty {R:World} (x:Pt R):Ty:=x.1.1
def Pt.g5 {R:World} (x:Pt R):Array Value:=#[.agg x.1.2.toArray]
theorem Ml{n m:Nat}(h:RoundIn Fence.wide n oK ae ao hg gl yc ah lG):RoundIn Fence.wide m oK ae ao hg gl yc ah lG:=
 ⟨h.1,fun c cs _=>h.2 c cs (room_wide _)⟩
theorem g3.head(h:g3 bC):bC.k=3→0≤bC.n∧bC.n<1000:=h bC (by cases bC;simp[iD])
theorem g3.sub{k:Int}{s:BA}{n:Int}{ys:List Ty}(h:g3 (.mk k s n ys)){y:Ty}(a:y∈ys):g3 y:=fun u hu=>h u (by rw[iD];exact List.mem_cons_of_mem _ (xA.2 ⟨y,a,hu⟩))
theorem Dl(a b:List Ty):ju (a++b)=ju a++ju b:=by
 induction a with
 |nil=>simp[ju]
 |cons t r c=>simp[ju,c]
theorem Dm(d:c7 ae ao aX){b o n c i:Nat}(f:i<n)(W:Wd):(Instr.indexAt ae (.slice (some ⟨b,o,none⟩) n c) (zI (i:Int))).run prog W= .ok (.pointer (some ⟨b,o+i*aX,none⟩)) W:=by
 unfold c7 o4 at d
 simp only[Bool.and_eq_true] at d
 obtain⟨g1,g2⟩:=d
 cases hu:prog.underlying ae with
 |none=>rw[hu] at g1;cases g1
 |some D=>
  rw[hu] at g1
  cases D with
  |slice e=>
   simp only[beq_iff_eq] at g1
   subst g1
   cases a:prog.info? e with
   |none=>rw[a] at g2;cases g2
   |some inf=>
    rw[a] at g2
    simp only[Bool.and_eq_true,beq_iff_eq] at g2
    have g:¬((n:Int)≤(i:Int)):=by omega
    simp[Instr.indexAt,asIntOf,run_underlying hu,g,sizeOf,typeInfo,a,g2.1.1.1,Addr.add,f]
  |_=>cases g1
theorem Mm(h:bC∈b4):bC.size≤gS b4:=by
 induction b4 with
 |nil=>cases h
 |cons a r b=>
  rw[gS]
  rcases dX.1 h with rfl|h
  ·omega
  ·have:=b h
   omega
theorem Mn(N:Nat):∀{R:Wd} {n₀ NN B l:Nat} {J r:List (Pt R)→Wd→Prop} (n:Nat) (f:AbidesFrom B J)
 (g:∀A B,Below n₀ A B→mN R A→mN R B)
 (z:∀pre x H,J pre H→pre.length<NN→YieldAt Fence.wide 3 prog l (Pt.g5 x) H fun e W'=>(e= .returned (.bool true)∧J (pre++ [x]) W'∧iE n₀ H W')∨(e= .returned (.bool false)∧r (pre++ [x]) W'))
 {t:Ty} {u:LV} (E:Ty.Cs R t u) (F:g3 t) (w:t.size≤N) (pre:List (Pt R)) (M:pre.length+(iD t).length≤NN) (W:Wd) (L:mN R W) (D:n₀≤W.heap.size) (S:J pre W),
 CallsIn Fence.wide n prog 119 #[.agg u.toArray,.func (.yield l) #[] #[]] W fun e W'=>
  (e= .returned (.bool true)∧∃xs:List (Pt R),xs.map Pt.ty=iD t∧J (pre++xs) W'∧iE n₀ W W')∨(e= .returned (.bool false)∧∃p,r p W'):=by
 induction N with
 |zero=>intro R n₀ NN B l J r n f g z t u E F w;cases t;simp[Ty.size] at w
 |succ N aw=>
  intro R n₀ NN B l J r n f g z t u E F w pre M W L D S
  have aq:=E
  obtain⟨k,s,m,ys⟩:=t
  obtain⟨A,cap,rfl,hh,O⟩:=E
  have O:=a8.1 O
  refine callsIn_of_wp func119 rfl trivial ?_ rfl
  simp only[ntmps119,List.size_toArray,List.length_cons,List.length_nil,Nat.reduceAdd,Nat.reduceSub,Array.replicate_succ,Array.replicate_zero,List.push_toArray,List.append_toArray,List.nil_append,List.cons_append]
  obtain⟨fn,tmps,assign,body,ar,K⟩:=z pre ⟨(.mk k s m ys,_),aq,F.head⟩ (W.alloc (.cells #[.int .i64 k,.string s,.int .i64 m,.slice A ys.length cap] 89)) (f _ _ _ none S (World.grownBy_alloc _ _ _) (by simp)) (by simp[iD] at M;omega)
  simp only[Pt.g5] at ar
  have K:=Ml (m:=n -1) K
  gi_wp2
  have aj:(W.alloc (.cells #[.int .i64 k,.string s,.int .i64 m,.slice A ys.length cap] 89)).heap[W.heap.size]?=some (Obj.cells #[.int .i64 k,.string s,.int .i64 m,.slice A ys.length cap] 89):=by
   show (W.heap.push _)[W.heap.size]?=_
   exact Array.getElem?_push_size
  refine⟨(fun h=>by cases h),K.mono ?_⟩
  rintro e Q (⟨rfl,ad,V⟩|⟨rfl,af⟩)
  ·have ak:=V.2 _ _ _ aj
   have aD:Q.cell? ⟨W.heap.size,3,none⟩=some (.slice A ys.length cap):=by simp[World.cell?,ak]
   have ai:iE n₀ W Q:=iE.trans ⟨(Below.refl _ _).alloc D _,fun b a p q=>((World.grownBy_alloc _ _ none).block b (Array.getElem?_eq_some_iff.1 q).1 (by simp)).trans q⟩ V
   gi_wp2
   gi_loopw [14] (fun p wr=>∃(i:Nat) (xs:List (Pt R)),p= .int .i64 (i:Int)∧i≤ys.length∧xs.map Pt.ty= .mk k s m ys::ju (ys.take i)∧J (pre++xs) wr∧iE n₀ W wr)
    (fun p wr=>match p with| .int _ j=>(ys.length -j.toNat)|_=>0)
   case atStart=>
    refine⟨0,[_],rfl,b2 _,?_,ad,ai⟩
    simp[ju,Pt.ty]
   case round=>
    obtain⟨i,xs,rfl,aE,P,U,v⟩:=hrel
    by_cases d:i<ys.length
    ·obtain⟨b,o,c,rfl,X,C⟩:=a5.get a2 O i d
     have G:mN R wr:=g _ _ v.1 L
     have aF:=Dm (b:=b) (o:=o) (c:=cap) jc d wr
     have au:g3 ys[i]:=F.sub (fL d)
     have al:=X
     have Y:ju (ys.take (i+1))=ju (ys.take i)++iD ys[i]:=by rw[List.take_succ_eq_append_getElem d,Dl];simp[ju]
     have ao:ys[i].size≤N:=by
      have T:=Mm (fL d)
      simp only[Ty.size] at w
      omega
     have am:(pre++xs).length+(iD ys[i]).length≤NN:=by
      have T:=congrArg List.length P
      have ac:=congrArg List.length Y
      have h3:=congrArg List.length (Dl (ys.take (i+1)) (ys.drop (i+1)))
      rw[List.take_append_drop] at h3
      simp only[List.length_append,List.length_map,List.length_cons,iD] at T ac h3 M⊢
      omega
     generalize ys[i]=y at*
     obtain⟨ax,az,ay,aA⟩:=y
     obtain⟨Z,aa,rfl,_⟩:=X
     have ab:=G _ _ _ (C 0 _ rfl)
     have g1:=G _ _ _ (C 1 _ rfl)
     have g2:=G _ _ _ (C 2 _ rfl)
     have aC:=G _ _ _ (C 3 _ rfl)
     simp only[Nat.add_zero] at ab
     gi_wp2_with fail
     have ap:n₀≤wr.heap.size:=dS D v.1.size
     have I:iE n₀ W (wr.alloc (.cells #[.int .i64 ax,.string az,.int .i64 ay,.slice Z aA.length aa] 89)):=v.trans ⟨(Below.refl _ _).alloc ap _,fun b a p q=>((World.grownBy_alloc _ _ none).block b (Array.getElem?_eq_some_iff.1 q).1 (by simp)).trans q⟩
     refine⟨trivial,(fun h=>by cases h),(aw (n -1) f g z al au ao (pre++xs) am _ (g _ _ I.1 L) (Nat.le_trans D I.1.size) (f _ _ _ none U (World.grownBy_alloc _ _ _) (by simp))).mono ?_⟩
     rintro e aB (⟨rfl,zs,av,ae,ah⟩|⟨rfl,aH,ag⟩)
     ·have aG:ys.length≤490000000:=(show cF _ ys.length cap from hh).2.2.1
      gi_wp2_with fail
      go_roundw
      case rel=>
       refine⟨i+1,xs++zs,congrArg (Value.int .i64) (show (i:Int)+1=((i+1:Nat):Int) by omega),d,?_,by rw[←List.append_assoc];exact ae,I.trans ah⟩
       rw[List.map_append,P,av,Y]
       rfl
      case measure=>
       show ys.length -((i:Int)+1).toNat<ys.length -((i:Nat):Int).toNat
       omega
     ·gi_wp2_with fail
      go_ret
      exact .inr ⟨rfl,_,ag⟩
    ·have an:i=ys.length:=by omega
     subst an
     gi_wp2
     go_ret
     exact .inl ⟨rfl,xs,by rw[P,List.take_length];rfl,U,v⟩
  ·gi_wp2
   go_ret
   exact .inr ⟨rfl,_,af⟩
end
end Go.Proofs.YthnogncknmhgoaaGreat.Vm
