/- Lemmas for ModelOrs (4 of 15). No conditions. -/
import Derived.Laws.Slices
import Derived.Test.YthnogncknmhgoaaGreatM2
set_option linter.all false
set_option maxRecDepth 100000
set_option maxHeartbeats 485000000
open Go.Proofs.Tryz
namespace Go.Proofs.YthnogncknmhgoaaGreat.Vm
open ChangeShapes WideShapes ChangeAt RowKit bq Data Lx
variable{aY:BA}{ca hE:Bool}{bi:Int}{aj bj:LV}{ec:List BA}{cv:List Ex}{aI:List Nat}{ax:List Tk}{ae ao aX eO:Nat}{aA h5:OA}{tm:Prop}{bY cO fQ h4:Rd}{bC:Ty}{cW:Type}{az:Vl}{ah bR:Wd}
theorem cD:cr 36 true 4:=by unfold cr;kernel_rfl
theorem vF:eQ 36 [zI 0,.string ⟨#[]⟩,zI 0,zS]:=by unfold eQ;kernel_rfl
theorem e6:c7 34 36 4:=by unfold c7;kernel_rfl
theorem m8:dO 34 36 4 56:=by unfold dO;kernel_rfl
theorem zu:aF 86:=by unfold aF;kernel_rfl
theorem zv:aF 102:=by unfold aF;kernel_rfl
def my (r a:Rd):Prop:=r.I≤a.I∧(r.bad=true→a.bad=true∧a.I=r.I)∧(a.bad=false→r.I<a.I)
theorem eu.wt(h:eu bY cO)(g:my cO fQ):eu bY fQ:=by
 refine⟨dS h.1 g.1,?_⟩
 rcases h.2 with a|a
 ·exact .inl (g.2.1 a).1
 ·exact .inr (lA a g.1)
def pu (A:Option Addr) (cap:Nat) (ts:List Tk) (r:Rd) (v:Value) (R':World):Prop:=
 ∃(a:Rd) (t:Ty) (c:List Value),v= .tuple #[rdv A cap ts a,.agg c.toArray]∧dz ts a∧my r a∧(a.bad=false→t.size≤a.I -r.I)∧t.Cs R' c
def vG (A:Option Addr) (cap:Nat) (ts:List Tk) (r:Rd) (v:Value) (R':World):Prop:=
 ∃(a:Rd) (l:List Ty) (B:Option Addr) (b:Nat),v= .tuple #[rdv A cap ts a,.slice B l.length b]∧dz ts a∧(r.I≤a.I∧(r.bad=true→a.bad=true∧a.I=r.I))∧(a.bad=false→gS l≤a.I -r.I)∧cF B l.length b∧a5 Ty.Cs 4 R' B l
def tl (A:Option Addr) (cap:Nat) (ts:List Tk) (k:Nat):Prop:=
 ∀(b:Bool) (R:World) (r:Rd),cE R A cap ts→dz ts r→(r.bad=true∨ts.length -r.I<k)→bd 102 [rdv A cap ts r,.bool b] R (pu A cap ts r)
def zw (A:Option Addr) (cap:Nat) (ts:List Tk) (k:Nat):Prop:=
 ∀(R:World) (r:Rd),cE R A cap ts→dz ts r→ts.length -r.I<k→bd 86 [rdv A cap ts r] R (vG A cap ts r)
theorem tl.mx(h:tl aA ae ax ao)(b:Bool)(d:cE ah aA ae ax)(c:dz ax cO)(e:eu bY cO)(f:ax.length -bY.I≤ao):bd 102 [rdv aA ae ax cO,.bool b] ah (pu aA ae ax cO):=by
 refine h b ah cO d c ?_
 rcases e.2 with a|a
 ·exact .inl a
 ·exact .inr (by have:=c.1;omega)
theorem FW{d:Int}(c:bY.bad=false)(a:Mv bY cO)(b:my cO fQ)(h3:Mv fQ h4):my bY {h4 with deep:=d}:=by
 have a:=a.nat
 have h3:=h3.nat
 unfold my at*
 simp only[←lO,←lP] at*
 have:=gX h4.bad
 have:=gX fQ.bad
 omega
theorem zx(a:bY.bad=true):my bY bY:=⟨Nat.le_refl _,fun _=>⟨a,rfl⟩,fun h=>by rw[a] at h;cases h⟩
theorem FX(ts:List Tk)(d:bY.bad=false):my bY (hi ts bY):=by
 obtain⟨a,-,b⟩:=m6 ts bY
 rcases a with⟨h3,c⟩|⟨h3,c,e⟩
 ·exact⟨by omega,fun h=>(by rw[d] at h;cases h),fun h=>by rw[h3] at h;cases h⟩
 ·rw[b] at h3;cases h3
theorem FY(ts:List Tk)(r:Rd):(hi ts r).bad=true:=(m6 ts r).2.2
theorem zy(k:Int)(s:BA)(n:Int):(Ty.mk k s n []).size=1:=by rw[Ty.size_mk];simp[gS]
theorem zz:∀(l:List Ty) (t:Ty),gS (l++ [t])=gS l+t.size
 |[],t=>by simp[gS]
 |a::l,t=>by rw[List.cons_append,gS,gS,zz l t];omega
theorem Mv.g8(h:Mv bY cO)(c:cO.bad=false):bY.bad=false∧cO.I=bY.I+1:=by
 rcases h with⟨a,_⟩|⟨_,b,h3⟩
 ·rw[c] at a;cases a
 ·exact⟨b,h3⟩
theorem oa(h:ca=true→hE=true∧tm)(a:hE=false):ca=false:=by
 cases ca with
 |false=>rfl
 |true=>have:=(h rfl).1;rw[a] at this;cases this
theorem mz(h:ca=true→hE=true)(a:hE=false):ca=false:=by
 cases ca with
 |false=>rfl
 |true=>have:=h rfl;rw[a] at this;cases this
theorem FZ{n:Nat}(b:Mv bY cO)(a:my cO fQ)(c:fQ.bad=false→n≤fQ.I -cO.I)(h3:Mv fQ h4)(h:h4.bad=false):n≤h4.I -bY.I:=by
 obtain⟨g1,g2⟩:=h3.g8 h
 have:=c g1
 obtain⟨_,d⟩:=b.g8 (oa a.2.1 g1)
 have:=a.1
 omega
theorem zA(d:Bool)(R:Wd)(r:Rd)(b:cE R aA ae ax)(f:dz ax r)(e:r.bad=true):bd 102 [rdv aA ae ax r,.bool d] R (pu aA ae ax r):=by
 obtain⟨I,deep,bad,l,c⟩:=r
 try dsimp only at*
 refine b5 func102 rfl ntmps102 rfl rfl fun w G ad=> ?_
 refine sV 10 rfl ?_
 refine be (gq b (⟨I,deep,bad,l,c⟩:Rd)) eZ rfl rfl ?_
 rintro _ rfl
 refine rL 11 rfl ?_
 cases a:(bad)
 subst a
 cases e
 subst a
 refine rV 4 rfl (vp (bJ (vs:=[]) (v:= .agg #[zI 0,.string ⟨#[]⟩,zI 0,zS]) rfl (fun W=>by kernel_rfl)) rfl (rL 6 rfl ?_))
 refine cB results102 (aK rfl rfl dr) (aK rfl rfl cD) ⟨rfl,(⟨I,deep,true,l,c⟩:Rd),?_⟩
 exact⟨.mk 0 ⟨#[]⟩ 0 [],_,rfl,f,zx rfl,fun h=>(by cases h),aP eg (ew _)⟩
theorem F0(K:tl aA ae ax ao)(J:zw aA ae ax ao)(u:Bool)(R:Wd)(r:Rd)(a:cE R aA ae ax)(b:dz ax r)(ak:ax.length -r.I≤ao):bd 102 [rdv aA ae ax r,.bool u] R (pu aA ae ax r):=by
 obtain⟨I,deep,bad,l,c⟩:=r
 try dsimp only at*
 have hlen:=a.len
 try dsimp only[rdv]
 refine b5 func102 rfl ntmps102 rfl rfl fun w G ad=> ?_
 refine sV 10 rfl ?_
 refine be (gq a (⟨I,deep,bad,l,c⟩:Rd)) eZ rfl rfl ?_
 rintro _ rfl
 refine rL 11 rfl ?_
 cases z:(bad)
 subst z
 have o:(⟨I,deep,false,l,c⟩:Rd).bad=false:=rfl
 refine rV 16 rfl ?_
 cases af:(((aZ ax I).k)==2)
 refine rV 7 rfl ?_
 cases ag:(((aZ ax I).k)==3)
 refine rV 5 rfl ?_
 refine be (hH a (⟨I,deep,false,l,c⟩:Rd) 6 (⟨#[40]⟩)) hG rfl rfl ?_
 rintro _ rfl
 refine rL 3 rfl ?_
 cases ah:(gB ax (⟨I,deep,false,l,c⟩:Rd) 6 (⟨#[40]⟩))
 refine rV 4 rfl ?_
 refine be (m5 a (⟨I,deep,false,l,c⟩:Rd)) m4 rfl rfl ?_
 rintro _ F
 obtain⟨⟨M,Z,Q,az,V⟩,e⟩:∃X,X=hi ax (⟨I,deep,false,l,c⟩:Rd):=⟨_,rfl⟩
 have B:=And.intro (m6 ax (⟨I,deep,false,l,c⟩:Rd)) (pn b)
 rw[←e] at B
 rw[←e] at F;subst F
 refine vp (bJ (vs:=[]) (v:= .agg #[zI 0,.string ⟨#[]⟩,zI 0,zS]) rfl (fun W=>by kernel_rfl)) rfl (rL 7 rfl ?_)
 refine cB results102 (aK rfl rfl dr) (aK rfl rfl cD) ⟨rfl,(⟨M,Z,Q,az,V⟩:Rd),?_⟩
 exact⟨.mk 0 ⟨#[]⟩ 0 [],_,rfl,B.2,by rw[e];exact FX ax o,(by rw[e];exact fun h=>absurd (h.symm.trans (FY ax _)) (by decide)),aP eg (ew _)⟩
 have n:I<ax.length:=(jW (by decide) ah).1
 refine rV 6 rfl ?_
 refine be (qP a (⟨I,deep,false,l,c⟩:Rd) (by have:=b.1;have:=a.len;omega) b.2.1) qS rfl rfl ?_
 rintro _ H
 obtain⟨⟨O,ab,T,aC,Y⟩,y⟩:∃X,X=lE ax (⟨I,deep,false,l,c⟩:Rd):=⟨_,rfl⟩
 have d:=qV b o n
 rw[←y] at d
 rw[←y] at H;subst H
 have D:eu (⟨I,deep,false,l,c⟩:Rd) (⟨O,ab,T,aC,Y⟩:Rd):=Mv.prog d.1
 refine cN (K.mx false a d.2 D ak) zv rfl rfl ?_
 rintro _ aJ an ⟨⟨g,m,i,s,j⟩,⟨aw,aE,aD,aG⟩,_,rfl,C,q,au,⟨aI,aN,rfl,aj,p⟩⟩
 replace p:=a8.1 p
 have aQ:eu (⟨I,deep,false,l,c⟩:Rd) (⟨g,m,i,s,j⟩:Rd):=eu.wt D q
 refine rL 12 rfl ?_
 refine be (iq (bF a an) (⟨g,m,i,s,j⟩:Rd) 6 (⟨#[41]⟩) (by have:=C.1;have:=a.len;omega)) ir rfl rfl ?_
 rintro _ E
 obtain⟨⟨L,aO,P,ay,U⟩,x⟩:∃X,X=gU ax (⟨g,m,i,s,j⟩:Rd) 6 (⟨#[41]⟩):=⟨_,rfl⟩
 have f:=jh (text:=(⟨#[41]⟩)) (show(6:Int)≠-1 by decide) C
 rw[←x] at f
 rw[←x] at E;subst E
 refine rL 12 rfl ?_
 refine bZ mixed (fun ao=>ao==4||ao==5) fun aq=> ?_
 refine bL [0,1,1002,1003] rfl (by kernel_rfl) id (bS (by kernel_rfl) (rD 3 rfl ?_))
 refine cB results102 (aK rfl rfl dr) (aK rfl rfl cD) ⟨rfl,(⟨L,deep,P,ay,U⟩:Rd),?_⟩
 exact⟨(.mk aw aE aD aG:Ty),_,rfl,⟨f.2.1,b.2⟩,FW o d.1 q f.1,fun h=>FZ d.1 q au f.1 h,(aP aj p)⟩
 have n:I<ax.length:=nQ (by rw[show(aZ ax I).k=3 by simpa using ag];decide)
 refine rV 5 rfl (vp (bA rfl rfl (by omega)) rfl (rL 8 rfl (vp (bJ (vs:=[(0,zI 2),(1,.string (aZ ax I).t)]) (v:= .agg #[zI 2,.string (aZ ax I).t,zI 0,zS]) rfl (fun W=>by kernel_rfl)) rfl (rL 11 rfl ?_))))
 cases A:(u)
 subst A
 refine rV 4 rfl ?_
 refine cN (J _ (⟨I+1,deep,false,l,c⟩:Rd) a ⟨by dsimp only;omega,b.2⟩ (by dsimp only;omega)) zu rfl rfl ?_
 rintro _ aL _ ⟨⟨N,aa,S,aB,c5⟩,aF,aH,aM,rfl,al,ap,av,ai,am⟩
 refine rL 21 rfl ?_
 refine bZ mixed (fun ao=>ao==0||ao==4) fun aq=> ?_
 refine bL [0,1,1002,1003] rfl (by kernel_rfl) id (bS (by kernel_rfl) (rD 3 rfl ?_))
 refine cB results102 (aK rfl rfl dr) (aK rfl rfl cD) ⟨rfl,(⟨N,aa,S,aB,c5⟩:Rd),?_⟩
 have ar:=ap;dsimp only at ar
 exact⟨.mk 2 (aZ ax I).t 0 aF,_,rfl,al,⟨by dsimp only;omega,fun h=>(by cases h),fun _=>by dsimp only;omega⟩,fun h=>by have ac:=av h;rw[Ty.size_mk];dsimp only at ac⊢;omega,aP ai am⟩
 subst A
 refine rV 4 rfl ?_
 refine bZ mixed (fun ao=>ao==0||ao==4) fun aq=> ?_
 refine bL [0,1,1002,1003] rfl (by kernel_rfl) id (bS (by kernel_rfl) (rD 3 rfl ?_))
 refine cB results102 (aK rfl rfl dr) (aK rfl rfl cD) ⟨rfl,(⟨I+1,deep,false,l,c⟩:Rd),?_⟩
 exact⟨.mk 2 (aZ ax I).t 0 [],_,rfl,⟨by dsimp only;omega,b.2⟩,⟨by dsimp only;omega,fun h=>(by cases h),fun _=>by dsimp only;omega⟩,fun _=>by rw[zy];dsimp only;omega,aP eg (ew _)⟩
 have n:I<ax.length:=nQ (by rw[show(aZ ax I).k=2 by simpa using af];decide)
 refine rV 5 rfl (vp (bA rfl rfl (by omega)) rfl (rL 5 rfl ?_))
 refine bZ mixed (fun ao=>ao==0||ao==3) fun aq=> ?_
 refine bL [0,1,2] rfl (by kernel_rfl) id (vt 3 rfl (bJ (vs:=[(0,zI 1),(1,.string (aZ ax I).t)]) (v:= .agg #[zI 1,.string (aZ ax I).t,zI 0,zS]) rfl (fun W=>by kernel_rfl)) rfl (by kernel_rfl) id (bL [1004,1005] rfl (by kernel_rfl) id (bS (by kernel_rfl) (rD 3 rfl ?_))))
 refine cB results102 (aK rfl rfl dr) (aK rfl rfl cD) ⟨rfl,(⟨I+1,deep,false,l,c⟩:Rd),?_⟩
 exact⟨.mk 1 (aZ ax I).t 0 [],_,rfl,⟨by dsimp only;omega,b.2⟩,⟨by dsimp only;omega,fun h=>(by cases h),fun _=>by dsimp only;omega⟩,fun _=>by rw[zy];dsimp only;omega,aP eg (ew _)⟩
 subst z
 refine rV 4 rfl (vp (bJ (vs:=[]) (v:= .agg #[zI 0,.string ⟨#[]⟩,zI 0,zS]) rfl (fun W=>by kernel_rfl)) rfl (rL 6 rfl ?_))
 refine cB results102 (aK rfl rfl dr) (aK rfl rfl cD) ⟨rfl,(⟨I,deep,true,l,c⟩:Rd),?_⟩
 exact⟨.mk 0 ⟨#[]⟩ 0 [],_,rfl,b,zx rfl,fun h=>(by cases h),aP eg (ew _)⟩
theorem F1(U:∀(R:Wd) (r:Rd),cE R aA ae ax→dz ax r→ax.length -r.I≤ao→bd 102 [rdv aA ae ax r,.bool true] R (pu aA ae ax r))(R:Wd)(r:Rd)(p:cE R aA ae ax)(am:dz ax r)(aD:ax.length -r.I≤ao):bd 86 [rdv aA ae ax r] R (vG aA ae ax r):=by
 obtain⟨I,deep,bad,l,c⟩:=r
 try dsimp only at*
 have hlen:=p.len
 refine b5 func86 rfl ntmps86 rfl rfl fun w G ad=> ?_
 refine sV 14 rfl ?_
 refine gN 36 4 ?_
 refine lK (ι:=Wd×Rd×List Ty×LV×OA×Nat) [1,2] 0 rfl (fun(j,a,b,t,o,m)=>(⟨[(4,.val (.slice o b.length m))],[(98,[.slice aA ax.length ae,zI a.I,zI a.deep,.bool a.bad,zI a.l,zI a.c]),(98,[zS,zI 0,zI 0,.bool false,zI 0,zI 0])],[⟨.slice o b.length m,b.length,t,36,4⟩]⟩,j,Sub R j∧dz ax a∧(I≤a.I∧(bad=true→a.bad=true∧a.I=I)∧b.length+bn a.bad.not≤a.I -I+1)∧(a.bad=false→gS b≤a.I -I)∧aL Ty.Cs j b t∧Src j 4 o b.length t∧b.length≤m∧m≤9223372036854775807∧(o=none→m=0),2*(ax.length -a.I)+(if a.bad then 0 else 1))) (R,⟨I,deep,bad,l,c⟩,[],[],none,0) rfl rfl [1] rfl ?_ ?_
 exact⟨sR,am,⟨Nat.le_refl _,fun h=>⟨h,rfl⟩,by cases bad<;>simp[bn]⟩,fun _=>by simp[gS],aL.nil,⟨rfl,.inl rfl⟩,Nat.le_refl _,by decide,fun _=>rfl⟩
 rintro⟨j,⟨e,g,X,i,f⟩,b,t,o,m⟩ ⟨q,n,d,F,D,S,O,M,K⟩
 show V _ _ _ ⟨_,_,_⟩ j
 refine rV 7 rfl ?_
 cases L:(X)
 subst L
 refine rL 1 rfl (dJ rfl rfl rfl ?_)
 refine be (gq (bF p q) (⟨e,g,false,i,f⟩:Rd)) eZ rfl rfl ?_
 rintro _ rfl
 refine dJ rfl rfl rfl (vp (k6 rfl m3 rfl) rfl (rL 2 rfl ?_))
 cases az:(((aZ ax e).k)==2)
 refine rL 1 rfl (dJ rfl rfl rfl ?_)
 refine be (gq (bF p q) (⟨e,g,false,i,f⟩:Rd)) eZ rfl rfl ?_
 rintro _ rfl
 refine dJ rfl rfl rfl (vp (k6 rfl m3 rfl) rfl (rL 3 rfl ?_))
 cases ay:(((aZ ax e).k)==3)
 refine rL 1 rfl (dJ rfl rfl rfl ?_)
 refine be (hH (bF p q) (⟨e,g,false,i,f⟩:Rd) 6 (⟨#[40]⟩)) hG rfl rfl ?_
 rintro _ rfl
 refine rL 4 rfl ?_
 cases aB:(gB ax (⟨e,g,false,i,f⟩:Rd) 6 (⟨#[40]⟩))
 refine rV 15 rfl ?_
 refine cB results86 (aK rfl rfl dr) (aT rfl) ⟨rfl,(⟨e,g,false,i,f⟩:Rd),b,_,_,rfl,n,⟨d.1,d.2.1⟩,F,⟨O,M,by have:=d.2.2;have:=n.1;dsimp only at*;omega,K⟩,cz S D⟩
 refine rV 7 rfl (ww 1 ?_)
 rotate_left
 refine rL 13 rfl (ww 1 ?_)
 rotate_left
 refine rL 19 rfl (ww 1 ?_)
 rotate_left
 subst L
 refine rL 32 rfl ?_
 refine cB results86 (aK rfl rfl dr) (aT rfl) ⟨rfl,(⟨e,g,true,i,f⟩:Rd),b,_,_,rfl,n,⟨d.1,d.2.1⟩,F,⟨O,M,by have:=d.2.2;have:=n.1;dsimp only at*;omega,K⟩,cz S D⟩
 any_goals
  refine uw 1 ?_
  refine cN (U _ (⟨e,g,false,i,f⟩:Rd) (bF p q) n (by have:=d.1;dsimp only at this⊢;omega)) zv rfl rfl ?_
  rintro _ ar Q ⟨⟨I3,Z,C,aq,c3⟩,⟨y,A,z,B⟩,_,rfl,P,an,ap,⟨H,J,rfl,N,v⟩⟩
  replace v:=a8.1 v
  refine rL 18 rfl ?_
  refine et e6 rfl ?_
  intro av au x al
  refine gO ?_
  refine gW (news:=[zI y,.string A,zI z,.slice H B.length J]) m8 rfl rfl (cd rfl al) (fun h=>by cases h) (fun u hu=>a2.one (aP N (aC a2 v x)) u hu) (by have:=d.2.2;have:=n.1;dsimp only at*;simp[bn] at*;omega) rfl rfl ?_
  intro T Y W E ag ah aj ak
  refine rL 3 rfl ?_
  rw[show b.length+1=(b++ [(.mk y A z B:Ty)]).length by simp]
  have s:=an;unfold my at s;dsimp only at s d
  refine dR (W,⟨I3,Z,C,aq,c3⟩,b++ [(.mk y A z B:Ty)],t++ [zI y,.string A,zI z,.slice H B.length J],T,Y) rfl rfl [1] rfl ?_ ?_
  refine⟨q.trans (ai (ai Q x) E),P,⟨by dsimp only;omega,fun h=>absurd (d.2.1 h).1 (by decide),?_⟩,fun af=>by have ac:=ap af;have ab:=F rfl;have aa:=d.1;have aw:=s.1;rw[zz];dsimp only at ac ab aa⊢;omega,c6 (bg a2 (ai (ai Q x) E) D) (c4 (aP N (aC a2 v (ai x E)))),(by simpa using ak),by simpa using ag,ah,aj⟩
  have g2:=s.2.2;dsimp only;rw[List.length_append,List.length_singleton]
  cases C with
  |true=>simp[bn] at d⊢;omega
  |false=>have:=g2 rfl;simp[bn] at d⊢;omega
  dsimp only
  have g2:=s.2.2
  cases C with
  |true=>simp;omega
  |false=>have:=g2 rfl;have:=P.1;dsimp only at this;simp;omega
theorem zB(A:OA)(cap:Nat)(ts:List Tk):∀k,tl A cap ts k∧zw A cap ts k
 |0=>⟨fun b R r a c h=>zA b R r a c (h.resolve_right (by omega)),fun R r a c h=>absurd h (by omega)⟩
 |k+1=>by
  obtain⟨g,f⟩:=zB A cap ts k
  have d:∀(b:Bool) (R:Wd) (r:Rd),cE R A cap ts→dz ts r→ts.length -r.I≤k→bd 102 [rdv A cap ts r,.bool b] R (pu A cap ts r):=fun b R r a c i=>F0 g f b R r a c i
  refine⟨fun b R r a c h=> ?_,fun R r a c h=>F1 (d true) R r a c (by omega)⟩
  cases e:r.bad with
  |true=>exact zA b R r a c e
  |false=>
   rcases h with h|h
   ·rw[e] at h;cases h
   ·exact d b R r a c (by omega)
theorem F2(R:Wd)(r:Rd)(a:cE R aA ae ax)(b:dz ax r):bd 86 [rdv aA ae ax r] R (vG aA ae ax r):=
 (zB aA ae ax (ax.length -r.I+1)).2 R r a b (by omega)
theorem F3:cr 108 true 5:=by unfold cr;kernel_rfl
theorem F4:cr 153 true 4:=by unfold cr;kernel_rfl
theorem fy:c7 105 9 1:=by unfold c7;kernel_rfl
theorem px:c7 106 153 4:=by unfold c7;kernel_rfl
theorem gY:dO 105 9 1 16:=by unfold dO;kernel_rfl
theorem zC:dO 106 153 4 56:=by unfold dO;kernel_rfl
theorem zD:aF 63:=by unfold aF;kernel_rfl
def vH {α:Type} (P:World→α→List Value→Prop) (μ:α→Nat) (A:Option Addr) (cap:Nat) (ts:List Tk) (r:Rd) (v:Value) (R':World):Prop:=
 ∃(a:Rd) (x:α) (c:List Value),v= .tuple #[rdv A cap ts a,.agg c.toArray]∧dz ts a∧(r.I≤a.I∧(r.bad=true→a.bad=true))∧(a.bad=false→μ x≤4*(a.I -r.I))∧P R' x c
def m9 (l:List Cn):Nat:=(l.map fun c=>gS c.ts+1).sum
theorem zE(l:List Cn)(c:Cn):m9 (l++ [c])=m9 l+(gS c.ts+1):=by simp[m9]
def tn (x:Cn):Nat:=4*(gS x.ts+1)
def py (x:Dt):Nat:=4*(x.vs.length+m9 x.cs+1)
def gP (r:Rl):Nat:=aO r.ps+aO r.gs+r.b.size+2
theorem Mv.bad{r s:Rd}(h:Mv r s)(c:r.bad=true):s.bad=true:=by
 rcases h with⟨b,-⟩|⟨-,a,-⟩
 ·exact b
 ·rw[c] at a;cases a
theorem Mv.le(h:Mv bY cO):bY.I≤cO.I:=h.prog.1
theorem F5{k n l c d:Int}(b:bY.bad=false)(a:Mv bY cO)(f:hj cO fQ cv)(h3:Mv fQ h4)(i:2≤cv.length):en bY {h4 with deep:=d} (.mk k aY n cv l c):=by
 have a:=a.nat
 have h3:=h3.nat
 obtain⟨g1,g2,e,g,h⟩:=f
 rw[←lO,←lO] at g2
 rw[←lP] at e
 rw[qX]
 have b:=lP.2 b
 simp only[Ex.size_mk] at*
 have:=gX fQ.bad
 have:=gX cO.bad
 have:=gX h4.bad
 omega
theorem zF(R:Wd)(r:Rd)(d:cE R aA ae ax)(q:dz ax r):bd 63 [rdv aA ae ax r] R (vH Cn.Cs tn aA ae ax r):=by
 obtain⟨I,deep,bad,l,c⟩:=r
 try dsimp only at*
 have hlen:=d.len
 refine b5 func63 rfl ntmps63 rfl rfl fun w G ad=> ?_
 refine sV 10 rfl ?_
 refine be (gq d (⟨I,deep,bad,l,c⟩:Rd)) eZ rfl rfl ?_
 rintro _ rfl
 refine vp (mj (ds:=#[zI ((aZ ax I).l),zI ((aZ ax I).c)]) rfl mw rfl) rfl (rL 7 rfl ?_)
 refine be (ta d (⟨I,deep,bad,l,c⟩:Rd) 3 (by have:=q.1;have:=d.len;omega)) tg rfl rfl ?_
 rintro _ s
 obtain⟨⟨⟨I1,t,m,J,c1⟩,f⟩,p⟩:∃X,X=k4 ax (⟨I,deep,bad,l,c⟩:Rd) 3:=⟨_,rfl⟩
 have b:=tc (show(3:Int)≠-1 by decide) q
 rw[←p] at b
 rw[←p] at s;subst s
 dsimp only at b
 have M:I≤I1:=by have a:=Mv.le b.1;dsimp only at a;omega
 have A:bad=true→m=true:=fun a=>(Mv.bad b.1) a
 refine rL 11 rfl ?_
 refine cN (F2 _ (⟨I1,t,m,J,c1⟩:Rd) d b.2) zu rfl rfl ?_
 rintro _ L _ ⟨⟨j,u,n,K,c2⟩,g,i,o,rfl,E,e,H,C,F⟩
 have D:I≤j:=by have a:=e.1;dsimp only at a;omega
 have B:bad=true→n=true:=fun a=>((fun z=>(e.2 z).1)) (A a)
 refine rL 9 rfl ?_
 refine bZ mixed (fun k=>k==3||k==5) fun aq=> ?_
 refine bL [0,1,2,3] rfl (by kernel_rfl) id (vt 4 rfl (bJ (vs:=[(0,.string f),(1,.slice i g.length o),(2,.agg #[zI ((aZ ax I).l),zI ((aZ ax I).c)])]) (v:= .agg #[.string f,.slice i g.length o,zI ((aZ ax I).l),zI ((aZ ax I).c)]) rfl (fun W=>by kernel_rfl)) rfl (by kernel_rfl) id (bL [1005,1006] rfl (by kernel_rfl) id (bS (by kernel_rfl) (rD 2 rfl ?_))))
 refine cB results63 (aK rfl rfl dr) (aK rfl rfl F4) ⟨rfl,(⟨j,u,n,K,c2⟩:Rd),?_⟩
 exact⟨⟨f,g,(aZ ax I).l,(aZ ax I).c⟩,_,rfl,E,⟨D,B⟩,fun h=>by have x:=H h;have h3:=(b.1.g8 (oa e.2 h)).2;have y:=e.1;dsimp only[tn] at x h3 y⊢;omega,n9 C F⟩
theorem F6(R:Wd)(r:Rd)(g:cE R aA ae ax)(bh:dz ax r):bd 30 [rdv aA ae ax r] R (vH Dt.Cs py aA ae ax r):=by
 obtain⟨I,deep,bad,l,c⟩:=r
 try dsimp only at*
 have hlen:=g.len
 try dsimp only[rdv]
 refine b5 func30 rfl ntmps30 rfl rfl fun w G ad=> ?_
 refine sV 10 rfl ?_
 refine be (gq g (⟨I,deep,bad,l,c⟩:Rd)) eZ rfl rfl ?_
 rintro _ rfl
 try dsimp only[rdv]
 refine vp (mj (ds:=#[zI ((aZ ax I).l),zI ((aZ ax I).c)]) rfl mw rfl) rfl (vp (bJ (vs:=[(3,.agg #[zI ((aZ ax I).l),zI ((aZ ax I).c)])]) (v:= .agg #[.string ⟨#[]⟩,zS,zS,zI ((aZ ax I).l),zI ((aZ ax I).c)]) rfl (fun W=>by kernel_rfl)) rfl (rL 7 rfl ?_))
 refine be (iq g (⟨I,deep,bad,l,c⟩:Rd) 5 (⟨#[100,97,116,97]⟩) (by have:=bh.1;have:=g.len;omega)) ir rfl rfl ?_
 rintro _ bj
 obtain⟨⟨I1,aV,au,bn,c1⟩,a0⟩:∃X,X=gU ax (⟨I,deep,bad,l,c⟩:Rd) 5 (⟨#[100,97,116,97]⟩):=⟨_,rfl⟩
 have ab:=jh (text:=(⟨#[100,97,116,97]⟩)) (show(5:Int)≠-1 by decide) bh
 rw[←a0] at ab
 rw[←a0] at bj;subst bj
 have cl:I≤I1:=by have b:=Mv.le ab.1;dsimp only at b;omega
 have bP:bad=true→au=true:=fun b=>(Mv.bad ab.1) b
 try dsimp only[rdv]
 refine be (ta g (⟨I1,aV,au,bn,c1⟩:Rd) 3 (by have:=ab.2.1;have:=g.len;omega)) tg rfl rfl ?_
 rintro _ bk
 obtain⟨⟨⟨an,bt,aw,b8,c2⟩,ar⟩,a1⟩:∃X,X=k4 ax (⟨I1,aV,au,bn,c1⟩:Rd) 3:=⟨_,rfl⟩
 have ac:=tc (show(3:Int)≠-1 by decide) ab.2
 rw[←a1] at ac
 rw[←a1] at bk;subst bk
 dsimp only at ac
 have cm:I≤an:=by have b:=Mv.le ac.1;dsimp only at b;omega
 have bQ:bad=true→aw=true:=fun b=>(Mv.bad ac.1) (bP b)
 try dsimp only[rdv]
 refine rL 17 rfl ?_
 refine gN 9 1 ?_
 refine lK (ι:=Wd×Rd×List BA×LV×OA×Nat) [2,3,4,5] 3 rfl (fun(B,F,j,al,Y,P)=>(⟨[],[(108,[.string ar,.slice Y j.length P,zS,zI ((aZ ax I).l),zI ((aZ ax I).c)]),(98,[.slice aA ax.length ae,zI F.I,zI F.deep,.bool F.bad,zI F.l,zI F.c])],[⟨.slice Y j.length P,j.length,al,9,1⟩]⟩,B,Sub R B∧dz ax F∧(an≤F.I∧j.length+an≤F.I∧(aw=true→F.bad=true))∧aL b7 B j al∧Src B 1 Y j.length al∧j.length≤P∧P≤9223372036854775807∧(Y=none→P=0),ax.length -F.I)) (R,⟨an,bt,aw,b8,c2⟩,[],[],none,0) rfl rfl [1] rfl ?_ ?_
 try dsimp only
 exact⟨sR,ac.2,⟨Nat.le_refl _,by simp,fun h=>h⟩,aL.nil,⟨rfl,.inl rfl⟩,Nat.le_refl _,by decide,fun _=>rfl⟩
 rintro⟨B,⟨f,K,aT,N,J⟩,j,al,Y,P⟩ ⟨E,T,D,bb,b6,b3,bW,bI⟩
 have cp:I≤f:=by have b:=D.1;dsimp only at b;omega
 have a8:bad=true→aT=true:=fun b=>D.2.2 (bQ b)
 show V _ _ _ ⟨_,_,_⟩ B
 refine rV 7 rfl ?_
 cases ba:(aT)
 subst ba
 try dsimp only[rdv]
 refine rL 1 rfl (dJ rfl rfl rfl ?_)
 refine be (gq (bF g E) (⟨f,K,false,N,J⟩:Rd)) eZ rfl rfl ?_
 rintro _ rfl
 try dsimp only[rdv]
 refine dJ rfl rfl rfl (vp (k6 rfl m3 rfl) rfl (rL 4 rfl ?_))
 cases bV:(((aZ ax f).k)==2)
 refine rV 9 rfl ?_
 refine be (iq (bF g E) (⟨f,K,false,N,J⟩:Rd) 6 (⟨#[61]⟩) (by have:=T.1;have:=g.len;omega)) ir rfl rfl ?_
 rintro _ bm
 obtain⟨⟨ao,bv,az,ca,br⟩,a4⟩:∃X,X=gU ax (⟨f,K,false,N,J⟩:Rd) 6 (⟨#[61]⟩):=⟨_,rfl⟩
 have L:=jh (text:=(⟨#[61]⟩)) (show(6:Int)≠-1 by decide) T
 rw[←a4] at L
 rw[←a4] at bm;subst bm
 have co:I≤ao:=by have b:=Mv.le L.1;dsimp only at b;omega
 have bU:bad=true→az=true:=fun b=>(Mv.bad L.1) (a8 b)
 try dsimp only[rdv]
 refine rL 4 rfl ?_
 refine gN 153 4 ?_
 refine lK (ι:=Wd×Rd×List Cn×LV×OA×Nat) [2,3,4,5] 3 rfl (fun(m,e,d,H,y,n)=>(⟨[],[(108,[.string ar,.slice Y j.length P,.slice y d.length n,zI ((aZ ax I).l),zI ((aZ ax I).c)]),(98,[.slice aA ax.length ae,zI e.I,zI e.deep,.bool e.bad,zI e.l,zI e.c])],[⟨.slice y d.length n,d.length,H,153,4⟩]⟩,m,Sub B m∧dz ax e∧(ao≤e.I∧d.length≤e.I∧(az=true→e.bad=true)∧(e.bad=false→m9 d+ao≤e.I))∧aL Cn.Cs m d H∧Src m 4 y d.length H∧d.length≤n∧n≤9223372036854775807∧(y=none→n=0),ax.length -e.I)) (B,⟨ao,bv,az,ca,br⟩,[],[],none,0) rfl rfl [1] rfl ?_ ?_
 refine ww 5 ?_
 rotate_left
 rintro⟨m,⟨ag,aD,ah,aQ,aB⟩,d,H,y,n⟩ ⟨aa,af,i,aM,_⟩
 have b2:I≤ag:=by have b:=i.1;dsimp only at b;omega
 have aJ:bad=true→ah=true:=fun b=>i.2.2.1 (bU b)
 show V _ _ _ ⟨_,_,_⟩ m
 refine rV 4 rfl ?_
 refine cN (zF _ (⟨ag,aD,ah,aQ,aB⟩:Rd) (bF (bF g E) aa) af) zD rfl rfl ?_
 rintro _ cf Z ⟨⟨A,Q,C,U,c5⟩,⟨x,O,q,o⟩,_,rfl,aN,p,aP,⟨am,ap,rfl,aj,ak⟩⟩
 have bc:I≤A:=by have b:=p.1;dsimp only at b;omega
 have a6:bad=true→C=true:=fun b=>(p.2) (aJ b)
 try dsimp only[rdv]
 refine rL 20 rfl ?_
 refine et px rfl ?_
 intro ck cg z b1
 try dsimp only[rdv]
 refine gO ?_
 refine gW (news:=[.string x,.slice am O.length ap,zI q,zI o]) zC rfl rfl (cd rfl b1) (fun h=>by cases h) (fun u hu=>j2.one (n9 (s:=x) (l:=q) (c:=o) aj (aC a2 ak z)) u hu) (by have b:=i.2.1;have:=af.1;dsimp only at*;omega) rfl rfl ?_
 intro aR aU aS M aF aG aH aI
 try dsimp only[rdv]
 refine rL 8 rfl ?_
 refine be (hH (bF (bF (bF (bF (bF g E) aa) Z) z) M) (⟨A,Q,C,U,c5⟩:Rd) 6 (⟨#[124]⟩)) hG rfl rfl ?_
 rintro _ rfl
 try dsimp only[rdv]
 refine rL 3 rfl ?_
 cases a9:(gB ax (⟨A,Q,C,U,c5⟩:Rd) 6 (⟨#[124]⟩))
 refine ww 1 ?_
 rotate_left
 refine ww 2 ?_
 rotate_left
 have cq:f<ax.length:=nQ (by rw[show(aZ ax f).k=2 by simpa using bV];decide)
 try dsimp only[rdv]
 refine rV 5 rfl ?_
 refine bZ mixed (fun k=>k==4) fun aq=> ?_
 refine bL [0,2] rfl (by kernel_rfl) id (a7 [1,3] (by kernel_rfl) rfl ?_)
 refine av rfl ?_ ?_
 refine a7 [3] (by kernel_rfl) rfl ?_
 refine dK rfl (gq (bF g E) (⟨f,K,false,N,J⟩:Rd)) eZ rfl rfl ?_ bf
 rintro _ _ cr ⟨rfl,rfl⟩
 try dsimp only[rdv]
 refine vt 4 rfl (k6 rfl vv rfl) rfl (by kernel_rfl) id (a7 [5] (by kernel_rfl) rfl ?_)
 refine eW fy rfl ?_ bf
 refine ww 3 ?_
 rotate_left
 refine dK rfl (gq (bF g E) (⟨f,K,false,N,J⟩:Rd)) eZ rfl rfl ?_ bf
 rintro _ _ cs ⟨rfl,rfl⟩
 try dsimp only[rdv]
 refine vt 4 rfl (k6 rfl vv rfl) rfl (by kernel_rfl) id (a7 [1,5] (by kernel_rfl) rfl ?_)
 refine av rfl ?_ ?_
 refine a7 [5] (by kernel_rfl) rfl ?_
 refine eW fy rfl ?_ bf
 refine ww 3 ?_
 rotate_left
 refine eW fy rfl ?_ bf
 intro cj cc aO b0
 try dsimp only[rdv]
 refine bL [1001] rfl (by kernel_rfl) id ?_
 refine iJ ?_
 refine a7 [6] (by kernel_rfl) rfl ?_
 refine va (news:=[.string (aZ ax f).t]) rfl gY rfl rfl (cd rfl b0) (fun h=>by cases h) (fun u hu=>bT.one (R:=R) (a:=(aZ ax f).t) rfl u hu) (by have b:=D.2.1;have:=T.1;dsimp only at*;omega) rfl rfl ?_ bf
 refine ww 4 ?_
 rotate_left
 subst ba
 try dsimp only[rdv]
 refine rL 16 rfl ?_
 refine be (iq (bF g E) (⟨f,K,true,N,J⟩:Rd) 6 (⟨#[61]⟩) (by have:=T.1;have:=g.len;omega)) ir rfl rfl ?_
 rintro _ bl
 obtain⟨⟨I4,bu,ay,b9,bq⟩,a3⟩:∃X,X=gU ax (⟨f,K,true,N,J⟩:Rd) 6 (⟨#[61]⟩):=⟨_,rfl⟩
 have L:=jh (text:=(⟨#[61]⟩)) (show(6:Int)≠-1 by decide) T
 rw[←a3] at L
 rw[←a3] at bl;subst bl
 have cn:I≤I4:=by have b:=Mv.le L.1;dsimp only at b;omega
 have bR:bad=true→ay=true:=fun b=>(Mv.bad L.1) (a8 b)
 try dsimp only[rdv]
 refine rL 4 rfl ?_
 refine gN 153 4 ?_
 refine lK (ι:=Wd×Rd×List Cn×LV×OA×Nat) [2,3,4,5] 3 rfl (fun(m,e,d,H,y,n)=>(⟨[],[(108,[.string ar,.slice Y j.length P,.slice y d.length n,zI ((aZ ax I).l),zI ((aZ ax I).c)]),(98,[.slice aA ax.length ae,zI e.I,zI e.deep,.bool e.bad,zI e.l,zI e.c])],[⟨.slice y d.length n,d.length,H,153,4⟩]⟩,m,Sub B m∧dz ax e∧(I4≤e.I∧d.length≤e.I∧(ay=true→e.bad=true)∧(e.bad=false→m9 d+I4≤e.I))∧aL Cn.Cs m d H∧Src m 4 y d.length H∧d.length≤n∧n≤9223372036854775807∧(y=none→n=0),ax.length -e.I)) (B,⟨I4,bu,ay,b9,bq⟩,[],[],none,0) rfl rfl [1] rfl ?_ ?_
 refine ww 5 ?_
 rotate_left
 rintro⟨m,⟨ag,aD,ah,aQ,aB⟩,d,H,y,n⟩ ⟨aa,af,i,aM,_⟩
 have b2:I≤ag:=by have b:=i.1;dsimp only at b;omega
 have aJ:bad=true→ah=true:=fun b=>i.2.2.1 (bR b)
 show V _ _ _ ⟨_,_,_⟩ m
 refine rV 4 rfl ?_
 refine cN (zF _ (⟨ag,aD,ah,aQ,aB⟩:Rd) (bF (bF g E) aa) af) zD rfl rfl ?_
 rintro _ ce Z ⟨⟨A,Q,C,U,c5⟩,⟨x,O,q,o⟩,_,rfl,aN,p,aP,⟨am,ap,rfl,aj,ak⟩⟩
 have bc:I≤A:=by have b:=p.1;dsimp only at b;omega
 have a6:bad=true→C=true:=fun b=>(p.2) (aJ b)
 try dsimp only[rdv]
 refine rL 20 rfl ?_
 refine et px rfl ?_
 intro aY ch z bX
 try dsimp only[rdv]
 refine gO ?_
 refine gW (news:=[.string x,.slice am O.length ap,zI q,zI o]) zC rfl rfl (cd rfl bX) (fun h=>by cases h) (fun u hu=>j2.one (n9 (s:=x) (l:=q) (c:=o) aj (aC a2 ak z)) u hu) (by have b:=i.2.1;have:=af.1;dsimp only at*;omega) rfl rfl ?_
 intro aR aU aS M aF aG aH aI
 try dsimp only[rdv]
 refine rL 8 rfl ?_
 refine be (hH (bF (bF (bF (bF (bF g E) aa) Z) z) M) (⟨A,Q,C,U,c5⟩:Rd) 6 (⟨#[124]⟩)) hG rfl rfl ?_
 rintro _ rfl
 try dsimp only[rdv]
 refine rL 3 rfl ?_
 cases a9:(gB ax (⟨A,Q,C,U,c5⟩:Rd) 6 (⟨#[124]⟩))
 refine ww 1 ?_
 rotate_left
 refine ww 2 ?_
 rotate_left
 any_goals
  refine uw 1 ?_
  refine rV 2 rfl ?_
  refine bZ mixed (fun k=>k==3||k==4) fun aq=> ?_
  refine bL [0,1,1002,1003] rfl (by kernel_rfl) id (bS (by kernel_rfl) (rD 6 rfl ?_))
  refine cB results30 (aK rfl rfl dr) (aK rfl rfl F3) ⟨rfl,(⟨A,Q,C,U,c5⟩:Rd),?_⟩
  rw[show d.length+1=(d++ [(⟨x,O,q,o⟩:Cn)]).length by simp]
  try dsimp only
  exact⟨⟨ar,j,d++ [(⟨x,O,q,o⟩:Cn)],(aZ ax I).l,(aZ ax I).c⟩,_,rfl,aN,⟨bc,a6⟩,fun h=>by have bw:=aP h;have g1:=mz p.2 h;have g2:=i.2.2.2 g1;have aW:=L.1.g8 (mz i.2.2.1 g1);have aX:=ac.1.g8 (mz D.2.2 aW.1);have bB:=ab.1.g8 aX.1;have bC:=D.2.1;have bD:=p.1;have aY:=i.1;have bE:=aW.2;have bx:=aX.2;have bz:=bB.2;dsimp only[tn,py] at bw g2 bC bD aY bE bx bz⊢;rw[zE];dsimp only;omega,q0 ⟨b3,bW,by have b:=D.2.1;have:=T.1;dsimp only at*;omega,bI⟩ (a5.sub bT (cz b6 bb) (Sub.trans (Sub.trans (Sub.trans aa Z) z) M)) ⟨by simpa using aF,aG,by have b:=i.2.1;have:=af.1;dsimp only at*;simp;omega,aH⟩ (cz (l:=d++ [(⟨x,O,q,o⟩:Cn)]) (by simpa using aI) (aL.append (aL.sub j2 (Sub.trans (Sub.trans Z z) M) aM) (aL.single (n9 (s:=x) (l:=q) (c:=o) aj (a5.sub a2 ak (Sub.trans z M))))))⟩
 any_goals
  refine uw 2 ?_
  have b4:=jW (by decide) a9;dsimp only at b4
  try dsimp only[rdv]
  refine rV 6 rfl (vp (bA rfl rfl (by omega)) rfl (rL 4 rfl ?_))
  rw[show d.length+1=(d++ [(⟨x,O,q,o⟩:Cn)]).length by simp]
  refine dR (aS,⟨A+1,Q,C,U,c5⟩,d++ [(⟨x,O,q,o⟩:Cn)],H++ [.string x,.slice am O.length ap,zI q,zI o],aR,aU) rfl rfl [1] rfl ?_ ?_
  try dsimp only
  exact⟨aa.trans (ai (ai Z z) M),(show dz ax ⟨A+1,Q,C,U,c5⟩ from⟨by dsimp only;omega,aN.2⟩),⟨by have b:=i.1;have S:=p.1;dsimp only at S b⊢;omega,by have b:=i.2.1;have S:=p.1;dsimp only at S b⊢;rw[List.length_append,List.length_singleton];omega,fun aE=>p.2 (i.2.2.1 aE),fun S=>by have aE:=aP S;have bH:=i.2.2.2 (mz p.2 S);have bG:=p.1;rw[zE];dsimp only[tn] at aE bH bG⊢;omega⟩,c6 (bg j2 (ai (ai Z z) M) aM) (c4 (n9 (s:=x) (l:=q) (c:=o) aj (aC a2 ak (ai z M)))),(by simpa using aI),by simpa using aF,aG,aH⟩
  have S:=p.1;dsimp only at S⊢;omega
 any_goals
  refine uw 3 ?_
  intro ci cb aO bY
  try dsimp only[rdv]
  refine iJ ?_
  refine a7 [6] (by kernel_rfl) rfl ?_
  refine va (news:=[.string (aZ ax f).t]) rfl gY rfl rfl (cd rfl bY) (fun h=>by cases h) (fun u hu=>bT.one (R:=R) (a:=(aZ ax f).t) rfl u hu) (by have b:=D.2.1;have:=T.1;dsimp only at*;omega) rfl rfl ?_ bf
  refine ww 4 ?_
  rotate_left
 any_goals
  refine uw 4 ?_
  intro bo bs bp bi bK bM bN bO
  try dsimp only[rdv]
  refine bL [7,1008] rfl (by kernel_rfl) id (bS (by kernel_rfl) (rD 4 rfl (vp (bA rfl rfl (by omega)) rfl (rL 4 rfl ?_))))
  rw[show j.length+1=(j++ [(aZ ax f).t]).length by simp]
  refine dR (bp,⟨f+1,K,false,N,J⟩,j++ [(aZ ax f).t],al++ [.string (aZ ax f).t],bo,bs) rfl rfl [1] rfl ?_ ?_
  try dsimp only
  exact⟨E.trans (ai aO bi),(show dz ax ⟨f+1,K,false,N,J⟩ from⟨by dsimp only;omega,T.2⟩),⟨by have b:=D.1;dsimp only at b⊢;omega,by have b:=D.2.1;dsimp only at b⊢;rw[List.length_append,List.length_singleton];omega,D.2.2⟩,c6 (bg bT (ai aO bi) bb) (c4 (show b7 _ _ _ from rfl)),(by simpa using bO),by simpa using bK,bM,bN⟩
  dsimp only;omega
 any_goals
  refine uw 5 ?_
  try dsimp only
  exact⟨sR,L.2,⟨Nat.le_refl _,Nat.zero_le _,fun h=>h,fun _=>by simp[m9]⟩,aL.nil,⟨rfl,.inl rfl⟩,Nat.le_refl _,by decide,fun _=>rfl⟩
theorem vI:aF 64:=by unfold aF;kernel_rfl
def zG (A:Option Addr) (cap:Nat) (ts:List Tk) (k:Nat):Prop:=
 ∀(R:World) (r:Rd),cE R A cap ts→dz ts r→(r.bad=true∨ts.length -r.I<k)→bd 64 [rdv A cap ts r] R (jg A cap ts r)
theorem F7{k n l c:Int}(a:bY.bad=false)(h:cO.I=bY.I+1):en bY cO (.mk k aY n [] l c):=by
 have b:(Ex.mk k aY n [] l c).size=1:=by rw[Ex.size_mk];rfl
 unfold en
 rw[b]
 exact⟨by omega,fun h=>(by rw[a] at h;cases h),fun _=>⟨by omega,by omega⟩,by omega⟩
theorem zH(a:bi≠-1)(h:gB ax bY bi aY=true):bY.I<ax.length:=(jW a h).1
theorem F8{ts:List Tk}(R:Wd)(r:Rd)(a:cE R aA ae ts)(f:dz ts r)(p:r.bad=true):bd 64 [rdv aA ae ts r] R (jg aA ae ts r):=by
 obtain⟨I,deep,bad,l,c⟩:=r
 try dsimp only at*
 have hlen:=a.len
 refine b5 func64 rfl ntmps64 rfl rfl fun w G ad=> ?_
 refine sV 10 rfl ?_
 refine be (gq a (⟨I,deep,bad,l,c⟩:Rd)) eZ rfl rfl ?_
 rintro _ rfl
 refine vp (mj (ds:=#[zI ((aZ ts I).l),zI ((aZ ts I).c)]) rfl mw rfl) rfl (rL 8 rfl ?_)
 refine be (hH a (⟨I,deep,bad,l,c⟩:Rd) 6 (⟨#[95]⟩)) hG rfl rfl ?_
 rintro _ rfl
 refine rL 2 rfl ?_
 cases B:(gB ts (⟨I,deep,bad,l,c⟩:Rd) 6 (⟨#[95]⟩))
 refine rV 6 rfl ?_
 refine be (qR a (⟨I,deep,bad,l,c⟩:Rd) (by have:=f.1;have:=a.len;omega)) qT rfl rfl ?_
 rintro _ g
 obtain⟨i,y,x,v,n,e⟩:=vA ts (⟨I,deep,bad,l,c⟩:Rd)
 have b:=vB f
 have d:=fun h=>vy (ts:=ts) (r:=(⟨I,deep,bad,l,c⟩:Rd)) f.1 h
 have t:=fun h A=>vz (ts:=ts) (r:=(⟨I,deep,bad,l,c⟩:Rd)) h A
 obtain⟨⟨⟨j,o,m,u,c2⟩,e2⟩,z⟩:∃X,X=hA ts (⟨I,deep,bad,l,c⟩:Rd):=⟨_,rfl⟩
 rw[←z] at g e b d t;dsimp only at g e b d t;subst e;subst g
 dsimp only[qQ,leaf]
 refine rL 16 rfl ?_
 cases q:(i !=0)
 have C:i=0:=by simpa using q
 subst C
 refine rL 5 rfl ?_
 cases s:(bad)
 cases p.symm.trans s
 subst s
 refine rV 2 rfl ?_
 refine bZ mixed (fun k=>k==4||k==5) fun aq=> ?_
 refine bL [0,1,1002,1003] rfl (by kernel_rfl) id (bS (by kernel_rfl) (rD 3 rfl ?_))
 refine cB results64 (aK rfl rfl dr) (aK rfl rfl cY) ⟨rfl,(⟨j,o,m,u,c2⟩:Rd),?_⟩
 refine⟨leaf 0 y x v n,_,rfl,b,?_,lN _ _ _ _ _ _⟩
 exact d (.inr rfl)
 refine rL 7 rfl ?_
 refine bZ mixed (fun k=>k==4||k==5) fun aq=> ?_
 refine bL [0,1,1002,1003] rfl (by kernel_rfl) id (bS (by kernel_rfl) (rD 3 rfl ?_))
 refine cB results64 (aK rfl rfl dr) (aK rfl rfl cY) ⟨rfl,(⟨j,o,m,u,c2⟩:Rd),?_⟩
 refine⟨leaf i y x v n,_,rfl,b,?_,lN _ _ _ _ _ _⟩
 exact d (.inl (by simpa[leaf,Ex.k] using q))
 cases(jW (by decide) B).2.symm.trans p
theorem zJ{ts:List Tk}(aQ:zG aA ae ts ao)(R:Wd)(r:Rd)(a:cE R aA ae ts)(e:dz ts r)(a8:ts.length -r.I≤ao∨r.bad=true):bd 64 [rdv aA ae ts r] R (jg aA ae ts r):=by
 obtain⟨I,deep,bad,l,c⟩:=r
 try dsimp only at*
 have hlen:=a.len
 try dsimp only[rdv]
 refine b5 func64 rfl ntmps64 rfl rfl fun w G ad=> ?_
 refine sV 10 rfl ?_
 refine be (gq a (⟨I,deep,bad,l,c⟩:Rd)) eZ rfl rfl ?_
 rintro _ rfl
 refine vp (mj (ds:=#[zI ((aZ ts I).l),zI ((aZ ts I).c)]) rfl mw rfl) rfl (rL 8 rfl ?_)
 refine be (hH a (⟨I,deep,bad,l,c⟩:Rd) 6 (⟨#[95]⟩)) hG rfl rfl ?_
 rintro _ rfl
 refine rL 2 rfl ?_
 cases aY:(gB ts (⟨I,deep,bad,l,c⟩:Rd) 6 (⟨#[95]⟩))
 refine rV 6 rfl ?_
 refine be (qR a (⟨I,deep,bad,l,c⟩:Rd) (by have:=e.1;have:=a.len;omega)) qT rfl rfl ?_
 rintro _ aF
 obtain⟨aG,aN,aM,aJ,au,ax⟩:=vA ts (⟨I,deep,bad,l,c⟩:Rd)
 have S:=vB e
 have aa:=fun h=>vy (ts:=ts) (r:=(⟨I,deep,bad,l,c⟩:Rd)) e.1 h
 have aD:=fun h bK=>vz (ts:=ts) (r:=(⟨I,deep,bad,l,c⟩:Rd)) h bK
 obtain⟨⟨⟨al,av,am,aH,c2⟩,e2⟩,bD⟩:∃X,X=hA ts (⟨I,deep,bad,l,c⟩:Rd):=⟨_,rfl⟩
 rw[←bD] at aF ax S aa aD;dsimp only at aF ax S aa aD;subst ax;subst aF
 dsimp only[qQ,leaf]
 refine rL 16 rfl ?_
 cases a2:(aG !=0)
 have bR:aG=0:=by simpa using a2
 subst bR
 refine rL 5 rfl ?_
 cases a3:(bad)
 subst a3
 have bV:=aD rfl rfl
 have x:(⟨I,deep,false,l,c⟩:Rd).bad=false:=rfl
 injection bV with q1 q2 q3 q4 q5;subst al av am aH c2
 replace a8:=a8.resolve_right (by decide)
 refine rV 7 rfl ?_
 refine be (hH a (⟨I,deep,false,l,c⟩:Rd) 6 (⟨#[40]⟩)) hG rfl rfl ?_
 rintro _ rfl
 refine rL 3 rfl ?_
 cases bN:(gB ts (⟨I,deep,false,l,c⟩:Rd) 6 (⟨#[40]⟩))
 refine rV 2 rfl ?_
 refine bZ mixed (fun ao=>ao==0||ao==5) fun aq=> ?_
 refine bL [0,2] rfl (by kernel_rfl) id (a7 [1] (by kernel_rfl) rfl ?_)
 refine dK rfl (m5 a (⟨I,deep,false,l,c⟩:Rd)) m4 rfl rfl ?_ bf
 rintro _ _ cf ⟨rfl,bk⟩
 obtain⟨⟨bo,bw,br,bY,bt⟩,ay⟩:∃X,X=hi ts (⟨I,deep,false,l,c⟩:Rd):=⟨_,rfl⟩
 have bc:=And.intro (m6 ts (⟨I,deep,false,l,c⟩:Rd)) (pn e)
 rw[←ay] at bc
 rw[←ay] at bk;subst bk
 refine bL [1003,1004] rfl (by kernel_rfl) id (bS (by kernel_rfl) (rD 3 rfl ?_))
 refine cB results64 (aK rfl rfl dr) (aK rfl rfl cY) ⟨rfl,(⟨bo,bw,br,bY,bt⟩:Rd),?_⟩
 refine⟨leaf 0 aN aM aJ au,_,rfl,bc.2,?_,lN _ _ _ _ _ _⟩
 rw[ay];exact zh ts _ x _ _ _ _ _
 have bb:I<ts.length:=zH (by decide) bN
 refine rV 6 rfl ?_
 refine be (qP a (⟨I,deep,false,l,c⟩:Rd) (by have:=e.1;have:=a.len;omega) e.2.1) qS rfl rfl ?_
 rintro _ bl
 obtain⟨⟨L,aw,ap,aI,ar⟩,aX⟩:∃X,X=lE ts (⟨I,deep,false,l,c⟩:Rd):=⟨_,rfl⟩
 have B:=qV e x bb
 rw[←aX] at B
 rw[←aX] at bl;subst bl
 have aB:eu (⟨I,deep,false,l,c⟩:Rd) (⟨L,aw,ap,aI,ar⟩:Rd):=Mv.prog B.1
 refine rL 7 rfl ?_
 refine be (gq a (⟨L,aw,ap,aI,ar⟩:Rd)) eZ rfl rfl ?_
 rintro _ rfl
 refine vp (k6 rfl m3 rfl) rfl (rL 7 rfl ?_)
 refine cN (aQ _ _ a B.2 (by rcases aB.2 with d|d;exact .inl d;exact .inr (by have:=B.2.1;dsimp only at*;omega))) vI rfl rfl ?_
 rintro _ b3 D ⟨⟨bp,bx,bs,b0,bu⟩,⟨E,F,n7,J,s,p⟩,_,rfl,bU,bX,aP,aV,rfl,a6,U⟩
 replace U:=c9.1 U
 refine rL 12 rfl ?_
 refine et cZ rfl ?_
 intro bz aS y bP
 refine rL 5 rfl ?_
 refine lK (ι:=Wd×Rd×List Ex×LV×OA×Nat) [1,2,3,8,9,10] 7 rfl (fun(A,n,b,H,t,o)=>(⟨[(11,.val (.slice t b.length o))],[(98,[.slice aA ts.length ae,zI n.I,zI n.deep,.bool n.bad,zI n.l,zI n.c]),(31,[zI E,.string F,zI n7,.slice aP J.length aV,zI s,zI p])],[⟨.slice t b.length o,b.length,H,31,6⟩]⟩,A,Sub aS A∧dz ts n∧hj (⟨L,aw,ap,aI,ar⟩:Rd) n b∧b[0]?=some (.mk E F n7 J s p:Ex)∧aL Ex.Cs A b H∧Src A 6 t b.length H∧b.length≤o∧o≤9223372036854775807∧(t=none→o=0),2*(ts.length -n.I)+(if n.bad then 0 else 1))) (aS,⟨bp,bx,bs,b0,bu⟩,[(.mk E F n7 J s p:Ex)],[zI E,.string F,zI n7,.slice aP J.length aV,zI s,zI p],(some ⟨bz,0,none⟩),1) rfl rfl [1] rfl ?_ ?_
 exact⟨sR,bU,hj.one bX,rfl,c4 (de a6 (aC bM U y)),cd rfl bP,a9 _,by decide,(fun h=>by cases h)⟩
 rintro⟨A,⟨f,i,N,m,g⟩,b,H,t,o⟩ ⟨z,q,j,az,a4,bW,bT,bO,bC⟩
 have bi:eu (⟨I,deep,false,l,c⟩:Rd) ⟨f,i,N,m,g⟩:=⟨by have d:=aB.1;have bB:=j.1;dsimp only at*;omega,by rcases(hj.prog j).2 with d|d;exact .inl d;exact .inr (by have bB:=aB.1;dsimp only at*;omega)⟩
 show V _ _ _ ⟨_,_,_⟩ A
 refine rV 5 rfl ?_
 cases ca:(((aZ ts L).k)==3)
 refine rL 20 rfl ?_
 refine be (iq (bF (bF (bF a D) y) z) (⟨f,i,N,m,g⟩:Rd) 6 (⟨#[41]⟩) (by have:=q.1;have:=a.len;omega)) ir rfl rfl ?_
 rintro _ Z
 obtain⟨⟨K,b7,M,af,O⟩,Q⟩:∃X,X=gU ts (⟨f,i,N,m,g⟩:Rd) 6 (⟨#[41]⟩):=⟨_,rfl⟩
 refine ww 1 ?_
 rotate_left
 refine rL 5 rfl ?_
 cases a0:(N)
 subst a0
 refine rL 1 rfl (dJ rfl rfl rfl ?_)
 refine be (hH (bF (bF (bF a D) y) z) (⟨f,i,false,m,g⟩:Rd) 6 (⟨#[41]⟩)) hG rfl rfl ?_
 rintro _ rfl
 refine rL 4 rfl ?_
 cases cb:(gB ts (⟨f,i,false,m,g⟩:Rd) 6 (⟨#[41]⟩))
 refine rV 7 rfl ?_
 refine cN (aQ _ _ (bF (bF (bF a D) y) z) q (by rcases bi.2 with d|d;exact .inl d;exact .inr (by have:=q.1;dsimp only at*;omega))) vI rfl rfl ?_
 rintro _ b1 bj ⟨⟨aR,aW,an,bm,aT⟩,⟨ac,aj,ah,ak,ag,P⟩,_,rfl,bh,ab,aO,aU,rfl,a5,T⟩
 replace T:=c9.1 T
 have ce:eu (⟨I,deep,false,l,c⟩:Rd) (⟨aR,aW,an,bm,aT⟩:Rd):=bi.kz ab
 refine rL 18 rfl ?_
 refine et cZ rfl ?_
 intro b9 b2 Y bQ
 have cc:=j.len q.1 a.len
 refine gO ?_
 refine gW (news:=[zI ac,.string aj,zI ah,.slice aO ak.length aU,zI ag,zI P]) n8 rfl rfl (cd rfl bQ) (fun h=>by cases h) (fun u hu=>bM.one (de a5 (aC bM T Y)) u hu) (by omega) rfl rfl ?_
 intro bn bv bq aE bE bG bH bI
 refine rL 3 rfl ?_
 rw[show b.length+1=(b++ [(.mk ac aj ah ak ag P:Ex)]).length by simp]
 refine dR (bq,⟨aR,aW,an,bm,aT⟩,b++ [(.mk ac aj ah ak ag P:Ex)],H++ [zI ac,.string aj,zI ah,.slice aO ak.length aU,zI ag,zI P],bn,bv) rfl rfl [1] rfl ?_ ?_
 exact⟨z.trans (ai (ai bj Y) aE),bh,j.step rfl ab,by rw[List.getElem?_append_left (by have:=j.2.2.2.2;omega)];exact az,c6 (bg bM (ai (ai bj Y) aE) a4) (c4 (de a5 (aC bM T (ai Y aE)))),(by simpa using bI),by simpa using bE,bG,bH⟩
 dsimp only;have g1:=ab.1;have g2:=ab.2.2.1;dsimp only at g1 g2
 cases an with
 |true=>simp;omega
 |false=>have:=g2 rfl;have:=bh.1;dsimp only at this;simp;omega
 refine rV 9 rfl ?_
 refine be (iq (bF (bF (bF a D) y) z) (⟨f,i,false,m,g⟩:Rd) 6 (⟨#[41]⟩) (by have:=q.1;have:=a.len;omega)) ir rfl rfl ?_
 rintro _ Z
 obtain⟨⟨K,b6,M,af,O⟩,Q⟩:∃X,X=gU ts (⟨f,i,false,m,g⟩:Rd) 6 (⟨#[41]⟩):=⟨_,rfl⟩
 refine ww 1 ?_
 rotate_left
 subst a0
 refine rL 15 rfl ?_
 refine be (iq (bF (bF (bF a D) y) z) (⟨f,i,true,m,g⟩:Rd) 6 (⟨#[41]⟩) (by have:=q.1;have:=a.len;omega)) ir rfl rfl ?_
 rintro _ Z
 obtain⟨⟨K,b4,M,af,O⟩,Q⟩:∃X,X=gU ts (⟨f,i,true,m,g⟩:Rd) 6 (⟨#[41]⟩):=⟨_,rfl⟩
 refine ww 1 ?_
 rotate_left
 subst a3
 refine rV 2 rfl ?_
 refine bZ mixed (fun ao=>ao==4||ao==5) fun aq=> ?_
 refine bL [0,1,1002,1003] rfl (by kernel_rfl) id (bS (by kernel_rfl) (rD 3 rfl ?_))
 refine cB results64 (aK rfl rfl dr) (aK rfl rfl cY) ⟨rfl,(⟨al,av,am,aH,c2⟩:Rd),?_⟩
 refine⟨leaf 0 aN aM aJ au,_,rfl,S,?_,lN _ _ _ _ _ _⟩
 exact aa (.inr rfl)
 refine rL 7 rfl ?_
 refine bZ mixed (fun ao=>ao==4||ao==5) fun aq=> ?_
 refine bL [0,1,1002,1003] rfl (by kernel_rfl) id (bS (by kernel_rfl) (rD 3 rfl ?_))
 refine cB results64 (aK rfl rfl dr) (aK rfl rfl cY) ⟨rfl,(⟨al,av,am,aH,c2⟩:Rd),?_⟩
 refine⟨leaf aG aN aM aJ au,_,rfl,S,?_,lN _ _ _ _ _ _⟩
 exact aa (.inl (by simpa[leaf,Ex.k] using a2))
 have bb:I<ts.length:=zH (by decide) aY
 have x:=(jW (by decide) aY).2;dsimp only at x;subst x
 refine rV 5 rfl (vp (bA rfl rfl (by omega)) rfl (rL 5 rfl ?_))
 refine bZ mixed (fun ao=>ao==0||ao==3) fun aq=> ?_
 refine bL [0,1] rfl (by kernel_rfl) id (vt 2 rfl (bJ (vs:=[(0,zI 9),(4,.agg #[zI ((aZ ts I).l),zI ((aZ ts I).c)])]) (v:= .agg #[zI 9,.string ⟨#[]⟩,zI 0,zS,zI ((aZ ts I).l),zI ((aZ ts I).c)]) rfl (fun W=>by kernel_rfl)) rfl (by kernel_rfl) id (bL [1003,1004] rfl (by kernel_rfl) id (bS (by kernel_rfl) (rD 3 rfl ?_))))
 refine cB results64 (aK rfl rfl dr) (aK rfl rfl cY) ⟨rfl,(⟨I+1,deep,false,l,c⟩:Rd),?_⟩
 exact⟨.mk 9 ⟨#[]⟩ 0 [] (aZ ts I).l (aZ ts I).c,_,rfl,(show dz ts ⟨I+1,deep,false,l,c⟩ from⟨by dsimp only;omega,e.2⟩),F7 rfl rfl,(show Ex.jy _ _ (.mk _ _ _ [] _ _) from⟨_,_,rfl,eg,.inl rfl⟩)⟩
 any_goals
  refine uw 1 ?_
  have C:=jh (text:=(⟨#[41]⟩)) (show(6:Int)≠-1 by decide) q
  rw[←Q] at C
  rw[←Q] at Z;subst Z
  refine rL 19 rfl ?_
  cases a1:((b.length:Int)==1)
  have ba:¬b.length=1:=by have d:=a1;simp at d;omega
  refine rV 4 rfl ?_
  refine bZ mixed (fun ao=>ao==7||ao==8) fun aq=> ?_
  refine bL [0,1,2,3] rfl (by kernel_rfl) id (vt 4 rfl (bJ (vs:=[(0,zI 4),(3,.slice t b.length o),(4,.agg #[zI s,zI p])]) (v:= .agg #[zI 4,.string ⟨#[]⟩,zI 0,.slice t b.length o,zI s,zI p]) rfl (fun W=>by kernel_rfl)) rfl (by kernel_rfl) id (bL [1005,1006] rfl (by kernel_rfl) id (bS (by kernel_rfl) (rD 2 rfl ?_))))
  refine cB results64 (aK rfl rfl dr) (aK rfl rfl cY) ⟨rfl,(⟨K,deep,M,af,O⟩:Rd),?_⟩
  exact⟨.mk 4 ⟨#[]⟩ 0 b s p,_,rfl,⟨C.2.1,e.2⟩,F5 x B.1 j C.1 (by have:=j.2.2.2.2;omega),(show Ex.jy _ _ (.mk _ _ _ b _ _) from⟨_,_,rfl,⟨bT,bO,by have:=j.len q.1 a.len;omega,bC⟩,c9.2 (cz bW a4)⟩)⟩
  have ba:b.length=1:=by have d:=a1;simp at d;omega
  refine rV 2 rfl ?_
  refine bZ mixed (fun ao=>ao==7||ao==8) fun aq=> ?_
  refine bL [0,1,1002,1003] rfl (by kernel_rfl) id (bS (by kernel_rfl) (rD 3 rfl ?_))
  refine cB results64 (aK rfl rfl dr) (aK rfl rfl cY) ⟨rfl,(⟨K,deep,M,af,O⟩:Rd),?_⟩
  obtain⟨b8,rfl⟩:=List.length_eq_one_iff.1 ba
  simp only[List.getElem?_cons_zero,Option.some.injEq] at az
  subst az
  exact⟨_,_,rfl,⟨C.2.1,e.2⟩,zi x B.1 j.zk C.1,(show Ex.jy _ _ (.mk E F n7 J s p:Ex) from⟨_,_,rfl,a6,c9.2 (aC bM U (ai y z))⟩)⟩
theorem vJ(A:OA)(cap:Nat)(ts:List Tk):∀k,zG A cap ts k
 |0=>fun R r a b h=>F8 R r a b (h.resolve_right (by omega))
 |k+1=>fun R r a b h=>by
  rcases h with h|h
  ·exact zJ (vJ A cap ts k) R r a b (.inr h)
  ·exact zJ (vJ A cap ts k) R r a b (.inl (by omega))
theorem F9(R:Wd)(r:Rd)(a:cE R aA ae ax)(b:dz ax r):bd 64 [rdv aA ae ax r] R (jg aA ae ax r):=
 vJ aA ae ax (ax.length -r.I+1) R r a b (.inr (by omega))
theorem tp:cr 112 true 11:=by unfold cr;kernel_rfl
theorem zK:∀(l:List Ex) (e:Ex),aO (l++ [e])=aO l+e.size
 |[],e=>by simp[aO]
 |a::l,e=>by rw[List.cons_append,aO,aO,zK l e];omega
theorem zM:aO []=0:=by simp[aO]
theorem zN(e:Ex):aO [e]=e.size:=by simp[aO]
theorem Ga(R:Wd)(r:Rd)(b:cE R aA ae ax)(bq:dz ax r):bd 31 [rdv aA ae ax r] R (vH Rl.Cs gP aA ae ax r):=by
 obtain⟨I,deep,bad,l,c⟩:=r
 try dsimp only at*
 have hlen:=b.len
 try dsimp only[rdv]
 refine b5 func31 rfl ntmps31 rfl rfl fun w G ad=> ?_
 refine sV 10 rfl ?_
 refine be (gq b (⟨I,deep,bad,l,c⟩:Rd)) eZ rfl rfl ?_
 rintro _ rfl
 try dsimp only[rdv]
 refine vp (mj (ds:=#[zI ((aZ ax I).l),zI ((aZ ax I).c)]) rfl mw rfl) rfl (vp (bJ (vs:=[(4,.agg #[zI ((aZ ax I).l),zI ((aZ ax I).c)])]) (v:= .agg #[.string ⟨#[]⟩,zS,zS,zI 0,.string ⟨#[]⟩,zI 0,zS,zI 0,zI 0,zI ((aZ ax I).l),zI ((aZ ax I).c)]) rfl (fun W=>by kernel_rfl)) rfl (rL 7 rfl ?_))
 refine be (ta b (⟨I,deep,bad,l,c⟩:Rd) 2 (by have:=bq.1;have:=b.len;omega)) tg rfl rfl ?_
 rintro _ bx
 obtain⟨⟨⟨I1,b8,M,cS,c1⟩,am⟩,bj⟩:∃X,X=k4 ax (⟨I,deep,bad,l,c⟩:Rd) 2:=⟨_,rfl⟩
 have q:=tc (show(2:Int)≠-1 by decide) bq
 rw[←bj] at q
 rw[←bj] at bx;subst bx
 dsimp only at q
 have dI:I≤I1:=by have a:=Mv.le q.1;dsimp only at a;omega
 have cl:bad=true→M=true:=fun a=>(Mv.bad q.1) a
 try dsimp only[rdv]
 refine rL 17 rfl ?_
 refine gN 31 6 ?_
 refine lK (ι:=Wd×Rd×List Ex×LV×OA×Nat) [2,3,4,5] 3 rfl (fun(s,n,m,L,x,t)=>(⟨[],[(112,[.string am,.slice x m.length t,zS,zI 0,.string ⟨#[]⟩,zI 0,zS,zI 0,zI 0,zI ((aZ ax I).l),zI ((aZ ax I).c)]),(98,[.slice aA ax.length ae,zI n.I,zI n.deep,.bool n.bad,zI n.l,zI n.c])],[⟨.slice x m.length t,m.length,L,31,6⟩]⟩,s,Sub R s∧dz ax n∧(I1≤n.I∧m.length+bn n.bad.not≤n.I+1∧(M=true→n.bad=true)∧(n.bad=false→aO m+4*I1≤4*n.I))∧aL Ex.Cs s m L∧Src s 6 x m.length L∧m.length≤t∧t≤9223372036854775807∧(x=none→t=0),2*(ax.length -n.I)+(if n.bad then 0 else 1))) (R,⟨I1,b8,M,cS,c1⟩,[],[],none,0) rfl rfl [1] rfl ?_ ?_
 try dsimp only
 exact⟨sR,q.2,⟨Nat.le_refl _,by have:=gX (!M);simp only[List.length_nil];omega,fun h=>h,fun _=>by simp[aO]⟩,aL.nil,⟨rfl,.inl rfl⟩,Nat.le_refl _,by decide,fun _=>rfl⟩
 rintro⟨s,⟨e,g,a6,i,f⟩,m,L,x,t⟩ ⟨j,p,d,S,aP,aD,aB,ay⟩
 have dQ:I≤e:=by have a:=d.1;dsimp only at a;omega
 have Q:bad=true→a6=true:=fun a=>d.2.2.1 (cl a)
 show V _ _ _ ⟨_,_,_⟩ s
 refine rV 7 rfl ?_
 cases bm:(a6)
 subst bm
 try dsimp only[rdv]
 refine rL 1 rfl (dJ rfl rfl rfl ?_)
 refine be (hH (bF b j) (⟨e,g,false,i,f⟩:Rd) 6 (⟨#[124]⟩)) hG rfl rfl ?_
 rintro _ rfl
 try dsimp only[rdv]
 refine rL 3 rfl ?_
 cases cu:(gB ax (⟨e,g,false,i,f⟩:Rd) 6 (⟨#[124]⟩))
 refine rL 1 rfl (dJ rfl rfl rfl ?_)
 refine be (hH (bF b j) (⟨e,g,false,i,f⟩:Rd) 6 (⟨#[61]⟩)) hG rfl rfl ?_
 rintro _ rfl
 try dsimp only[rdv]
 refine rL 4 rfl ?_
 cases dH:(gB ax (⟨e,g,false,i,f⟩:Rd) 6 (⟨#[61]⟩))
 refine rV 7 rfl ?_
 refine cN (F9 _ (⟨e,g,false,i,f⟩:Rd) (bF b j) p) vI rfl rfl ?_
 rintro _ dv bw ⟨⟨aY,cf,N,cY,b2⟩,⟨ah,al,ak,an,aj,O⟩,_,rfl,bt,K,aS,ba,rfl,bp,T⟩
 replace T:=c9.1 T
 have dP:I≤aY:=by have a:=(en.prog K).1;dsimp only at a;omega
 have dG:bad=true→N=true:=fun a=>((fun o=>(K.2.1 o).1)) (Q a)
 try dsimp only[rdv]
 refine rL 19 rfl ?_
 refine et cZ rfl ?_
 intro dF dw Y cy
 try dsimp only[rdv]
 refine gO ?_
 refine gW (news:=[zI ah,.string al,zI ak,.slice aS an.length ba,zI aj,zI O]) n8 rfl rfl (cd rfl cy) (fun h=>by cases h) (fun u hu=>bM.one (de bp (aC bM T Y)) u hu) (by have a:=d.2.1;have:=p.1;dsimp only at*;omega) rfl rfl ?_
 intro bU b7 bV aN ch ci cj ck
 try dsimp only[rdv]
 refine rL 4 rfl ?_
 rw[show m.length+1=(m++ [(.mk ah al ak an aj O:Ex)]).length by simp]
 have aR:=qX.1 K;dsimp only at aR d
 try dsimp only[rdv]
 refine dR (bV,⟨aY,cf,N,cY,b2⟩,m++ [(.mk ah al ak an aj O:Ex)],L++ [zI ah,.string al,zI ak,.slice aS an.length ba,zI aj,zI O],bU,b7) rfl rfl [1] rfl ?_ ?_
 refine⟨j.trans (ai (ai bw Y) aN),bt,⟨by dsimp only;omega,?_,fun aw=>(K.2.1 (d.2.2.1 aw)).1,fun o=>by have aw:=(K.2.2.1 o);have cg:=d.2.2.2 rfl;rw[zK];dsimp only at aw cg⊢;omega⟩,c6 (bg bM (ai (ai bw Y) aN) S) (c4 (de bp (aC bM T (ai Y aN)))),(by simpa using ck),by simpa using ch,ci,cj⟩
 replace d:=d.2.1;dsimp only;rw[List.length_append,List.length_singleton]
 try dsimp only[rdv]
 cases N<;>simp[bn] at aR d⊢<;>omega
 dsimp only
 have:=bt.1;dsimp only at this
 try dsimp only[rdv]
 cases N<;>simp[bn] at aR⊢<;>omega
 refine rV 10 rfl ?_
 refine be (hH (bF b j) (⟨e,g,false,i,f⟩:Rd) 6 (⟨#[124]⟩)) hG rfl rfl ?_
 rintro _ rfl
 try dsimp only[rdv]
 refine rL 2 rfl ?_
 cases bo:(gB ax (⟨e,g,false,i,f⟩:Rd) 6 (⟨#[124]⟩))
 refine ww 2 ?_
 rotate_left
 refine ww 1 ?_
 rotate_left
 have E:=jW (by decide) cu;dsimp only at E
 try dsimp only[rdv]
 refine rL 16 rfl ?_
 refine be (hH (bF b j) (⟨e,g,false,i,f⟩:Rd) 6 (⟨#[124]⟩)) hG rfl rfl ?_
 rintro _ rfl
 try dsimp only[rdv]
 refine rL 2 rfl ?_
 cases bo:(gB ax (⟨e,g,false,i,f⟩:Rd) 6 (⟨#[124]⟩))
 refine ww 2 ?_
 rotate_left
 refine ww 1 ?_
 rotate_left
 subst bm
 try dsimp only[rdv]
 refine rL 21 rfl ?_
 refine be (hH (bF b j) (⟨e,g,true,i,f⟩:Rd) 6 (⟨#[124]⟩)) hG rfl rfl ?_
 rintro _ rfl
 try dsimp only[rdv]
 refine rL 2 rfl ?_
 cases cv:(gB ax (⟨e,g,true,i,f⟩:Rd) 6 (⟨#[124]⟩))
 refine rV 6 rfl ?_
 refine be (iq (bF b j) (⟨e,g,true,i,f⟩:Rd) 6 (⟨#[61]⟩) (by have:=p.1;have:=b.len;omega)) ir rfl rfl ?_
 rintro _ aQ
 obtain⟨⟨ao,bf,ar,bE,a7⟩,az⟩:∃X,X=gU ax (⟨e,g,true,i,f⟩:Rd) 6 (⟨#[61]⟩):=⟨_,rfl⟩
 refine ww 3 ?_
 rotate_left
 have E:=jW (by decide) cv;dsimp only at E
 try dsimp only[rdv]
 refine rV 5 rfl (vp (bA rfl rfl (by omega)) rfl (rL 7 rfl ?_))
 refine cN (pq _ (⟨e+1,g,true,i,f⟩:Rd) (bF b j) (show dz ax ⟨e+1,g,true,i,f⟩ from⟨by dsimp only;omega,p.2⟩)) jB rfl rfl ?_
 rintro _ du aM ⟨⟨I4,bi,av,bH,a9⟩,⟨bD,bQ,bO,bT,bK,bc⟩,_,rfl,bs,ag,dl,dD,rfl,cG,aI⟩
 replace aI:=c9.1 aI
 have dO:I≤I4:=by have a:=(en.prog ag).1;dsimp only at a;omega
 have ct:bad=true→av=true:=fun a=>((fun o=>(ag.2.1 o).1)) (Q a)
 try dsimp only[rdv]
 refine rL 17 rfl ?_
 refine et cZ rfl ?_
 intro P dx Z cw
 try dsimp only[rdv]
 refine rL 7 rfl ?_
 refine be (iq (bF (bF (bF b j) aM) Z) (⟨I4,bi,av,bH,a9⟩:Rd) 6 (⟨#[61]⟩) (by have:=bs.1;have:=b.len;omega)) ir rfl rfl ?_
 rintro _ bz
 obtain⟨⟨aT,b9,a0,cT,bW⟩,bk⟩:∃X,X=gU ax (⟨I4,bi,av,bH,a9⟩:Rd) 6 (⟨#[61]⟩):=⟨_,rfl⟩
 have F:=jh (text:=(⟨#[61]⟩)) (show(6:Int)≠-1 by decide) bs
 rw[←bk] at F
 rw[←bk] at bz;subst bz
 have dK:I≤aT:=by have a:=Mv.le F.1;dsimp only at a;omega
 have cm:bad=true→a0=true:=fun a=>(Mv.bad F.1) (ct a)
 try dsimp only[rdv]
 refine cN (pq _ (⟨aT,b9,a0,cT,bW⟩:Rd) (bF (bF (bF b j) aM) Z) F.2) jB rfl rfl ?_
 rintro _ dm bu ⟨⟨aU,ca,a1,cU,bX⟩,⟨cP,da,c5,dd,c0,b3⟩,_,rfl,cK,aa,dh,dy,rfl,cA,aE⟩
 replace aE:=c9.1 aE
 have cH:I≤aU:=by have a:=(en.prog aa).1;dsimp only at a;omega
 have cn:bad=true→a1=true:=fun a=>((fun o=>(aa.2.1 o).1)) (cm a)
 try dsimp only[rdv]
 refine rL 17 rfl ?_
 refine bZ mixed (fun k=>k==3||k==7) fun aq=> ?_
 refine bL [0,1,1002,1003] rfl (by kernel_rfl) id (bS (by kernel_rfl) (rD 2 rfl ?_))
 refine cB results31 (aK rfl rfl dr) (aK rfl rfl tp) ⟨rfl,(⟨aU,ca,a1,cU,bX⟩:Rd),?_⟩
 try dsimp only
 exact⟨⟨am,m,[(.mk bD bQ bO bT bK bc:Ex)],(.mk cP da c5 dd c0 b3:Ex),(aZ ax I).l,(aZ ax I).c⟩,_,rfl,cK,⟨cH,cn⟩,fun h=>by have y:=(aa.2.2.1 h);have g1:=F.1.g8 (oa aa.2.1 h);have P:=(ag.2.2.1 g1.1);have D:=oa ag.2.1 g1.1;have g2:=d.2.2.2 D;have z:=q.1.g8 (mz d.2.2.1 D);have A:=d.1;have B:=g1.2;have C:=z.2;dsimp only[gP] at y g2 A B C P⊢;rw[zN];omega,pr ⟨aD,aB,by have a:=d.2.1;have:=p.1;dsimp only at*;omega,ay⟩ (a5.sub bM (cz aP S) (ai (ai aM Z) bu)) (pt (by simp)) (a5.sub bM (a5.new (l:=[(.mk bD bQ bO bT bK bc:Ex)]) bM (aL.single (de cG (a5.sub bM aI Z))) cw) bu) (de cA aE)⟩
 any_goals
  refine uw 1 ?_
  have E:=jW (by decide) bo;dsimp only at E
  try dsimp only[rdv]
  refine rV 5 rfl (vp (bA rfl rfl (by omega)) rfl (rL 7 rfl ?_))
  refine cN (pq _ (⟨e+1,g,false,i,f⟩:Rd) (bF b j) (show dz ax ⟨e+1,g,false,i,f⟩ from⟨by dsimp only;omega,p.2⟩)) jB rfl rfl ?_
  rintro _ dp aJ ⟨⟨ap,bh,au,bG,a8⟩,⟨bC,bP,bN,bR,bI,bb⟩,_,rfl,br,ac,dj,dB,rfl,cD,aG⟩
  replace aG:=c9.1 aG
  have dM:I≤ap:=by have a:=(en.prog ac).1;dsimp only at a;omega
  have cq:bad=true→au=true:=fun a=>((fun o=>(ac.2.1 o).1)) (Q a)
  try dsimp only[rdv]
  refine rL 17 rfl ?_
  refine et cZ rfl ?_
  intro dE dq U cx
  try dsimp only[rdv]
  refine rL 7 rfl ?_
  refine be (iq (bF (bF (bF b j) aJ) U) (⟨ap,bh,au,bG,a8⟩:Rd) 6 (⟨#[61]⟩) (by have:=br.1;have:=b.len;omega)) ir rfl rfl ?_
  rintro _ bB
  obtain⟨⟨aW,cc,a3,cW,b0⟩,bl⟩:∃X,X=gU ax (⟨ap,bh,au,bG,a8⟩:Rd) 6 (⟨#[61]⟩):=⟨_,rfl⟩
  have J:=jh (text:=(⟨#[61]⟩)) (show(6:Int)≠-1 by decide) br
  rw[←bl] at J
  rw[←bl] at bB;subst bB
  have dN:I≤aW:=by have a:=Mv.le J.1;dsimp only at a;omega
  have cr:bad=true→a3=true:=fun a=>(Mv.bad J.1) (cq a)
  try dsimp only[rdv]
  refine cN (pq _ (⟨aW,cc,a3,cW,b0⟩:Rd) (bF (bF (bF b j) aJ) U) J.2) jB rfl rfl ?_
  rintro _ dt bv ⟨⟨aX,ce,a4,cX,b1⟩,⟨cR,dc,c8,dg,c3,b6⟩,_,rfl,cM,af,dk,dC,rfl,cF,aH⟩
  replace aH:=c9.1 aH
  have cJ:I≤aX:=by have a:=(en.prog af).1;dsimp only at a;omega
  have cs:bad=true→a4=true:=fun a=>((fun o=>(af.2.1 o).1)) (cr a)
  try dsimp only[rdv]
  refine rL 17 rfl ?_
  refine bZ mixed (fun k=>k==3||k==7) fun aq=> ?_
  refine bL [0,1,1002,1003] rfl (by kernel_rfl) id (bS (by kernel_rfl) (rD 2 rfl ?_))
  refine cB results31 (aK rfl rfl dr) (aK rfl rfl tp) ⟨rfl,(⟨aX,ce,a4,cX,b1⟩:Rd),?_⟩
  try dsimp only
  exact⟨⟨am,m,[(.mk bC bP bN bR bI bb:Ex)],(.mk cR dc c8 dg c3 b6:Ex),(aZ ax I).l,(aZ ax I).c⟩,_,rfl,cM,⟨cJ,cs⟩,fun h=>by have y:=(af.2.2.1 h);have g1:=J.1.g8 (oa af.2.1 h);have P:=(ac.2.2.1 g1.1);have D:=oa ac.2.1 g1.1;have g2:=d.2.2.2 D;have z:=q.1.g8 (mz d.2.2.1 D);have A:=d.1;have B:=g1.2;have C:=z.2;dsimp only[gP] at y g2 A B C P⊢;rw[zN];omega,pr ⟨aD,aB,by have a:=d.2.1;have:=p.1;dsimp only at*;omega,ay⟩ (a5.sub bM (cz aP S) (ai (ai aJ U) bv)) (pt (by simp)) (a5.sub bM (a5.new (l:=[(.mk bC bP bN bR bI bb:Ex)]) bM (aL.single (de cD (a5.sub bM aG U))) cx) bv) (de cF aH)⟩
 any_goals
  refine uw 2 ?_
  refine rV 6 rfl ?_
  refine be (iq (bF b j) (⟨e,g,false,i,f⟩:Rd) 6 (⟨#[61]⟩) (by have:=p.1;have:=b.len;omega)) ir rfl rfl ?_
  rintro _ aQ
  obtain⟨⟨ao,bf,ar,bE,a7⟩,az⟩:∃X,X=gU ax (⟨e,g,false,i,f⟩:Rd) 6 (⟨#[61]⟩):=⟨_,rfl⟩
  refine ww 3 ?_
  rotate_left
 any_goals
  refine uw 3 ?_
  have H:=jh (text:=(⟨#[61]⟩)) (show(6:Int)≠-1 by decide) p
  rw[←az] at H
  rw[←az] at aQ;subst aQ
  have dL:I≤ao:=by have a:=Mv.le H.1;dsimp only at a;omega
  have co:bad=true→ar=true:=fun a=>(Mv.bad H.1) (Q a)
  try dsimp only[rdv]
  refine cN (pq _ (⟨ao,bf,ar,bE,a7⟩:Rd) (bF b j) H.2) jB rfl rfl ?_
  rintro _ dn cO ⟨⟨aV,cb,a2,cV,bY⟩,⟨cQ,db,c7,df,c2,b4⟩,_,rfl,cL,ab,di,dA,rfl,cC,aF⟩
  replace aF:=c9.1 aF
  have cI:I≤aV:=by have a:=(en.prog ab).1;dsimp only at a;omega
  have cp:bad=true→a2=true:=fun a=>((fun o=>(ab.2.1 o).1)) (co a)
  try dsimp only[rdv]
  refine rL 17 rfl ?_
  refine bZ mixed (fun k=>k==3||k==5) fun aq=> ?_
  refine bL [0,1,1002,1003] rfl (by kernel_rfl) id (bS (by kernel_rfl) (rD 2 rfl ?_))
  refine cB results31 (aK rfl rfl dr) (aK rfl rfl tp) ⟨rfl,(⟨aV,cb,a2,cV,bY⟩:Rd),?_⟩
  try dsimp only
  exact⟨⟨am,m,[],(.mk cQ db c7 df c2 b4:Ex),(aZ ax I).l,(aZ ax I).c⟩,_,rfl,cL,⟨cI,cp⟩,fun h=>by have y:=(ab.2.2.1 h);have g1:=H.1.g8 (oa ab.2.1 h);have g2:=d.2.2.2 g1.1;have z:=q.1.g8 (mz d.2.2.1 g1.1);have A:=d.1;have B:=g1.2;have C:=z.2;dsimp only[gP] at y g2 A B C⊢;rw[zM];omega,pr ⟨aD,aB,by have a:=d.2.1;have:=p.1;dsimp only at*;omega,ay⟩ (aC bM (cz aP S) cO) eg (ew _) (de cC aF)⟩
theorem tq:cr 26 true 2:=by unfold cr;kernel_rfl
theorem pz:c7 23 108 5:=by unfold c7;kernel_rfl
theorem hk:c7 24 112 11:=by unfold c7;kernel_rfl
theorem zO:dO 23 108 5 80:=by unfold dO;kernel_rfl
theorem q1:dO 24 112 11 152:=by unfold dO;kernel_rfl
theorem vK:aF 24:=by unfold aF;kernel_rfl
theorem Gb:aF 30:=by unfold aF;kernel_rfl
theorem Gc:aF 31:=by unfold aF;kernel_rfl
theorem Gd{B base:Nat}(h:k3 bR (.slice aA ax.length ae) ax)(c:bR.ownsRow base 96 5 (.slice aA ax.length ae) ax.length (gT ax))(d:Sub (Data.part bR (cg base none)) ah):cE ah aA ae ax:=by
 obtain⟨l,m,a,e,f,g,i,n,j⟩:=h
 cases a
 refine⟨aA,ae,rfl,e,f,g,i,?_,j⟩
 exact eL (yH (S:=cg base none) c (fun k b=>sz.2 ⟨b,by simp⟩)) d
theorem zP(s:BA)(h:s.size≤1048576):bd 24 [.string s] ah fun v R'=>∃(A:OA) (cap:Nat) (ts:List Tk) (e l c:Int),v= .tuple #[.slice A ts.length cap,zI e,.agg #[zI l,zI c]]∧cE R' A cap ts∧ts.length≤2*s.size+2:=
 bd.Fu fun w=>(Ep w s h).mono fun E i ⟨⟨v,ts,e,l,c,b,a,h3,d⟩,g⟩=>by
   refine⟨g,_,b,fun R' f=> ?_⟩
   obtain⟨A,cap,rfl,_⟩:=id a
   exact⟨A,cap,ts,e,l,c,rfl,Gd (B:=0) a h3 f,d⟩
structure Md where
 ds:List Dt
 rs:List Rl
def Md.Cs (R:World) (x:Md) (c:List Value):Prop:=∃A cap B a,c=[.slice A x.ds.length cap,.slice B x.rs.length a]∧cF A x.ds.length cap∧a5 Dt.Cs 5 R A x.ds∧cF B x.rs.length a∧a5 Rl.Cs 11 R B x.rs
variable{oc:List Dt}{dY:List Rl}
theorem ez(hh:cF aA oc.length ae)(b:a5 Dt.Cs 5 ah aA oc)(a:cF h5 dY.length ao)(c:a5 Rl.Cs 11 ah h5 dY):Md.Cs ah ⟨oc,dY⟩ [.slice aA oc.length ae,.slice h5 dY.length ao]:=⟨aA,ae,h5,ao,rfl,hh,b,a,c⟩
def zQ {α:Type} (P:World→α→List Value→Prop) (v:Value) (R':World):Prop:=
 ∃(x:α) (c:List Value) (e l k:Int),v= .tuple #[.agg c.toArray,.int .i64 e,.agg #[.int .i64 l,.int .i64 k]]∧P R' x c
def j3 (l:List Dt):Nat:=(l.map py).sum
def jD (l:List Rl):Nat:=(l.map gP).sum
theorem Ge(l:List Dt)(x:Dt):j3 (l++ [x])=j3 l+py x:=by simp[j3]
theorem Gf(l:List Rl)(x:Rl):jD (l++ [x])=jD l+gP x:=by simp[jD]
def Gg (s:ByteArray) (R:World) (x:Md) (c:List Value):Prop:=Md.Cs R x c∧j3 x.ds+jD x.rs≤40000∧j3 x.ds+jD x.rs≤8*s.size+8
theorem Gi(R:Wd)(s:BA)(bW:s.size≤1048576):bd 12 [.string s] R (zQ (Gg s)):=by
 refine b5 func12 rfl ntmps12 rfl rfl fun w G ad=> ?_
 refine sV 10 rfl ?_
 refine cN (zP _ bW) vK rfl rfl ?_
 rintro _ aQ _ ⟨A,cap,ts,es,ls,cs,rfl,j,cc⟩
 have hlen:=j.len
 refine rL 17 rfl ?_
 cases b9:(es !=0)
 refine rV 6 rfl (vp (bJ (vs:=[(0,.slice A ts.length cap)]) (v:= .agg #[.slice A ts.length cap,zI 0,zI 0,.bool false,zI 0,zI 0]) rfl (fun W=>by kernel_rfl)) rfl (rL 11 rfl ?_))
 refine gN 112 11 ?_
 refine gN 108 5 ?_
 refine lK (ι:=Wd×Rd×List Dt×LV×OA×Nat×List Rl×LV×OA×Nat) [2,3,4,8,9] 3 rfl (fun(f,d,a,J,D,m,b,K,E,n)=>(⟨[],[(98,[.slice A ts.length cap,zI d.I,zI d.deep,.bool d.bad,zI d.l,zI d.c]),(26,[.slice D a.length m,.slice E b.length n])],[⟨.slice D a.length m,a.length,J,108,5⟩,⟨.slice E b.length n,b.length,K,112,11⟩]⟩,f,Sub aQ f∧dz ts d∧(a.length≤d.I+bn d.bad∧b.length≤d.I+bn d.bad)∧(d.bad=false→j3 a+jD b≤4*d.I)∧(aL Dt.Cs f a J∧Src f 5 D a.length J∧a.length≤m∧m≤9223372036854775807∧(D=none→m=0))∧aL Rl.Cs f b K∧Src f 11 E b.length K∧b.length≤n∧n≤9223372036854775807∧(E=none→n=0),2*(ts.length -d.I)+(1 -bn d.bad))) (aQ,⟨0,0,false,0,0⟩,[],[],none,0,[],[],none,0) rfl rfl [1,1] rfl ?_ ?_
 exact⟨sR,(show dz ts ⟨0,0,false,0,0⟩ from⟨Nat.zero_le _,by decide,by decide⟩),⟨Nat.zero_le _,Nat.zero_le _⟩,fun _=>by simp[j3,jD],⟨aL.nil,⟨rfl,.inl rfl⟩,Nat.le_refl _,by decide,fun _=>rfl⟩,aL.nil,⟨rfl,.inl rfl⟩,Nat.le_refl _,by decide,fun _=>rfl⟩
 rintro⟨f,⟨ab,ap,bs,aG,ao⟩,a,J,D,m,b,K,E,n⟩ ⟨x,r,F,aE,⟨ay,bk,a9,a2,aX⟩,az,bl,ba,a3,aY⟩
 show V _ _ _ ⟨_,_,_⟩ f
 refine rV 7 rfl ?_
 cases a1:(bs)
 subst a1
 refine rL 1 rfl (dJ rfl rfl rfl ?_)
 refine be (gq (bF j x) (⟨ab,ap,false,aG,ao⟩:Rd)) eZ rfl rfl ?_
 rintro _ rfl
 refine dJ rfl rfl rfl (vp (k6 rfl m3 rfl) rfl (rL 4 rfl ?_))
 cases ca:(((aZ ts ab).k) !=0)
 refine rV 19 rfl (vp (bJ (vs:=[]) (v:= .agg #[zI 0,zI 0]) rfl (fun W=>by kernel_rfl)) rfl (rL 6 rfl ?_))
 refine s9 results12 (aK rfl rfl tq) (aT rfl) (aK rfl rfl gp) ⟨rfl,?_⟩
 have bB:=aE rfl;have bA:=r.1;dsimp only at bB bA
 exact⟨⟨a,b⟩,_,_,_,_,rfl,ez ⟨a9,a2,by have ax:=F.1;have:=r.1;have:=gX (false);dsimp only at*;omega,aX⟩ (cz bk ay) ⟨ba,a3,by have ax:=F.2;have:=r.1;have:=gX (false);dsimp only at*;omega,aY⟩ (cz bl az),by dsimp only;omega,by dsimp only;omega⟩
 refine rV 7 rfl ?_
 refine be (iq (bF j x) (⟨ab,ap,false,aG,ao⟩:Rd) 1 (⟨#[]⟩) (by have:=r.1;have:=j.len;omega)) ir rfl rfl ?_
 rintro _ bm
 obtain⟨⟨aa,ag,g,an,af⟩,a0⟩:∃X,X=gU ts (⟨ab,ap,false,aG,ao⟩:Rd) 1 (⟨#[]⟩):=⟨_,rfl⟩
 have q:=jh (text:=(⟨#[]⟩)) (show(1:Int)≠-1 by decide) r
 rw[←a0] at q
 rw[←a0] at bm;subst bm
 refine rL 6 rfl ?_
 refine be (hH (bF j x) (⟨aa,ag,g,an,af⟩:Rd) 5 (⟨#[100,97,116,97]⟩)) hG rfl rfl ?_
 rintro _ rfl
 refine rL 2 rfl ?_
 cases cb:(gB ts (⟨aa,ag,g,an,af⟩:Rd) 5 (⟨#[100,97,116,97]⟩))
 refine rV 4 rfl ?_
 refine cN (Ga _ (⟨aa,ag,g,an,af⟩:Rd) (bF j x) q.2) Gc rfl rfl ?_
 rintro _ b3 ak ⟨⟨aO,bx,ac,b0,bt⟩,⟨B,T,N,⟨P,U,S,Z,Q,L⟩,y,o⟩,_,rfl,bb,al,bX,⟨aJ,aU,aI,aS,_,rfl,a6,bi,a5,bh,⟨aN,aW,rfl,a8,ah⟩⟩⟩
 replace ah:=c9.1 ah
 refine rL 19 rfl ?_
 refine et hk rfl ?_
 intro b8 b4 e bV
 refine o8 _ ((List.Perm.swap _ _ _).trans (List.Perm.cons _ (List.Perm.swap _ _ _))) ?_
 refine gW (news:=[.string B,.slice aJ T.length aU,.slice aI N.length aS,zI P,.string U,zI S,.slice aN Z.length aW,zI Q,zI L,zI y,zI o]) q1 rfl rfl (cd rfl bV) (fun h=>by cases h) (fun u hu=>dt.one (pr (s:=B) (l:=y) (c:=o) a6 (aC bM bi e) a5 (aC bM bh e) (de a8 (aC bM ah e))) u hu) (by have ax:=F;have:=r.1;have:bn false=0:=rfl;dsimp only at*;omega) rfl rfl ?_
 intro bp bw br t bH bI bK bN
 refine rL 4 rfl ?_
 rw[show b.length+1=(b++ [(⟨B,T,N,((.mk P U S Z Q L:Ex)),y,o⟩:Rl)]).length by simp]
 have aB:=Mv.nat q.1;have aD:=al.1;have aA:=bb.1;dsimp only at aB aD F aA;have bQ:=gX ac;have bP:bn false=0:=rfl;have bO:=gX g
 have bR:bn g=1→bn ac=1:=fun h=>lO.2 (al.2 (lO.1 h))
 have aF:ac=false→j3 a+jD (b++ [(⟨B,T,N,((.mk P U S Z Q L:Ex)),y,o⟩:Rl)])≤4*aO:=fun O=>by have aw:=bX O;have av:=q.1.g8 (mz al.2 O);have au:=aE rfl;have h3:=av.2;have ar:=al.1;rw[Gf];dsimp only at aw au h3 ar⊢;omega
 refine u9 _ ((List.Perm.swap _ _ _).trans (List.Perm.cons _ (List.Perm.swap _ _ _))) ?_
 refine dR (br,⟨aO,bx,ac,b0,bt⟩,a,J,D,m,b++ [(⟨B,T,N,((.mk P U S Z Q L:Ex)),y,o⟩:Rl)],K++ [.string B,.slice aJ T.length aU,.slice aI N.length aS,zI P,.string U,zI S,.slice aN Z.length aW,zI Q,zI L,zI y,zI o],bp,bw) rfl rfl [1,1] rfl ?_ ?_
 refine⟨x.trans (ai (ai ak e) t),bb,⟨?_,?_⟩,aF,⟨bg eI (ai (ai ak e) t) ay,eL bk (ai (ai ak e) t),a9,a2,aX⟩,c6 (bg dt (ai (ai ak e) t) az) (c4 (pr (s:=B) (l:=y) (c:=o) a6 (aC bM bi (ai e t)) a5 (aC bM bh (ai e t)) (de a8 (aC bM ah (ai e t))))),(by simpa using bN),by simpa using bH,bI,bK⟩<;>dsimp only<;>(try simp only[List.length_append,List.length_singleton])<;>omega
 dsimp only
 omega
 refine rV 4 rfl ?_
 refine cN (F6 _ (⟨aa,ag,g,an,af⟩:Rd) (bF j x) q.2) Gb rfl rfl ?_
 rintro _ b6 aj ⟨⟨aP,bz,ae,b1,bu⟩,⟨C,Y,M,z,p⟩,_,rfl,bc,am,bY,⟨aM,aV,aH,aR,rfl,a7,bj,a4,bf⟩⟩
 refine rL 19 rfl ?_
 refine et pz rfl ?_
 intro b7 b2 i bU
 refine gO ?_
 refine gW (news:=[.string C,.slice aM Y.length aV,.slice aH M.length aR,zI z,zI p]) zO rfl rfl (cd rfl bU) (fun h=>by cases h) (fun u hu=>eI.one (q0 (s:=C) (l:=z) (c:=p) a7 (aC bT bj i) a4 (aC j2 bf i)) u hu) (by have ax:=F;have:=r.1;have:bn false=0:=rfl;dsimp only at*;omega) rfl rfl ?_
 intro bo bv bq H bC bD bE bG
 refine rL 4 rfl ?_
 rw[show a.length+1=(a++ [(⟨C,Y,M,z,p⟩:Dt)]).length by simp]
 have aB:=Mv.nat q.1;have aD:=am.1;have aA:=bc.1;dsimp only at aB aD F aA;have bQ:=gX ae;have bP:bn false=0:=rfl;have bO:=gX g
 have bR:bn g=1→bn ae=1:=fun h=>lO.2 (am.2 (lO.1 h))
 have aF:ae=false→j3 (a++ [(⟨C,Y,M,z,p⟩:Dt)])+jD b≤4*aP:=fun O=>by have aw:=bY O;have av:=q.1.g8 (mz am.2 O);have au:=aE rfl;have h3:=av.2;have ar:=am.1;rw[Ge];dsimp only at aw au h3 ar⊢;omega
 refine dR (bq,⟨aP,bz,ae,b1,bu⟩,a++ [(⟨C,Y,M,z,p⟩:Dt)],J++ [.string C,.slice aM Y.length aV,.slice aH M.length aR,zI z,zI p],bo,bv,b,K,E,n) rfl rfl [1,0,1] rfl ?_ ?_
 refine⟨x.trans (Sub.trans (Sub.trans aj i) H),bc,⟨?_,?_⟩,aF,⟨c6 (aL.sub eI (Sub.trans (Sub.trans aj i) H) ay) (c4 (q0 (s:=C) (l:=z) (c:=p) a7 (aC bT bj (Sub.trans i H)) a4 (aC j2 bf (Sub.trans i H)))),(by simpa using bG),by simpa using bC,bD,bE⟩,aL.sub dt (Sub.trans (Sub.trans aj i) H) az,Src.sub bl (Sub.trans (Sub.trans aj i) H),ba,a3,aY⟩<;>dsimp only<;>(try simp only[List.length_append,List.length_singleton])<;>omega
 dsimp only
 omega
 subst a1
 refine rL 22 rfl ?_
 refine bZ mixed (fun k=>k==3) fun aq=> ?_
 refine ww 1 ?_
 rotate_left
 refine rV 2 rfl ?_
 refine bZ mixed (fun k=>k==2) fun aq=> ?_
 refine ww 1 ?_
 rotate_left
 any_goals
  refine uw 1 ?_
  refine vt 0 rfl (bJ (vs:=[]) (v:= .agg #[zS,zS]) rfl (fun W=>by kernel_rfl)) rfl (by kernel_rfl) id (bL [1,2,1003,4,1005] rfl (by kernel_rfl) id (bS (by kernel_rfl) (rD 3 rfl ?_)))
  refine s9 results12 (aK rfl rfl tq) (aT rfl) (aK rfl rfl gp) ⟨rfl,?_⟩
  exact⟨⟨[],[]⟩,_,_,_,_,rfl,ez eg (ew _) eg (ew _),by simp[j3,jD],by simp[j3,jD]⟩
theorem lQ:dO 92 96 5 48:=by unfold dO;kernel_rfl
def q2 (R:World) (t:Tk) (c:List Value):Prop:=c=t.cs
theorem kB:eR q2 5:=⟨fun h _=>h,fun h=>by rw[h];rfl,fun h u hu=>by rw[h] at hu;simp[Tk.cs] at hu;rcases hu with rfl|rfl|rfl|rfl|rfl<;>rfl⟩
def Gj (R:World) (x:Ex) (c:List Value):Prop:=Ex.Cs R x c∧x.size≤40010
theorem zR{R:Wd}:∀{l:List Tk} {xs:LV},aL q2 R l xs→xs=gT l
 |[],xs,h=>h
 |t::r,xs,⟨c,rest,b,a,d⟩=>by
  have a:c=t.cs:=a
  rw[b,a,zR d]
  rfl
theorem Gk(a:aL q2 ah ax aj)(b:Src ah 5 aA ax.length aj)(h3:ax.length≤ae)(c:ae≤9223372036854775807)(d:aA=none→ae=0)(e:ax.length≤10000)(f:∀t∈ax,t.t.size≤4096):cE ah aA ae ax:=by
 refine⟨aA,ae,rfl,h3,c,e,d,?_,f⟩
 rw[←zR a]
 exact b
theorem cE.size{R:Wd}{A:OA}{cap:Nat}{ts:List Tk}(h:cE R A cap ts):∀t∈ts,t.t.size≤4096:=by
 obtain⟨b,c,_,_,_,_,_,_,a⟩:=h
 exact a
def na (ts:List Tk):List Tk:=ts.filter fun t=>t.k !=1
theorem Gm{i:Nat}(h:i<ax.length)(a:(ax[i]).k≠1):na (ax.take (i+1))=na (ax.take i)++ [ax[i]]:=by
 unfold na
 rw[List.take_succ_eq_append_getElem h,List.filter_append]
 congr 1
 simp[a]
theorem Gn{i:Nat}(h:i<ax.length)(a:(ax[i]).k=1):na (ax.take (i+1))=na (ax.take i):=by
 unfold na
 rw[List.take_succ_eq_append_getElem h,List.filter_append]
 simp[a]
theorem Gp(R:Wd)(s:BA)(aR:s.size≤1048576):bd 9 [.string s] R (zQ Gj):=by
 refine b5 func9 rfl ntmps9 rfl rfl fun w G ad=> ?_
 refine fj (gD (am N0 rfl (P1 rfl (am N1 rfl (gm (fk (fj (gD (P1 rfl ?_)))))))))
 refine cN (zP _ aR) vK rfl rfl ?_
 rintro _ af _ ⟨A,cap,ts,es,ls,cs,rfl,U,_⟩
 have hlen:=U.len
 refine P4 rfl (am N2 rfl (P2 rfl (j1 [(31,[zI 0,.string ⟨#[]⟩,zI 0,zS,zI 0,zI 0]),(29,[zI 0,zI 0]),(29,[zI ls,zI cs])] rfl rfl rfl gp rfl rfl rfl rfl (gm (fk (fj (fj (gD (P2 rfl (gm (fk ?_)))))))))))
 cases a5:(es !=0)
 refine mm rfl (ml (fk (fj (gD (P1 rfl (gm (fk (fj (fj (gD (P1 rfl (vp (sP rfl FN) rfl (P1 rfl (gm (fk (uZ ?_))))))))))))))))
 refine gN 96 5 ?_
 refine yU (ι:=Wd×Nat×List Tk×LV×OA×Nat) (fun(B,g,d,F,f,e)=>⟨[(2,.ptr 0 0),(3,.val (zI 0)),(4,.ptr 1 0),(8,.val (.slice f d.length e)),(24,.val (.slice A ts.length cap)),(25,.val (zI ts.length)),(26,.val (zI g))],[(31,[zI 0,.string ⟨#[]⟩,zI 0,zS,zI 0,zI 0]),(29,[zI 0,zI 0]),(29,[zI ls,zI cs])],[⟨.slice f d.length e,d.length,F,96,5⟩]⟩) (fun(B,g,d,F,f,e)=>B) (fun(B,g,d,F,f,e)=>Sub af B∧g≤ts.length∧d=na (ts.take g)∧aL q2 B d F∧Src B 5 f d.length F∧d.length≤e∧e≤9223372036854775807∧(f=none→e=0)) (fun(B,g,d,F,f,e)=>ts.length -g) (af,0,[],[],none,0) ?_ rfl ⟨rfl,rfl,rfl,rfl,rfl,rfl,rfl,trivial⟩ rfl (.cons_cons _ (eH _)) rfl (hP rfl) ?_
 exact⟨Sub.refl _,b2 _,rfl,gr,⟨rfl,.inl rfl⟩,a9 _,by decide,fun _=>rfl⟩
 rintro⟨B,g,d,F,f,e⟩ ⟨ae,a6,Q,aa,au,an,ak,ah⟩
 have a0:d.length≤g:=by rw[Q];exact Nat.le_trans (List.length_filter_le _ _) (by simp;omega)
 show V _ _ _ ⟨[(2,.ptr 0 0),(3,.val (zI 0)),(4,.ptr 1 0),(8,.val (.slice f d.length e)),(24,.val (.slice A ts.length cap)),(25,.val (zI ts.length)),(26,.val (zI g))],[(31,[zI 0,.string ⟨#[]⟩,zI 0,zS,zI 0,zI 0]),(29,[zI 0,zI 0]),(29,[zI ls,zI cs])],[⟨.slice f d.length e,d.length,F,96,5⟩]⟩ B
 refine fj (gD (P1 rfl (gm (fk (fj ?_)))))
 cases ai:(decide ((g:Int)<(ts.length:Int)))
 have aN:g=ts.length:=by have aA:=ai;simp at aA;omega
 have aF:d=na ts:=by rw[Q,aN,List.take_length]
 have Y:cE B f e d:=Gk aa au an ak ah (by omega) (by rw[aF];exact fun t aS=>U.size t ((List.mem_filter.1 aS).1))
 refine mm rfl (yP (yQ (yQ (yT (fk (fj (gD (P1 rfl (vp (bJ (vs:=[(0,.slice f d.length e)]) (v:= .agg #[.slice f d.length e,zI 0,zI 0,.bool false,zI 0,zI 0]) rfl (fun W=>by kernel_rfl)) rfl ?_)))))))))
 refine cN (pq _ ⟨0,0,false,0,0⟩ Y (show dz d ⟨0,0,false,0,0⟩ from⟨b2 _,by decide,by decide⟩)) jB rfl rfl ?_
 rintro _ aW ap ⟨⟨E,H,Z,D,C⟩,⟨m,r,q,z,p,j⟩,_,rfl,aQ,aU,x,y,rfl,aP,ac⟩
 replace ac:=c9.1 ac
 refine P3 rfl (am N3 rfl (am N4 rfl (j1 [(31,[zI 0,.string ⟨#[]⟩,zI 0,zS,zI 0,zI 0]),(29,[zI 0,zI 0]),(29,[zI ls,zI cs]),(98,[.slice f d.length e,zI E,zI H,.bool Z,zI D,zI C]),(31,[zI 0,.string ⟨#[]⟩,zI 0,zS,zI 0,zI 0])] rfl rfl rfl dr rfl rfl rfl rfl (j1 [(31,[zI 0,.string ⟨#[]⟩,zI 0,zS,zI 0,zI 0]),(29,[zI 0,zI 0]),(29,[zI ls,zI cs]),(98,[.slice f d.length e,zI E,zI H,.bool Z,zI D,zI C]),(31,[zI m,.string r,zI q,.slice x z.length y,zI p,zI j])] rfl rfl rfl cY rfl rfl rfl rfl (gm (fk (fj (fj (gD (P4 rfl ?_))))))))))
 cases a1:(Z)
 refine P1 rfl (dJ rfl rfl rfl ?_)
 refine be (gq (bF Y ap) (⟨E,H,false,D,C⟩:Rd)) eZ rfl rfl ?_
 rintro _ rfl
 refine dJ rfl rfl rfl (vp (k6 rfl m3 rfl) rfl (P2 rfl (gm (fk ?_))))
 cases a2:(((aZ d E).k) !=0)
 refine mm rfl (ml (fk (fj (fj (gD (P2 rfl (gm (fk (mm rfl (ml (fk (fj (gD (P1 rfl (vp (bJ (vs:=[]) (v:= .agg #[zI 0,zI 0]) rfl (fun W=>by kernel_rfl)) rfl (j1 [(31,[zI m,.string r,zI q,.slice x z.length y,zI p,zI j]),(29,[zI 0,zI 0]),(29,[zI ls,zI cs]),(98,[.slice f d.length e,zI E,zI H,.bool false,zI D,zI C]),(31,[zI m,.string r,zI q,.slice x z.length y,zI p,zI j])] rfl rfl rfl cY rfl rfl rfl rfl (P1 rfl (j1 [(31,[zI m,.string r,zI q,.slice x z.length y,zI p,zI j]),(29,[zI 0,zI 0]),(29,[zI ls,zI cs]),(98,[.slice f d.length e,zI E,zI H,.bool false,zI D,zI C]),(31,[zI m,.string r,zI q,.slice x z.length y,zI p,zI j])] rfl rfl rfl gp rfl rfl rfl rfl (gm (fk (o6 (ww 1 ?_))))))))))))))))))))))
 rotate_left
 refine mU rfl (gD (P1 rfl ?_))
 refine be (m5 (bF Y ap) (⟨E,H,false,D,C⟩:Rd)) m4 rfl rfl ?_
 rintro _ av
 obtain⟨⟨O,P,ag,L,J⟩,aG⟩:∃X,X=hi d (⟨E,H,false,D,C⟩:Rd):=⟨_,rfl⟩
 rw[←aG] at av;subst av
 refine j1 [(31,[zI 0,.string ⟨#[]⟩,zI 0,zS,zI 0,zI 0]),(29,[zI 0,zI 0]),(29,[zI ls,zI cs]),(98,[.slice f d.length e,zI O,zI P,.bool ag,zI L,zI J]),(31,[zI m,.string r,zI q,.slice x z.length y,zI p,zI j])] rfl rfl rfl dr rfl rfl rfl rfl (gm (fk (fj (fj (gD (P2 rfl (gm (fk ?_))))))))
 cases a4:(ag)
 refine mm rfl (ml (fk (fj (gD (P1 rfl (vp (bJ (vs:=[]) (v:= .agg #[zI 0,zI 0]) rfl (fun W=>by kernel_rfl)) rfl (j1 [(31,[zI m,.string r,zI q,.slice x z.length y,zI p,zI j]),(29,[zI 0,zI 0]),(29,[zI ls,zI cs]),(98,[.slice f d.length e,zI O,zI P,.bool false,zI L,zI J]),(31,[zI m,.string r,zI q,.slice x z.length y,zI p,zI j])] rfl rfl rfl cY rfl rfl rfl rfl (P1 rfl (j1 [(31,[zI m,.string r,zI q,.slice x z.length y,zI p,zI j]),(29,[zI 0,zI 0]),(29,[zI ls,zI cs]),(98,[.slice f d.length e,zI O,zI P,.bool false,zI L,zI J]),(31,[zI m,.string r,zI q,.slice x z.length y,zI p,zI j])] rfl rfl rfl gp rfl rfl rfl rfl (gm (fk (o6 (ww 1 ?_)))))))))))))
 rotate_left
 refine mU rfl (fj ?_)
 refine bZ mixed (fun k=>k==3) fun aq=> ?_
 refine nX 0 rfl (bJ (vs:=[]) (v:= .agg #[zI 0,.string ⟨#[]⟩,zI 0,zS,zI 0,zI 0]) rfl (fun W=>by kernel_rfl)) rfl (by kernel_rfl) (by kernel_rfl) (by kernel_rfl) (fun _ _ _ _ h=>h) (ba 1 rfl (by kernel_rfl) id (nX 2 rfl (qu (ds:=[zI L,zI J]) rfl rfl rfl gp rfl rfl) rfl (by kernel_rfl) (by kernel_rfl) (by kernel_rfl) (fun _ _ _ _ h=>h) (a7 [3] (by kernel_rfl) rfl ?_)))
 refine mX [(31,[zI 0,.string ⟨#[]⟩,zI 0,zS,zI 0,zI 0]),(29,[zI 0,zI 0]),(29,[zI ls,zI cs]),(98,[.slice f d.length e,zI O,zI P,.bool true,zI L,zI J]),(31,[zI m,.string r,zI q,.slice x z.length y,zI p,zI j])] rfl rfl rfl rfl cY rfl rfl rfl rfl rfl ?_ ?_
 refine ba 4 rfl (by kernel_rfl) id (a7 [5] (by kernel_rfl) rfl ?_)
 refine mX [(31,[zI 0,.string ⟨#[]⟩,zI 0,zS,zI 0,zI 0]),(29,[zI L,zI J]),(29,[zI ls,zI cs]),(98,[.slice f d.length e,zI O,zI P,.bool true,zI L,zI J]),(31,[zI m,.string r,zI q,.slice x z.length y,zI p,zI j])] rfl rfl rfl rfl gp rfl rfl rfl rfl rfl ?_ ?_
 refine ww 2 ?_
 rotate_left
 exact bf
 exact bf
 refine P5 rfl (gm (fk (mm rfl (ml (fk (fj (fj (gD (P2 rfl (gm (fk (mU rfl (fj ?_)))))))))))))
 refine bZ mixed (fun k=>k==3) fun aq=> ?_
 refine nX 0 rfl (bJ (vs:=[]) (v:= .agg #[zI 0,.string ⟨#[]⟩,zI 0,zS,zI 0,zI 0]) rfl (fun W=>by kernel_rfl)) rfl (by kernel_rfl) (by kernel_rfl) (by kernel_rfl) (fun _ _ _ _ h=>h) (ba 1 rfl (by kernel_rfl) id (nX 2 rfl (qu (ds:=[zI D,zI C]) rfl rfl rfl gp rfl rfl) rfl (by kernel_rfl) (by kernel_rfl) (by kernel_rfl) (fun _ _ _ _ h=>h) (a7 [3] (by kernel_rfl) rfl ?_)))
 refine mX [(31,[zI 0,.string ⟨#[]⟩,zI 0,zS,zI 0,zI 0]),(29,[zI 0,zI 0]),(29,[zI ls,zI cs]),(98,[.slice f d.length e,zI E,zI H,.bool true,zI D,zI C]),(31,[zI m,.string r,zI q,.slice x z.length y,zI p,zI j])] rfl rfl rfl rfl cY rfl rfl rfl rfl rfl ?_ ?_
 refine ba 4 rfl (by kernel_rfl) id (a7 [5] (by kernel_rfl) rfl ?_)
 refine mX [(31,[zI 0,.string ⟨#[]⟩,zI 0,zS,zI 0,zI 0]),(29,[zI D,zI C]),(29,[zI ls,zI cs]),(98,[.slice f d.length e,zI E,zI H,.bool true,zI D,zI C]),(31,[zI m,.string r,zI q,.slice x z.length y,zI p,zI j])] rfl rfl rfl rfl gp rfl rfl rfl rfl rfl ?_ ?_
 refine ww 2 ?_
 rotate_left
 exact bf
 exact bf
 have S:g<ts.length:=by simpa using ai
 obtain⟨ay,aV,aE,al⟩:=cE.cell (bF U ae) g S
 obtain⟨tk,T⟩:∃t,t=ts[g]:=⟨_,rfl⟩
 rw[←T] at al
 obtain⟨I,N,M,ll,K⟩:=tk
 refine mU rfl (ml (fk (fj (uZ (fj (gD (vp (a3 (b:=ay) (o:=aV) (i:=g) aE rfl rfl S io) rfl (vp (jY (cs:=[zI I,.string N,zI M,zI ll,zI K]) rfl pk al) rfl (am N3 rfl (j1 [(31,[zI 0,.string ⟨#[]⟩,zI 0,zS,zI 0,zI 0]),(29,[zI 0,zI 0]),(29,[zI ls,zI cs]),(96,[zI I,.string N,zI M,zI ll,zI K])] rfl rfl rfl pk rfl rfl rfl rfl (gm (fk (fj (gD (P3 rfl (gm (fk ?_)))))))))))))))))
 cases aj:(I !=1)
 have ab:=aj
 refine mm rfl (ml (yS (fk (gD (vp (kv (c:=((g+1:Nat):Int)) rfl rfl (by omega) (by omega) (by omega)) rfl (P1 rfl (gm ?_)))))))
 refine u1 (B,g+1,d,F,f,e) ?_ ?_ rfl ⟨rfl,rfl,rfl,rfl,rfl,rfl,rfl,trivial⟩ rfl (.cons_cons _ .slnil) rfl (hP rfl)
 exact⟨ae.trans (Sub.refl _),by omega,by rw[Q,Gn S (by rw[←T];simpa using ab)],aL.sub kB (Sub.refl _) aa,Src.sub au (Sub.refl _),an,ak,ah⟩
 dsimp only;omega
 have ab:=aj
 refine mU rfl (gD (P2 rfl ?_))
 refine u7 (vs:=[.agg #[zI I,.string N,zI M,zI ll,zI K]]) (cs:=[zI I,.string N,zI M,zI ll,zI K]) io rfl rfl rfl rfl rfl rfl rfl ?_
 intro aY aX ar aO
 refine gO ?_
 refine gW (news:=[zI I,.string N,zI M,zI ll,zI K]) lQ rfl rfl (cd rfl aO) (fun h=>by cases h) (fun u hu=>kB.one (R:=B) (a:=⟨I,N,M,ll,K⟩) rfl u hu) (by omega) rfl rfl ?_
 intro aw az ax ao aH aI aJ aM
 refine P1 rfl (gm (yS (fk (gD (vp (kv (c:=((g+1:Nat):Int)) rfl rfl (by omega) (by omega) (by omega)) rfl (P1 rfl (gm ?_)))))))
 rw[show d.length+1=(d++ [ts[g]]).length by simp]
 refine u1 (ax,g+1,d++ [ts[g]],F++ [zI I,.string N,zI M,zI ll,zI K],aw,az) ?_ ?_ rfl ⟨rfl,rfl,rfl,rfl,rfl,rfl,rfl,trivial⟩ rfl (.cons_cons _ (.cons _ .slnil)) rfl (hP rfl)
 exact⟨ae.trans (Sub.trans ar ao),by omega,by rw[Q,Gm S (by rw[←T];simpa using ab)],aL.append (aL.sub kB (Sub.trans ar ao) aa) (aL.single (show q2 _ (ts[g]) _ by rw[←T];rfl)),(by simpa using aM),by simpa using aH,aI,aJ⟩
 dsimp only;omega
 refine mU rfl (fj ?_)
 refine bZ mixed (fun k=>k==2) fun aq=> ?_
 refine nX 0 rfl (bJ (vs:=[]) (v:= .agg #[zI 0,.string ⟨#[]⟩,zI 0,zS,zI 0,zI 0]) rfl (fun W=>by kernel_rfl)) rfl (by kernel_rfl) (by kernel_rfl) (by kernel_rfl) (fun _ _ _ _ h=>h) (ba 1 rfl (by kernel_rfl) id (ba 2 rfl (by kernel_rfl) id (a7 [3] (by kernel_rfl) rfl ?_)))
 refine mX [(31,[zI 0,.string ⟨#[]⟩,zI 0,zS,zI 0,zI 0]),(29,[zI 0,zI 0]),(29,[zI ls,zI cs])] rfl rfl rfl rfl cY rfl rfl rfl rfl rfl ?_ ?_
 refine ba 4 rfl (by kernel_rfl) id (a7 [5] (by kernel_rfl) rfl ?_)
 refine mX [(31,[zI 0,.string ⟨#[]⟩,zI 0,zS,zI 0,zI 0]),(29,[zI ls,zI cs]),(29,[zI ls,zI cs])] rfl rfl rfl rfl gp rfl rfl rfl rfl rfl ?_ ?_
 refine ww 2 ?_
 rotate_left
 exact bf
 exact bf
 any_goals
  refine uw 1 ?_
  refine u2 results9 (aK rfl rfl cY) (aT rfl) (aK rfl rfl gp) (eH _) ⟨rfl,?_⟩
  have aD:=aU.2.2.2;have aB:=aQ.1;dsimp only at aD aB
  exact⟨_,_,_,_,_,rfl,(de (k:=m) (s:=r) (n:=q) (l:=p) (c:=j) aP (aC bM ac (Sub.refl _))),by omega⟩
 any_goals
  refine uw 2 ?_
  refine bS (by kernel_rfl) (fk (o6 (yR ?_)))
  refine u2 results9 (aK rfl rfl cY) (aT rfl) (aK rfl rfl gp) (eH _) ⟨rfl,?_⟩
  exact⟨.mk 0 ⟨#[]⟩ 0 [] 0 0,_,_,_,_,rfl,de eg (ew _),by rw[Ex.size_mk,zM];decide⟩
theorem ji:aF 41:=by unfold aF;kernel_rfl
theorem Gq:prog.underlying 24=some (.slice 112):=by kernel_rfl
def a6 {α:Type} (P:World→α→List Value→Prop) (size:Nat) (R:World) (v:Value) (l:List α):Prop:=∃A cap,v= .slice A l.length cap∧cF A l.length cap∧a5 P size R A l
theorem a6.mk{α:Type}{P:Wd→α→LV→Prop}{size:Nat}{R:Wd}{l:List α}{A:OA}{cap:Nat}(h:cF A l.length cap)(a:a5 P size R A l):a6 P size R (.slice A l.length cap) l:=⟨A,cap,rfl,h,a⟩
abbrev dp:=@a6.mk
theorem a6.nil{α:Type}{P:Wd→α→LV→Prop}{size:Nat}{R:Wd}:a6 P size R (zS) ([]:List α):=⟨none,0,rfl,eg,ew _⟩
theorem aL.cons{P:Wd→cW→LV→Prop}{a:cW}{l:List cW}{c xs:LV}(h:P ah a c)(g:aL P ah l xs):aL P ah (a::l) (c++xs):=⟨c,xs,rfl,h,g⟩
theorem nc{b o off n:Nat}(h:∀j u,aj[j]?=some u→ah.cell? ⟨b,o+j,none⟩=some u)(a:(aj.drop off).take n=bj):∀j u,bj[j]?=some u→ah.cell? ⟨b,o+off+j,none⟩=some u:=by
 intro j u hu
 rw[Nat.add_assoc]
 refine h _ u ?_
 rw[←a,List.getElem?_take] at hu
 split at hu
 ·rw[List.getElem?_drop] at hu;exact hu
 ·cases hu
section
variable{C:er}{ops:Array Oper}{Q:Exit→Act→Wd→Prop}{rest:List Oper}{sl:List (Nat×AV)}{bx cm:List Bx}{rw ft:List bU}{R:Wd}{d:Nat}{ty:TypeId}{pos:String}{af:Array Edge}
theorem j4{x y:Operand}{n:Nat}{m c:Nat}{news:LV}(i:dO ae ao aX eO)(o:ev ⟨sl,bx,⟨az,n,aj,ao,aX⟩::rw⟩ x=some (.val az))(p:ev ⟨sl,bx,⟨az,n,aj,ao,aX⟩::rw⟩ y=some (.val (.slice aA m c)))
 (l:Src R aX aA m news) (f:aA=none→c=0) (b:∀u∈news,u.oneCell'=true) {n1:Nat} (j:n1=n+m) (e:n1≤1000000000) (g:Nat.ble eO 100000=true) (h:Nat.blt d C.N=true)
 (k:∀a cap R',Sub R R'→n1≤cap→cap≤9223372036854775807→(a=none→cap=0)→Src R' aX a (n1) (aj++news)→
   VL C ops Q rest ⟨(d,.val (.slice a (n1) cap))::sl,bx,⟨.slice a (n1) cap,n1,aj++news,ao,aX⟩::rw⟩ R'):
 VL C ops Q (⟨some d,.call {callee:= .builtin .append,args:=#[x,y],argTypes:=#[ae,ae]},ty,pos,af,none⟩::rest) ⟨sl,bx,⟨az,n,aj,ao,aX⟩::rw⟩ R:=by
 subst j
 exact gW i o p l f b e g h k
variable{K:HK}{S0:St}{R0:Wd}{aq:Nat→Nat}{ay:Nat}{aN:Array Bool}
theorem fW{i:Nat}{x y:Operand}{n:Nat}{m c:Nat}{news:LV}(l:ops[i]?=some ⟨some d,.call {callee:= .builtin .append,args:=#[x,y],argTypes:=#[ae,ae]},ty,pos,af,none⟩)
 (j:dO ae ao aX eO) (r:ev ⟨sl,bx,⟨az,n,aj,ao,aX⟩::rw⟩ x=some (.val az)) (s:ev ⟨sl,bx,⟨az,n,aj,ao,aX⟩::rw⟩ y=some (.val (.slice aA m c)))
 (q:Src R aX aA m news) (f:aA=none→c=0) (b:∀u∈news,u.oneCell'=true) {n1:Nat} (o:n1=n+m) (e:n1≤1000000000) (g:Nat.ble eO 100000=true) (h:Nat.blt d C.N=true)
 (k:∀a cap R',Sub R R'→n1≤cap→cap≤9223372036854775807→(a=none→cap=0)→Src R' aX a (n1) (aj++news)→
   VA C K S0 R0 aq ops Q ay (aN.setIfInBounds i true) ⟨(d,.val (.slice a (n1) cap))::sl,bx,⟨.slice a (n1) cap,n1,aj++news,ao,aX⟩::rw⟩ R')
 (p:fq C K S0 R0 aq ops Q ay aN ⟨sl,bx,⟨az,n,aj,ao,aX⟩::rw⟩ R aI):fq C K S0 R0 aq ops Q ay aN ⟨sl,bx,⟨az,n,aj,ao,aX⟩::rw⟩ R (i::aI):=by
 subst o
 exact va l j r s q f b e g h k p
end
theorem jE(k:a6 b7 1 ah az ec)(s:BA):bd 41 [az,.string s] ah (fun v R'=>R'=ah∧∃(b:Bool),v= .bool b):=by
 obtain⟨Al,dA,rfl,j,l⟩:=k
 refine b5 func41 rfl ntmps41 rfl rfl fun w G ad=> ?_
 refine sV 14 rfl ?_
 have o:ec.length≤490000000:=(j).2.2.1
 refine lK (ι:=Bool×Nat) [1,7,8] 0 rfl (fun(c,a)=>(⟨[(4,.val (.bool c)),(9,.val (zI a))],[],[]⟩,ah,a≤ec.length,ec.length -a)) (false,0) rfl rfl [] rfl ?_ ?_
 exact b2 _
 rintro⟨c,a⟩ _
 show V _ _ _ ⟨_,_,_⟩ ah
 refine rV 6 rfl ?_
 cases h:(decide ((a:Int)<(ec.length:Int)))
 refine rV 12 rfl ?_
 exact cH results41 (aT rfl) ⟨rfl,rfl,false,rfl⟩
 have d:=cX h
 refine rV 7 rfl ?_
 obtain⟨m,q,n,f,e,_,g,i⟩:=cn bT l a d
 obtain rfl:=g
 refine vp (a3 f rfl rfl d fy) rfl (vp (dT rfl fx (i 0 _ rfl)) rfl (rL 10 rfl ?_))
 cases p:(e.toList==s.toList)
 refine rV 5 rfl (vp (bA rfl rfl (by omega)) rfl (rL 2 rfl ?_))
 refine dR (c,a+1) rfl rfl [] rfl ?_ ?_
 exact by omega
 (try dsimp only);omega
 refine rV 12 rfl ?_
 exact cH results41 (aT rfl) ⟨rfl,rfl,true,rfl⟩
theorem Gr(j:a6 b7 1 ah az ec)(s:BA):bd 91 [az,.string s] ah (fun v R'=>R'=ah∧∃(n:Int),v=zI n):=by
 obtain⟨Al,dA,rfl,i,k⟩:=j
 refine b5 func91 rfl ntmps91 rfl rfl fun w G ad=> ?_
 refine sV 14 rfl ?_
 have o:ec.length≤490000000:=(i).2.2.1
 refine lK (ι:=Int×Nat) [1,7,8] 0 rfl (fun(b,a)=>(⟨[(4,.val (zI b)),(9,.val (zI a))],[],[]⟩,ah,a≤ec.length,ec.length -a)) (0,0) rfl rfl [] rfl ?_ ?_
 exact b2 _
 rintro⟨b,a⟩ _
 show V _ _ _ ⟨_,_,_⟩ ah
 refine rV 6 rfl ?_
 cases g:(decide ((a:Int)<(ec.length:Int)))
 refine rV 12 rfl ?_
 exact cH results91 (aT rfl) ⟨rfl,rfl,(-1),rfl⟩
 have c:=cX g
 refine rV 8 rfl ?_
 obtain⟨l,q,m,e,d,_,f,h⟩:=cn bT k a c
 obtain rfl:=f
 refine vp (a3 e rfl rfl c fy) rfl (vp (dT rfl fx (h 0 _ rfl)) rfl (rL 11 rfl ?_))
 cases p:(d.toList==s.toList)
 refine rV 5 rfl (vp (bA rfl rfl (by omega)) rfl (rL 2 rfl ?_))
 refine dR (b,a+1) rfl rfl [] rfl ?_ ?_
 exact by omega
 (try dsimp only);omega
 refine rV 13 rfl ?_
 exact cH results91 (aT rfl) ⟨rfl,rfl,(a:Int),rfl⟩
variable{ak:Md}
theorem q3(p:Md.Cs ah ak aj)(s:BA):bd 39 [.agg aj.toArray,.string s] ah (fun v R'=>R'=ah∧∃(n:Int),v=zI n):=by
 obtain⟨M,b⟩:=ak
 obtain⟨y,E,B,I,rfl,k,q,e,g⟩:=p
 dsimp only at k q e g
 refine b5 func39 rfl ntmps39 rfl rfl fun w G ad=> ?_
 refine sV 16 rfl ?_
 have O:b.length≤490000000:=(e).2.2.1
 refine lK (ι:=Int×Nat) [1,8,9] 1 rfl (fun(d,a)=>(⟨[(4,.val (zI d)),(10,.val (zI a))],[],[]⟩,ah,a≤b.length,b.length -a)) (0,0) rfl rfl [] rfl ?_ ?_
 exact b2 _
 rintro⟨d,a⟩ _
 show V _ _ _ ⟨_,_,_⟩ ah
 refine rV 6 rfl ?_
 cases i:(decide ((a:Int)<(b.length:Int)))
 refine rV 12 rfl ?_
 exact cH results39 (aT rfl) ⟨rfl,rfl,(-1),rfl⟩
 have f:=cX i
 refine rV 7 rfl ?_
 obtain⟨D,U,_,h,⟨x,u,N,⟨Q,W,T,X,S,L⟩,R,K⟩,_,⟨A,H,z,F,_,rfl,m,t,l,r,⟨C,J,rfl,o,c⟩⟩,j⟩:=cn dt g a f
 replace c:=c9.1 c
 dsimp only at m t l r o c
 refine vp (a3 h rfl rfl f hk) rfl (vp (cl rfl j rfl) rfl (rL 12 rfl ?_))
 cases P:(x.toList==s.toList)
 refine rV 5 rfl (vp (bA rfl rfl (by omega)) rfl (rL 2 rfl ?_))
 refine dR (d,a+1) rfl rfl [] rfl ?_ ?_
 exact by omega
 (try dsimp only);omega
 refine rV 15 rfl ?_
 exact cH results39 (aT rfl) ⟨rfl,rfl,(u.length:Int),rfl⟩
theorem nf:cr 58 true 3:=by unfold cr;kernel_rfl
theorem vL:aF 70:=by unfold aF;kernel_rfl
def Cn.eo (x:Cn):Nat:=gS x.ts+1
def Dt.eo (x:Dt):Nat:=x.vs.length+(x.cs.map Cn.eo).sum+1
def Rl.eo (x:Rl):Nat:=aO x.ps+aO x.gs+x.b.size+1
def Md.eo (m:Md):Nat:=(m.ds.map Dt.eo).sum+(m.rs.map Rl.eo).sum
def Md.Ok (m:Md):Prop:=m.eo≤100000
theorem tr{α:Type}(f:α→Nat)(h:∀x,1≤f x):∀l:List α,l.length≤(l.map f).sum
 |[]=>a9 _
 |a::r=>by have:=tr f h r;have:=h a;simp only[List.length_cons,List.map_cons,List.sum_cons];omega
theorem vM{α:Type}(f:α→Nat):∀{l:List α} {i:Nat} (h:i<l.length),f l[i]≤(l.map f).sum
 |a::r,0,_=>by simp
 |a::r,i+1,h=>by have:=vM f (l:=r) (i:=i) (by simpa using h);simp only[List.getElem_cons_succ,List.map_cons,List.sum_cons];omega
theorem Md.Ok.ds{m:Md}(h:m.Ok):m.ds.length≤100000:=by
 have:=tr Dt.eo (fun x=>by unfold Dt.eo;omega) m.ds
 unfold Md.Ok Md.eo at h;omega
theorem Md.Ok.rs{m:Md}(h:m.Ok):m.rs.length≤100000:=by
 have:=tr Rl.eo (fun x=>by unfold Rl.eo;omega) m.rs
 unfold Md.Ok Md.eo at h;omega
def q4 (m:Md):List Dt:=[⟨⟨#[73,110,116]⟩,[],[],0,0⟩,⟨⟨#[66,111,111,108]⟩,[],[⟨⟨#[84,114,117,101]⟩,[],0,0⟩,⟨⟨#[70,97,108,115,101]⟩,[],0,0⟩],0,0⟩]++m.ds
structure Po where
 l:Int
 c:Int
def Po.Cs (_:World) (x:Po) (c:List Value):Prop:=c=[.int .i64 x.l,.int .i64 x.c]
theorem hR{l c:Int}:Po.Cs ah ⟨l,c⟩ [zI l,zI c]:=rfl
structure Fa where
 bad:Bool
 l:Int
 c:Int
def Fa.Cs (_:World) (x:Fa) (c:List Value):Prop:=c=[.bool x.bad,.int .i64 x.l,.int .i64 x.c]
theorem fu{bad:Bool}{l c:Int}:Fa.Cs ah ⟨bad,l,c⟩ [.bool bad,zI l,zI c]:=rfl
theorem vN(y:Md.Cs ah ak aj)(e:ak.Ok):bd 70 [.agg aj.toArray] ah (fun v R'=>∃(h:Vl) (l:List Dt),v=h∧a6 Dt.Cs 5 R' h l∧(l=q4 ak)):=by
 obtain⟨a,R⟩:=ak
 obtain⟨I,M,J,N,rfl,d,f,t,A⟩:=y
 dsimp only at d f t A
 refine b5 func70 rfl ntmps70 rfl rfl fun w G ad=> ?_
 refine sV 8 rfl (vp (bJ (vs:=[(0,.string ⟨#[73,110,116]⟩)]) (v:= .agg #[.string ⟨#[73,110,116]⟩,zS,zS,zI 0,zI 0]) rfl (fun W=>by kernel_rfl)) rfl (vp (bJ (vs:=[(0,.string ⟨#[84,114,117,101]⟩)]) (v:= .agg #[.string ⟨#[84,114,117,101]⟩,zS,zI 0,zI 0]) rfl (fun W=>by kernel_rfl)) rfl (vp (bJ (vs:=[(0,.string ⟨#[70,97,108,115,101]⟩)]) (v:= .agg #[.string ⟨#[70,97,108,115,101]⟩,zS,zI 0,zI 0]) rfl (fun W=>by kernel_rfl)) rfl ?_)))
 refine et px rfl ?_
 intro g1 K C q
 refine vp (bJ (vs:=[(0,.string ⟨#[66,111,111,108]⟩),(2,.slice (some ⟨g1,0,none⟩) 2 2)]) (v:= .agg #[.string ⟨#[66,111,111,108]⟩,zS,.slice (some ⟨g1,0,none⟩) 2 2,zI 0,zI 0]) rfl (fun W=>by kernel_rfl)) rfl ?_
 refine et pz rfl ?_
 intro Q L g _
 refine rL 8 rfl ?_
 have F:=dp (l:=[(⟨(⟨#[84,114,117,101]⟩:BA),[],0,0⟩:Cn),(⟨(⟨#[70,97,108,115,101]⟩:BA),[],0,0⟩:Cn)]) (pt (by simp)) (a5.new (xs:=[.string ⟨#[84,114,117,101]⟩,zS,zI 0,zI 0,.string ⟨#[70,97,108,115,101]⟩,zS,zI 0,zI 0]) j2 ((aL.cons (n9 (s:=(⟨#[84,114,117,101]⟩:BA)) (l:=0) (c:=0) eg (a5.nil (P:=Ty.Cs) (size:=4) _)) (aL.single (n9 (s:=(⟨#[70,97,108,115,101]⟩:BA)) (l:=0) (c:=0) eg (a5.nil (P:=Ty.Cs) (size:=4) _))))) (fun j u hu=>g _ _ _ (q j u hu)))
 obtain⟨_,_,E,r,z⟩:=F;cases E
 obtain⟨i,D,b⟩:=(aC eI f (ai C g))
 refine j4 (news:=i) zO rfl rfl D d.2.2.2 (aL.one eI b) (n1:=([(⟨(⟨#[73,110,116]⟩:BA),[],[],0,0⟩:Dt),(⟨(⟨#[66,111,111,108]⟩:BA),[],([(⟨(⟨#[84,114,117,101]⟩:BA),[],0,0⟩:Cn),(⟨(⟨#[70,97,108,115,101]⟩:BA),[],0,0⟩:Cn)]),0,0⟩:Dt)]++a).length) (by(try simp only[ll])<;>omega) (by simp;have:=e.ds;dsimp only at this;omega) rfl rfl ?_
 intro H O k B m n o p
 have x:aL Dt.Cs k ([(⟨(⟨#[73,110,116]⟩:BA),[],[],0,0⟩:Dt),(⟨(⟨#[66,111,111,108]⟩:BA),[],([(⟨(⟨#[84,114,117,101]⟩:BA),[],0,0⟩:Cn),(⟨(⟨#[70,97,108,115,101]⟩:BA),[],0,0⟩:Cn)]),0,0⟩:Dt)]++a) ([.string ⟨#[73,110,116]⟩,zS,zS,zI 0,zI 0,.string ⟨#[66,111,111,108]⟩,zS,.slice (some ⟨g1,0,none⟩) 2 2,zI 0,zI 0]++i):=bg eI B (c6 (aL.cons (q0 (s:=(⟨#[73,110,116]⟩:BA)) (l:=0) (c:=0) eg (ew (P:=b7) (size:=1) _) eg (ew (P:=Cn.Cs) (size:=4) _)) (c4 (q0 (s:=(⟨#[66,111,111,108]⟩:BA)) (l:=0) (c:=0) eg (ew (P:=b7) (size:=1) _) r z))) b)
 refine rL 4 rfl ?_
 exact cH results70 (aT rfl) ⟨rfl,_,_,rfl,(dp ⟨m,n,by simp;have:=e.ds;dsimp only at this;omega,o⟩ (cz p x)),rfl⟩
theorem Gs(r:Md.Cs ah ak aj)(s:BA)(q:ak.Ok):bd 103 [.agg aj.toArray,.string s] ah (fun v R'=>∃(n:Int),v=zI n):=by
 obtain⟨O,T⟩:=ak
 obtain⟨B,I,D,K,rfl,e,h,f,i⟩:=r
 dsimp only at e h f i
 refine b5 func103 rfl ntmps103 rfl rfl fun w G ad=> ?_
 refine sV 10 rfl ?_
 refine cN (vN (ez e h f i) q) vL rfl rfl ?_
 rintro _ d _ ⟨_,b,rfl,⟨C,J,rfl,o,u⟩,_⟩
 refine rL 5 rfl ?_
 have P:b.length≤490000000:=(o).2.2.1
 refine lK (ι:=Int×Nat) [1,8,9] 1 rfl (fun(c,a)=>(⟨[(4,.val (zI c)),(10,.val (zI a))],[],[]⟩,d,a≤b.length,b.length -a)) (0,0) rfl rfl [] rfl ?_ ?_
 exact b2 _
 rintro⟨c,a⟩ _
 show V _ _ _ ⟨_,_,_⟩ d
 refine rV 6 rfl ?_
 cases k:(decide ((a:Int)<(b.length:Int)))
 refine rV 12 rfl ?_
 exact cH results103 (aT rfl) ⟨rfl,(-1),rfl⟩
 have g:=cX k
 refine rV 7 rfl ?_
 obtain⟨F,S,_,j,⟨y,z,N,R,M⟩,_,⟨E,L,A,H,rfl,p,x,m,t⟩,l⟩:=cn eI u a g
 dsimp only at p x m t
 refine vp (a3 j rfl rfl g pz) rfl (vp (cl rfl l rfl) rfl (rL 12 rfl ?_))
 cases Q:(y.toList==s.toList)
 refine rV 5 rfl (vp (bA rfl rfl (by omega)) rfl (rL 2 rfl ?_))
 refine dR (c,a+1) rfl rfl [] rfl ?_ ?_
 exact by omega
 (try dsimp only);omega
 refine rV 15 rfl ?_
 exact cH results103 (aT rfl) ⟨rfl,(z.length:Int),rfl⟩
theorem vO(H:Md.Cs ah ak aj)(s:BA)(F:ak.Ok):bd 42 [.agg aj.toArray,.string s] ah (fun v R'=>∃(n:Int) (i:Int),v= .tuple #[zI n,zI i]):=by
 obtain⟨af,aq⟩:=ak
 obtain⟨O,X,Q,Z,rfl,l,r,m,t⟩:=H
 dsimp only at l r m t
 refine b5 func42 rfl ntmps42 rfl rfl fun w G ad=> ?_
 refine sV 11 rfl ?_
 refine cN (vN (ez l r m t) F) vL rfl rfl ?_
 rintro _ c _ ⟨_,e,rfl,⟨P,Y,rfl,C,I⟩,_⟩
 refine rL 5 rfl ?_
 have ag:e.length≤490000000:=(C).2.2.1
 refine lK (ι:=Int×Int×Nat) [1,11,12] 1 rfl (fun(h,j,a)=>(⟨[(4,.val (zI h)),(5,.val (zI j)),(13,.val (zI a))],[],[]⟩,c,a≤e.length,e.length -a)) (0,0,0) rfl rfl [] rfl ?_ ?_
 exact b2 _
 rintro⟨h,j,a⟩ _
 show V _ _ _ ⟨_,_,_⟩ c
 refine rV 6 rfl ?_
 cases y:(decide ((a:Int)<(e.length:Int)))
 refine rV 13 rfl ?_
 exact cB results42 (aT rfl) (aT rfl) ⟨rfl,(-1),0,rfl⟩
 have o:=cX y
 refine rV 8 rfl ?_
 obtain⟨T,ao,_,u,⟨ar,au,d,am,ac⟩,_,⟨S,ab,N,W,rfl,E,K,k,q⟩,A⟩:=cn eI I a o
 dsimp only at E K k q
 refine vp (a3 u rfl rfl o pz) rfl (vp (cl rfl A rfl) rfl (rL 14 rfl ?_))
 have ai:d.length≤490000000:=(k).2.2.1
 refine lK (ι:=Int×Int×Nat) [1,6,11,12,13,19,20] 2 rfl (fun(f,g,b)=>(⟨[(4,.val (zI f)),(5,.val (zI g)),(21,.val (zI b))],[],[]⟩,c,b≤d.length,d.length -b)) (h,j,0) rfl rfl [] rfl ?_ ?_
 exact b2 _
 rintro⟨f,g,b⟩ _
 show V _ _ _ ⟨_,_,_⟩ c
 refine rV 6 rfl ?_
 cases z:(decide ((b:Int)<(d.length:Int)))
 refine rV 8 rfl (vp (bA rfl rfl (by omega)) rfl (rL 2 rfl ?_))
 refine dR (f,g,a+1) rfl rfl [] rfl ?_ ?_
 exact by omega
 (try dsimp only);omega
 have p:=cX z
 refine rV 7 rfl ?_
 obtain⟨U,ap,_,x,⟨L,M,an,ae⟩,_,⟨R,aa,rfl,D,J⟩,B⟩:=cn j2 q b p
 dsimp only at D J
 refine vp (a3 x rfl rfl p px) rfl (vp (cl rfl B rfl) rfl (rL 12 rfl ?_))
 cases al:(L.toList==s.toList)
 refine rV 5 rfl (vp (bA rfl rfl (by omega)) rfl (rL 2 rfl ?_))
 refine dR (f,g,b+1) rfl rfl [] rfl ?_ ?_
 exact by omega
 (try dsimp only);omega
 refine rV 21 rfl ?_
 exact cB results42 (aT rfl) (aT rfl) ⟨rfl,(M.length:Int),(a:Int),rfl⟩
variable{vP:Fa}
theorem jj(i:Fa.Cs ah vP aj)(b:Bool){p:Po}(j:Po.Cs ah p bj):bd 40 [.agg aj.toArray,.bool b,.agg bj.toArray] ah (fun v R'=>R'=ah∧∃(r:Fa) (f:LV),v= .agg f.toArray∧Fa.Cs ah r f):=by
 obtain⟨h,g,e⟩:=vP
 obtain rfl:=i
 obtain⟨d,a⟩:=p
 obtain rfl:=j
 refine b5 func40 rfl ntmps40 rfl rfl fun w G ad=> ?_
 refine sV 13 rfl ?_
 cases k:(h)
 refine rL 5 rfl ?_
 cases m:(b)
 refine rV 9 rfl ?_
 exact cH results40 (aK rfl rfl nf) ⟨rfl,rfl,_,_,rfl,(fu (bad:=false) (l:=g) (c:=e))⟩
 refine rV 6 rfl (vp (bJ (vs:=[(0,.bool true),(1,.agg #[zI d,zI a])]) (v:= .agg #[.bool true,zI d,zI a]) rfl (fun W=>by kernel_rfl)) rfl (rL 4 rfl ?_))
 exact cH results40 (aK rfl rfl nf) ⟨rfl,rfl,_,_,rfl,(fu (bad:=true) (l:=d) (c:=a))⟩
 refine rL 14 rfl ?_
 exact cH results40 (aK rfl rfl nf) ⟨rfl,rfl,_,_,rfl,(fu (bad:=true) (l:=g) (c:=e))⟩
theorem Gt(x:Md.Cs ah ak aj)(s:BA):bd 38 [.agg aj.toArray,.string s] ah (fun v R'=>R'=ah∧∃(r:Po) (g:LV),v= .agg g.toArray∧Po.Cs ah r g):=by
 obtain⟨Q,b⟩:=ak
 obtain⟨D,K,H,N,rfl,p,y,h,j⟩:=x
 dsimp only at p y h j
 refine b5 func38 rfl ntmps38 rfl rfl fun w G ad=> ?_
 refine sV 16 rfl ?_
 have S:b.length≤490000000:=(h).2.2.1
 refine lK (ι:=Nat×Int×Int) [1,4,8,9] 1 rfl (fun(a,e,f)=>(⟨[(10,.val (zI a))],[(29,[zI e,zI f])],[]⟩,ah,a≤b.length,b.length -a)) (0,0,0) rfl rfl [] rfl ?_ ?_
 exact b2 _
 rintro⟨a,e,f⟩ _
 show V _ _ _ ⟨_,_,_⟩ ah
 refine rV 6 rfl ?_
 cases n:(decide ((a:Int)<(b.length:Int)))
 refine rV 8 rfl (vp (bJ (vs:=[]) (v:= .agg #[zI 0,zI 0]) rfl (fun W=>by kernel_rfl)) rfl (rL 4 rfl ?_))
 exact cH results38 (aK rfl rfl gp) ⟨rfl,rfl,_,_,rfl,(hR (l:=0) (c:=0))⟩
 have i:=cX n
 refine rV 7 rfl ?_
 obtain⟨J,Z,_,m,⟨C,aa,R,⟨U,ab,Y,ac,X,P⟩,B,k⟩,_,⟨F,M,E,L,_,rfl,t,A,q,z,⟨I,O,rfl,u,d⟩⟩,o⟩:=cn dt j a i
 replace d:=c9.1 d
 dsimp only at t A q z u d
 refine vp (a3 m rfl rfl i hk) rfl (vp (cl rfl o rfl) rfl (rL 12 rfl ?_))
 cases T:(C.toList==s.toList)
 refine rV 5 rfl (vp (bA rfl rfl (by omega)) rfl (rL 2 rfl ?_))
 refine dR (a+1,e,f) rfl rfl [] rfl ?_ ?_
 exact by omega
 (try dsimp only);omega
 refine rV 14 rfl ?_
 exact cH results38 (aK rfl rfl gp) ⟨rfl,rfl,_,_,rfl,(hR (l:=B) (c:=k))⟩
theorem tt(d:Ty.Cs ah bC aj):bd 105 [.agg aj.toArray] ah (fun v R'=>R'=ah∧∃(b:Bool),v= .bool b):=by
 obtain⟨c,st,j,e⟩:=bC
 obtain⟨f,g,rfl,_,a⟩:=d
 replace a:=a8.1 a
 refine b5 func105 rfl ntmps105 rfl rfl fun w G ad=> ?_
 refine sV 12 rfl ?_
 cases h:(c==2)
 refine rL 4 rfl ?_
 cases i:(c==3)
 refine rL 10 rfl ?_
 exact cH results105 (aT rfl) ⟨rfl,rfl,false,rfl⟩
 refine rL 10 rfl ?_
 exact cH results105 (aT rfl) ⟨rfl,rfl,((e.length:Int)==2),rfl⟩
 refine rL 14 rfl ?_
 exact cH results105 (aT rfl) ⟨rfl,rfl,true,rfl⟩
theorem Gu(n:Int):bd 53 [zI n] ah (fun v R'=>R'=ah∧∃(t:Ty) (a:LV),v= .agg a.toArray∧Ty.Cs ah t a):=by
 refine b5 func53 rfl ntmps53 rfl rfl fun w G ad=> ?_
 refine sV 8 rfl (vp (bJ (vs:=[(0,zI 1),(2,zI n)]) (v:= .agg #[zI 1,.string ⟨#[]⟩,zI n,zS]) rfl (fun W=>by kernel_rfl)) rfl (rL 4 rfl ?_))
 exact cH results53 (aK rfl rfl cD) ⟨rfl,rfl,_,_,rfl,(aP eg (ew (P:=Ty.Cs) (size:=4) _))⟩
end Go.Proofs.YthnogncknmhgoaaGreat.Vm
namespace Go.Proofs.YthnogncknmhgoaaGreat.Vm
open ChangeShapes WideShapes ChangeAt RowKit bq Data
variable{ky:Array Edge}{dk:Array Oper}{c8:Array Operand}{fi:Array TypeId}{hB:er}{dy:Exit→Act→Wd→Prop}{dx:Func}{bk:FuncId}{fr:IntKind}{aj:LV}{bu:List (Nat×AV)}{aS:List Bx}{gb:List Oper}{ae ao aX:Nat}{aA:OA}{kx:String}{fV:bU}{aH:TypeId}{az:Vl}{pB:Vl→bU→Wd→Prop}{hF:Vl→Wd→Prop}{ah:Wd}
section
variable{C:er}{ops:Array Oper}{Q:Exit→Act→Wd→Prop}{sl:List (Nat×AV)}{bx:List Bx}{rw:List bU}{R:Wd}{d:Nat}{ty:TypeId}{pos:String}{af:Array Edge}{K:HK}{S0:St}{R0:Wd}{aq:Nat→Nat}{ay:Nat}{aN:Array Bool}{j t:Nat}{b b':Bool}
theorem q5{i:Nat}{rs:List Nat}(c:ops[i]?=some ⟨some d,.call {callee:= .value (.func bk),args:=c8,argTypes:=fi},ty,pos,af,some (j,b)⟩)(D:(ops[j]?).bind (·.dst)=some t)(m:look sl t=some (.val (.bool b')))(f:(b'==b)=true)
 (L:bd bk aj R hF) (z:aF bk) (O:fb ⟨sl,bx,rw⟩ c8 (aj.map .val)) (B:Nat.blt d C.N=true)
 (k:∀v R',Sub R R'→hF v R'→VA C K S0 R0 aq ops Q ay (aN.setIfInBounds i true) ⟨(d,.val v)::sl,bx,rw⟩ R')
 (J:fq C K S0 R0 aq ops Q ay aN ⟨sl,bx,rw⟩ R rs):fq C K S0 R0 aq ops Q ay aN ⟨sl,bx,rw⟩ R (i::rs):=by
 intro P l ad a W h n p h3 q s r
 rcases dX.1 l with rfl|l
 ·unfold wpOp
  simp only[c]
  rw[if_pos ((mr h.slot D m).trans f)]
  refine .inl ?_
  unfold Oper.wp
  rw[k7,O.eval h.slot,j0 z]
  have A:=h.own
  refine(L W ad (A.sub (fun i=>i) [] (fun i c=>by cases c) (fun i j c=>by cases c) (eH _))).mono ?_
  rintro E W' ⟨v,u,S,R',rfl,g,H,G,m,M,I⟩
  subst M
  have f:u=[]:=List.eq_nil_of_length_eq_zero (by simpa using G)
  subst f
  have w:=h.called (rs:=rw) (ts:=[]) rfl (fun i=>i) (fun i c=>by cases c) g H rfl m bx rfl (fun i c=>by cases c) (fun _ _=>rfl)
  have y:Rel C ⟨(d,.val v)::sl,bx,rw⟩ R' ad (a.put (some d) v) W':=w.put (x:= .val v) (dn B) (fun k o e=>by cases e)
  exact sN (S':=⟨(d,.val v)::sl,bx,rw⟩) (ad:=ad) (fun k F=>p k (qB F)) n (h3.trans g.sub) q s r (k v R' g.sub I) y
 ·exact J P l ad a W h n p h3 q s r
end
theorem vQ(b:c7 ae ao aX):prog.underlying ae=some (.slice (prog.elem ae))∧∀W,(sizeOf (prog.elem ae)).run prog W= .ok aX W:=by
 unfold c7 o4 at b
 simp only[Bool.and_eq_true] at b
 obtain⟨g1,g2⟩:=b
 cases hu:prog.underlying ae with
 |none=>rw[hu] at g1;cases g1
 |some D=>
  rw[hu] at g1
  cases D with
  |slice c=>
   simp only[beq_iff_eq] at g1
   subst g1
   have d:prog.elem ae=c:=by simp[Program.elem,hu]
   rw[d]
   refine⟨rfl,fun W=> ?_⟩
   cases a:prog.info? c with
   |none=>rw[a] at g2;cases g2
   |some inf=>
    rw[a] at g2
    simp only[Bool.and_eq_true,beq_iff_eq] at g2
    simp[sizeOf,typeInfo,a,g2.1.1.1]
  |_=>cases g1
section
variable{S:St}{R:Wd}{K:Nat→Bool}{ty:TypeId}
theorem od{x y:Operand}{t e size n c i:Nat}(j:ev S x=some (.val (.slice aA n c)))(k:ev S y=some (.val (.int fr (i:Int))))(o:i≤n)(g:c7 t e size)(h:sliced aA i n c size=az):
 bO K S R (.slice t x (some y) none none) ty (.val az):=
 bO.of fun ad a W dst pos af l f m=>by
   have b:=f.eval j
   have d:=f.eval k
   simp only[AV.den] at b d
   obtain⟨g1,g2⟩:=vQ g
   subst h
   simp[execOp,b,d,run_sliceAt_slice W t _ _ _ _ g1,run_slice_l W t aA n c g1 fr i (by omega) (by omega),g2]
theorem pA{x y:Operand}{t e size n c i:Nat}(j:ev S x=some (.val (.slice aA n c)))(k:ev S y=some (.val (.int fr (i:Int))))(o:i≤c)(g:c7 t e size)(h:sliced aA 0 i c size=az):
 bO K S R (.slice t x none (some y) none) ty (.val az):=
 bO.of fun ad a W dst pos af l f m=>by
   have b:=f.eval j
   have d:=f.eval k
   simp only[AV.den] at b d
   obtain⟨g1,g2⟩:=vQ g
   subst h
   simp[execOp,b,d,run_sliceAt_slice W t _ _ _ _ g1,run_slice_h W t aA n c g1 fr i (by omega) (by omega),g2]
theorem vR{x y z:Operand}{t e size n c i:Nat}(j:ev S x=some (.val (.slice aA n c)))(k:ev S y=some (.val (.int fr (i:Int))))(l:ev S z=some (.val (.int fr (i:Int))))(p:i≤c)(g:c7 t e size)(h:sliced aA 0 i i size=az):
 bO K S R (.slice t x none (some y) (some z)) ty (.val az):=
 bO.of fun ad a W dst pos af m b o=>by
   have d:=b.eval j
   have f:=b.eval k
   have h3:=b.eval l
   simp only[AV.den] at d f h3
   obtain⟨g1,g2⟩:=vQ g
   subst h
   simp[execOp,d,f,h3,run_sliceAt_slice W t _ _ _ _ g1,run_slice_hm W t aA n c g1 fr fr i i (by omega) (by omega) (by omega),g2]
end
section
variable{α:Type}{P:Wd→α→LV→Prop}{size:Nat}{R:Wd}{A:OA}{l:List α}{c i:Nat}
theorem aL.cut(E:eR P size):∀{l:List α} {xs:LV} (i:Nat),aL P R l xs→aL P R (l.take i) (xs.take (i*size))∧aL P R (l.drop i) (xs.drop (i*size))
 |l,xs,0,h=>by simp only[List.take_zero,Nat.zero_mul,List.drop_zero];exact⟨rfl,h⟩
 |[],xs,i+1,h=>by have h:xs=[]:=h;subst h;rw[List.take_nil,List.take_nil,List.drop_nil,List.drop_nil];exact⟨gr,gr⟩
 |a::r,xs,i+1,⟨c,rest,e,b,f⟩=>by
  subst e
  have d:=E.len b
  obtain⟨g1,g2⟩:=aL.cut E i f
  have e1:(c++rest).take ((i+1)*size)=c++rest.take (i*size):=by
   rw[Nat.succ_mul,Nat.add_comm,←d,List.take_length_add_append]
  have e2:(c++rest).drop ((i+1)*size)=rest.drop (i*size):=by
   rw[Nat.succ_mul,Nat.add_comm,←d,List.drop_length_add_append]
  rw[e1,e2]
  exact⟨⟨c,_,rfl,b,g1⟩,g2⟩
theorem a6.drop(E:eR P size)(h:cF A l.length c)(k:a5 P size R A l)(q:i≤l.length):a6 P size R (sliced A i l.length c size) (l.drop i):=by
 obtain⟨xs,a,f⟩:=k
 obtain⟨n,p,h3,d⟩:=h
 refine⟨if c=i then A else A.map (·.add (i*size)),c -i,by rw[List.length_drop];rfl,⟨by rw[List.length_drop];omega,by omega,by rw[List.length_drop];omega,fun e=> ?_⟩,xs.drop (i*size),⟨by rw[List.length_drop,List.length_drop,a.1,Nat.sub_mul],?_⟩,(f.cut E i).2⟩
 ·have:A=none:=by
   split at e
   ·exact e
   ·simpa using e
  have:=d this
  omega
 ·rcases a.2 with m|⟨b,o,e,g⟩
  ·exact .inl (by rw[List.length_drop];omega)
  ·by_cases r:l.length=i
   ·exact .inl (by rw[List.length_drop];omega)
   ·rw[if_neg (by omega)]
    refine .inr ⟨b,o+i*size,by rw[e];simp only[Option.map_some,kp],fun j u hu=> ?_⟩
    rw[List.getElem?_drop] at hu
    rw[Nat.add_assoc]
    exact g _ u hu
theorem a6.take(E:eR P size)(h:cF A l.length c)(q:a5 P size R A l)(n:i≤l.length){m:Nat}(v:m=c∨m=i):a6 P size R (sliced A 0 i m size) (l.take i):=by
 obtain⟨xs,d,g⟩:=q
 obtain⟨s,t,h3,f⟩:=h
 have a:(l.take i).length=i:=by rw[List.length_take];omega
 refine⟨if m=0 then A else A.map (·.add (0*size)),m,by unfold sliced;rw[a];rfl,⟨by rw[a];omega,by omega,by rw[a];omega,fun e=> ?_⟩,xs.take (i*size),⟨by rw[List.length_take,a,d.1];exact Nat.min_eq_left (Nat.mul_le_mul_right _ n),?_⟩,(g.cut E i).1⟩
 ·have:A=none:=by
   split at e
   ·exact e
   ·simpa using e
  have:=f this
  omega
 ·rw[a]
  rcases d.2 with r|⟨b,o,e,k⟩
  ·exact .inl (by omega)
  ·by_cases p:i=0
   ·exact .inl p
   ·rw[if_neg (by omega)]
    refine .inr ⟨b,o,by rw[e];simp only[Option.map_some,kp,Nat.zero_mul,Nat.add_zero],fun j u hu=> ?_⟩
    rw[List.getElem?_take] at hu
    split at hu
    ·exact k _ u hu
    ·cases hu
end
def dL {α:Type} (P:World→α→List Value→Prop) (size:Nat) (R:World) (A:Option Addr) (l:List α) (cap:Nat) (xs:List Value):Prop:=aL P R l xs∧Src R size A l.length xs∧l.length≤cap∧cap≤9223372036854775807∧(A=none→cap=0)
theorem dL.nil{α:Type}{P:Wd→α→LV→Prop}{size:Nat}{R:Wd}:dL P size R none [] 0 []:=⟨gr,⟨by simp,.inl rfl⟩,Nat.le_refl _,by decide,fun _=>rfl⟩
def mA (F:FuncId) (args:List Value) (r:bU) (R:World) (eP:Value→bU→World→Prop):Prop:=Spec F (args.map .val) [] [r] R fun v _ ts R'=>∃a,ts=[a]∧eP v a R'
theorem vS{c:Code}(e:prog.funcs[bk]?=some dx)(d:dx.body=some c)(f:dx.ntmps=ae)(b:Nat.ble aj.length ae=true)
 (g:ij 0 (ik (aj.map .val) 0)=true) (h:∀(w:Wd) (G:Nat→Prop) (ad:Nat→Nat),V ⟨ae,w,ah,G,0,ad⟩ c (bodyPost prog dx (End ⟨ae,w,ah,G,0,ad⟩ fun v _ ts R'=>∃a,ts=[a]∧pB v a R')) ⟨ik (aj.map .val) 0,[],[fV]⟩ ah):mA bk aj fV ah pB:=
 sM e d f (by rw[List.length_map];exact Nat.le_of_ble_eq_true b) rfl g h
theorem kC{rw:List bU}{d:Nat}(g:mA bk aj fV ah pB)(e:aF bk)(i:fb ⟨bu,aS,fV::rw⟩ c8 (aj.map .val))(f:Nat.blt d hB.N=true)
 (k:∀v a R',Sub ah R'→pB v a R'→VL hB dk dy gb ⟨(d,.val v)::bu,aS,a::rw⟩ R'):VL hB dk dy (⟨some d,.call {callee:= .value (.func bk),args:=c8,argTypes:=fi},aH,kx,ky,none⟩::gb) ⟨bu,aS,fV::rw⟩ ah:=
 uY (S:=⟨bu,aS,fV::rw⟩) (ts:=[fV]) (rs:=rw) g e i rfl (dn f) (fun v j R' b c=>by obtain⟨a,rfl,h⟩:=b;exact k v a R' c h)
end Go.Proofs.YthnogncknmhgoaaGreat.Vm
namespace Go.Proofs.YthnogncknmhgoaaGreat.Vm
open ChangeShapes WideShapes ChangeAt RowKit bq Data Lx
variable{aY:BA}{aM:Ex}{aj bj:LV}{cv:List Ex}{ak:Md}{bC:Ty}{az:Vl}{ah:Wd}
theorem zU:aF 88:=by unfold aF;kernel_rfl
theorem Gv:aF 103:=by unfold aF;kernel_rfl
theorem kD:aO []=0:=by simp[aO]
theorem tu(e:Ex)(r:List Ex):aO (e::r)=e.size+aO r:=by rw[aO]
theorem Gw{k n l c:Int}:(Ex.mk k aY n cv l c).size≤(Ex.mk k aY n cv l c).size∧aO []+1≤(Ex.mk k aY n cv l c).size:=by
 rw[kD,Ex.size_mk];omega
theorem Gx{k n l c:Int}{x:Ex}(h:0<cv.length)(a:x=cv[0]'h):x.size≤(Ex.mk k aY n cv l c).size∧aO (cv.drop 1)+1≤(Ex.mk k aY n cv l c).size:=by
 cases cv with
 |nil=>simp at h
 |cons y r=>
  simp only[List.getElem_cons_zero] at a
  subst a
  rw[Ex.size_mk,tu,List.drop_succ_cons,List.drop_zero]
  omega
theorem Gy(N:Nat):∀{R:Wd} {h:LV} {m:Md} (D:Md.Cs R m h) {j:LV} {t:Ty} (F:Ty.Cs R t j) {y:Vl} {i:List BA} (C:a6 b7 1 R y i) (o:m.Ok) (A:t.size≤N),bd 88 [.agg h.toArray,.agg j.toArray,y] R (fun v R'=>∃(b:Bool),v= .bool b):=by
 induction N with
 |zero=>
  intros
  cases ‹Ty›;rw[Ty.size_mk] at*;omega
 |succ N aa=>
  intro R h m D j t F y i C o A
  obtain⟨ar,aD⟩:=m
  obtain⟨ae,al,ag,an,rfl,l,q,n,r⟩:=D
  obtain⟨x,st,ac,c⟩:=t
  obtain⟨aj,ap,rfl,X,u⟩:=F
  obtain⟨af,am,rfl,B,E⟩:=C
  dsimp only at l q n r
  replace u:=a8.1 u
  refine b5 func88 rfl ntmps88 rfl rfl fun w G ad=> ?_
  refine sV 15 rfl ?_
  cases aw:(x==1)
  refine rV 5 rfl ?_
  refine bZ mixed (fun k=>k==0||k==1) fun aq=> ?_
  refine bL [0,1,2,3] rfl (by kernel_rfl) id ?_
  cases ay:(x !=2)
  refine bL [4,5,6,8,9,10] rfl (by kernel_rfl) id (a7 [7] (by kernel_rfl) rfl ?_)
  refine q5 rfl rfl rfl rfl (Gs (ez l q n r) st o) Gv rfl rfl ?_ bf
  rintro _ z f ⟨ab,rfl⟩
  refine bL [11,12] rfl (by kernel_rfl) id (bS (by kernel_rfl) (rD 1 rfl ?_))
  cases az:(ab !=(c.length:Int))
  refine rV 13 rfl ?_
  have av:c.length≤490000000:=(X).2.2.1
  refine lK (ι:=Wd×Bool×Nat) [2,3,30,31] 2 rfl (fun(e,g,a)=>(⟨[(6,.val (.bool g)),(32,.val (zI a))],[],[]⟩,e,Sub z e∧a≤c.length,c.length -a)) (z,false,0) rfl rfl [] rfl ?_ ?_
  exact⟨sR,b2 _⟩
  rintro⟨e,g,a⟩ ⟨d,_⟩
  show V _ _ _ ⟨_,_,_⟩ e
  refine rV 6 rfl ?_
  cases T:(decide ((a:Int)<(c.length:Int)))
  refine rV 12 rfl ?_
  exact cH results88 (aT rfl) ⟨rfl,true,rfl⟩
  have p:=cX T
  refine rV 7 rfl ?_
  obtain⟨ak,aB,_,Q,⟨H,J,I,K⟩,S,⟨ah,ao,rfl,W,s⟩,U⟩:=cn a2 (aC a2 u (ai f d)) a p
  replace s:=a8.1 s
  refine vp (a3 Q rfl rfl p e6) rfl (vp (cl rfl U rfl) rfl (rL 9 rfl ?_))
  have aA:(.mk H J I K:Ty).size+1≤(.mk x st ac c:Ty).size:=by have P:=jV p;rw[←S] at P;rw[Ty.size_mk (ys:=c)];omega
  have Z:(.mk H J I K:Ty).size≤N:=by have au:=A;omega
  refine cN (aa (ez l (aC eI q (ai f d)) n (aC dt r (ai f d))) (aP W s) (dp B (aC bT E (ai f d))) o Z) zU rfl rfl ?_
  rintro _ L Y ⟨M,rfl⟩
  refine rL 3 rfl ?_
  cases ax:(M)
  refine rV 12 rfl (ww 1 ?_)
  rotate_left
  refine rV 5 rfl (vp (bA rfl rfl (by omega)) rfl (rL 2 rfl ?_))
  refine dR (L,g,a+1) rfl rfl [] rfl ?_ ?_
  exact⟨d.trans Y,by omega⟩
  (try dsimp only);omega
  refine rV 8 rfl (ww 1 ?_)
  rotate_left
  refine bL [4,5,6,7,8,9,10,11,12] rfl (by kernel_rfl) id (bS (by kernel_rfl) (rD 9 rfl (ww 1 ?_)))
  rotate_left
  refine rV 6 rfl ?_
  refine be (jE (dp B E) st) ji rfl rfl ?_
  rintro _ ⟨O,rfl⟩
  refine rL 5 rfl ?_
  exact cH results88 (aT rfl) ⟨rfl,O,rfl⟩
  any_goals
   refine uw 1 ?_
   exact cH results88 (aT rfl) ⟨rfl,false,rfl⟩
theorem Gz(d:Md.Cs ah ak aj)(e:Ty.Cs ah bC bj){i:List BA}(a:a6 b7 1 ah az i)(c:ak.Ok):bd 88 [.agg aj.toArray,.agg bj.toArray,az] ah (fun v R'=>∃(b:Bool),v= .bool b):=Gy _ d e a c (a9 _)
theorem GA(m:Ex.Cs ah aM aj):bd 89 [.agg aj.toArray] ah (fun v R'=>R'=ah∧∃(r:Ex) (c:LV) (e:Vl) (l:List Ex),v= .tuple #[.agg c.toArray,e]∧Ex.Cs ah r c∧a6 Ex.Cs 6 ah e l∧(r.size≤aM.size∧aO l+1≤aM.size)):=by
 obtain⟨s,O,ne,t,K,E⟩:=aM
 obtain⟨y,C,rfl,d,a⟩:=m
 replace a:=c9.1 a
 try dsimp only
 refine b5 func89 rfl ntmps89 rfl rfl fun w G ad=> ?_
 refine sV 14 rfl ?_
 cases F:(s==4)
 refine rL 18 rfl (ww 1 ?_)
 rotate_left
 refine rL 7 rfl ?_
 cases h:(decide ((t.length:Int)>0))
 refine rV 11 rfl (ww 1 ?_)
 rotate_left
 have H:=of_decide_eq_true h
 refine rV 2 rfl ?_
 refine bZ mixed (fun k=>k==0) fun aq=> ?_
 refine bL [0,1] rfl (by kernel_rfl) id ?_
 obtain⟨z,M,_,f,⟨I,N,L,P,J,D⟩,g,⟨x,B,rfl,o,b⟩,j⟩:=cn bM a 0 (by omega)
 replace b:=c9.1 b
 refine vt 2 rfl (a3 (i:=0) f rfl rfl (by omega) cZ) rfl (by kernel_rfl) id (vt 3 rfl (cl rfl j rfl) rfl (by kernel_rfl) id (bL [4,5] rfl (by kernel_rfl) id ?_))
 obtain⟨u,A,q,n,p⟩:=a6.drop (i:=1) bM d a (by omega)
 refine vt 6 rfl (od (i:=1) rfl rfl (by omega) cZ q) rfl (by kernel_rfl) id (bL [1007,8] rfl (by kernel_rfl) id (bS (by kernel_rfl) (rD 3 rfl ?_)))
 exact cB results89 (aK rfl rfl cY) (aT rfl) ⟨rfl,rfl,_,_,_,_,rfl,(de o b),(dp n p),Gx (by omega) g⟩
 any_goals
  refine uw 1 ?_
  exact cB results89 (aK rfl rfl cY) (aT rfl) ⟨rfl,rfl,_,_,_,_,rfl,(de d a),(a6.nil:a6 Ex.Cs 6 _ _ ([]:List Ex)),Gw⟩
end Go.Proofs.YthnogncknmhgoaaGreat.Vm
