/- Lemmas for ModelOrs (5 of 15). No conditions. -/
import Derived.Test.YthnogncknmhgoaaGreatM3
set_option linter.all false
set_option maxRecDepth 100000
set_option maxHeartbeats 485000000
open Go.Proofs.Tryz
namespace Go.Proofs.YthnogncknmhgoaaGreat.Vm
open ChangeShapes WideShapes ChangeAt RowKit bq Data Lx
variable{aM:Ex}{vP:Fa}{aj bj og vV:LV}{ec:List BA}{oc:List Dt}{cC:List Int}{b4:List Ty}{ae:Nat}{aA:OA}{bC fC:Ty}{az cM:Vl}{ah:Wd}
theorem oe:aF 14:=by unfold aF;kernel_rfl
theorem q6:aF 39:=by unfold aF;kernel_rfl
theorem jk:aF 40:=by unfold aF;kernel_rfl
theorem vT:aF 42:=by unfold aF;kernel_rfl
theorem GB(N:Nat):∀{R:Wd} {ao:LV} {m:Md} (a1:Md.Cs R m ao) {an:LV} {f:Fa} (aY:Fa.Cs R f an) {aA:Vl} {o:List BA} (aU:a6 b7 1 R aA o) {am:LV} {e:Ex} (aX:Ex.Cs R e am) (P:m.Ok) (A:o.length+e.size≤1000000) (ap:e.size≤N),bd 14 [.agg ao.toArray,.agg an.toArray,aA,.agg am.toArray] R (fun v R'=>∃(r:Fa) (aO:LV),v= .agg aO.toArray∧Fa.Cs R' r aO):=by
 induction N with
 |zero=>
  intros
  cases ‹Ex›;rw[Ex.size_mk] at*;omega
 |succ N a2=>
  intro R ao m a1 an f aY aA o aU am e aX P A ap
  obtain⟨cg,cM⟩:=m
  obtain⟨bX,b6,bY,b8,rfl,B,D,C,E⟩:=a1
  obtain⟨Z,af,ab⟩:=f
  obtain rfl:=aY
  obtain⟨bW,b4,rfl,O,Q⟩:=aU
  obtain⟨b,a,ne,d,i,g⟩:=e
  obtain⟨X,aa,rfl,bv,ar⟩:=aX
  dsimp only at B D C E
  replace ar:=c9.1 ar
  refine b5 func14 rfl ntmps14 rfl rfl fun w G ad=> ?_
  refine sV 21 rfl ?_
  refine cK (ι:=Bool) [2,4,5,7,8,9] 4 rfl (fun(ax)=>(⟨[(10,.val (.bool ax))],[],[]⟩,R,True)) ?_ ?_
  refine rV 7 rfl ?_
  refine cK (ι:=Bool) [2,4,5,7,8,9,10,22] 4 rfl (fun(ay)=>(⟨[(23,.val (.bool ay))],[],[]⟩,R,True)) ?_ ?_
  refine rV 6 rfl ?_
  cases ck:(b==1)
  refine rV 7 rfl ?_
  cases cq:(b==2)
  refine rV 5 rfl ?_
  exact dC ((b==3)) rfl rfl [] rfl (trivial)
  refine rV 2 rfl ?_
  exact dC (true) rfl rfl [] rfl (trivial)
  refine rV 2 rfl ?_
  exact dC (true) rfl rfl [] rfl (trivial)
  rintro ay -
  show V _ _ _ ⟨_,_,_⟩ R
  cases cs:(ay)
  refine rV 7 rfl ?_
  cases ct:(b==4)
  refine rV 7 rfl ?_
  cases cu:(b==8)
  refine rV 1 rfl ?_
  refine cK (ι:=Bool) [2,4,5,7,8,9,10,22] 4 rfl (fun(az)=>(⟨[(37,.val (.bool az))],[],[]⟩,R,True)) ?_ ?_
  refine rV 6 rfl ?_
  cases cx:(b==5)
  refine rV 5 rfl ?_
  exact dC ((b==7)) rfl rfl [] rfl (trivial)
  refine rV 2 rfl ?_
  exact dC (true) rfl rfl [] rfl (trivial)
  rintro az -
  show V _ _ _ ⟨_,_,_⟩ R
  cases cA:(az)
  refine rV 7 rfl ?_
  cases cB:(b==6)
  refine rV 5 rfl ?_
  exact dC (false) rfl rfl [] rfl (trivial)
  refine rV 7 rfl ?_
  exact dC (((d.length:Int)==3)) rfl rfl [] rfl (trivial)
  refine rV 7 rfl ?_
  exact dC (((d.length:Int)==2)) rfl rfl [] rfl (trivial)
  refine rV 7 rfl ?_
  exact dC (((d.length:Int)==1)) rfl rfl [] rfl (trivial)
  refine rV 7 rfl ?_
  exact dC ((decide ((d.length:Int)≥2))) rfl rfl [] rfl (trivial)
  refine rV 7 rfl ?_
  exact dC (((d.length:Int)==0)) rfl rfl [] rfl (trivial)
  rintro ax -
  show V _ _ _ ⟨_,_,_⟩ R
  refine rV 7 rfl ?_
  cases cC:(ax)
  refine rV 6 rfl ?_
  refine be (jj (fu (bad:=Z) (l:=af) (c:=ab)) true (hR (l:=i) (c:=g))) jk rfl rfl ?_
  rintro _ ⟨⟨F,H,I⟩,_,rfl,rfl⟩
  refine rL 5 rfl (ww 9 ?_)
  rotate_left
  refine rV 3 rfl ?_
  refine cK (ι:=Bool×Int×Int) [2,4,5,7,8,9] 1 rfl (fun(ah,aj,ak)=>(⟨[],[(58,[.bool ah,zI aj,zI ak]),(31,[zI b,.string a,zI ne,.slice X d.length aa,zI i,zI g]),(58,[.bool false,zI 0,zI 0])],[]⟩,R,True)) ?_ ?_
  refine rV 7 rfl ?_
  cases cm:(b==1)
  refine rV 2 rfl ?_
  exact dC (Z,af,ab) rfl rfl [] rfl (trivial)
  refine rV 1 rfl ?_
  refine bZ mixed (fun k=>k==0||k==2) fun aq=> ?_
  refine bL [1,2,3,13,14] rfl (by kernel_rfl) id (a7 [0,4] (by kernel_rfl) rfl ?_)
  refine av rfl ?_ ?_
  refine a7 [4] (by kernel_rfl) rfl ?_
  refine dK rfl (q3 (ez B D C E) a) q6 rfl rfl ?_ bf
  rintro _ _ _ ⟨rfl,⟨bK,rfl⟩⟩
  refine bL [5,6] rfl (by kernel_rfl) id ?_
  cases co:(decide (bK<0))
  refine bL [7,8,9,10,11,12] rfl (by kernel_rfl) id (a7 [15] (by kernel_rfl) rfl (ww 6 ?_))
  rotate_left
  refine bL [7,8,9] rfl (by kernel_rfl) id (a7 [10] (by kernel_rfl) rfl (ww 5 ?_))
  rotate_left
  refine dK rfl (q3 (ez B D C E) a) q6 rfl rfl ?_ bf
  rintro _ _ _ ⟨rfl,⟨bN,rfl⟩⟩
  refine bL [5,6] rfl (by kernel_rfl) id ?_
  cases cp:(decide (bN<0))
  refine bL [7,8,9,10,11,12,1000] rfl (by kernel_rfl) id (a7 [15] (by kernel_rfl) rfl (ww 6 ?_))
  rotate_left
  refine bL [7,8,9] rfl (by kernel_rfl) id (a7 [0,10] (by kernel_rfl) rfl ?_)
  refine av rfl ?_ ?_
  refine a7 [10] (by kernel_rfl) rfl (ww 5 ?_)
  rotate_left
  refine q5 rfl rfl rfl rfl (jE (dp O Q) a) ji rfl rfl ?_ bf
  rintro _ _ _ ⟨rfl,⟨aN,rfl⟩⟩
  refine bL [11,12,1000] rfl (by kernel_rfl) id (a7 [15] (by kernel_rfl) rfl (ww 7 ?_))
  rotate_left
  rintro⟨ah,aj,ak⟩ -
  show V _ _ _ ⟨_,_,_⟩ R
  refine cK (ι:=Wd×Bool×Int×Int) [2,4,5,7,8,9] 1 rfl (fun(Y,aB,aD,aE)=>(⟨[],[(58,[.bool aB,zI aD,zI aE]),(31,[zI b,.string a,zI ne,.slice X d.length aa,zI i,zI g]),(58,[.bool false,zI 0,zI 0])],[]⟩,Y,Sub R Y)) ?_ ?_
  refine rV 7 rfl ?_
  cases cr:(b==2)
  refine rV 2 rfl ?_
  exact dC (R,ah,aj,ak) rfl rfl [] rfl (sR)
  refine rV 6 rfl ?_
  refine cN (vO (ez B D C E) a P) vT rfl rfl ?_
  rintro _ a4 bz ⟨bO,cI,rfl⟩
  refine rL 13 rfl ?_
  refine be (jj (fu (bad:=ah) (l:=aj) (c:=ak)) (bO !=0) (hR (l:=i) (c:=g))) jk rfl rfl ?_
  rintro _ ⟨⟨bb,bH,bj⟩,_,rfl,rfl⟩
  refine rL 2 rfl ?_
  exact dC (a4,bb,bH,bj) rfl rfl [] rfl (bz)
  rintro⟨Y,aB,aD,aE⟩ t
  show V _ _ _ ⟨_,_,_⟩ Y
  refine rV 1 rfl ?_
  refine bZ mixed (fun k=>k==2) fun aq=> ?_
  refine bL [0,2,3] rfl (by kernel_rfl) id ?_
  refine mo 9 1 ?_
  refine a7 [1,4] (by kernel_rfl) rfl ?_
  obtain⟨aJ,bF,aW⟩:=(aC bT Q t)
  refine fW (news:=aJ) rfl gY rfl rfl bF O.2.2.2 (aL.one bT aW) (n1:=o.length) (by(try simp only[ll])<;>omega) (by have z:=A;have s:=fh b a ne d i g;(try simp only[ll]);omega) rfl rfl ?_ ?_
  intro bU ce a5 p _ _ _ _
  have bx:aL b7 a5 o ([]++aJ):=bg bT p (aW)
  refine a7 [4] (by kernel_rfl) rfl ?_
  refine eW fy rfl ?_ bf
  intro ci aM n bu
  refine iJ ?_
  refine a7 [5] (by kernel_rfl) rfl ?_
  refine fW (news:=[.string a]) rfl gY rfl rfl (cd rfl bu) (fun h=>by cases h) (fun u hu=>bT.one (show b7 aM a [_] from rfl) u hu) (n1:=(o++ [a]).length) (by(try simp only[ll])<;>omega) (by have z:=A;have s:=fh b a ne d i g;(try simp only[ll]);omega) rfl rfl ?_ bf
  intro bV cf J q aQ aR aS aT
  have a0:aL b7 J (o++ [a]) (([]++aJ)++ [.string a]):=bg bT q (c6 (bg bT n bx) (c4 (show b7 aM a [_] from rfl)))
  refine ww 1 ?_
  rotate_left
  refine eW fy rfl ?_ bf
  intro ch b1 p bt
  refine mo 9 1 ?_
  refine a7 [1] (by kernel_rfl) rfl ?_
  obtain⟨aI,bE,aV⟩:=(aC bT Q (ai t p))
  refine fW (news:=aI) rfl gY rfl rfl bE O.2.2.2 (aL.one bT aV) (n1:=o.length) (by(try simp only[ll])<;>omega) (by have z:=A;have s:=fh b a ne d i g;(try simp only[ll]);omega) rfl rfl ?_ bf
  intro bQ ca al n _ _ _ _
  have bw:aL b7 al o ([]++aI):=bg bT n (aV)
  refine a7 [5] (by kernel_rfl) rfl ?_
  refine fW (news:=[.string a]) rfl gY rfl rfl (cd rfl (fun j u hu=>n _ _ _ (bt j u hu))) (fun h=>by cases h) (fun u hu=>bT.one (show b7 al a [_] from rfl) u hu) (n1:=(o++ [a]).length) (by(try simp only[ll])<;>omega) (by have z:=A;have s:=fh b a ne d i g;(try simp only[ll]);omega) rfl rfl ?_ bf
  intro bR cc J q aQ aR aS aT
  have a0:aL b7 J (o++ [a]) (([]++aI)++ [.string a]):=bg bT q (c6 bw (c4 (show b7 al a [_] from rfl)))
  refine ww 1 ?_
  rotate_left
  any_goals
   refine uw 1 ?_
   refine bL [6] rfl (by kernel_rfl) id (bS (by kernel_rfl) (rD 11 rfl ?_))
   have cj:d.length≤490000000:=(bv).2.2.1
   refine lK (ι:=Wd×Nat×Bool×Int×Int) [2,4,5,7,8,9,13,94,95] 1 rfl (fun(L,y,F,H,I)=>(⟨[(96,.val (zI y))],[(58,[.bool F,zI H,zI I]),(31,[zI b,.string a,zI ne,.slice X d.length aa,zI i,zI g]),(58,[.bool false,zI 0,zI 0])],[]⟩,L,Sub J L∧y≤d.length,d.length -y)) (J,0,aB,aD,aE) rfl rfl [] rfl ?_ ?_
   exact⟨sR,b2 _⟩
   rintro⟨L,y,F,H,I⟩ ⟨x,_⟩
   show V _ _ _ ⟨_,_,_⟩ L
   refine rV 6 rfl ?_
   cases bn:(decide ((y:Int)<(d.length:Int)))
   refine rV 13 rfl (ww 9 ?_)
   rotate_left
   have ac:=cX bn
   refine rV 3 rfl ?_
   refine cK (ι:=Wd×Bool×Int×Int) [2,4,5,7,8,9,13,94,95,96] 1 rfl (fun(K,aF,aG,aH)=>(⟨[],[(58,[.bool aF,zI aG,zI aH]),(31,[zI b,.string a,zI ne,.slice X d.length aa,zI i,zI g]),(58,[.bool false,zI 0,zI 0])],[]⟩,K,Sub L K)) ?_ ?_
   refine rV 4 rfl ?_
   obtain⟨b3,cL,_,bm,⟨S,U,ag,W,T,M⟩,aP,⟨b0,b9,rfl,aZ,ae⟩,bs⟩:=cn bM (aC bM ar (ai (ai (ai (ai t p) n) q) x)) y ac
   replace ae:=c9.1 ae
   refine vp (a3 bm rfl rfl ac cZ) rfl (vp (cl rfl bs rfl) rfl (rL 12 rfl ?_))
   cases bo:(b==4)
   refine rL 24 rfl (ww 2 ?_)
   rotate_left
   have cD:=cb bo
   refine rL 4 rfl ?_
   cases bp:((y:Int)==0)
   refine rL 20 rfl (ww 2 ?_)
   rotate_left
   have cE:=cb bp
   refine rL 5 rfl ?_
   cases cv:(S==2)
   refine rL 15 rfl (ww 2 ?_)
   rotate_left
   refine rL 8 rfl ?_
   cases cw:((W.length:Int)==0)
   refine rV 7 rfl (ww 2 ?_)
   rotate_left
   refine rV 6 rfl ?_
   refine cN (vO (ez B (aC eI D (ai (ai (ai (ai t p) n) q) x)) C (aC dt E (ai (ai (ai (ai t p) n) q) x))) U P) vT rfl rfl ?_
   rintro _ a8 bB ⟨bP,cJ,rfl⟩
   refine rL 11 rfl (vp (h0 (c:=((d.length -1:Nat):Int)) rfl rfl (by omega) (by omega) (by omega)) rfl (rL 3 rfl ?_))
   refine be (jj (fu (bad:=F) (l:=H) (c:=I)) (bP !=((d.length -1:Nat):Int)) (hR (l:=T) (c:=M))) jk rfl rfl ?_
   rintro _ ⟨⟨bc,bI,bk⟩,_,rfl,rfl⟩
   refine rL 4 rfl ?_
   exact dC (a8,bc,bI,bk) rfl rfl [] rfl (bB)
   rintro⟨K,aF,aG,aH⟩ bD
   show V _ _ _ ⟨_,_,_⟩ K
   refine rV 1 rfl (vp (bA rfl rfl (by omega)) rfl (rL 2 rfl ?_))
   refine dR (K,y+1,aF,aG,aH) rfl rfl [] rfl ?_ ?_
   exact⟨x.trans bD,by omega⟩
   (try dsimp only);omega
  any_goals
   refine uw 2 ?_
   cases bq:(b==8)
   refine rL 4 rfl ?_
   cases br:(b==7)
   refine rL 13 rfl (ww 4 ?_)
   rotate_left
   have cG:=cb br
   refine rL 7 rfl ?_
   cases cy:((y:Int)==1)
   refine rV 6 rfl (ww 4 ?_)
   rotate_left
   refine rV 6 rfl (ww 3 ?_)
   rotate_left
   have cF:=cb bq
   refine rL 17 rfl (ww 3 ?_)
   rotate_left
  any_goals
   refine uw 3 ?_
   have au:(.mk S U ag W T M:Ex).size+1≤(.mk b a ne d i g:Ex).size:=by have s:=oX ac;rw[←aP] at s;rw[Ex.size_mk (ys:=d)];omega
   have aw:(.mk S U ag W T M:Ex).size≤N:=by have z:=ap;omega
   refine cN (a2 (ez B (aC eI D (ai (ai (ai (ai t p) n) q) x)) C (aC dt E (ai (ai (ai (ai t p) n) q) x))) (fu (bad:=F) (l:=H) (c:=I)) (dp ⟨aQ,aR,by have z:=A;have s:=fh b a ne d i g;(try simp only[ll]);omega,aS⟩ (aC bT (cz aT a0) x)) (de aZ ae) P (by have s:=au;have z:=A;(try simp only[ll]);omega) aw) oe rfl rfl ?_
   refine ww 10 ?_
   rotate_left
  any_goals
   refine uw 4 ?_
   have au:(.mk S U ag W T M:Ex).size+1≤(.mk b a ne d i g:Ex).size:=by have s:=oX ac;rw[←aP] at s;rw[Ex.size_mk (ys:=d)];omega
   have aw:(.mk S U ag W T M:Ex).size≤N:=by have z:=ap;omega
   refine cN (a2 (ez B (aC eI D (ai (ai (ai (ai t p) n) q) x)) C (aC dt E (ai (ai (ai (ai t p) n) q) x))) (fu (bad:=F) (l:=H) (c:=I)) (dp O (aC bT Q (ai (ai (ai (ai t p) n) q) x))) (de aZ ae) P (by have s:=au;have z:=A;(try simp only[ll]);omega) aw) oe rfl rfl ?_
   refine ww 10 ?_
   rotate_left
  any_goals
   refine uw 5 ?_
   refine q5 rfl rfl rfl rfl (jE (dp O Q) a) ji rfl rfl ?_ bf
   rintro _ _ _ ⟨rfl,⟨aN,rfl⟩⟩
   refine bL [11,12] rfl (by kernel_rfl) id (a7 [15] (by kernel_rfl) rfl (ww 7 ?_))
   rotate_left
  any_goals
   refine uw 6 ?_
   refine dK rfl (jj (fu (bad:=Z) (l:=af) (c:=ab)) false (hR (l:=i) (c:=g))) jk rfl rfl ?_ bf
   refine ww 8 ?_
   rotate_left
  any_goals
   refine uw 7 ?_
   refine dK rfl (jj (fu (bad:=Z) (l:=af) (c:=ab)) (!aN) (hR (l:=i) (c:=g))) jk rfl rfl ?_ bf
   refine ww 8 ?_
   rotate_left
  any_goals
   refine uw 8 ?_
   rintro _ _ _ ⟨rfl,⟨⟨ba,bG,bi⟩,_,rfl,rfl⟩⟩
   refine bL [1016] rfl (by kernel_rfl) id (bS (by kernel_rfl) ?_)
   exact dC (ba,bG,bi) rfl rfl [] rfl (trivial)
  any_goals
   refine uw 9 ?_
   exact cH results14 (aK rfl rfl nf) ⟨rfl,_,_,rfl,(fu (bad:=F) (l:=H) (c:=I))⟩
  any_goals
   refine uw 10 ?_
   rintro _ a9 bC ⟨⟨bh,bJ,bl⟩,_,rfl,rfl⟩
   refine rL 4 rfl ?_
   exact dC (a9,bh,bJ,bl) rfl rfl [] rfl (bC)
variable{ak:Md}
theorem q7(g:Md.Cs ah ak aj)(e:Fa.Cs ah vP bj)(c:a6 b7 1 ah az ec)(d:Ex.Cs ah aM og)(f:ak.Ok)(b:ec.length+aM.size≤1000000):bd 14 [.agg aj.toArray,.agg bj.toArray,az,.agg og.toArray] ah (fun v R'=>∃(r:Fa) (a:LV),v= .agg a.toArray∧Fa.Cs R' r a):=GB _ g e c d f b (a9 _)
theorem vU:aF 66:=by unfold aF;kernel_rfl
theorem GC:aF 89:=by unfold aF;kernel_rfl
theorem eJ:∀(l:List Ex) (j:Nat),aO (l.take j)≤aO l
 |[],j=>by simp
 |e::r,0=>by rw[List.take_zero,kD];omega
 |e::r,j+1=>by rw[List.take_succ_cons,tu,tu];have:=eJ r j;omega
theorem GD(N:Nat):∀{R:Wd} {W:LV} {m:Md} (aR:Md.Cs R m W) {U:LV} {f:Fa} (aN:Fa.Cs R f U) {o:OA} {i:List BA} {t:Nat} {n:LV} (aP:dL b7 1 R o i t n) {S:LV} {e:Ex} (aM:Ex.Cs R e S) (ac:m.Ok) (y:i.length+e.size≤1000000) (aH:e.size≤N),mA 66 [.agg W.toArray,.agg U.toArray,.slice o i.length t,.agg S.toArray] ⟨.slice o i.length t,i.length,n,9,1⟩ R (fun v bQ R'=>∃(r:Fa) (aE:LV) (Al:OA) (l:List BA) (dA:Nat) (fc:LV),v= .tuple #[.agg aE.toArray,.slice Al l.length dA]∧bQ=⟨.slice Al l.length dA,l.length,fc,9,1⟩∧Fa.Cs R' r aE∧dL b7 1 R' Al l dA fc∧(l.length≤i.length+e.size)):=by
 induction N with
 |zero=>
  intros
  cases ‹Ex›;rw[Ex.size_mk] at*;omega
 |succ N bG=>
  intro R W m aR U f aN o i t n aP S e aM ac y aH
  obtain⟨b6,cq⟩:=m
  obtain⟨bW,b2,bY,b4,rfl,aa,ah,ab,aj⟩:=aR
  obtain⟨D,L,E⟩:=f
  obtain rfl:=aN
  obtain⟨H,am,ae,Y,X⟩:=aP
  obtain⟨an,ap,ne,aw,ao,T⟩:=e
  obtain⟨ax,aA,rfl,bw,al⟩:=aM
  dsimp only at aa ah ab aj
  replace al:=c9.1 al
  have cg:1≤(Ex.mk an ap ne aw ao T).size:=by rw[Ex.size_mk];omega
  refine vS func66 rfl ntmps66 rfl rfl fun w G ad=> ?_
  refine sV 12 rfl ?_
  refine be (GA (de bw al)) GC rfl rfl ?_
  rintro _ ⟨⟨K,a,aW,aX,A,x⟩,_,_,g,rfl,⟨ay,aB,rfl,_,aS⟩,⟨bX,b3,rfl,bu,bB⟩,ci⟩
  replace aS:=c9.1 aS
  refine rL 16 rfl ?_
  cases ce:(K==1)
  refine rV 3 rfl ?_
  refine cK (ι:=Wd×Bool×Int×Int) [2,4,5,8,9,11] 1 rfl (fun(q,ar,au,av)=>(⟨[],[(58,[.bool ar,zI au,zI av]),(31,[zI an,.string ap,zI ne,.slice ax aw.length aA,zI ao,zI T]),(58,[.bool false,zI 0,zI 0]),(31,[zI K,.string a,zI aW,.slice ay aX.length aB,zI A,zI x])],[⟨.slice o i.length t,i.length,n,9,1⟩]⟩,q,Sub R q)) ?_ ?_
  refine rV 7 rfl ?_
  cases cf:(K==2)
  refine rV 2 rfl ?_
  exact dC (R,D,L,E) rfl rfl [1] rfl (sR)
  refine rV 6 rfl ?_
  refine cN (vO (ez aa ah ab aj) a ac) vT rfl rfl ?_
  rintro _ a1 bD ⟨bO,co,rfl⟩
  refine rL 15 rfl ?_
  refine be (jj (fu (bad:=D) (l:=L) (c:=E)) (bO !=(g.length:Int)) (hR (l:=A) (c:=x))) jk rfl rfl ?_
  rintro _ ⟨⟨a9,bK,bd⟩,_,rfl,rfl⟩
  refine rL 2 rfl ?_
  exact dC (a1,a9,bK,bd) rfl rfl [1] rfl (bD)
  rintro⟨q,ar,au,av⟩ z
  show V _ _ _ ⟨_,_,_⟩ q
  refine rV 9 rfl ?_
  have cc:g.length≤490000000:=(bu).2.2.1
  refine lK (ι:=Wd×Nat×Bool×Int×Int×List BA×LV×OA×Nat) [4,5,8,9,55,56] 1 rfl (fun(s,b,M,O,P,d,B,p,j)=>(⟨[(2,.val (.slice p d.length j)),(57,.val (zI b))],[(58,[.bool M,zI O,zI P]),(31,[zI an,.string ap,zI ne,.slice ax aw.length aA,zI ao,zI T]),(58,[.bool false,zI 0,zI 0]),(31,[zI K,.string a,zI aW,.slice ay aX.length aB,zI A,zI x])],[⟨.slice p d.length j,d.length,B,9,1⟩]⟩,s,Sub q s∧(aL b7 s d B∧Src s 1 p d.length B∧d.length≤j∧j≤9223372036854775807∧(p=none→j=0))∧b≤g.length∧True∧(d.length≤i.length+aO (g.take b)),g.length -b)) (q,0,ar,au,av,i,n,o,t) rfl rfl [1] rfl ?_ ?_
  exact⟨sR,⟨bg bT z H,eL am z,ae,Y,X⟩,Nat.zero_le _,trivial,(by simp)⟩
  rintro⟨s,b,M,O,P,d,B,p,j⟩ ⟨J,⟨aJ,aU,aQ,aI,aG⟩,_,_,ck⟩
  show V _ _ _ ⟨_,_,_⟩ s
  refine rV 6 rfl ?_
  cases bq:(decide ((b:Int)<(g.length:Int)))
  refine rV 15 rfl ?_
  exact qz results66 (aK rfl rfl nf) (aT rfl) (ts:=[⟨.slice p d.length j,d.length,B,9,1⟩]) (.cons_cons _ .slnil) ⟨_,rfl,_,_,_,_,_,_,rfl,rfl,(fu (bad:=M) (l:=O) (c:=P)),⟨aJ,aU,aQ,aI,aG⟩,by have cb:=eJ g b;omega⟩
  have af:=cX bq
  refine rV 7 rfl ?_
  obtain⟨b1,cp,_,bj,⟨bH,bR,bP,bV,bJ,bc⟩,bl,⟨b0,b5,rfl,bv,ak⟩,br⟩:=cn bM (aC bM bB (ai z J)) b af
  replace ak:=c9.1 ak
  refine vp (a3 bj rfl rfl af cZ) rfl (vp (cl rfl br rfl) rfl (rL 9 rfl ?_))
  have cm:aO (g.take (b+1))=aO (g.take b)+(.mk bH bR bP bV bJ bc:Ex).size:=by have aF:=gL af;rw[←bl] at aF;exact aF
  have ch:=eJ g (b+1)
  refine kC (bG (ez aa (aC eI ah (ai z J)) ab (aC dt aj (ai z J))) (fu (bad:=M) (l:=O) (c:=P)) ⟨aJ,aU,aQ,aI,aG⟩ (de bv ak) ac (by have F:=y;omega) (by have F:=aH;omega)) vU rfl rfl ?_
  rintro _ _ a2 bE ⟨⟨ba,bN,bh⟩,_,aZ,bI,bb,bU,rfl,rfl,rfl,⟨bt,bF,bz,bs,bk⟩,cj⟩
  refine rL 9 rfl (vp (bA rfl rfl (by omega)) rfl (rL 2 rfl ?_))
  refine dR (a2,b+1,ba,bN,bh,bI,bU,aZ,bb) rfl rfl [1] rfl ?_ ?_
  exact⟨J.trans bE,⟨bt,bF,bz,bs,bk⟩,by omega,trivial,by omega⟩
  (try dsimp only);omega
  refine rV 2 rfl ?_
  refine bZ mixed (fun k=>k==1||k==4) fun aq=> ?_
  refine bL [0,1,2,3,5,6,8,9,10] rfl (by kernel_rfl) id (a7 [4,11] (by kernel_rfl) rfl ?_)
  refine dK rfl (jE (dp ⟨ae,Y,by have F:=y;omega,X⟩ (cz am H)) a) ji rfl rfl ?_ ?_
  rintro _ a5 -⟨ag,⟨Q,rfl⟩⟩
  subst a5
  refine a7 [7,11] (by kernel_rfl) rfl ?_
  refine dK rfl (jj (fu (bad:=D) (l:=L) (c:=E)) Q (hR (l:=A) (c:=x))) jk rfl rfl ?_ ?_
  rintro _ a8 -⟨ag,⟨⟨az,aV,aD⟩,_,rfl,rfl⟩⟩
  subst a8
  refine a7 [11] (by kernel_rfl) rfl ?_
  refine eW fy rfl ?_ bf
  intro ca C I Z
  refine ww 2 ?_
  rotate_left
  refine eW fy rfl ?_ bf
  intro b8 C I Z
  refine ww 1 ?_
  rotate_left
  refine eW fy rfl ?_ bf
  intro b9 C I Z
  refine a7 [4] (by kernel_rfl) rfl ?_
  refine dK rfl (jE (dp ⟨ae,Y,by have F:=y;omega,X⟩ (aC bT (cz am H) I)) a) ji rfl rfl ?_ bf
  rintro _ a6 -⟨ag,⟨Q,rfl⟩⟩
  subst a6
  refine ww 1 ?_
  rotate_left
  any_goals
   refine uw 1 ?_
   refine a7 [7] (by kernel_rfl) rfl ?_
   refine dK rfl (jj (fu (bad:=D) (l:=L) (c:=E)) Q (hR (l:=A) (c:=x))) jk rfl rfl ?_ bf
   rintro _ a4 -⟨ag,⟨⟨az,aV,aD⟩,_,rfl,rfl⟩⟩
   subst a4
   refine ww 2 ?_
   rotate_left
  any_goals
   refine uw 2 ?_
   refine iJ ?_
   refine a7 [12] (by kernel_rfl) rfl ?_
   refine fW (news:=[.string a]) rfl gY rfl rfl (cd rfl Z) (fun h=>by cases h) (fun u hu=>bT.one (show b7 C a [_] from rfl) u hu) (n1:=(i++ [a]).length) (by(try simp only[ll])<;>omega) (by have F:=y;(try simp only[ll]);omega) rfl rfl ?_ bf
   intro aY bi a0 bC bm bn bo bp
   have bx:aL b7 a0 (i++ [a]) (n++ [.string a]):=bg bT bC (c6 (bg bT I H) (c4 (show b7 C a [_] from rfl)))
   refine bL [1013,14] rfl (by kernel_rfl) id (bS (by kernel_rfl) (rD 3 rfl ?_))
   exact qz results66 (aK rfl rfl nf) (aT rfl) (ts:=[⟨.slice aY (i++ [a]).length bi,(i++ [a]).length,(n++ [.string a]),9,1⟩]) (.cons_cons _ (.cons _ .slnil)) ⟨_,rfl,_,_,_,_,_,_,rfl,rfl,(fu (bad:=az) (l:=aV) (c:=aD)),⟨bx,bp,bm,bn,bo⟩,by simp only[ll];omega⟩
theorem zV(g:Md.Cs ah ak aj)(d:Fa.Cs ah vP bj){i:List BA}(e:dL b7 1 ah aA i ae og)(c:Ex.Cs ah aM vV)(f:ak.Ok)(b:i.length+aM.size≤1000000):mA 66 [.agg aj.toArray,.agg bj.toArray,.slice aA i.length ae,.agg vV.toArray] ⟨.slice aA i.length ae,i.length,og,9,1⟩ ah (fun v h R'=>∃(r:Fa) (a:LV) (Al:OA) (l:List BA) (dA:Nat) (fc:LV),v= .tuple #[.agg a.toArray,.slice Al l.length dA]∧h=⟨.slice Al l.length dA,l.length,fc,9,1⟩∧Fa.Cs R' r a∧dL b7 1 R' Al l dA fc∧(l.length≤i.length+aM.size)):=GD _ g d e c f b (a9 _)
def hl (l:List Dt):Nat:=(l.map fun d=>d.cs.length).sum
theorem zW{i:Nat}(h:i<oc.length):hl (oc.take (i+1))=hl (oc.take i)+(oc[i]).cs.length:=by
 rw[List.take_succ_eq_append_getElem h]
 unfold hl
 rw[List.map_append,List.sum_append]
 simp
theorem zX:∀(l:List Dt),hl l≤(l.map Dt.eo).sum
 |[]=>a9 _
 |d::r=>by
  have a:=zX r
  have b:=tr Cn.eo (fun x=>by unfold Cn.eo;omega) d.cs
  unfold hl at a⊢
  simp only[List.map_cons,List.sum_cons]
  have h3:d.eo=d.vs.length+(d.cs.map Cn.eo).sum+1:=rfl
  omega
theorem vW:∀(l:List Dt) (j:Nat),hl (l.take j)≤hl l
 |[],j=>by simp
 |d::r,0=>by simp[hl]
 |d::r,j+1=>by
  have:=vW r j
  unfold hl at this⊢
  simp only[List.take_succ_cons,List.map_cons,List.sum_cons]
  omega
theorem q8(h:ak.Ok)(j:Nat):hl (ak.ds.take j)≤100000:=by
 have a:=vW ak.ds j
 have b:=zX ak.ds
 unfold Md.Ok Md.eo at h
 omega
theorem GF(cm:Md.Cs ah ak aj)(o:ak.Ok):bd 65 [.agg aj.toArray] ah (fun v R'=>∃(r:Fa) (aO:LV),v= .agg aO.toArray∧Fa.Cs R' r aO):=by
 obtain⟨E,dj⟩:=ak
 obtain⟨cw,cI,cx,cJ,rfl,ar,ay,aY,ba⟩:=cm
 dsimp only at ar ay aY ba
 refine b5 func65 rfl ntmps65 rfl rfl fun w G ad=> ?_
 refine sV 13 rfl ?_
 refine et fy rfl ?_
 intro g1 cB aA cc
 refine rL 5 rfl ?_
 refine et fy rfl ?_
 intro bE P ac cf
 refine rL 13 rfl ?_
 refine fl _ (List.Perm.swap _ _ _) ?_
 have cR:E.length≤490000000:=(ar).2.2.1
 refine lK (ι:=Wd×Nat×Bool×Int×Int×List BA×LV×OA×Nat×List BA×LV×OA×Nat) [1,2,3,18,19] 2 rfl (fun(f,e,U,W,X,a,n,N,C,d,O,z,q)=>(⟨[(4,.val (.slice N a.length C)),(5,.val (.slice z d.length q)),(20,.val (zI e))],[(58,[.bool U,zI W,zI X])],[⟨.slice N a.length C,a.length,n,9,1⟩,⟨.slice z d.length q,d.length,O,9,1⟩]⟩,f,Sub P f∧(aL b7 f a n∧Src f 1 N a.length n∧a.length≤C∧C≤9223372036854775807∧(N=none→C=0))∧(aL b7 f d O∧Src f 1 z d.length O∧d.length≤q∧q≤9223372036854775807∧(z=none→q=0))∧e≤E.length∧True∧True∧(a.length≤e+2∧d.length≤hl (E.take e)+2),E.length -e)) (P,0,false,0,0,[(⟨#[73,110,116]⟩:BA),(⟨#[66,111,111,108]⟩:BA)],[.string ⟨#[73,110,116]⟩,.string ⟨#[66,111,111,108]⟩],(some ⟨g1,0,none⟩),2,[(⟨#[84,114,117,101]⟩:BA),(⟨#[70,97,108,115,101]⟩:BA)],[.string ⟨#[84,114,117,101]⟩,.string ⟨#[70,97,108,115,101]⟩],(some ⟨bE,0,none⟩),2) rfl rfl [1,1] rfl ?_ ?_
 exact⟨sR,⟨(aL.cons (show b7 P (⟨#[73,110,116]⟩:BA) [_] from rfl) (aL.single (show b7 P (⟨#[66,111,111,108]⟩:BA) [_] from rfl))),cd rfl (fun j u hu=>ac _ _ _ (cc j u hu)),by simp,by decide,fun h=>by cases h⟩,⟨(aL.cons (show b7 P (⟨#[84,114,117,101]⟩:BA) [_] from rfl) (aL.single (show b7 P (⟨#[70,97,108,115,101]⟩:BA) [_] from rfl))),cd rfl cf,by simp,by decide,fun h=>by cases h⟩,Nat.zero_le _,trivial,trivial,(⟨by simp,by simp⟩)⟩
 rintro⟨f,e,U,W,X,a,n,N,C,d,O,z,q⟩ ⟨ae,⟨ao,bi,aZ,aV,aS⟩,⟨ca,cq,ck,b8,bJ⟩,_,_,_,db⟩
 show V _ _ _ ⟨_,_,_⟩ f
 refine rV 6 rfl ?_
 cases b0:(decide ((e:Int)<(E.length:Int)))
 refine rV 13 rfl ?_
 exact cH results65 (aK rfl rfl nf) ⟨rfl,_,_,rfl,(fu (bad:=U) (l:=W) (c:=X))⟩
 have aw:=cX b0
 refine rV 7 rfl ?_
 obtain⟨cC,df,_,bF,⟨b,R,D,af,Z⟩,bK,⟨aG,aN,aF,aM,rfl,T,ab,aX,a9⟩,b1⟩:=cn eI (aC eI ay (ai (ai aA ac) ae)) e aw
 dsimp only at T ab aX a9
 refine vp (a3 bF rfl rfl aw pz) rfl (vp (cl rfl b1 rfl) rfl (rL 19 rfl ?_))
 refine fl _ (List.Perm.swap _ _ _) ?_
 refine fl _ (List.Perm.swap _ _ _) ?_
 have cW:R.length≤490000000:=(T).2.2.1
 refine lK (ι:=Bool×Nat) [1,2,3,4,5,7,18,19,20,26] 4 rfl (fun(S,p)=>(⟨[(8,.val (.bool S)),(27,.val (zI p))],[],[⟨.slice N a.length C,a.length,n,9,1⟩,⟨.slice z d.length q,d.length,O,9,1⟩]⟩,f,p≤R.length,R.length -p)) (false,0) rfl rfl [1,1] rfl ?_ ?_
 exact b2 _
 rintro⟨S,p⟩ da
 show V _ _ _ ⟨_,_,_⟩ f
 refine rV 6 rfl ?_
 cases bX:(decide ((p:Int)<(R.length:Int)))
 refine rV 6 rfl ?_
 refine cK (ι:=Bool×Int×Int) [1,2,3,4,5,7,18,19,20] 2 rfl (fun(aB,aD,aE)=>(⟨[],[(58,[.bool aB,zI aD,zI aE]),(108,[.string b,.slice aG R.length aN,.slice aF D.length aM,zI af,zI Z])],[⟨.slice N a.length C,a.length,n,9,1⟩,⟨.slice z d.length q,d.length,O,9,1⟩]⟩,f,True)) ?_ ?_
 refine bZ mixed (fun k=>k==3) fun aq=> ?_
 refine bL [1,2,3,14,15] rfl (by kernel_rfl) id (a7 [0,4] (by kernel_rfl) rfl ?_)
 refine av rfl ?_ ?_
 refine a7 [4] (by kernel_rfl) rfl ?_
 refine dK rfl (jE (dp ⟨aZ,aV,by have F:=q8 o;dsimp only at F;have aQ:=F 0;have t:=o.ds;dsimp only at t;(try simp only[ll]);omega,aS⟩ (cz bi ao)) b) ji rfl rfl ?_ bf
 rintro _ bn -⟨ax,⟨br,rfl⟩⟩
 subst bn
 refine bL [5] rfl (by kernel_rfl) id ?_
 cases cZ:(br)
 refine bL [6,7,8] rfl (by kernel_rfl) id ?_
 cases c0:(S)
 refine bL [9,10,11,12,13] rfl (by kernel_rfl) id (a7 [16] (by kernel_rfl) rfl (ww 2 ?_))
 rotate_left
 refine bL [9,10,11,12,13] rfl (by kernel_rfl) id (a7 [16] (by kernel_rfl) rfl (ww 3 ?_))
 rotate_left
 refine bL [6,7,8,9,10,11,12,13] rfl (by kernel_rfl) id (a7 [16] (by kernel_rfl) rfl (ww 3 ?_))
 rotate_left
 refine dK rfl (jE (dp ⟨aZ,aV,by have F:=q8 o;dsimp only at F;have aQ:=F 0;have t:=o.ds;dsimp only at t;(try simp only[ll]);omega,aS⟩ (cz bi ao)) b) ji rfl rfl ?_ bf
 rintro _ bp -⟨ax,⟨bs,rfl⟩⟩
 subst bp
 refine bL [5] rfl (by kernel_rfl) id ?_
 cases c1:(bs)
 refine bL [6,7,8] rfl (by kernel_rfl) id ?_
 cases c2:(S)
 refine bL [9,10,11,12,13,1000] rfl (by kernel_rfl) id (a7 [16] (by kernel_rfl) rfl (ww 2 ?_))
 rotate_left
 refine bL [9,10,11,12,13,1000] rfl (by kernel_rfl) id (a7 [16] (by kernel_rfl) rfl (ww 3 ?_))
 rotate_left
 refine bL [6,7,8,9,10,11,12,13,1000] rfl (by kernel_rfl) id (a7 [16] (by kernel_rfl) rfl (ww 3 ?_))
 rotate_left
 rintro⟨aB,aD,aE⟩ -
 show V _ _ _ ⟨_,_,_⟩ f
 refine rV 5 rfl ?_
 refine et fy rfl ?_
 intro cP aH H cb
 refine gO ?_
 refine j4 (news:=[.string b]) gY rfl rfl (cd rfl cb) (fun h=>by cases h) (fun u hu=>bT.one (show b7 aH b [_] from rfl) u hu) (n1:=(a++ [b]).length) (by(try simp only[ll])<;>omega) (by have t:=o.ds;dsimp only at t;(try simp only[ll]);omega) rfl rfl ?_
 intro Y aa an I bN bO bP bQ
 have ci:aL b7 an (a++ [b]) (n++ [.string b]):=bg bT I (c6 (bg bT H ao) (c4 (show b7 aH b [_] from rfl)))
 refine rL 12 rfl ?_
 refine fl _ ((List.Perm.swap _ _ _).trans (List.Perm.cons _ (List.Perm.swap _ _ _))) ?_
 have c7:hl (E.take (e+1))=hl (E.take e)+D.length:=by have aR:=zW aw;rw[←bK] at aR;exact aR
 have b9:=q8 o (e+1);dsimp only at b9
 have cU:D.length≤490000000:=(aX).2.2.1
 refine lK (ι:=Wd×Nat×Bool×Int×Int×List BA×LV×OA×Nat) [1,2,3,4,7,18,19,20,67,68] 2 rfl (fun(m,L,ag,al,am,Lx,y,A,s)=>(⟨[(5,.val (.slice A Lx.length s)),(69,.val (zI L))],[(58,[.bool ag,zI al,zI am]),(108,[.string b,.slice aG R.length aN,.slice aF D.length aM,zI af,zI Z])],[⟨.slice A Lx.length s,Lx.length,y,9,1⟩,⟨.slice Y (a++ [b]).length aa,(a++ [b]).length,(n++ [.string b]),9,1⟩]⟩,m,Sub an m∧(aL b7 m Lx y∧Src m 1 A Lx.length y∧Lx.length≤s∧s≤9223372036854775807∧(A=none→s=0))∧L≤D.length∧True∧(Lx.length≤hl (E.take e)+2+L),D.length -L)) (an,0,aB,aD,aE,d,O,z,q) rfl rfl [1,1] rfl ?_ ?_
 exact⟨sR,⟨bg bT (ai H I) ca,eL cq (ai H I),ck,b8,bJ⟩,b2 _,trivial,(by omega)⟩
 rintro⟨m,L,ag,al,am,Lx,y,A,s⟩ ⟨K,⟨ap,bj,a0,aW,aT⟩,c9,_,dc⟩
 show V _ _ _ ⟨_,_,_⟩ m
 refine rV 6 rfl ?_
 cases aU:(decide ((L:Int)<(D.length:Int)))
 have c8:=cS aU
 refine rV 8 rfl (vp (bA rfl rfl (by omega)) rfl (rL 2 rfl ?_))
 refine u9 _ (List.Perm.swap _ _ _) ?_
 refine dR (m,e+1,ag,al,am,(a++ [b]),(n++ [.string b]),Y,aa,Lx,y,A,s) rfl rfl [1,1] rfl ?_ ?_
 exact⟨ae.trans (ai (ai H I) K),⟨bg bT K ci,eL bQ K,bN,bO,bP⟩,⟨ap,bj,a0,aW,aT⟩,by omega,trivial,trivial,⟨by simp only[ll];omega,by omega⟩⟩
 (try dsimp only);omega
 have a4:=cX aU
 refine rV 7 rfl ?_
 obtain⟨cE,dh,_,bH,⟨x,M,cs,bx⟩,_,⟨cy,cL,rfl,au,bb⟩,b4⟩:=cn j2 (aC j2 a9 (ai (ai H I) K)) L a4
 dsimp only at au bb
 refine vp (a3 bH rfl rfl a4 px) rfl (vp (cl rfl b4 rfl) rfl (rL 9 rfl ?_))
 refine be (jE (dp ⟨a0,aW,by have F:=q8 o;dsimp only at F;have aQ:=F 0;have t:=o.ds;dsimp only at t;(try simp only[ll]);omega,aT⟩ (cz bj ap)) x) ji rfl rfl ?_
 rintro _ ⟨bt,rfl⟩
 refine rL 1 rfl ?_
 cases c3:(bt)
 refine rL 18 rfl ?_
 refine fl _ (List.Perm.swap _ _ _) ?_
 refine fl _ (List.Perm.swap _ _ _) ?_
 have cT:M.length≤490000000:=(au).2.2.1
 refine lK (ι:=Wd×Bool×Nat) [1,2,3,4,5,7,11,18,19,20,67,68,69,84,85] 5 rfl (fun(B,Q,g)=>(⟨[(12,.val (.bool Q)),(86,.val (zI g))],[],[⟨.slice A Lx.length s,Lx.length,y,9,1⟩,⟨.slice Y (a++ [b]).length aa,(a++ [b]).length,(n++ [.string b]),9,1⟩]⟩,B,Sub m B∧g≤M.length,M.length -g)) (m,decide ((M.length:Int)>8),0) rfl rfl [1,1] rfl ?_ ?_
 exact⟨sR,b2 _⟩
 refine ww 1 ?_
 rotate_left
 refine rL 18 rfl ?_
 refine fl _ (List.Perm.swap _ _ _) ?_
 refine fl _ (List.Perm.swap _ _ _) ?_
 have cV:M.length≤490000000:=(au).2.2.1
 refine lK (ι:=Wd×Bool×Nat) [1,2,3,4,5,7,11,18,19,20,67,68,69,84,85] 5 rfl (fun(B,Q,g)=>(⟨[(12,.val (.bool Q)),(86,.val (zI g))],[],[⟨.slice A Lx.length s,Lx.length,y,9,1⟩,⟨.slice Y (a++ [b]).length aa,(a++ [b]).length,(n++ [.string b]),9,1⟩]⟩,B,Sub m B∧g≤M.length,M.length -g)) (m,true,0) rfl rfl [1,1] rfl ?_ ?_
 exact⟨sR,b2 _⟩
 refine ww 1 ?_
 rotate_left
 have a5:=cX bX
 refine rV 11 rfl ?_
 refine bZ mixed (fun k=>k==3) fun aq=> ?_
 refine bL [0,1] rfl (by kernel_rfl) id ?_
 cases cY:(S)
 refine bL [2,3,4] rfl (by kernel_rfl) id ?_
 obtain⟨cv,cG,cr,cg,co⟩:=a6.take (i:=p) bT T ab (by omega) (.inl rfl)
 refine sY 5 rfl rfl rfl rfl (pA (i:=p) rfl rfl (by have:=T.1;omega) fy cr) rfl (by kernel_rfl) id (bL [6,7,8] rfl (by kernel_rfl) id ?_)
 obtain⟨cD,dg,cO,bG,bD,_,bM,b3⟩:=cn bT ab p a5
 obtain rfl:=bM
 refine sY 9 rfl rfl rfl rfl (a3 bG rfl rfl a5 fy) rfl (by kernel_rfl) id (sY 10 rfl rfl rfl rfl (dT rfl fx (b3 0 _ rfl)) rfl (by kernel_rfl) id (a7 [11] (by kernel_rfl) rfl ?_))
 refine q5 rfl rfl rfl rfl (jE (dp cg co) bD) ji rfl rfl ?_ bf
 rintro _ bm -⟨ax,⟨bq,rfl⟩⟩
 subst bm
 refine bL [12,13] rfl (by kernel_rfl) id (bS (by kernel_rfl) (rD 3 rfl (vp (bA rfl rfl (by omega)) rfl (rL 2 rfl ?_))))
 refine dR (bq,p+1) rfl rfl [1,1] rfl ?_ ?_
 exact by omega
 (try dsimp only);omega
 refine bL [2,3,4,5,6,7,8,9,10,11,12,13] rfl (by kernel_rfl) id (bS (by kernel_rfl) (rD 3 rfl (vp (bA rfl rfl (by omega)) rfl (rL 2 rfl ?_))))
 refine dR (true,p+1) rfl rfl [1,1] rfl ?_ ?_
 exact by omega
 (try dsimp only);omega
 any_goals
  refine uw 1 ?_
  rintro⟨B,Q,g⟩ ⟨J,_⟩
  show V _ _ _ ⟨_,_,_⟩ B
  refine rV 6 rfl ?_
  cases bY:(decide ((g:Int)<(M.length:Int)))
  refine rV 12 rfl ?_
  refine be (jj (fu (bad:=ag) (l:=al) (c:=am)) Q (hR (l:=cs) (c:=bx))) jk rfl rfl ?_
  rintro _ ⟨⟨bw,cu,bB⟩,_,rfl,rfl⟩
  refine rL 7 rfl ?_
  refine et fy rfl ?_
  intro cQ aI bc ce
  refine gO ?_
  refine j4 (news:=[.string x]) gY rfl rfl (cd rfl ce) (fun h=>by cases h) (fun u hu=>bT.one (show b7 aI x [_] from rfl) u hu) (n1:=(Lx++ [x]).length) (by(try simp only[ll])<;>omega) (by have t:=o.ds;dsimp only at t;(try simp only[ll]);omega) rfl rfl ?_
  intro bk bC aJ bh bR bU bV bW
  have cj:aL b7 aJ (Lx++ [x]) (y++ [.string x]):=bg bT bh (c6 (bg bT (ai J bc) ap) (c4 (show b7 aI x [_] from rfl)))
  refine rL 5 rfl (vp (bA rfl rfl (by omega)) rfl (rL 2 rfl ?_))
  refine dR (aJ,L+1,bw,cu,bB,(Lx++ [x]),(y++ [.string x]),bk,bC) rfl rfl [1,0,1] rfl ?_ ?_
  exact⟨K.trans (ai (ai J bc) bh),⟨cj,bW,bR,bU,bV⟩,by omega,trivial,by simp only[ll];omega⟩
  (try dsimp only);omega
  have a1:=cX bY
  refine rV 7 rfl ?_
  obtain⟨cF,di,_,bI,⟨dd,dk,de,dl⟩,_,⟨cA,cM,rfl,ch,az⟩,b6⟩:=cn a2 (aC a2 bb J) g a1
  replace az:=a8.1 az
  refine vp (a3 bI rfl rfl a1 e6) rfl (vp (cl rfl b6 rfl) rfl (rL 7 rfl ?_))
  cases c5:(Q)
  refine rL 4 rfl (dJ rfl rfl rfl ?_)
  refine cN (Gz (ez ar (aC eI ay (ai (ai (ai (ai (ai (ai aA ac) ae) H) I) K) J)) aY (aC dt ba (ai (ai (ai (ai (ai (ai aA ac) ae) H) I) K) J))) (aP ch az) (dp T (aC bT ab (ai (ai (ai H I) K) J))) o) zU rfl rfl ?_
  rintro _ bl cp ⟨bu,rfl⟩
  refine rL 7 rfl (vp (bA rfl rfl (by omega)) rfl (rL 2 rfl ?_))
  refine dR (bl,(!bu),g+1) rfl rfl [1,1] rfl ?_ ?_
  exact⟨J.trans cp,by omega⟩
  (try dsimp only);omega
  refine rL 12 rfl (vp (bA rfl rfl (by omega)) rfl (rL 2 rfl ?_))
  refine dR (B,true,g+1) rfl rfl [1,1] rfl ?_ ?_
  exact⟨J.trans sR,by omega⟩
  (try dsimp only);omega
 any_goals
  refine uw 2 ?_
  refine dK rfl (jj (fu (bad:=U) (l:=W) (c:=X)) (decide ((D.length:Int)>16)) (hR (l:=af) (c:=Z))) jk rfl rfl ?_ bf
  refine ww 4 ?_
  rotate_left
 any_goals
  refine uw 3 ?_
  refine dK rfl (jj (fu (bad:=U) (l:=W) (c:=X)) true (hR (l:=af) (c:=Z))) jk rfl rfl ?_ bf
  refine ww 4 ?_
  rotate_left
 any_goals
  refine uw 4 ?_
  rintro _ bo -⟨ax,⟨⟨bv,ct,bz⟩,_,rfl,rfl⟩⟩
  subst bo
  refine bL [1017] rfl (by kernel_rfl) id (bS (by kernel_rfl) ?_)
  exact dC (bv,ct,bz) rfl rfl [1,1] rfl (trivial)
theorem GG:aF 65:=by unfold aF;kernel_rfl
theorem Md.Ok.rl(h:ak.Ok){i:Nat}(a:i<ak.rs.length):(ak.rs[i]).eo≤100000:=by
 have:=vM Rl.eo a
 unfold Md.Ok Md.eo at h
 omega
theorem GH(cK:Md.Cs ah ak aj)(m:ak.Ok):bd 32 [.agg aj.toArray] ah (fun v R'=>∃(r:Fa) (bp:LV),v= .agg bp.toArray∧Fa.Cs R' r bp):=by
 obtain⟨dO,av⟩:=ak
 obtain⟨dw,dH,dx,dI,rfl,D,E,x,y⟩:=cK
 dsimp only at D E x y
 refine b5 func32 rfl ntmps32 rfl rfl fun w G ad=> ?_
 refine sV 9 rfl ?_
 refine cN (GF (ez D E x y) m) GG rfl rfl ?_
 rintro _ bn j ⟨⟨bH,c3,bX⟩,_,rfl,rfl⟩
 refine rL 19 rfl ?_
 refine gN 9 1 ?_
 have dQ:av.length≤490000000:=(x).2.2.1
 refine lK (ι:=Wd×Nat×Bool×Int×Int×List BA×LV×OA×Nat) [1,2,3,17,18] 2 rfl (fun(I,z,Q,R,S,g,A,H,F)=>(⟨[(4,.val (.slice H g.length F)),(19,.val (zI z))],[(58,[.bool Q,zI R,zI S])],[⟨.slice H g.length F,g.length,A,9,1⟩]⟩,I,Sub bn I∧(aL b7 I g A∧Src I 1 H g.length A∧g.length≤F∧F≤9223372036854775807∧(H=none→F=0))∧z≤av.length∧True∧(g.length≤z),av.length -z)) (bn,0,bH,c3,bX,[],[],none,0) rfl rfl [1] rfl ?_ ?_
 refine ww 7 ?_
 rotate_left
 rintro⟨I,z,Q,R,S,g,A,H,F⟩ ⟨i,⟨aV,bw,bv,bu,bq⟩,_,_,d7⟩
 show V _ _ _ ⟨_,_,_⟩ I
 refine rV 6 rfl ?_
 cases cr:(decide ((z:Int)<(av.length:Int)))
 refine rV 13 rfl ?_
 exact cH results32 (aK rfl rfl nf) ⟨rfl,_,_,rfl,(fu (bad:=Q) (l:=R) (c:=S))⟩
 have ao:=cX cr
 refine rV 8 rfl ?_
 obtain⟨dE,eg,_,ca,⟨f,a,n,⟨ap,aw,au,aM,ar,an⟩,M,L⟩,br,⟨ab,al,aa,ag,_,rfl,aZ,ba,aY,a9,⟨ac,am,rfl,a0,X⟩⟩,cw⟩:=cn dt (aC dt y (ai j i)) z ao
 replace X:=c9.1 X
 dsimp only at aZ ba aY a9 a0 X
 refine vp (a3 ca rfl rfl ao hk) rfl (vp (cl rfl cw rfl) rfl (rL 10 rfl ?_))
 refine be (jE (dp ⟨bv,bu,by have s:=m.rs;dsimp only at s;(try simp only[ll]);omega,bq⟩ (cz bw aV)) f) ji rfl rfl ?_
 rintro _ ⟨bG,rfl⟩
 refine rL 10 rfl ?_
 cases dX:(bG)
 refine rV 5 rfl ?_
 refine et fy rfl ?_
 intro dP bo p cC
 refine gO ?_
 refine j4 (news:=[.string f]) gY rfl rfl (cd rfl cC) (fun h=>by cases h) (fun u hu=>bT.one (show b7 bo f [_] from rfl) u hu) (n1:=(g++ [f]).length) (by(try simp only[ll])<;>omega) (by have s:=m.rs;dsimp only at s;(try simp only[ll]);omega) rfl rfl ?_
 intro aN aQ aP q cj ck cm co
 have cI:aL b7 aP (g++ [f]) (A++ [.string f]):=bg bT q (c6 (bg bT p aV) (c4 (show b7 bo f [_] from rfl)))
 refine rL 4 rfl ?_
 refine bZ mixed (fun k=>k==0||k==3) fun aq=> ?_
 refine bL [0,1,2,4,5,6] rfl (by kernel_rfl) id (a7 [3] (by kernel_rfl) rfl ?_)
 refine dK rfl (q3 (ez D (aC eI E (ai (ai (ai j i) p) q)) x (aC dt y (ai (ai (ai j i) p) q))) f) q6 rfl rfl ?_ bf
 rintro _ bE -⟨cO,⟨dg,rfl⟩⟩
 subst bE
 refine bL [7,8] rfl (by kernel_rfl) id ?_
 cases dY:(dg !=(a.length:Int))
 refine bL [9,10,11,12,13,14] rfl (by kernel_rfl) id ?_
 cases bt:(decide ((a.length:Int)>8))
 have cM:=of_decide_eq_false bt
 refine bL [15,16,17,18,19,20,21,22,23] rfl (by kernel_rfl) id ?_
 cases dW:(decide ((((g++ [f]).length:Nat):Int)>64))
 refine bL [24,25,26,27] rfl (by kernel_rfl) id (bS (by kernel_rfl) (rD 7 rfl ?_))
 refine be (jj (fu (bad:=Q) (l:=R) (c:=S)) (decide ((z:Int)≥128)) (hR (l:=M) (c:=L))) jk rfl rfl ?_
 refine ww 2 ?_
 rotate_left
 refine bL [24,25,26,27] rfl (by kernel_rfl) id (bS (by kernel_rfl) (rD 7 rfl (ww 1 ?_)))
 rotate_left
 have cM:=of_decide_eq_true bt
 refine bL [15,16,17,18,19,20,21,22,23,24,25,26,27] rfl (by kernel_rfl) id (bS (by kernel_rfl) (rD 7 rfl (ww 1 ?_)))
 rotate_left
 refine bL [9,10,11,12,13,14,15,16,17,18,19,20,21,22,23,24,25,26,27] rfl (by kernel_rfl) id (bS (by kernel_rfl) (rD 7 rfl (ww 1 ?_)))
 rotate_left
 refine rV 4 rfl ?_
 refine bZ mixed (fun k=>k==0||k==3) fun aq=> ?_
 refine bL [0,1,2,4,5,6] rfl (by kernel_rfl) id (a7 [3] (by kernel_rfl) rfl ?_)
 refine dK rfl (q3 (ez D (aC eI E (ai j i)) x (aC dt y (ai j i))) f) q6 rfl rfl ?_ bf
 rintro _ bF -⟨cO,⟨di,rfl⟩⟩
 subst bF
 refine bL [7,8] rfl (by kernel_rfl) id ?_
 cases dZ:(di !=(a.length:Int))
 refine bL [9,10,11,12,13,14] rfl (by kernel_rfl) id ?_
 cases bs:(decide ((a.length:Int)>8))
 have cL:=of_decide_eq_false bs
 refine bL [15,16,17,18,19,20,21,22,23,24,25,26,27] rfl (by kernel_rfl) id (bS (by kernel_rfl) (rD 7 rfl ?_))
 refine be (jj (fu (bad:=Q) (l:=R) (c:=S)) (decide ((z:Int)≥128)) (hR (l:=M) (c:=L))) jk rfl rfl ?_
 refine ww 4 ?_
 rotate_left
 have cL:=of_decide_eq_true bs
 refine bL [15,16,17,18,19,20,21,22,23,24,25,26,27] rfl (by kernel_rfl) id (bS (by kernel_rfl) (rD 7 rfl (ww 3 ?_)))
 rotate_left
 refine bL [9,10,11,12,13,14,15,16,17,18,19,20,21,22,23,24,25,26,27] rfl (by kernel_rfl) id (bS (by kernel_rfl) (rD 7 rfl (ww 3 ?_)))
 rotate_left
 any_goals
  refine uw 1 ?_
  refine be (jj (fu (bad:=Q) (l:=R) (c:=S)) true (hR (l:=M) (c:=L))) jk rfl rfl ?_
  refine ww 2 ?_
  rotate_left
 any_goals
  refine uw 2 ?_
  rintro _ ⟨⟨bO,db,b4⟩,_,rfl,rfl⟩
  refine rL 18 rfl ?_
  refine gN 9 1 ?_
  refine fl _ (List.Perm.swap _ _ _) ?_
  refine fl _ (List.Perm.swap _ _ _) ?_
  have P:=Md.Ok.rl m ao
  dsimp only at P
  rw[←br] at P
  have W:=P;unfold Rl.eo at W;dsimp only at W
  have dS:a.length≤490000000:=(aZ).2.2.1
  refine lK (ι:=Wd×Nat×Bool×Int×Int×List BA×LV×OA×Nat) [1,2,3,4,6,17,18,19,68,69] 2 rfl (fun(J,d,ax,ay,az,B,Y,T,N)=>(⟨[(9,.val (.slice T B.length N)),(70,.val (zI d))],[(58,[.bool ax,zI ay,zI az]),(112,[.string f,.slice ab a.length al,.slice aa n.length ag,zI ap,.string aw,zI au,.slice ac aM.length am,zI ar,zI an,zI M,zI L])],[⟨.slice T B.length N,B.length,Y,9,1⟩,⟨.slice aN (g++ [f]).length aQ,(g++ [f]).length,(A++ [.string f]),9,1⟩]⟩,J,Sub aP J∧(aL b7 J B Y∧Src J 1 T B.length Y∧B.length≤N∧N≤9223372036854775807∧(T=none→N=0))∧d≤a.length∧True∧(B.length≤aO (a.take d)),a.length -d)) (aP,0,bO,db,b4,[],[],none,0) rfl rfl [1,1] rfl ?_ ?_
  refine ww 7 ?_
  rotate_left
  rintro⟨J,d,ax,ay,az,B,Y,T,N⟩ ⟨b,⟨aW,bl,a1,aT,aR⟩,_,_,d8⟩
  show V _ _ _ ⟨_,_,_⟩ J
  refine rV 6 rfl ?_
  cases cs:(decide ((d:Int)<(a.length:Int)))
  refine rV 16 rfl ?_
  refine fl _ (List.Perm.swap _ _ _) ?_
  refine fl _ (List.Perm.swap _ _ _) ?_
  have dT:n.length≤490000000:=(aY).2.2.1
  refine lK (ι:=Wd×Nat×Bool×Int×Int) [1,2,3,4,6,9,17,18,19,84,85] 2 rfl (fun(ae,o,aA,aB,aD)=>(⟨[(86,.val (zI o))],[(58,[.bool aA,zI aB,zI aD]),(112,[.string f,.slice ab a.length al,.slice aa n.length ag,zI ap,.string aw,zI au,.slice ac aM.length am,zI ar,zI an,zI M,zI L])],[⟨.slice T B.length N,B.length,Y,9,1⟩,⟨.slice aN (g++ [f]).length aQ,(g++ [f]).length,(A++ [.string f]),9,1⟩]⟩,ae,Sub J ae∧o≤n.length,n.length -o)) (J,0,ax,ay,az) rfl rfl [1,1] rfl ?_ ?_
  exact⟨sR,b2 _⟩
  rintro⟨ae,o,aA,aB,aD⟩ ⟨e,_⟩
  show V _ _ _ ⟨_,_,_⟩ ae
  refine rV 6 rfl ?_
  cases ct:(decide ((o:Int)<(n.length:Int)))
  refine rV 12 rfl ?_
  have d5:=eJ a d
  refine cN (q7 (ez D (aC eI E (ai (ai (ai (ai (ai j i) p) q) b) e)) x (aC dt y (ai (ai (ai (ai (ai j i) p) q) b) e))) (fu (bad:=aA) (l:=aB) (c:=aD)) (dp ⟨a1,aT,by have s:=m.rs;dsimp only at s;(try simp only[ll]);omega,aR⟩ (aC bT (cz bl aW) e)) (de a0 (aC bM X (ai (ai (ai p q) b) e))) m (by omega)) oe rfl rfl ?_
  rintro _ bD bk ⟨⟨bP,dc,b6⟩,_,rfl,rfl⟩
  refine rL 5 rfl (vp (bA rfl rfl (by omega)) rfl (rL 2 rfl ?_))
  refine dR (bD,z+1,bP,dc,b6,(g++ [f]),(A++ [.string f]),aN,aQ) rfl rfl [0,1] rfl ?_ ?_
  exact⟨i.trans (ai (ai (ai (ai p q) b) e) bk),⟨bg bT (ai (ai b e) bk) cI,eL co (ai (ai b e) bk),cj,ck,cm⟩,by omega,trivial,by(try simp only[ll]);omega⟩
  (try dsimp only);omega
  have a5:=cX ct
  refine rV 7 rfl ?_
  obtain⟨dG,ei,_,cc,⟨cV,dn,dj,dv,c2,bW⟩,ci,⟨dB,dN,rfl,cG,bi⟩,cy⟩:=cn bM (aC bM a9 (ai (ai (ai p q) b) e)) o a5
  replace bi:=c9.1 bi
  refine vp (a3 cc rfl rfl a5 cZ) rfl (vp (cl rfl cy rfl) rfl (rL 9 rfl ?_))
  have d4:=eJ a d
  have ed:(.mk cV dn dj dv c2 bW:Ex).size≤aO n:=by have t:=oX a5;rw[←ci] at t;exact t
  refine cN (q7 (ez D (aC eI E (ai (ai (ai (ai (ai j i) p) q) b) e)) x (aC dt y (ai (ai (ai (ai (ai j i) p) q) b) e))) (fu (bad:=aA) (l:=aB) (c:=aD)) (dp ⟨a1,aT,by have s:=m.rs;dsimp only at s;(try simp only[ll]);omega,aR⟩ (aC bT (cz bl aW) e)) (de cG bi) m (by omega)) oe rfl rfl ?_
  refine ww 6 ?_
  rotate_left
  have a4:=cX cs
  refine rV 7 rfl ?_
  obtain⟨dF,eh,_,cb,⟨cU,dm,dh,du,c1,bV⟩,ch,⟨dA,dM,rfl,cF,bh⟩,cx⟩:=cn bM (aC bM ba (ai (ai p q) b)) d a4
  replace bh:=c9.1 bh
  refine vp (a3 cb rfl rfl a4 cZ) rfl (vp (cl rfl cx rfl) rfl (rL 9 rfl ?_))
  have ec:aO (a.take (d+1))=aO (a.take d)+(.mk cU dm dh du c1 bV:Ex).size:=by have t:=gL a4;rw[←ch] at t;exact t
  have d1:=eJ a (d+1)
  refine kC (zV (ez D (aC eI E (ai (ai (ai (ai j i) p) q) b)) x (aC dt y (ai (ai (ai (ai j i) p) q) b))) (fu (bad:=ax) (l:=ay) (c:=az)) ⟨aW,bl,a1,aT,aR⟩ (de cF bh) m (by omega)) vU rfl rfl ?_
  refine ww 5 ?_
  rotate_left
 any_goals
  refine uw 3 ?_
  refine be (jj (fu (bad:=Q) (l:=R) (c:=S)) true (hR (l:=M) (c:=L))) jk rfl rfl ?_
  refine ww 4 ?_
  rotate_left
 any_goals
  refine uw 4 ?_
  rintro _ ⟨⟨bI,c5,bY⟩,_,rfl,rfl⟩
  refine rL 18 rfl ?_
  refine gN 9 1 ?_
  refine fl _ (List.Perm.swap _ _ _) ?_
  refine fl _ (List.Perm.swap _ _ _) ?_
  have P:=Md.Ok.rl m ao
  dsimp only at P
  rw[←br] at P
  have W:=P;unfold Rl.eo at W;dsimp only at W
  have dV:a.length≤490000000:=(aZ).2.2.1
  refine lK (ι:=Wd×Nat×Bool×Int×Int×List BA×LV×OA×Nat) [1,2,3,4,6,17,18,19,68,69] 2 rfl (fun(K,d,aH,aI,aJ,C,Z,U,O)=>(⟨[(9,.val (.slice U C.length O)),(70,.val (zI d))],[(58,[.bool aH,zI aI,zI aJ]),(112,[.string f,.slice ab a.length al,.slice aa n.length ag,zI ap,.string aw,zI au,.slice ac aM.length am,zI ar,zI an,zI M,zI L])],[⟨.slice U C.length O,C.length,Z,9,1⟩,⟨.slice H g.length F,g.length,A,9,1⟩]⟩,K,Sub I K∧(aL b7 K C Z∧Src K 1 U C.length Z∧C.length≤O∧O≤9223372036854775807∧(U=none→O=0))∧d≤a.length∧True∧(C.length≤aO (a.take d)),a.length -d)) (I,0,bI,c5,bY,[],[],none,0) rfl rfl [1,1] rfl ?_ ?_
  refine ww 7 ?_
  rotate_left
  rintro⟨K,d,aH,aI,aJ,C,Z,U,O⟩ ⟨b,⟨aX,bm,a2,aU,aS⟩,_,_,d9⟩
  show V _ _ _ ⟨_,_,_⟩ K
  refine rV 6 rfl ?_
  cases cp:(decide ((d:Int)<(a.length:Int)))
  refine rV 16 rfl ?_
  refine fl _ (List.Perm.swap _ _ _) ?_
  refine fl _ (List.Perm.swap _ _ _) ?_
  have dU:n.length≤490000000:=(aY).2.2.1
  refine lK (ι:=Wd×Nat×Bool×Int×Int) [1,2,3,4,6,9,17,18,19,84,85] 2 rfl (fun(af,o,aE,aF,aG)=>(⟨[(86,.val (zI o))],[(58,[.bool aE,zI aF,zI aG]),(112,[.string f,.slice ab a.length al,.slice aa n.length ag,zI ap,.string aw,zI au,.slice ac aM.length am,zI ar,zI an,zI M,zI L])],[⟨.slice U C.length O,C.length,Z,9,1⟩,⟨.slice H g.length F,g.length,A,9,1⟩]⟩,af,Sub K af∧o≤n.length,n.length -o)) (K,0,aH,aI,aJ) rfl rfl [1,1] rfl ?_ ?_
  exact⟨sR,b2 _⟩
  rintro⟨af,o,aE,aF,aG⟩ ⟨e,_⟩
  show V _ _ _ ⟨_,_,_⟩ af
  refine rV 6 rfl ?_
  cases cq:(decide ((o:Int)<(n.length:Int)))
  refine rV 12 rfl ?_
  have d3:=eJ a d
  refine cN (q7 (ez D (aC eI E (ai (ai (ai j i) b) e)) x (aC dt y (ai (ai (ai j i) b) e))) (fu (bad:=aE) (l:=aF) (c:=aG)) (dp ⟨a2,aU,by have s:=m.rs;dsimp only at s;(try simp only[ll]);omega,aS⟩ (aC bT (cz bm aX) e)) (de a0 (aC bM X (ai b e))) m (by omega)) oe rfl rfl ?_
  rintro _ bC bj ⟨⟨bN,da,b3⟩,_,rfl,rfl⟩
  refine rL 5 rfl (vp (bA rfl rfl (by omega)) rfl (rL 2 rfl ?_))
  refine dR (bC,z+1,bN,da,b3,g,A,H,F) rfl rfl [0,1] rfl ?_ ?_
  exact⟨i.trans (ai (ai b e) bj),⟨bg bT (ai (ai b e) bj) aV,eL bw (ai (ai b e) bj),bv,bu,bq⟩,by omega,trivial,by(try simp only[ll]);omega⟩
  (try dsimp only);omega
  have a6:=cX cq
  refine rV 7 rfl ?_
  obtain⟨dD,ef,_,b9,⟨cT,dl,df,ds,c0,bU⟩,cg,⟨dz,dL,rfl,cE,bc⟩,cv⟩:=cn bM (aC bM a9 (ai b e)) o a6
  replace bc:=c9.1 bc
  refine vp (a3 b9 rfl rfl a6 cZ) rfl (vp (cl rfl cv rfl) rfl (rL 9 rfl ?_))
  have d2:=eJ a d
  have eb:(.mk cT dl df ds c0 bU:Ex).size≤aO n:=by have t:=oX a6;rw[←cg] at t;exact t
  refine cN (q7 (ez D (aC eI E (ai (ai (ai j i) b) e)) x (aC dt y (ai (ai (ai j i) b) e))) (fu (bad:=aE) (l:=aF) (c:=aG)) (dp ⟨a2,aU,by have s:=m.rs;dsimp only at s;(try simp only[ll]);omega,aS⟩ (aC bT (cz bm aX) e)) (de cE bc) m (by omega)) oe rfl rfl ?_
  refine ww 6 ?_
  rotate_left
  have a8:=cX cp
  refine rV 7 rfl ?_
  obtain⟨dC,ee,_,b8,⟨cS,dk,dd,dr,cY,bR⟩,cf,⟨dy,dJ,rfl,cD,bb⟩,cu⟩:=cn bM (aC bM ba b) d a8
  replace bb:=c9.1 bb
  refine vp (a3 b8 rfl rfl a8 cZ) rfl (vp (cl rfl cu rfl) rfl (rL 9 rfl ?_))
  have ea:aO (a.take (d+1))=aO (a.take d)+(.mk cS dk dd dr cY bR:Ex).size:=by have t:=gL a8;rw[←cf] at t;exact t
  have d0:=eJ a (d+1)
  refine kC (zV (ez D (aC eI E (ai (ai j i) b)) x (aC dt y (ai (ai j i) b))) (fu (bad:=aH) (l:=aI) (c:=aJ)) ⟨aX,bm,a2,aU,aS⟩ (de cD bb) m (by omega)) vU rfl rfl ?_
  refine ww 5 ?_
  rotate_left
 any_goals
  refine uw 5 ?_
  rintro _ _ bz cP ⟨⟨bJ,c7,b0⟩,_,bx,cW,bQ,dq,rfl,rfl,rfl,⟨cB,cR,cJ,cA,ce⟩,d6⟩
  refine rL 9 rfl (vp (bA rfl rfl (by omega)) rfl (rL 2 rfl ?_))
  refine dR (bz,d+1,bJ,c7,b0,cW,dq,bx,bQ) rfl rfl [1,1] rfl ?_ ?_
  exact⟨b.trans cP,⟨cB,cR,cJ,cA,ce⟩,by omega,trivial,by omega⟩
  (try dsimp only);omega
 any_goals
  refine uw 6 ?_
  rintro _ bB cQ ⟨⟨bK,c8,b1⟩,_,rfl,rfl⟩
  refine rL 5 rfl (vp (bA rfl rfl (by omega)) rfl (rL 2 rfl ?_))
  refine dR (bB,o+1,bK,c8,b1) rfl rfl [1,1] rfl ?_ ?_
  exact⟨e.trans cQ,by omega⟩
  (try dsimp only);omega
 any_goals
  refine uw 7 ?_
  exact⟨sR,⟨gr,⟨rfl,.inl rfl⟩,Nat.le_refl _,by decide,fun _=>rfl⟩,Nat.zero_le _,trivial,(by simp)⟩
theorem gE:c7 51 3 1:=by unfold c7;kernel_rfl
theorem q9:aF 47:=by unfold aF;kernel_rfl
theorem lc:aF 53:=by unfold aF;kernel_rfl
theorem vX:aF 71:=by unfold aF;kernel_rfl
theorem zY:aF 90:=by unfold aF;kernel_rfl
theorem GI:aF 91:=by unfold aF;kernel_rfl
theorem vY:aF 92:=by unfold aF;kernel_rfl
theorem zZ:aF 106:=by unfold aF;kernel_rfl
theorem tv:prog.underlying 51=some (.slice 3):=by kernel_rfl
theorem oh(t:Ty):t.size≠0:=by cases t;rw[Ty.size_mk];omega
theorem ng(t:Ex):t.size≠0:=by cases t;rw[Ex.size_mk];omega
theorem GJ(N:Nat):∀{R:Wd} {J:LV} {t:Ty} (ag:Ty.Cs R t J) {T:Vl} {l:List BA} (ae:a6 b7 1 R T l) (K:t.size≤N),bd 71 [.agg J.toArray,T] R (fun v R'=>∃(r:Ty) (X:LV),v= .agg X.toArray∧Ty.Cs R' r X):=by
 induction N with
 |zero=>
  intros
  intros;simp_all only[Nat.le_zero_eq];first|omega|(exfalso;rename_i s;exact absurd s (by first|exact oh _|exact ng _))
 |succ N ah=>
  intro R J t ag T l ae K
  obtain⟨o,st,y,c⟩:=t
  obtain⟨aF,aQ,rfl,O,e⟩:=ag
  obtain⟨Al,dA,rfl,L,P⟩:=ae
  replace e:=a8.1 e
  refine b5 func71 rfl ntmps71 rfl rfl fun w G ad=> ?_
  refine sV 14 rfl ?_
  cases aV:(o==1)
  refine rV 11 rfl (vp (bJ (vs:=[(0,zI o),(1,.string st),(2,zI y)]) (v:= .agg #[zI o,.string st,zI y,zS]) rfl (fun W=>by kernel_rfl)) rfl (rL 14 rfl ?_))
  refine gN 36 4 ?_
  have aU:c.length≤490000000:=(O).2.2.1
  refine lK (ι:=Wd×Nat×List Ty×LV×OA×Nat) [1,4,6,29,30] 2 rfl (fun(m,b,a,p,q,n)=>(⟨[(31,.val (zI b))],[(36,[zI o,.string st,zI y,.slice q a.length n])],[⟨.slice q a.length n,a.length,p,36,4⟩]⟩,m,Sub R m∧(aL Ty.Cs m a p∧Src m 4 q a.length p∧a.length≤n∧n≤9223372036854775807∧(q=none→n=0))∧b≤c.length∧a.length≤b,c.length -b)) (R,0,[],[],none,0) rfl rfl [1] rfl ?_ ?_
  exact⟨sR,⟨gr,⟨rfl,.inl rfl⟩,a9 _,by decide,fun _=>rfl⟩,b2 _,b2 _⟩
  rintro⟨m,b,a,p,q,n⟩ ⟨D,⟨aa,aB,aA,ay,ao⟩,aY,aZ⟩
  show V _ _ _ ⟨_,_,_⟩ m
  refine rV 6 rfl ?_
  cases Z:(decide ((b:Int)<(c.length:Int)))
  have aX:=cS Z
  refine rV 13 rfl ?_
  exact cH results71 (aK rfl rfl cD) ⟨rfl,_,_,rfl,(aP ⟨aA,ay,by omega,ao⟩ (cz aB aa))⟩
  have B:=cX Z
  refine rV 7 rfl ?_
  obtain⟨aN,a4,_,an,⟨E,H,F,I⟩,Y,⟨aE,aO,rfl,ac,C⟩,ax⟩:=cn a2 (aC a2 e D) b B
  replace C:=a8.1 C
  refine vp (a3 an rfl rfl B e6) rfl (vp (cl rfl ax rfl) rfl (rL 4 rfl ?_))
  refine bZ mixed (fun k=>k==3) fun aq=> ?_
  refine bL [0,2,3] rfl (by kernel_rfl) id (a7 [1,4] (by kernel_rfl) rfl ?_)
  refine av rfl ?_ ?_
  refine a7 [4] (by kernel_rfl) rfl ?_
  have aD:(.mk E H F I:Ty).size+1≤(.mk o st y c:Ty).size:=by have s:=jV B;rw[←Y] at s;rw[Ty.size_mk (ys:=c)];omega
  have S:(.mk E H F I:Ty).size≤N:=by have am:=K;omega
  refine dK rfl (ah (aP ac C) (dp L (aC bT P D)) S) vX rfl rfl ?_ bf
  rintro _ aM Q ⟨⟨f,i,g,j⟩,_,rfl,⟨z,A,rfl,M,d⟩⟩
  replace d:=a8.1 d
  refine ww 1 ?_
  rotate_left
  have aD:(.mk E H F I:Ty).size+1≤(.mk o st y c:Ty).size:=by have s:=jV B;rw[←Y] at s;rw[Ty.size_mk (ys:=c)];omega
  have S:(.mk E H F I:Ty).size≤N:=by have am:=K;omega
  refine dK rfl (ah (aP ac C) (dp L (aC bT P D)) S) vX rfl rfl ?_ bf
  rintro _ aI Q ⟨⟨f,i,g,j⟩,_,rfl,⟨z,A,rfl,M,d⟩⟩
  replace d:=a8.1 d
  refine a7 [1,5] (by kernel_rfl) rfl ?_
  refine av rfl ?_ ?_
  refine ww 1 ?_
  rotate_left
  refine eW e6 rfl ?_ bf
  intro aT aJ x ab
  refine bL [1001] rfl (by kernel_rfl) id (ww 2 ?_)
  rotate_left
  refine rV 7 rfl ?_
  refine be (Gr (dp L P) st) GI rfl rfl ?_
  rintro _ ⟨aj,rfl⟩
  refine rL 9 rfl ?_
  cases aW:(decide (aj≥0))
  refine rV 11 rfl (ww 3 ?_)
  rotate_left
  refine rV 4 rfl ?_
  refine be (Gu aj) lc rfl rfl ?_
  rintro _ ⟨⟨a0,a5,a1,ba⟩,_,rfl,⟨aG,aR,rfl,O,e⟩⟩
  replace e:=a8.1 e
  refine rL 6 rfl (ww 3 ?_)
  rotate_left
  any_goals
   refine uw 1 ?_
   refine a7 [5] (by kernel_rfl) rfl ?_
   refine eW e6 rfl ?_ bf
   intro aS aH x ab
   refine ww 2 ?_
   rotate_left
  any_goals
   refine uw 2 ?_
   refine iJ ?_
   refine a7 [6] (by kernel_rfl) rfl ?_
   refine fW (news:=[zI f,.string i,zI g,.slice z j.length A]) rfl m8 rfl rfl (cd rfl ab) (fun h=>by cases h) (fun u hu=>a2.one (aP M (aC a2 d x)) u hu) (n1:=(a++ [(.mk f i g j:Ty)]).length) (by(try simp only[ll])<;>omega) (by simp;omega) rfl rfl ?_ bf
   intro ak al U af ap ar au aw
   have az:aL Ty.Cs U (a++ [(.mk f i g j:Ty)]) (p++ [zI f,.string i,zI g,.slice z j.length A]):=bg a2 af (c6 (bg a2 (ai Q x) aa) (c4 (aP M (aC a2 d x))))
   refine bL [7,1008] rfl (by kernel_rfl) id (bS (by kernel_rfl) (rD 3 rfl (vp (bA rfl rfl (by omega)) rfl (rL 2 rfl ?_))))
   refine dR (U,b+1,(a++ [(.mk f i g j:Ty)]),(p++ [zI f,.string i,zI g,.slice z j.length A]),ak,al) rfl rfl [1] rfl ?_ ?_
   exact⟨D.trans (ai (ai Q x) af),⟨az,aw,ap,ar,au⟩,by omega,by simp;omega⟩
   (try dsimp only);omega
  any_goals
   refine uw 3 ?_
   exact cH results71 (aK rfl rfl cD) ⟨rfl,_,_,rfl,(aP O e)⟩
theorem GK(c:Ty.Cs ah bC aj)(b:a6 b7 1 ah az ec):bd 71 [.agg aj.toArray,az] ah (fun v R'=>∃(r:Ty) (a:LV),v= .agg a.toArray∧Ty.Cs R' r a):=GJ _ c b (a9 _)
theorem GL(N:Nat):∀{R:Wd} {L:LV} {t:Ty} (ap:Ty.Cs R t L) {aa:Vl} {l:List Int} (am:a6 dU 1 R aa l) {Z:Vl} {b:List Ty} (af:a6 Ty.Cs 4 R Z b) (S:l.length≤b.length) (M:t.size≤N),bd 92 [.agg L.toArray,aa,Z] R (fun v R'=>∃(r:Ty) (ac:LV),v= .agg ac.toArray∧Ty.Cs R' r ac):=by
 induction N with
 |zero=>
  intros
  intros;simp_all only[Nat.le_zero_eq];first|omega|(exfalso;rename_i A;exact absurd A (by first|exact oh _|exact ng _))
 |succ N ar=>
  intro R L t ap aa l am Z b af S M
  obtain⟨s,st,x,e⟩:=t
  obtain⟨aY,bi,rfl,Q,g⟩:=ap
  obtain⟨Al,dA,rfl,O,U⟩:=am
  obtain⟨aV,bc,rfl,ak,T⟩:=af
  replace g:=a8.1 g
  refine b5 func92 rfl ntmps92 rfl rfl fun w G ad=> ?_
  refine sV 14 rfl ?_
  cases bo:(s==1)
  refine rV 11 rfl (vp (bJ (vs:=[(0,zI s),(1,.string st),(2,zI x)]) (v:= .agg #[zI s,.string st,zI x,zS]) rfl (fun W=>by kernel_rfl)) rfl (rL 14 rfl ?_))
  refine gN 36 4 ?_
  have bn:e.length≤490000000:=(Q).2.2.1
  refine lK (ι:=Wd×Nat×List Ty×LV×OA×Nat) [1,2,6,9,40,41] 2 rfl (fun(o,d,a,y,z,p)=>(⟨[(42,.val (zI d))],[(36,[zI s,.string st,zI x,.slice z a.length p])],[⟨.slice z a.length p,a.length,y,36,4⟩]⟩,o,Sub R o∧(aL Ty.Cs o a y∧Src o 4 z a.length y∧a.length≤p∧p≤9223372036854775807∧(z=none→p=0))∧d≤e.length∧a.length≤d,e.length -d)) (R,0,[],[],none,0) rfl rfl [1] rfl ?_ ?_
  exact⟨sR,⟨gr,⟨rfl,.inl rfl⟩,a9 _,by decide,fun _=>rfl⟩,b2 _,b2 _⟩
  rintro⟨o,d,a,y,z,p⟩ ⟨q,⟨ah,aT,aS,aQ,aD⟩,br,bs⟩
  show V _ _ _ ⟨_,_,_⟩ o
  refine rV 6 rfl ?_
  cases ag:(decide ((d:Int)<(e.length:Int)))
  have bq:=cS ag
  refine rV 13 rfl ?_
  exact cH results92 (aK rfl rfl cD) ⟨rfl,_,_,rfl,(aP ⟨aS,aQ,by omega,aD⟩ (cz aT ah))⟩
  have E:=cX ag
  refine rV 7 rfl ?_
  obtain⟨bb,bx,_,aB,⟨H,J,I,K⟩,ae,⟨aX,bh,rfl,al,F⟩,aO⟩:=cn a2 (aC a2 g q) d E
  replace F:=a8.1 F
  refine vp (a3 aB rfl rfl E e6) rfl (vp (cl rfl aO rfl) rfl (rL 4 rfl ?_))
  refine bZ mixed (fun k=>k==3) fun aq=> ?_
  refine bL [0,2,3,4] rfl (by kernel_rfl) id (a7 [1,5] (by kernel_rfl) rfl ?_)
  refine av rfl ?_ ?_
  refine a7 [5] (by kernel_rfl) rfl ?_
  have aU:(.mk H J I K:Ty).size+1≤(.mk s st x e:Ty).size:=by have A:=jV E;rw[←ae] at A;rw[Ty.size_mk (ys:=e)];omega
  have Y:(.mk H J I K:Ty).size≤N:=by have ay:=M;omega
  refine dK rfl (ar (aP al F) (dp O (aC cP U q)) (dp ak (aC a2 T q)) S Y) vY rfl rfl ?_ bf
  rintro _ a4 X ⟨⟨i,m,j,n⟩,_,rfl,⟨C,D,rfl,P,f⟩⟩
  replace f:=a8.1 f
  refine ww 1 ?_
  rotate_left
  have aU:(.mk H J I K:Ty).size+1≤(.mk s st x e:Ty).size:=by have A:=jV E;rw[←ae] at A;rw[Ty.size_mk (ys:=e)];omega
  have Y:(.mk H J I K:Ty).size≤N:=by have ay:=M;omega
  refine dK rfl (ar (aP al F) (dp O (aC cP U q)) (dp ak (aC a2 T q)) S Y) vY rfl rfl ?_ bf
  rintro _ a0 X ⟨⟨i,m,j,n⟩,_,rfl,⟨C,D,rfl,P,f⟩⟩
  replace f:=a8.1 f
  refine a7 [1,6] (by kernel_rfl) rfl ?_
  refine av rfl ?_ ?_
  refine ww 1 ?_
  rotate_left
  refine eW e6 rfl ?_ bf
  intro bl a1 B aj
  refine bL [1001] rfl (by kernel_rfl) id (ww 2 ?_)
  rotate_left
  refine rV 10 rfl ?_
  have bm:l.length≤490000000:=(O).2.2.1
  refine lK (ι:=Nat) [1,2,3,6,15,16] 2 rfl (fun(c)=>(⟨[(17,.val (zI c))],[],[]⟩,R,c≤l.length,l.length -c)) (0) rfl rfl [] rfl ?_ ?_
  exact b2 _
  rintro c _
  show V _ _ _ ⟨_,_,_⟩ R
  refine rV 6 rfl ?_
  cases aJ:(decide ((c:Int)<(l.length:Int)))
  refine rV 14 rfl (ww 3 ?_)
  rotate_left
  have an:=cX aJ
  refine rV 8 rfl ?_
  obtain⟨a5,bv,bj,az,ax,_,aE,aM⟩:=cn cP U c an
  obtain rfl:=aE
  refine vp (a3 az rfl rfl an gE) rfl (vp (dT rfl bG (aM 0 _ rfl)) rfl (rL 12 rfl ?_))
  cases bp:(ax==x)
  refine rV 5 rfl (vp (bA rfl rfl (by omega)) rfl (rL 2 rfl ?_))
  refine dR (c+1) rfl rfl [] rfl ?_ ?_
  exact by omega
  (try dsimp only);omega
  refine rV 5 rfl ?_
  obtain⟨ba,bw,_,aA,⟨bt,bz,bu,bB⟩,_,⟨aW,be,rfl,Q,g⟩,aN⟩:=cn a2 T c (by omega)
  replace g:=a8.1 g
  refine vp (a3 aA rfl rfl (by omega) e6) rfl (vp (cl rfl aN rfl) rfl (rL 10 rfl (ww 3 ?_)))
  rotate_left
  any_goals
   refine uw 1 ?_
   refine a7 [6] (by kernel_rfl) rfl ?_
   refine eW e6 rfl ?_ bf
   intro bk aZ B aj
   refine ww 2 ?_
   rotate_left
  any_goals
   refine uw 2 ?_
   refine iJ ?_
   refine a7 [7] (by kernel_rfl) rfl ?_
   refine fW (news:=[zI i,.string m,zI j,.slice C n.length D]) rfl m8 rfl rfl (cd rfl aj) (fun h=>by cases h) (fun u hu=>a2.one (aP P (aC a2 f B)) u hu) (n1:=(a++ [(.mk i m j n:Ty)]).length) (by(try simp only[ll])<;>omega) (by simp;omega) rfl rfl ?_ bf
   intro au aw ab ao aF aG aH aI
   have aR:aL Ty.Cs ab (a++ [(.mk i m j n:Ty)]) (y++ [zI i,.string m,zI j,.slice C n.length D]):=bg a2 ao (c6 (bg a2 (ai X B) ah) (c4 (aP P (aC a2 f B))))
   refine bL [8,1009] rfl (by kernel_rfl) id (bS (by kernel_rfl) (rD 3 rfl (vp (bA rfl rfl (by omega)) rfl (rL 2 rfl ?_))))
   refine dR (ab,d+1,(a++ [(.mk i m j n:Ty)]),(y++ [zI i,.string m,zI j,.slice C n.length D]),au,aw) rfl rfl [1] rfl ?_ ?_
   exact⟨q.trans (ai (ai X B) ao),⟨aR,aI,aF,aG,aH⟩,by omega,by simp;omega⟩
   (try dsimp only);omega
  any_goals
   refine uw 3 ?_
   exact cH results92 (aK rfl rfl cD) ⟨rfl,_,_,rfl,(aP Q g)⟩
theorem GM(e:Ty.Cs ah bC aj)(c:a6 dU 1 ah az cC)(b:a6 Ty.Cs 4 ah cM b4)(d:cC.length≤b4.length):bd 92 [.agg aj.toArray,az,cM] ah (fun v R'=>∃(r:Ty) (a:LV),v= .agg a.toArray∧Ty.Cs R' r a):=GL _ e c b d (a9 _)
theorem GN(N:Nat):∀{R:Wd} {f:Vl} {l:List Ty} (m:a6 Ty.Cs 4 R f l) {b:LV} {t:Ty} (p:Ty.Cs R t b) (j:l.length+1≤N),bd 47 [f,.agg b.toArray] R (fun v R'=>∃(r:Ty) (g:LV),v= .agg g.toArray∧Ty.Cs R' r g):=by
 induction N with
 |zero=>
  intros
  intros;simp_all only[Nat.le_zero_eq];first|omega|(exfalso;rename_i H;exact absurd H (by first|exact oh _|exact ng _))
 |succ N Y=>
  intro R f l m b t p j
  obtain⟨Al,dA,rfl,O,n⟩:=m
  obtain⟨aj,st,ak,am⟩:=t
  obtain⟨aa,ag,rfl,c,a⟩:=p
  replace a:=a8.1 a
  try dsimp only
  refine b5 func47 rfl ntmps47 rfl rfl fun w G ad=> ?_
  refine sV 14 rfl ?_
  cases J:((l.length:Int)==0)
  have ai:=cc J
  refine rV 4 rfl ?_
  refine bZ mixed (fun k=>k==0) fun aq=> ?_
  refine bL [0] rfl (by kernel_rfl) id ?_
  obtain⟨ae,al,_,I,⟨q,y,u,A⟩,_,⟨C,E,rfl,P,d⟩,K⟩:=cn a2 n 0 (by omega)
  replace d:=a8.1 d
  refine vt 1 rfl (a3 (i:=0) I rfl rfl (by omega) e6) rfl (by kernel_rfl) id (vt 2 rfl (cl rfl K rfl) rfl (by kernel_rfl) id (bL [3] rfl (by kernel_rfl) id ?_))
  obtain⟨Z,af,V,M,S⟩:=a6.drop (i:=1) a2 O n (by omega)
  refine vt 4 rfl (od (i:=1) rfl rfl (by omega) e6 V) rfl (by kernel_rfl) id (bL [5] rfl (by kernel_rfl) id (a7 [6] (by kernel_rfl) rfl ?_))
  refine dK rfl (Y (dp M S) (aP c a) (by have ah:=j;simp only[List.length_drop];omega)) q9 rfl rfl ?_ bf
  rintro _ ab T ⟨⟨s,z,x,B⟩,_,rfl,⟨D,F,rfl,Q,e⟩⟩
  replace e:=a8.1 e
  refine a7 [7] (by kernel_rfl) rfl ?_
  refine eW e6 rfl ?_ bf
  intro h ac o L
  refine vt 8 rfl (bJ (vs:=[(0,zI 3),(3,.slice (some ⟨h,0,none⟩) 2 2)]) (v:= .agg #[zI 3,.string ⟨#[]⟩,zI 0,.slice (some ⟨h,0,none⟩) 2 2]) rfl (fun W=>by kernel_rfl)) rfl (by kernel_rfl) id (bL [1009] rfl (by kernel_rfl) id (bS (by kernel_rfl) (rD 2 rfl ?_)))
  have X:=dp (l:=[(.mk q y u A:Ty),(.mk s z x B:Ty)]) (pt (by simp)) (a5.new (xs:=[zI q,.string y,zI u,.slice C A.length E,zI s,.string z,zI x,.slice D B.length F]) a2 ((aL.cons (aP P (a5.sub a2 d (Sub.trans T o))) (aL.single (aP Q (a5.sub a2 e o))))) L)
  obtain⟨_,_,U,c,a⟩:=X;cases U
  refine ww 1 ?_
  rotate_left
  refine rV 9 rfl (ww 1 ?_)
  rotate_left
  any_goals
   refine uw 1 ?_
   exact cH results47 (aK rfl rfl cD) ⟨rfl,_,_,rfl,(aP c a)⟩
theorem tw(b:a6 Ty.Cs 4 ah az b4)(c:Ty.Cs ah bC aj):bd 47 [az,.agg aj.toArray] ah (fun v R'=>∃(r:Ty) (a:LV),v= .agg a.toArray∧Ty.Cs R' r a):=GN _ b c (a9 _)
theorem GO(N:Nat):∀{R:Wd} {e:LV} {a:Ty} (q:Ty.Cs R a e) {f:LV} {b:Ty} (s:Ty.Cs R b f) (p:a.size≤N),bd 106 [.agg e.toArray,.agg f.toArray] R (fun v R'=>R'=R∧∃(r:Bool),v= .bool r):=by
 induction N with
 |zero=>
  intros
  intros;simp_all only[Nat.le_zero_eq];first|omega|(exfalso;rename_i g;exact absurd g (by first|exact oh _|exact ng _))
 |succ N O=>
  intro R e a q f b s p
  obtain⟨n,sa,o,d⟩:=a
  obtain⟨U,ab,rfl,L,l⟩:=q
  obtain⟨kb,Q,nb,z⟩:=b
  obtain⟨W,ac,rfl,_,m⟩:=s
  replace l:=a8.1 l
  replace m:=a8.1 m
  refine b5 func106 rfl ntmps106 rfl rfl fun w G ad=> ?_
  refine sV 14 rfl ?_
  cases ag:(n==1)
  refine rL 18 rfl (ww 1 ?_)
  rotate_left
  refine rL 6 rfl ?_
  cases ai:(kb==1)
  refine rV 12 rfl (ww 1 ?_)
  rotate_left
  refine rV 13 rfl ?_
  exact cH results106 (aT rfl) ⟨rfl,rfl,(o==nb),rfl⟩
  any_goals
   refine uw 1 ?_
   cases aj:(n !=kb)
   refine rL 7 rfl ?_
   cases ak:(sa.toList==Q.toList)
   refine rL 25 rfl (ww 2 ?_)
   rotate_left
   refine rL 7 rfl ?_
   cases al:(o !=nb)
   refine rL 10 rfl ?_
   cases E:((d.length:Int) !=(z.length:Int))
   have am:(d.length:Int)=(z.length:Int):=by simpa using E
   refine rV 13 rfl ?_
   have af:d.length≤490000000:=(L).2.2.1
   refine lK (ι:=Nat) [2,3,4,49] 2 rfl (fun(c)=>(⟨[(50,.val (zI c))],[],[]⟩,R,c≤d.length,d.length -c)) (0) rfl rfl [] rfl ?_ ?_
   exact b2 _
   rintro c _
   show V _ _ _ ⟨_,_,_⟩ R
   refine rV 6 rfl ?_
   cases F:(decide ((c:Int)<(d.length:Int)))
   refine rV 12 rfl ?_
   exact cH results106 (aT rfl) ⟨rfl,rfl,true,rfl⟩
   have h:=cX F
   refine rV 12 rfl ?_
   refine bZ mixed (fun k=>k==0||k==1) fun aq=> ?_
   refine bL [0,1,2] rfl (by kernel_rfl) id ?_
   obtain⟨X,au,_,B,⟨t,x,u,y⟩,D,⟨S,Z,rfl,J,i⟩,H⟩:=cn a2 l c h
   replace i:=a8.1 i
   refine vt 3 rfl (a3 B rfl rfl h e6) rfl (by kernel_rfl) id (vt 4 rfl (cl rfl H rfl) rfl (by kernel_rfl) id (bL [5,6,7] rfl (by kernel_rfl) id ?_))
   obtain⟨Y,av,_,C,⟨ap,aw,ar,ax⟩,_,⟨T,aa,rfl,K,j⟩,I⟩:=cn a2 m c (by omega)
   replace j:=a8.1 j
   refine vt 8 rfl (a3 C rfl rfl (by omega) e6) rfl (by kernel_rfl) id (vt 9 rfl (cl rfl I rfl) rfl (by kernel_rfl) id (a7 [10] (by kernel_rfl) rfl ?_))
   have ao:(.mk t x u y:Ty).size+1≤(.mk n sa o d:Ty).size:=by have g:=jV h;rw[←D] at g;rw[Ty.size_mk (ys:=d)];omega
   have M:(.mk t x u y:Ty).size≤N:=by have ae:=p;omega
   refine dK rfl (O (aP J i) (aP K j) M) zZ rfl rfl ?_ bf
   rintro _ A -⟨an,⟨P,rfl⟩⟩
   subst A
   refine bL [11] rfl (by kernel_rfl) id (bS (by kernel_rfl) (rD 1 rfl ?_))
   cases ah:(P)
   refine rV 12 rfl (ww 2 ?_)
   rotate_left
   refine rV 5 rfl (vp (bA rfl rfl (by omega)) rfl (rL 2 rfl ?_))
   refine dR (c+1) rfl rfl [] rfl ?_ ?_
   exact by omega
   (try dsimp only);omega
   refine rV 8 rfl (ww 2 ?_)
   rotate_left
   refine rL 18 rfl (ww 2 ?_)
   rotate_left
   refine rL 32 rfl (ww 2 ?_)
   rotate_left
  any_goals
   refine uw 2 ?_
   exact cH results106 (aT rfl) ⟨rfl,rfl,false,rfl⟩
theorem GP(a:Ty.Cs ah bC aj)(b:Ty.Cs ah fC bj):bd 106 [.agg aj.toArray,.agg bj.toArray] ah (fun v R'=>R'=ah∧∃(r:Bool),v= .bool r):=GO _ a b (a9 _)
theorem GQ(N:Nat):∀{R:Wd} {r:LV} {e:Ex} (H:Ex.Cs R e r) (D:e.size≤1000000) (C:e.size≤N),bd 90 [.agg r.toArray] R (fun v R'=>∃(T:Vl) (l:List Ex),v=T∧a6 Ex.Cs 6 R' T l∧(l.length≤e.size)):=by
 induction N with
 |zero=>
  intros
  intros;simp_all only[Nat.le_zero_eq];first|omega|(exfalso;rename_i d;exact absurd d (by first|exact oh _|exact ng _))
 |succ N ay=>
  intro R r e H D C
  obtain⟨n,p,ne,a,o,k⟩:=e
  obtain⟨X,Y,rfl,I,q⟩:=H
  replace q:=c9.1 q
  refine b5 func90 rfl ntmps90 rfl rfl fun w G ad=> ?_
  refine sV 9 rfl ?_
  refine et cZ rfl ?_
  intro g1 z K an
  refine rL 13 rfl ?_
  have aI:a.length≤490000000:=(I).2.2.1
  refine lK (ι:=Wd×Nat×List Ex×LV×OA×Nat) [2,9,10] 1 rfl (fun(f,b,c,i,j,g)=>(⟨[(3,.val (.slice j c.length g)),(11,.val (zI b))],[],[⟨.slice j c.length g,c.length,i,31,6⟩]⟩,f,Sub z f∧(aL Ex.Cs f c i∧Src f 6 j c.length i∧c.length≤g∧g≤9223372036854775807∧(j=none→g=0))∧b≤a.length∧True∧(c.length≤1+aO (a.take b)),a.length -b)) (z,0,[(.mk n p ne a o k:Ex)],[zI n,.string p,zI ne,.slice X a.length Y,zI o,zI k],(some ⟨g1,0,none⟩),1) rfl rfl [1] rfl ?_ ?_
  exact⟨sR,⟨(c4 (de I (aC bM q K))),cd rfl an,by simp,by decide,fun h=>by cases h⟩,Nat.zero_le _,trivial,(by simp)⟩
  rintro⟨f,b,c,i,j,g⟩ ⟨M,⟨F,aw,ar,am,ae⟩,_,_,aK⟩
  show V _ _ _ ⟨_,_,_⟩ f
  refine rV 6 rfl ?_
  cases ak:(decide ((b:Int)<(a.length:Int)))
  refine rV 13 rfl ?_
  exact cH results90 (aT rfl) ⟨rfl,_,_,rfl,(dp ⟨ar,am,by have aa:=D;have aG:=Ex.size_mk n p ne a o k;have B:=eJ a;first|omega|(have h3:=B b;omega)|(have h3:=B (b+1);simp only[List.length_append];omega),ae⟩ (cz aw F)),by have ab:=eJ a b;rw[Ex.size_mk];omega⟩
  have m:=cX ak
  refine rV 7 rfl ?_
  obtain⟨aD,aN,_,ac,⟨O,S,Q,U,P,A⟩,s,⟨aA,aF,rfl,ap,t⟩,al⟩:=cn bM (aC bM q (ai K M)) b m
  replace t:=c9.1 t
  refine vp (a3 ac rfl rfl m cZ) rfl (vp (cl rfl al rfl) rfl (rL 7 rfl ?_))
  have aM:(.mk O S Q U P A:Ex).size+1≤(.mk n p ne a o k:Ex).size:=by have d:=oX m;rw[←s] at d;rw[Ex.size_mk (ys:=a)];omega
  have ax:(.mk O S Q U P A:Ex).size≤N:=by have aH:=C;omega
  refine cN (ay (de ap t) (by omega) ax) zY rfl rfl ?_
  rintro _ aB L ⟨_,u,rfl,⟨az,aE,rfl,ao,au⟩,aJ⟩
  obtain⟨x,av,E⟩:=id au
  refine j4 (news:=x) n8 rfl rfl av ao.2.2.2 (aL.one bM E) (n1:=(c++u).length) (by(try simp only[ll])<;>omega) (by have ab:=eJ a (b+1);have d:=gL m;rw[←s] at d;have aa:=fh n p ne a o k;simp only[List.length_append];omega) rfl rfl ?_
  intro W Z y J af ag ah aj
  have aq:aL Ex.Cs y (c++u) (i++x):=bg bM J (c6 (bg bM L F) E)
  refine rL 5 rfl (vp (bA rfl rfl (by omega)) rfl (rL 2 rfl ?_))
  refine dR (y,b+1,(c++u),(i++x),W,Z) rfl rfl [1] rfl ?_ ?_
  exact⟨M.trans (ai L J),⟨aq,aj,af,ag,ah⟩,by omega,trivial,by have d:=gL m;rw[←s] at d;simp only[List.length_append];omega⟩
  (try dsimp only);omega
theorem GR(c:Ex.Cs ah aM aj)(b:aM.size≤1000000):bd 90 [.agg aj.toArray] ah (fun v R'=>∃(a:Vl) (l:List Ex),v=a∧a6 Ex.Cs 6 R' a l∧(l.length≤aM.size)):=GQ _ c b (a9 _)
theorem GS(N:Ex.Cs ah aM aj)(ag:aM.size≤1000000):bd 68 [.agg aj.toArray] ah (fun v R'=>∃(C:Vl) (l:List BA),v=C∧a6 b7 1 R' C l∧(l.length≤aM.size)):=by
 obtain⟨ar,ay,ne,aA,av,ae⟩:=aM
 obtain⟨X,ab,rfl,Q,o⟩:=N
 replace o:=c9.1 o
 refine b5 func68 rfl ntmps68 rfl rfl fun w G ad=> ?_
 refine sV 15 rfl ?_
 refine cN (GR (de Q o) (by omega)) zY rfl rfl ?_
 rintro _ t _ ⟨_,j,rfl,⟨U,Z,rfl,P,S⟩,aq⟩
 refine rL 5 rfl ?_
 refine gN 9 1 ?_
 have ak:j.length≤490000000:=(P).2.2.1
 refine lK (ι:=Wd×Nat×List BA×LV×OA×Nat) [2,7,8] 1 rfl (fun(d,b,a,f,g,e)=>(⟨[(3,.val (.slice g a.length e)),(9,.val (zI b))],[],[⟨.slice g a.length e,a.length,f,9,1⟩]⟩,d,Sub t d∧(aL b7 d a f∧Src d 1 g a.length f∧a.length≤e∧e≤9223372036854775807∧(g=none→e=0))∧b≤j.length∧a.length≤b,j.length -b)) (t,0,[],[],none,0) rfl rfl [1] rfl ?_ ?_
 exact⟨sR,⟨gr,⟨rfl,.inl rfl⟩,a9 _,by decide,fun _=>rfl⟩,b2 _,b2 _⟩
 rintro⟨d,b,a,f,g,e⟩ ⟨p,⟨i,q,n,m,k⟩,ao,ap⟩
 show V _ _ _ ⟨_,_,_⟩ d
 refine rV 6 rfl ?_
 cases x:(decide ((b:Int)<(j.length:Int)))
 have an:=cS x
 refine rV 13 rfl ?_
 exact cH results68 (aT rfl) ⟨rfl,_,_,rfl,(dp ⟨n,m,by omega,k⟩ (cz q i)),by omega⟩
 have y:=cX x
 refine rV 7 rfl ?_
 obtain⟨Y,ax,_,H,⟨T,c,aw,az,au,ac⟩,_,⟨W,aa,rfl,_,z⟩,M⟩:=cn bM (aC bM S p) b y
 replace z:=c9.1 z
 refine vp (a3 H rfl rfl y cZ) rfl (vp (cl rfl M rfl) rfl (rL 10 rfl ?_))
 cases al:(T==1)
 refine rL 13 rfl (vp (bA rfl rfl (by omega)) rfl (rL 2 rfl (ww 1 ?_)))
 rotate_left
 refine rL 3 rfl (dJ rfl rfl rfl ?_)
 refine be (jE (dp ⟨n,m,by omega,k⟩ (cz q i)) c) ji rfl rfl ?_
 rintro _ ⟨E,rfl⟩
 refine rL 4 rfl ?_
 cases am:(E)
 refine rV 5 rfl ?_
 refine et fy rfl ?_
 intro af r A O
 refine gO ?_
 refine j4 (news:=[.string c]) gY rfl rfl (cd rfl O) (fun h=>by cases h) (fun u hu=>bT.one (show b7 r c [_] from rfl) u hu) (n1:=(a++ [c]).length) (by(try simp only[ll])<;>omega) (by simp;omega) rfl rfl ?_
 intro D F s B I J K L
 have R:aL b7 s (a++ [c]) (f++ [.string c]):=bg bT B (c6 (bg bT A i) (c4 (show b7 r c [_] from rfl)))
 refine rL 5 rfl (vp (bA rfl rfl (by omega)) rfl (rL 2 rfl ?_))
 refine dR (s,b+1,(a++ [c]),(f++ [.string c]),D,F) rfl rfl [1] rfl ?_ ?_
 exact⟨p.trans (ai A B),⟨R,L,I,J,K⟩,by omega,by simp;omega⟩
 (try dsimp only);omega
 refine rV 5 rfl (vp (bA rfl rfl (by omega)) rfl (rL 2 rfl (ww 1 ?_)))
 rotate_left
 any_goals
  refine uw 1 ?_
  refine dR (d,b+1,a,f,g,e) rfl rfl [1] rfl ?_ ?_
  exact⟨p.trans sR,⟨i,q,n,m,k⟩,by omega,by omega⟩
  (try dsimp only);omega
end Go.Proofs.YthnogncknmhgoaaGreat.Vm
namespace Go.Proofs.YthnogncknmhgoaaGreat.Vm
open Data
variable{aY:BA}{bi c0:Int}{b4:List Ty}{bC:Ty}
mutual
def fS (n:Int) (b:Ty):Ty→Ty
 | .mk k s m ys=>if k=1 then(if m=n then b else .mk k s m ys) else .mk k s m (jF n b ys)
def jF (n:Int) (b:Ty):List Ty→List Ty
 |[]=> []
 |t::r=>fS n b t::jF n b r
end
theorem z0(n:Int)(b:Ty):∀l:List Ty,jF n b l=l.map (fS n b)
 |[]=>by rw[jF];rfl
 |t::r=>by rw[jF,z0 n b r];rfl
mutual
def fv:Ty→Nat
 | .mk k _ _ ys=>if k=1 then 1 else fe ys+1
def fe:List Ty→Nat
 |[]=>0
 |t::r=>fv t+fe r
end
theorem oj(t:Ty):1≤fv t:=by cases t;rw[fv];split<;>omega
structure Bi where
 n:Int
 t:Ty
def dE:List Bi→Ty→Ty
 |[],t=>t
 |b::r,t=>dE r (fS b.n b.t t)
theorem z1{n:Int}(h:bi≠1):fS n bC (.mk bi aY c0 b4)= .mk bi aY c0 (b4.map (fS n bC)):=by rw[fS,if_neg h,z0]
theorem pC(h:bi=1):fS c0 bC (.mk bi aY c0 b4)=bC:=by rw[fS,if_pos h,if_pos rfl]
theorem pD{n:Int}(h:bi=1)(a:c0≠n):fS n bC (.mk bi aY c0 b4)= .mk bi aY c0 b4:=by rw[fS,if_pos h,if_neg a]
theorem tx:∀{L:List Bi} {k m:Int} {s:BA} {ys:List Ty} (h:k≠1),dE L (.mk k s m ys)= .mk k s m (ys.map (dE L))
 |[],k,m,s,ys,h=>by
  show Ty.mk k s m ys= .mk k s m (ys.map fun t=>t)
  rw[List.map_id']
 |b::r,k,m,s,ys,h=>by
  show dE r (fS b.n b.t (.mk k s m ys))=_
  rw[z1 h,tx h,List.map_map]
  rfl
theorem mB(h:bi≠1):fv (.mk bi aY c0 b4)=fe b4+1:=by rw[fv,if_neg h]
theorem ra{k m:Int}(h:k=1):fv (.mk k aY m b4)=1:=by rw[fv,if_pos h]
variable{bD:List Bi}
theorem tz{i:Nat}(h:i<bD.length)(t:Ty):dE (bD.drop i) t=dE (bD.drop (i+1)) (fS (bD[i]).n (bD[i]).t t):=by
 rw[List.drop_eq_getElem_cons h];rfl
def full (L:List Bi) (t:Ty):Nat:=fv (dE L t)
theorem pE{i:Nat}(f:Ty→Ty)(h:i<b4.length):fe ((b4.map f).take (i+1))=fe ((b4.map f).take i)+fv (f b4[i]):=by
 induction b4 generalizing i with
 |nil=>simp at h
 |cons a r b=>
  cases i with
  |zero=>simp[fe]
  |succ i=>
   have:=b (i:=i) (by simpa using h)
   simp only[List.map_cons,List.take_succ_cons,fe,List.getElem_cons_succ] at this⊢
   omega
theorem ol:∀(l:List Ty) (i:Nat),fe (l.take i)≤fe l
 |[],i=>by simp
 |a::r,0=>by simp[fe]
 |a::r,i+1=>by have:=ol r i;simp only[List.take_succ_cons,fe];omega
theorem GU{i:Nat}(f:Ty→Ty)(h:i<b4.length):fv (f b4[i])≤fe (b4.map f):=by
 have a:=pE f h
 have b:=ol (b4.map f) (i+1)
 omega
def nh (d:Nat) (n r:Int):Prop:=-1≤r∧r≤n∧((d:Int)≤n→r=n -d)∧(n<d→r<0)
theorem nh.one{n:Int}(h:0≤n):nh 1 n (n -1):=⟨by omega,by omega,fun _=>rfl,fun _=>by omega⟩
def kE (d:Nat) (n r:Int):Prop:=-1≤r∧r≤n∧(r<0→n<d+1)∧(0≤r→r=n -d -1)
theorem kE.start{n:Int}(h:0≤n):kE 0 n (n -1):=⟨by omega,by omega,fun _=>by omega,fun _=>by omega⟩
theorem kE.skip{d e:Nat}{n r:Int}(h:kE d n r)(a:r<0)(b:d≤e):kE e n r:=⟨h.1,h.2.1,fun _=>by have:=h.2.2.1 a;omega,fun _=>by omega⟩
theorem kE.step{d e:Nat}{n r q:Int}(h:kE d n r)(i:0≤r)(g:nh e r q):kE (d+e) n q:=by
 obtain⟨g1,g2,b,c⟩:=g
 have h3:=h.2.2.2 i
 refine⟨g1,by omega,fun f=> ?_,fun f=> ?_⟩
 ·by_cases a:(e:Int)≤r
  ·have:=b a;omega
  ·omega
 ·by_cases a:(e:Int)≤r
  ·have:=b a;omega
  ·have:=c (by omega);omega
theorem kE.done{d:Nat}{n r:Int}(h:kE d n r):nh (d+1) n r:=by
 obtain⟨e,f,h3,b⟩:=h
 refine⟨e,f,fun c=> ?_,fun c=> ?_⟩
 ·by_cases a:r<0
  ·have:=h3 a;omega
  ·have:=b (by omega);omega
 ·by_cases a:r<0
  ·exact a
  ·have:=b (by omega);omega
def iu:Ty→Ty
 | .mk k s m ys=>if k=1 then .mk 1 ⟨#[]⟩ m [] else .mk k s m ys
theorem tA(h:bi=1):iu (.mk bi aY c0 b4)= .mk 1 ⟨#[]⟩ c0 []:=if_pos h
theorem tB(h:bi≠1):iu (.mk bi aY c0 b4)= .mk bi aY c0 b4:=if_neg h
theorem z2:∀(L:List Bi) (t:Ty),fv (dE L (iu t))=fv (dE L t)
 |L,.mk k s m ys=>by
  by_cases a:k=1
  ·rw[tA a]
   induction L with
   |nil=>exact(ra (k:=1) rfl).trans (ra a).symm
   |cons b r d=>
    show fv (dE r (fS _ _ _))=fv (dE r (fS _ _ _))
    by_cases c:m=b.n
    ·subst c;rw[pC rfl,pC a]
    ·rw[pD rfl c,pD a c];exact d
  ·rw[tB a]
mutual
def hI (n:Int):Ty→Prop
 | .mk k _ m ys=>if k=1 then m=n else iv n ys
def iv (n:Int):List Ty→Prop
 |[]=>False
 |t::r=>hI n t∨iv n r
end
theorem pF{n k m:Int}(h:k=1):hI n (.mk k aY m b4)↔m=n:=by rw[hI,if_pos h]
theorem rb{n k m:Int}(h:k≠1):hI n (.mk k aY m b4)↔iv n b4:=by rw[hI,if_neg h]
theorem vZ{n:Int}:∀{l:List Ty},iv n l↔∃t∈l,hI n t
 |[]=>by rw[iv];simp
 |t::r=>by rw[iv,vZ];simp
mutual
theorem z3{n:Int}{b:Ty}:∀t:Ty,¬hI n t→fS n b t=t
 | .mk k s m ys,h=>by
   by_cases a:k=1
   ·rw[pF a] at h;exact pD a h
   ·rw[rb a] at h
    rw[fS,if_neg a,z5 ys h]
theorem z5{n:Int}{b:Ty}:∀l:List Ty,¬iv n l→jF n b l=l
 |[],_=>by rw[jF]
 |t::r,h=>by
  rw[iv,not_or] at h
  rw[jF,z3 t h.1,z5 r h.2]
end
mutual
theorem z6{n m:Int}{b:Ty}:∀t:Ty,hI n (fS m b t)→(hI n t∧n≠m)∨hI n b
 | .mk k s i ys,h=>by
   by_cases a:k=1
   ·by_cases c:i=m
    ·subst c;rw[pC a] at h;exact .inr h
    ·rw[pD a c] at h
     exact .inl ⟨h,fun e=>c (by rw[pF a] at h;omega)⟩
   ·rw[fS,if_neg a,rb a] at h
    rw[rb a]
    exact z7 ys h
theorem z7{n m:Int}{b:Ty}:∀l:List Ty,iv n (jF m b l)→(iv n l∧n≠m)∨hI n b
 |[],h=>by rw[jF,iv] at h;exact h.elim
 |t::r,h=>by
  rw[jF,iv] at h
  rw[iv]
  rcases h with h|h
  ·rcases z6 t h with h|h
   ·exact .inl ⟨.inl h.1,h.2⟩
   ·exact .inr h
  ·rcases z7 r h with h|h
   ·exact .inl ⟨.inr h.1,h.2⟩
   ·exact .inr h
end
def Good (L:List Bi):Prop:=∀i (h:i<L.length) j (a:j≤i),¬hI (L[j]'(by omega)).n (L[i]).t
theorem Good.nil:Good []:=fun i h=>by simp at h
theorem Good.GV(h:Good bD)(t:Ty):∀i,i≤bD.length→∀j (f:j<i) (g:j<bD.length),¬hI (bD[j]).n (dE (bD.take i) t):=by
 intro i
 induction i with
 |zero=>intro _ j f;omega
 |succ i c=>
  intro o j f g
  have k:i<bD.length:=by omega
  have e:dE (bD.take (i+1)) t=fS (bD[i]).n (bD[i]).t (dE (bD.take i) t):=by
   rw[List.take_succ_eq_append_getElem k]
   generalize bD.take i=l
   generalize bD[i]=b
   clear c o f
   induction l generalizing t with
   |nil=>rfl
   |cons a r c=>exact c (fS a.n a.t t)
  rw[e]
  intro q
  rcases z6 _ q with⟨d,m⟩|d
  ·by_cases p:j=i
   ·subst p;exact m rfl
   ·exact c (by omega) j (by omega) g d
  ·exact h i k j (by omega) d
theorem Good.full(h:Good bD)(t:Ty):∀j (a:j<bD.length),¬hI (bD[j]).n (dE bD t):=by
 intro j a
 have:=h.GV t bD.length (a9 _) j a a
 rwa[List.take_length] at this
theorem Good.append{L:List Bi}(h:Good L){b:Bi}(g:∀j (d:j<L.length),¬hI (L[j]).n b.t)(k:¬hI b.n b.t):Good (L++ [b]):=by
 intro i a j d
 rw[List.length_append] at a
 simp only[List.length_cons,List.length_nil] at a
 by_cases c:i<L.length
 ·rw[List.getElem_append_left c,List.getElem_append_left (show j<L.length by omega)]
  exact h i c j d
 ·have e:i=L.length:=by omega
  subst e
  rw[List.getElem_concat_length rfl]
  by_cases f:j<L.length
  ·rw[List.getElem_append_left f];exact g j f
  ·have e:j=L.length:=by omega
   subst e
   rw[List.getElem_concat_length rfl]
   exact k
end Go.Proofs.YthnogncknmhgoaaGreat.Vm
namespace Go.Proofs.YthnogncknmhgoaaGreat.Vm
open ChangeShapes WideShapes ChangeAt RowKit bq Data Lx
variable{aY:BA}{aj bj:LV}{cC:List Int}{b4:List Ty}{ae:Nat}{aA:OA}{bC fC:Ty}{ah:Wd}
theorem kF:cr 69 true 2:=by unfold cr;kernel_rfl
theorem mC:c7 67 140 5:=by unfold c7;kernel_rfl
theorem v0:aF 50:=by unfold aF;kernel_rfl
theorem rc:aF 52:=by unfold aF;kernel_rfl
variable{bD:List Bi}
theorem GW:¬full bD bC+ae≤0:=by have:=oj (dE bD bC);unfold full;omega
def Bi.Cs (R:World) (x:Bi) (c:List Value):Prop:=∃a,c= .int .i64 x.n::a∧x.t.Cs R a
theorem z8{n:Int}(h:bC.Cs ah aj):Bi.Cs ah ⟨n,bC⟩ (zI n::aj):=⟨aj,rfl,h⟩
theorem eM:eR Bi.Cs 5:=by
 refine⟨fun h d=> ?_,fun h=> ?_,fun h u hu=> ?_⟩
 ·obtain⟨b,c,a⟩:=h;exact⟨b,c,Ty.Cs.sub a d⟩
 ·obtain⟨b,rfl,a⟩:=h;simp[a.len]
 ·obtain⟨b,rfl,a⟩:=h
  rcases dX.1 hu with rfl|hu
  ·rfl
  ·exact a.one u hu
structure Su where
 l:List Bi
 made:Int
def Su.Cs (R:World) (x:Su) (c:List Value):Prop:=∃A cap,c=[.slice A x.l.length cap,.int .i64 x.made]∧cF A x.l.length cap∧a5 Bi.Cs 5 R A x.l
theorem eK{made:Int}(hh:cF aA bD.length ae)(a:a5 Bi.Cs 5 ah aA bD):Su.Cs ah ⟨bD,made⟩ [.slice aA bD.length ae,zI made]:=⟨aA,ae,rfl,hh,a⟩
theorem GY(N:Nat):∀{R:Wd} {O:LV} {t:Ty} (am:Ty.Cs R t O) (n:Int) {M:LV} {b:Ty} (ab:Ty.Cs R b M) (Q:t.size≤N),bd 52 [.agg O.toArray,zI n,.agg M.toArray] R (fun v R'=>∃(r:Ty) (aa:LV),v= .agg aa.toArray∧Ty.Cs R' r aa∧(r=fS n b t)):=by
 induction N with
 |zero=>
  intros
  intros;simp_all only[Nat.le_zero_eq];first|omega|(exfalso;rename_i x;exact absurd x (oh _))
 |succ N ap=>
  intro R O t am n M b ab Q
  obtain⟨o,st,p,d⟩:=t
  obtain⟨aR,aZ,rfl,ak,F⟩:=am
  obtain⟨kb,aM,nb,aN⟩:=b
  obtain⟨aQ,aY,rfl,S,z⟩:=ab
  replace F:=a8.1 F
  replace z:=a8.1 z
  refine b5 func52 rfl ntmps52 rfl rfl fun w G ad=> ?_
  refine sV 15 rfl ?_
  cases ac:(o==1)
  have D:=cc ac
  refine rV 11 rfl (vp (bJ (vs:=[(0,zI o),(1,.string st),(2,zI p)]) (v:= .agg #[zI o,.string st,zI p,zS]) rfl (fun W=>by kernel_rfl)) rfl (rL 14 rfl ?_))
  refine gN 36 4 ?_
  have a4:d.length≤490000000:=(ak).2.2.1
  refine lK (ι:=Wd×Nat×List Ty×LV×OA×Nat) [1,5,6,7,27,28] 3 rfl (fun(l,c,a,q,s,m)=>(⟨[(29,.val (zI c))],[(36,[zI o,.string st,zI p,.slice s a.length m])],[⟨.slice s a.length m,a.length,q,36,4⟩]⟩,l,Sub R l∧(aL Ty.Cs l a q∧Src l 4 s a.length q∧a.length≤m∧m≤9223372036854775807∧(s=none→m=0))∧c≤d.length∧a.length≤c∧(a=(d.take c).map (fS n (.mk kb aM nb aN:Ty))),d.length -c)) (R,0,[],[],none,0) rfl rfl [1] rfl ?_ ?_
  exact⟨sR,⟨gr,⟨rfl,.inl rfl⟩,Nat.le_refl _,by decide,fun _=>rfl⟩,Nat.zero_le _,Nat.zero_le _,(by simp)⟩
  rintro⟨l,c,a,q,s,m⟩ ⟨H,⟨ag,aI,aH,aF,ay⟩,a6,a9,ao⟩
  show V _ _ _ ⟨_,_,_⟩ l
  refine rV 6 rfl ?_
  cases af:(decide ((c:Int)<(d.length:Int)))
  have a5:=cS af
  refine rV 13 rfl ?_
  exact cH results52 (aK rfl rfl cD) ⟨rfl,_,_,rfl,(aP ⟨aH,aF,by omega,ay⟩ (cz aI ag)),(by rw[z1 D,ao,List.take_of_length_le (by omega)])⟩
  have y:=cX af
  refine rV 7 rfl ?_
  obtain⟨aW,ba,_,ax,⟨I,K,J,L⟩,P,⟨aO,aX,rfl,aj,E⟩,aE⟩:=cn a2 (aC a2 F H) c y
  replace E:=a8.1 E
  refine vp (a3 ax rfl rfl y e6) rfl (vp (cl rfl aE rfl) rfl (rL 4 rfl ?_))
  refine bZ mixed (fun k=>k==1||k==4) fun aq=> ?_
  refine bL [0,2,3,4] rfl (by kernel_rfl) id (a7 [1,5] (by kernel_rfl) rfl ?_)
  refine av rfl ?_ ?_
  refine a7 [5] (by kernel_rfl) rfl ?_
  have aJ:(.mk I K J L:Ty).size+1≤(.mk o st p d:Ty).size:=by have x:=jV y;rw[←P] at x;rw[Ty.size_mk (ys:=d)];omega
  have Y:(.mk I K J L:Ty).size≤N:=by have aw:=Q;omega
  refine dK rfl (ap (aP aj E) n (aP S (aC a2 z H)) Y) rc rfl rfl ?_ bf
  rintro _ aU X ⟨⟨f,i,g,j⟩,_,rfl,⟨B,C,rfl,T,e⟩,an⟩
  replace e:=a8.1 e
  refine ww 1 ?_
  rotate_left
  have aJ:(.mk I K J L:Ty).size+1≤(.mk o st p d:Ty).size:=by have x:=jV y;rw[←P] at x;rw[Ty.size_mk (ys:=d)];omega
  have Y:(.mk I K J L:Ty).size≤N:=by have aw:=Q;omega
  refine dK rfl (ap (aP aj E) n (aP S (aC a2 z H)) Y) rc rfl rfl ?_ bf
  rintro _ aS X ⟨⟨f,i,g,j⟩,_,rfl,⟨B,C,rfl,T,e⟩,an⟩
  replace e:=a8.1 e
  refine a7 [1,6] (by kernel_rfl) rfl ?_
  refine av rfl ?_ ?_
  refine ww 1 ?_
  rotate_left
  refine eW e6 rfl ?_ bf
  intro a0 aT A ah
  refine bL [1001] rfl (by kernel_rfl) id (ww 2 ?_)
  rotate_left
  have D:=cb ac
  refine rV 10 rfl ?_
  cases ae:(p==n)
  have U:=cc ae
  refine rV 11 rfl ?_
  exact cH results52 (aK rfl rfl cD) ⟨rfl,_,_,rfl,(aP ak F),(pD D U).symm⟩
  have U:=cb ae
  refine rV 10 rfl ?_
  exact cH results52 (aK rfl rfl cD) ⟨rfl,_,_,rfl,(aP S z),(by rw[U,pC D])⟩
  any_goals
   refine uw 1 ?_
   refine a7 [6] (by kernel_rfl) rfl ?_
   refine eW e6 rfl ?_ bf
   intro a1 aV A ah
   refine ww 2 ?_
   rotate_left
  any_goals
   refine uw 2 ?_
   refine iJ ?_
   refine a7 [7] (by kernel_rfl) rfl ?_
   refine fW (news:=[zI f,.string i,zI g,.slice B j.length C]) rfl m8 rfl rfl (cd rfl ah) (fun h=>by cases h) (fun u hu=>a2.one (aP T (aC a2 e A)) u hu) (n1:=(a++ [(.mk f i g j:Ty)]).length) (by(try simp only[ll])<;>omega) (by simp;omega) rfl rfl ?_ bf
   intro ar au Z al az aA aB aD
   have aG:aL Ty.Cs Z (a++ [(.mk f i g j:Ty)]) (q++ [zI f,.string i,zI g,.slice B j.length C]):=bg a2 al (c6 (bg a2 (ai X A) ag) (c4 (aP T (aC a2 e A))))
   refine bL [8,1009] rfl (by kernel_rfl) id (bS (by kernel_rfl) (rD 3 rfl (vp (bA rfl rfl (by omega)) rfl (rL 2 rfl ?_))))
   refine dR (Z,c+1,(a++ [(.mk f i g j:Ty)]),(q++ [zI f,.string i,zI g,.slice B j.length C]),ar,au) rfl rfl [1] rfl ?_ ?_
   exact⟨H.trans (ai (ai X A) al),⟨aG,aD,az,aA,aB⟩,by omega,by simp;omega,by rw[List.take_succ_eq_append_getElem y,List.map_append,←ao,List.map_singleton,←P,←an]⟩
   (try dsimp only);omega
theorem v5(c:Ty.Cs ah bC aj)(n:Int)(b:Ty.Cs ah fC bj):bd 52 [.agg aj.toArray,zI n,.agg bj.toArray] ah (fun v R'=>∃(r:Ty) (a:LV),v= .agg a.toArray∧Ty.Cs R' r a∧(r=fS n fC bC)):=GY _ c n b (a9 _)
theorem GZ(N:Nat):∀{R:Wd} {cs:LV} {s:Su} (ab:Su.Cs R s cs) {A:LV} {t:Ty} (ac:Ty.Cs R t A) (a:Nat) (n:Int) (Y:a≤s.l.length) (q:0≤n) (M:n≤1000000) (D:full (s.l.drop a) t+(s.l.length -a)≤N),bd 50 [.agg cs.toArray,.agg A.toArray,zI a,zI n] R (fun v R'=>R'=R∧∃(r:Int),v=zI r∧(nh (full (s.l.drop a) t) n r)):=by
 induction N with
 |zero=>
  intros
  intros;rename_i e;exact absurd e GW
 |succ N ae=>
  intro R cs s ab A t ac a n Y q M D
  obtain⟨b,aR⟩:=s
  obtain⟨az,aF,rfl,u,x⟩:=ab
  obtain⟨g,st,i,d⟩:=t
  obtain⟨aB,aH,rfl,an,I⟩:=ac
  (try dsimp only at u x)
  replace I:=a8.1 I
  refine b5 func50 rfl ntmps50 rfl rfl fun w G ad=> ?_
  refine sV 15 rfl ?_
  cases Q:(g==1)
  have j:=cc Q
  refine rV 6 rfl (vp (h0 rfl rfl rfl (by omega) (by omega)) rfl (rL 13 rfl ?_))
  have aK:d.length≤490000000:=(an).2.2.1
  refine lK (ι:=Int×Nat) [2,4,8,48,49] 2 rfl (fun(m,f)=>(⟨[(3,.val (zI m)),(50,.val (zI f))],[],[]⟩,R,f≤d.length∧(kE (fe ((d.map (dE (b.drop a))).take f)) n m),d.length -f)) (n -1,0) rfl rfl [] rfl ?_ ?_
  exact⟨Nat.zero_le _,(by simp only[List.take_zero];exact kE.start q)⟩
  rintro⟨m,f⟩ ⟨_,z⟩
  show V _ _ _ ⟨_,_,_⟩ R
  refine rV 6 rfl ?_
  cases U:(decide ((f:Int)<(d.length:Int)))
  have aN:=cS U
  refine rV 13 rfl ?_
  exact cH results50 (aT rfl) ⟨rfl,rfl,m,rfl,(by have e:=z.done;rw[List.take_of_length_le (by rw[List.length_map];omega)] at e;unfold full;rw[tx (L:=b.drop a) j,mB j];exact e)⟩
  have p:=cX U
  refine rV 7 rfl ?_
  obtain⟨aE,aU,_,ak,⟨ar,ax,au,ay⟩,C,⟨aA,aG,rfl,am,H⟩,al⟩:=cn a2 I f p
  replace H:=a8.1 H
  refine vp (a3 ak rfl rfl p e6) rfl (vp (cl rfl al rfl) rfl (rL 10 rfl ?_))
  cases W:(decide (m≥0))
  have F:=of_decide_eq_false W
  refine rV 5 rfl (vp (bA rfl rfl (by omega)) rfl (rL 2 rfl ?_))
  refine dR (m,f+1) rfl rfl [] rfl ?_ ?_
  exact⟨by omega,by have e:=pE (dE (b.drop a)) p;rw[←C] at e;rw[e];exact z.skip (by omega) (by omega)⟩
  (try dsimp only);omega
  have F:=of_decide_eq_true W
  refine rV 6 rfl ?_
  have aL:full (b.drop a) (.mk ar ax au ay:Ty)+1≤full (b.drop a) (.mk g st i d:Ty):=by unfold full;rw[tx (L:=b.drop a) j,mB j,C];have e:=GU (dE (b.drop a)) p;omega
  refine be (ae (eK u x) (aP am H) a m Y F (by have B:=z.2.1;omega) (by have B:full (b.drop a) (.mk g st i d:Ty)+(b.length -a)≤N+1:=D;show full (b.drop a) _+(b.length -a)≤N;omega)) v0 rfl rfl ?_
  rintro _ ⟨av,rfl,ao⟩
  refine rL 5 rfl (vp (bA rfl rfl (by omega)) rfl (rL 2 rfl ?_))
  refine dR (av,f+1) rfl rfl [] rfl ?_ ?_
  exact⟨by omega,by have e:=pE (dE (b.drop a)) p;rw[←C] at e;rw[e];exact z.step F ao⟩
  (try dsimp only);omega
  have j:=cb Q
  refine rV 9 rfl ?_
  have aJ:b.length≤490000000:=(u).2.2.1
  refine lK (ι:=Nat) [2,3,4,5,8] 2 rfl (fun(c)=>(⟨[(9,.val (zI c))],[],[]⟩,R,c≤b.length∧(a≤c∧full (b.drop a) (.mk g st i d:Ty)=full (b.drop c) (.mk g st i d:Ty)),b.length -c)) (a) rfl rfl [] rfl ?_ ?_
  exact⟨by omega,(⟨a9 _,rfl⟩)⟩
  rintro c ⟨aO,J⟩
  show V _ _ _ ⟨_,_,_⟩ R
  refine rV 10 rfl ?_
  cases S:(decide ((c:Int)<(b.length:Int)))
  have aM:=cS S
  refine rV 9 rfl (vp (h0 rfl rfl rfl (by omega) (by omega)) rfl (rL 5 rfl ?_))
  exact cH results50 (aT rfl) ⟨rfl,rfl,(n -1),rfl,(by rw[J.2,show c=b.length by omega,List.drop_length];show nh (fv (.mk g st i d:Ty)) _ _;rw[ra j];exact nh.one q)⟩
  have o:=cX S
  refine rV 6 rfl ?_
  refine bZ mixed (fun k=>k==0||k==1) fun aq=> ?_
  refine bL [0,1,2] rfl (by kernel_rfl) id ?_
  obtain⟨aD,aS,_,O,⟨K,⟨af,ah,ag,ai⟩⟩,P,⟨_,rfl,⟨aC,aI,rfl,aa,y⟩⟩,X⟩:=cn eM x c o
  replace y:=a8.1 y
  (try dsimp only at aa y)
  refine vt 3 rfl (a3 O rfl rfl o mC) rfl (by kernel_rfl) id (bL [4] rfl (by kernel_rfl) id (vt 5 rfl (dT rfl bG (X 0 _ rfl)) rfl (by kernel_rfl) id (bL [6,7,8] rfl (by kernel_rfl) id (bS (by kernel_rfl) (rD 1 rfl ?_)))))
  cases T:(K==i)
  have E:=cc T
  refine rV 6 rfl (vp (bA rfl rfl (by omega)) rfl (rL 2 rfl ?_))
  refine dR (c+1) rfl rfl [] rfl ?_ ?_
  exact⟨by omega,⟨by omega,by rw[J.2];unfold full;rw[tz o,←P];show fv (dE _ (fS K _ _))=_;rw[pD j (fun h=>E h.symm)]⟩⟩
  (try dsimp only);omega
  have E:=cb T
  refine rV 2 rfl ?_
  refine bZ mixed (fun k=>k==0) fun aq=> ?_
  refine bL [0,1,2,3] rfl (by kernel_rfl) id (vt 4 rfl (a3 O rfl rfl o mC) rfl (by kernel_rfl) id (bL [5] rfl (by kernel_rfl) id (vt 6 rfl (cl rfl (nc (off:=1) (n:=4) X rfl) rfl) rfl (by kernel_rfl) id (bL [7] rfl (by kernel_rfl) id (vt 8 rfl (bA rfl rfl (by omega)) rfl (by kernel_rfl) id (bL [9] rfl (by kernel_rfl) id (a7 [10] (by kernel_rfl) rfl ?_)))))))
  have Z:full (b.drop a) (.mk g st i d:Ty)=full (b.drop (c+1)) (.mk af ah ag ai:Ty):=by rw[J.2];unfold full;rw[tz o,←P];show fv (dE _ (fS K (.mk af ah ag ai:Ty) (.mk g st i d:Ty)))=_;rw[E,pC j]
  refine dK rfl (ae (eK u x) (aP aa y) (c+1) n (Nat.succ_le_of_lt o) q M (by have B:full (b.drop a) (.mk g st i d:Ty)+(b.length -a)≤N+1:=D;rw[Z] at B;show full (b.drop (c+1)) _+(b.length -(c+1))≤N;omega)) v0 rfl rfl ?_ bf
  rintro _ aj -⟨aQ,⟨aw,rfl,ap⟩⟩
  subst aj
  refine bL [11] rfl (by kernel_rfl) id (bS (by kernel_rfl) (rD 8 rfl ?_))
  exact cH results50 (aT rfl) ⟨rfl,rfl,aw,rfl,(by rw[Z];exact ap)⟩
variable{gu:Su}
theorem G0(e:Su.Cs ah gu aj)(f:Ty.Cs ah bC bj)(a:Nat)(n:Int)(d:a≤gu.l.length)(b:0≤n)(c:n≤1000000):bd 50 [.agg aj.toArray,.agg bj.toArray,zI a,zI n] ah (fun v R'=>R'=ah∧∃(r:Int),v=zI r∧(nh (full (gu.l.drop a) bC) n r)):=GZ _ e f a n d b c (a9 _)
theorem ni(g:Su.Cs ah gu aj)(h:Ty.Cs ah bC bj):bd 19 [.agg aj.toArray,.agg bj.toArray] ah (fun v R'=>R'=ah∧∃(b:Bool),v= .bool b∧((b=true↔full gu.l bC≤1000))):=by
 obtain⟨j,t⟩:=gu
 obtain⟨m,o,rfl,d,e⟩:=g
 obtain⟨s,st,u,x⟩:=bC
 obtain⟨n,p,rfl,f,a⟩:=h
 (try dsimp only at d e)
 replace a:=a8.1 a
 refine b5 func19 rfl ntmps19 rfl rfl fun w G ad=> ?_
 refine sV 11 rfl ?_
 refine be (G0 (eK d e) (aP f a) 0 1000 (b2 _) (by decide) (by decide)) v0 rfl rfl ?_
 rintro _ ⟨k,rfl,i⟩
 refine rL 5 rfl ?_
 exact cH results19 (aT rfl) ⟨rfl,rfl,(decide (k≥0)),rfl,(by have c:=i;simp only[List.drop_zero] at c;show _↔full j _≤1000;obtain⟨g1,g2,q,r⟩:=c;rw[decide_eq_true_eq];constructor<;>intro h0<;>omega)⟩
theorem nj:aF 19:=by unfold aF;kernel_rfl
theorem z9(b:Bi):∀(L:List Bi) (t:Ty),dE (L++ [b]) t=fS b.n b.t (dE L t)
 |[],t=>rfl
 |a::r,t=>z9 b r (fS a.n a.t t)
theorem G1{i:Nat}(h:i<bD.length)(t:Ty):dE (bD.take (i+1)) t=fS (bD[i]).n (bD[i]).t (dE (bD.take i) t):=by
 rw[List.take_succ_eq_append_getElem h];exact z9 _ _ _
def lR (b:Bi):Ty→Ty
 | .mk k s m ys=>if k=1∧b.n=m then b.t else .mk k s m ys
def fX:List Bi→Ty→Ty
 |[],t=>t
 |b::r,t=>fX r (lR b t)
theorem Aa(b:Bi):∀(L:List Bi) (t:Ty),fX (L++ [b]) t=lR b (fX L t)
 |[],t=>rfl
 |a::r,t=>Aa b r (lR a t)
theorem v7{i:Nat}(h:i<bD.length)(t:Ty):fX (bD.take (i+1)) t=lR (bD[i]) (fX (bD.take i) t):=by
 rw[List.take_succ_eq_append_getElem h];exact Aa _ _ _
theorem G2{n k m:Int}(h:k=1)(a:n=m):lR ⟨n,bC⟩ (.mk k aY m b4)=bC:=if_pos ⟨h,a⟩
theorem G3{n k m:Int}(a:n≠m):lR ⟨n,bC⟩ (.mk k aY m b4)= .mk k aY m b4:=if_neg fun h=>a h.2
theorem v8{k m:Int}{s:BA}{ys:List Ty}(h:k≠1):∀L:List Bi,fX L (.mk k s m ys)= .mk k s m ys
 |[]=>rfl
 |b::r=>by
  have e:lR b (.mk k s m ys)= .mk k s m ys:=if_neg fun g=>h g.1
  show fX r (lR b _)=_
  rw[e,v8 h r]
theorem Ab(L:List Bi)(i:Nat)(t:Ty):fX L t=fX (L.drop i) (fX (L.take i) t):=by
 have h:∀(A B:List Bi) (t:Ty),fX (A++B) t=fX B (fX A t):=by
  intro A
  induction A with
  |nil=>intro B t;rfl
  |cons a r b=>intro B t;exact b B _
 conv=>lhs;rw[←List.take_append_drop i L]
 exact h _ _ _
theorem lS(n:Int):bd 53 [zI n] ah (fun v R'=>R'=ah∧∃(t:Ty) (a:LV),v= .agg a.toArray∧Ty.Cs ah t a∧(t= .mk 1 ⟨#[]⟩ n [])):=by
 refine b5 func53 rfl ntmps53 rfl rfl fun w G ad=> ?_
 refine sV 8 rfl (vp (bJ (vs:=[(0,zI 1),(2,zI n)]) (v:= .agg #[zI 1,.string ⟨#[]⟩,zI n,zS]) rfl (fun W=>by kernel_rfl)) rfl (rL 4 rfl ?_))
 exact cH results53 (aK rfl rfl cD) ⟨rfl,rfl,_,_,rfl,(aP eg (ew (P:=Ty.Cs) (size:=4) _)),rfl⟩
theorem j5(ap:Su.Cs ah gu aj)(ar:Ty.Cs ah bC bj):bd 21 [.agg aj.toArray,.agg bj.toArray] ah (fun v R'=>∃(r:Ty) (O:LV),v= .agg O.toArray∧Ty.Cs R' r O∧((full gu.l bC≤1000∧r=dE gu.l (iu bC))∨(1000<full gu.l bC∧r= .mk 0 ⟨#[]⟩ 0 []))):=by
 obtain⟨a,aO⟩:=gu
 obtain⟨aB,aF,rfl,p,C⟩:=ap
 obtain⟨c,st,d,e⟩:=bC
 obtain⟨aa,ag,rfl,R,t⟩:=ar
 (try dsimp only at p C)
 replace t:=a8.1 t
 refine b5 func21 rfl ntmps21 rfl rfl fun w G ad=> ?_
 refine sV 12 rfl ?_
 refine be (ni (eK p C) (aP R t)) nj rfl rfl ?_
 rintro _ ⟨ae,rfl,H⟩
 refine rL 3 rfl ?_
 cases n:(ae)
 refine rV 3 rfl (vp (bJ (vs:=[]) (v:= .agg #[zI 0,.string ⟨#[]⟩,zI 0,zS]) rfl (fun W=>by kernel_rfl)) rfl (rL 5 rfl ?_))
 exact cH results21 (aK rfl rfl cD) ⟨rfl,_,_,rfl,(aP eg (ew (P:=Ty.Cs) (size:=4) _)),(by show(full a (.mk c st d e:Ty)≤1000∧_=dE a (iu (.mk c st d e:Ty)))∨(1000<full a (.mk c st d e:Ty)∧_);exact .inr ⟨by have aH:¬full a (.mk c st d e:Ty)≤1000:=fun h=>by{rw[H.2 h] at n;cases n};omega,rfl⟩)⟩
 refine rV 11 rfl ?_
 cases Q:(c==1)
 have B:=cc Q
 refine rV 13 rfl ?_
 have aJ:a.length≤490000000:=(p).2.2.1
 refine lK (ι:=Wd×Nat×Int×BA×Int×List Ty×OA×Nat) [3,4,19,20] 1 rfl (fun(g,b,J,N,L,j,m,z)=>(⟨[(21,.val (zI b))],[(36,[zI J,.string N,zI L,.slice m j.length z]),(36,[zI 0,.string ⟨#[]⟩,zI 0,zS])],[]⟩,g,Sub ah g∧(cF m j.length z∧a5 Ty.Cs 4 g m j)∧b≤a.length∧((.mk J N L j:Ty)=dE (a.take b) (.mk c st d e:Ty)),a.length -b)) (ah,0,c,st,d,e,aa,ag) rfl rfl [] rfl ?_ ?_
 exact⟨sR,⟨R,t⟩,b2 _,(rfl)⟩
 rintro⟨g,b,J,N,L,j,m,z⟩ ⟨F,⟨q,s⟩,_,x⟩
 show V _ _ _ ⟨_,_,_⟩ g
 refine rV 6 rfl ?_
 cases o:(decide ((b:Int)<(a.length:Int)))
 have aM:=cS o
 refine rV 13 rfl ?_
 exact cH results21 (aK rfl rfl cD) ⟨rfl,_,_,rfl,(aP q s),(by show(full a (.mk c st d e:Ty)≤1000∧_=dE a (iu (.mk c st d e:Ty)))∨(1000<full a (.mk c st d e:Ty)∧_);exact .inl ⟨H.1 n,by rw[x,List.take_of_length_le (by omega)];rw[tB B]⟩)⟩
 refine ww 1 ?_
 rotate_left
 have B:=cb Q
 refine rV 4 rfl ?_
 refine be (lS d) lc rfl rfl ?_
 rintro _ ⟨⟨T,X,U,Y⟩,_,rfl,⟨ab,ai,rfl,ao,E⟩,au⟩
 replace E:=a8.1 E
 refine rL 13 rfl ?_
 have aI:a.length≤490000000:=(p).2.2.1
 refine lK (ι:=Wd×Nat×Int×BA×Int×List Ty×OA×Nat) [3,4,19,20] 1 rfl (fun(f,b,I,M,K,i,k,y)=>(⟨[(21,.val (zI b))],[(36,[zI I,.string M,zI K,.slice k i.length y]),(36,[zI 0,.string ⟨#[]⟩,zI 0,zS])],[]⟩,f,Sub ah f∧(cF k i.length y∧a5 Ty.Cs 4 f k i)∧b≤a.length∧((.mk I M K i:Ty)=dE (a.take b) (.mk T X U Y:Ty)),a.length -b)) (ah,0,T,X,U,Y,ab,ai) rfl rfl [] rfl ?_ ?_
 exact⟨sR,⟨ao,E⟩,b2 _,(rfl)⟩
 rintro⟨f,b,I,M,K,i,k,y⟩ ⟨F,⟨q,s⟩,_,x⟩
 show V _ _ _ ⟨_,_,_⟩ f
 refine rV 6 rfl ?_
 cases o:(decide ((b:Int)<(a.length:Int)))
 have aL:=cS o
 refine rV 13 rfl ?_
 exact cH results21 (aK rfl rfl cD) ⟨rfl,_,_,rfl,(aP q s),(by show(full a (.mk c st d e:Ty)≤1000∧_=dE a (iu (.mk c st d e:Ty)))∨(1000<full a (.mk c st d e:Ty)∧_);exact .inl ⟨H.1 n,by rw[x,List.take_of_length_le (by omega)];rw[au,tA B]⟩)⟩
 refine ww 1 ?_
 rotate_left
 any_goals
  refine uw 1 ?_
  have A:=cX o
  refine rV 7 rfl ?_
  obtain⟨aE,aR,_,ak,⟨ax,⟨aN,aS,aQ,aT⟩⟩,al,⟨_,rfl,⟨aD,aG,rfl,S,u⟩⟩,am⟩:=cn eM (aC eM C F) b A
  replace u:=a8.1 u
  (try dsimp only at S u)
  refine vp (a3 ak rfl rfl A mC) rfl (vp (cl rfl am rfl) rfl (rL 10 rfl ?_))
  refine cN (v5 (aP q s) ax (aP S u)) rc rfl rfl ?_
  rintro _ ac aq ⟨⟨aw,az,ay,aA⟩,_,rfl,⟨Z,af,rfl,an,D⟩,av⟩
  replace D:=a8.1 D
  refine rL 5 rfl (vp (bA rfl rfl (by omega)) rfl (rL 2 rfl ?_))
  refine dR (ac,b+1,aw,az,ay,aA,Z,af) rfl rfl [] rfl ?_ ?_
  exact⟨F.trans aq,⟨an,D⟩,by omega,by rw[G1 A,←al,←x,av]⟩
  (try dsimp only);omega
theorem v9(X:Su.Cs ah gu aj)(Y:Ty.Cs ah bC bj):bd 104 [.agg aj.toArray,.agg bj.toArray] ah (fun v R'=>R'=ah∧∃(r:Ty) (A:LV),v= .agg A.toArray∧Ty.Cs ah r A∧(r=iu (fX gu.l bC))):=by
 obtain⟨a,av⟩:=gu
 obtain⟨af,al,rfl,K,O⟩:=X
 obtain⟨f,st,g,i⟩:=bC
 obtain⟨R,T,rfl,W,z⟩:=Y
 (try dsimp only at K O)
 replace z:=a8.1 z
 refine b5 func104 rfl ntmps104 rfl rfl fun w G ad=> ?_
 refine sV 14 rfl ?_
 have ao:a.length≤490000000:=(K).2.2.1
 refine lK (ι:=Nat×Int×BA×Int×List Ty×OA×Nat) [2,3,4] 1 rfl (fun(b,c,h,d,e,o,t)=>(⟨[(5,.val (zI b))],[(36,[zI c,.string h,zI d,.slice o e.length t]),(36,[zI 0,.string ⟨#[]⟩,zI 0,zS])],[]⟩,ah,(cF o e.length t∧a5 Ty.Cs 4 ah o e)∧b≤a.length∧((.mk c h d e:Ty)=fX (a.take b) (.mk f st g i:Ty)),a.length -b)) (0,f,st,g,i,R,T) rfl rfl [] rfl ?_ ?_
 exact⟨⟨W,z⟩,b2 _,(rfl)⟩
 rintro⟨b,c,h,d,e,o,t⟩ ⟨⟨L,P⟩,_,m⟩
 show V _ _ _ ⟨_,_,_⟩ ah
 refine rV 9 rfl ?_
 cases D:(decide ((b:Int)<(a.length:Int)))
 have ap:=cS D
 refine rL 20 rfl ?_
 cases I:(c==1)
 have s:=cc I
 refine rV 10 rfl ?_
 have p:fX a (.mk f st g i:Ty)=(.mk c h d e:Ty):=by rw[m,List.take_of_length_le (by omega)]
 refine ww 2 ?_
 rotate_left
 have s:=cb I
 refine rV 5 rfl ?_
 refine be (lS d) lc rfl rfl ?_
 rintro _ ⟨⟨au,aA,ax,aC⟩,_,rfl,⟨ai,an,rfl,N,j⟩,Q⟩
 replace j:=a8.1 j
 refine rL 5 rfl ?_
 have p:fX a (.mk f st g i:Ty)=(.mk c h d e:Ty):=by rw[m,List.take_of_length_le (by omega)]
 refine ww 1 ?_
 rotate_left
 have q:=cX D
 refine rL 6 rfl ?_
 cases E:(c==1)
 have u:=cc E
 refine rV 14 rfl ?_
 cases H:(c==1)
 have s:=cc H
 refine rV 10 rfl ?_
 have p:fX a (.mk f st g i:Ty)=(.mk c h d e:Ty):=by rw[Ab a b,←m,v8 u]
 refine ww 2 ?_
 rotate_left
 have s:=cb H
 refine rV 5 rfl ?_
 refine be (lS d) lc rfl rfl ?_
 rintro _ ⟨⟨ar,az,aw,aB⟩,_,rfl,⟨ag,am,rfl,N,j⟩,Q⟩
 replace j:=a8.1 j
 refine rL 5 rfl ?_
 have p:fX a (.mk f st g i:Ty)=(.mk c h d e:Ty):=by rw[Ab a b,←m,v8 u]
 refine ww 1 ?_
 rotate_left
 have u:=cb E
 refine rV 6 rfl ?_
 refine bZ mixed (fun k=>k==0||k==1) fun aq=> ?_
 refine bL [0,1,2] rfl (by kernel_rfl) id ?_
 obtain⟨ak,ay,_,B,⟨aa,⟨Z,ac,ab,ae⟩⟩,C,⟨_,rfl,⟨S,U,rfl,M,x⟩⟩,J⟩:=cn eM O b q
 replace x:=a8.1 x
 (try dsimp only at M x)
 refine vt 3 rfl (a3 B rfl rfl q mC) rfl (by kernel_rfl) id (bL [4] rfl (by kernel_rfl) id (vt 5 rfl (dT rfl bG (J 0 _ rfl)) rfl (by kernel_rfl) id (bL [6,7,8] rfl (by kernel_rfl) id (bS (by kernel_rfl) (rD 1 rfl ?_)))))
 cases F:(aa==d)
 have y:=cc F
 refine rV 6 rfl (vp (bA rfl rfl (by omega)) rfl (rL 2 rfl ?_))
 refine dR (b+1,c,h,d,e,o,t) rfl rfl [] rfl ?_ ?_
 exact⟨⟨L,P⟩,by omega,by rw[v7 q,←C,←m,G3 y]⟩
 (try dsimp only);omega
 have y:=cb F
 refine rV 5 rfl (vp (a3 B rfl rfl q mC) rfl (rL 1 rfl (vp (cl rfl (nc (off:=1) (n:=4) J rfl) rfl) rfl (rL 6 rfl (vp (bA rfl rfl (by omega)) rfl (rL 2 rfl ?_))))))
 refine dR (b+1,Z,ac,ab,ae,S,U) rfl rfl [] rfl ?_ ?_
 exact⟨⟨M,x⟩,by omega,by rw[v7 q,←C,←m,G2 u y]⟩
 (try dsimp only);omega
 any_goals
  refine uw 1 ?_
  exact cH results104 (aK rfl rfl cD) ⟨rfl,rfl,_,_,rfl,(aP N j),(by show _=iu (fX a (.mk f st g i:Ty));rw[p,tA s];exact Q)⟩
 any_goals
  refine uw 2 ?_
  exact cH results104 (aK rfl rfl cD) ⟨rfl,rfl,_,_,rfl,(aP L P),(by show _=iu (fX a (.mk f st g i:Ty));rw[p,tB s])⟩
theorem om:dO 51 3 1 8:=by unfold dO;kernel_rfl
theorem re:aF 51:=by unfold aF;kernel_rfl
theorem G4{i:Nat}(h:i<b4.length):fe (b4.take (i+1))=fe (b4.take i)+fv b4[i]:=by
 have:=pE (fun t=>t) h
 simpa using this
theorem G5{x:Int}{i:Nat}(h:i<b4.length):iv x (b4.take (i+1))↔iv x (b4.take i)∨hI x b4[i]:=by
 rw[List.take_succ_eq_append_getElem h,vZ,vZ]
 simp only[List.mem_append,List.mem_singleton]
 constructor
 ·rintro⟨t,b|rfl,a⟩
  ·exact .inl ⟨t,b,a⟩
  ·exact .inr a
 ·rintro(⟨t,b,a⟩|a)
  ·exact⟨t,.inl b,a⟩
  ·exact⟨_,.inr rfl,a⟩
theorem G6(N:Nat):∀{R:Wd} {i:OA} {o:List Int} {j:Nat} {f:LV} (af:dL dU 1 R i o j f) {D:LV} {t:Ty} (ai:Ty.Cs R t D) (B:o.length+fv t≤1000000) (W:t.size≤N),mA 51 [.slice i o.length j,.agg D.toArray] ⟨.slice i o.length j,o.length,f,3,1⟩ R (fun v aZ R'=>∃(Al:OA) (l:List Int) (dA:Nat) (fc:LV),v= .slice Al l.length dA∧aZ=⟨.slice Al l.length dA,l.length,fc,3,1⟩∧dL dU 1 R' Al l dA fc∧((∀x,x∈l↔x∈o∨hI x t)∧l.length≤o.length+fv t)):=by
 induction N with
 |zero=>
  intros
  intros;simp_all only[Nat.le_zero_eq];first|omega|(exfalso;rename_i q;exact absurd q (oh _))
 |succ N aX=>
  intro R i o j f af D t ai B W
  obtain⟨C,M,J,I,F⟩:=af
  obtain⟨z,st,b,a⟩:=t
  obtain⟨a4,a9,rfl,aK,L⟩:=ai
  replace L:=a8.1 L
  refine vS func51 rfl ntmps51 rfl rfl fun w G ad=> ?_
  refine sV 14 rfl ?_
  cases X:(z==1)
  have m:=cc X
  refine rV 13 rfl ?_
  have bh:=fR aK
  refine lK (ι:=Wd×Nat×List Int×LV×OA×Nat) [4,30,31] 1 rfl (fun(p,c,d,A,n,k)=>(⟨[(0,.val (.slice n d.length k)),(32,.val (zI c))],[],[⟨.slice n d.length k,d.length,A,3,1⟩]⟩,p,Sub R p∧(aL dU p d A∧Src p 1 n d.length A∧d.length≤k∧k≤9223372036854775807∧(n=none→k=0))∧c≤a.length∧True∧((∀x,x∈d↔x∈o∨iv x (a.take c))∧d.length≤o.length+fe (a.take c)),a.length -c)) (R,0,o,f,i,j) rfl rfl [1] rfl ?_ ?_
  exact⟨sR,⟨C,M,J,I,F⟩,Nat.zero_le _,trivial,(⟨fun x=>by simp[iv],by simp[fe]⟩)⟩
  rintro⟨p,c,d,A,n,k⟩ ⟨ah,⟨ab,ag,ac,aa,U⟩,_,_,y⟩
  show V _ _ _ ⟨_,_,_⟩ p
  refine rV 6 rfl ?_
  cases Y:(decide ((c:Int)<(a.length:Int)))
  have bj:=cS Y
  refine rV 13 rfl ?_
  exact dN results51 (aT rfl) (ts:=[⟨.slice n d.length k,d.length,A,3,1⟩]) (.cons_cons _ .slnil) ⟨_,rfl,_,_,_,_,rfl,rfl,⟨ab,ag,ac,aa,U⟩,⟨fun x=>by rw[y.1 x,List.take_of_length_le (by omega),rb m],by have r:=y.2;have E:=ol a c;rw[mB m];omega⟩⟩
  have s:=cX Y
  refine rV 7 rfl ?_
  obtain⟨a5,bo,_,ar,⟨O,Q,P,S⟩,H,⟨a1,a7,rfl,aJ,K⟩,aE⟩:=cn a2 (aC a2 L ah) c s
  replace K:=a8.1 K
  refine vp (a3 ar rfl rfl s e6) rfl (vp (cl rfl aE rfl) rfl (rL 7 rfl ?_))
  have bn:(.mk O Q P S:Ty).size+1≤(.mk z st b a:Ty).size:=by have q:=jV s;rw[←H] at q;rw[Ty.size_mk (ys:=a)];omega
  have aW:(.mk O Q P S:Ty).size≤N:=by have r:=W;omega
  have bl:fe (a.take (c+1))=fe (a.take c)+fv (.mk O Q P S:Ty):=by have q:=G4 s;rw[←H] at q;exact q
  have bm:=ol a (c+1)
  have aV:=B;rw[mB m] at aV
  refine kC (aX ⟨ab,ag,ac,aa,U⟩ (aP aJ K) (by have r:=y.2;omega) aW) re rfl rfl ?_
  rintro _ _ an aR ⟨al,aY,ao,a0,rfl,rfl,⟨aH,aU,aN,aG,av⟩,aj⟩
  refine rL 5 rfl (vp (bA rfl rfl (by omega)) rfl (rL 2 rfl ?_))
  refine dR (an,c+1,aY,a0,al,ao) rfl rfl [1] rfl ?_ ?_
  exact⟨ah.trans aR,⟨aH,aU,aN,aG,av⟩,by omega,trivial,⟨fun x=>by rw[aj.1 x,y.1 x,G5 s,←H,or_assoc],by have r:=aj.2;have E:=y.2;omega⟩⟩
  (try dsimp only);omega
  have m:=cb X
  refine rV 10 rfl ?_
  have bf:o.length≤490000000:=(show cF _ o.length _ from⟨J,I,by have r:=B;first|omega|(have E:=hxq.2;have be:=ol a e;have bd:=oj (.mk z st b a:Ty);have bc:fv (.mk z st b a:Ty)=fe a+1:=mB (by assumption);omega),F⟩).2.2.1
  refine lK (ι:=Nat) [0,3,4,12,13] 1 rfl (fun(e)=>(⟨[(14,.val (zI e))],[],[⟨.slice i o.length j,o.length,f,3,1⟩]⟩,R,e≤o.length,o.length -e)) (0) rfl rfl [1] rfl ?_ ?_
  exact b2 _
  rintro e bk
  show V _ _ _ ⟨_,_,_⟩ R
  refine rV 6 rfl ?_
  cases Z:(decide ((e:Int)<(o.length:Int)))
  have bi:=cS Z
  refine rV 11 rfl ?_
  refine et gE rfl ?_
  intro bb T aS aI
  refine gO ?_
  refine j4 (news:=[zI b]) om rfl rfl (cd rfl aI) (fun h=>by cases h) (fun u hu=>cP.one (show dU T b [_] from rfl) u hu) (n1:=(o++ [b]).length) (by(try simp only[ll])<;>omega) (by have r:=B;have E:=oj (.mk z st b a:Ty);(try simp only[ll]);omega) rfl rfl ?_
  intro ak ap am aQ ay az aA aB
  have aM:aL dU am (o++ [b]) (f++ [zI b]):=bg cP aQ (c6 (bg cP aS C) (c4 (show dU T b [_] from rfl)))
  refine rL 5 rfl ?_
  exact dN results51 (aT rfl) (ts:=[⟨.slice ak (o++ [b]).length ap,(o++ [b]).length,(f++ [zI b]),3,1⟩]) (.cons_cons _ (.cons _ .slnil)) ⟨_,rfl,_,_,_,_,rfl,rfl,⟨aM,aB,ay,az,aA⟩,⟨fun x=>by rw[pF m];simp[eq_comm],by rw[ra m];simp⟩⟩
  have ae:=cX Z
  refine rV 7 rfl ?_
  obtain⟨a6,bp,ba,au,aq,aw,ax,aF⟩:=cn cP (cz M C) e ae
  obtain rfl:=ax
  refine vp (a3 au rfl rfl ae gE) rfl (vp (dT rfl bG (aF 0 _ rfl)) rfl (rL 11 rfl ?_))
  cases aD:(aq==b)
  refine rV 5 rfl (vp (bA rfl rfl (by omega)) rfl (rL 2 rfl ?_))
  refine dR (e+1) rfl rfl [1] rfl ?_ ?_
  exact by omega
  (try dsimp only);omega
  have aO:=cb aD
  refine rV 14 rfl ?_
  exact dN results51 (aT rfl) (ts:=[⟨.slice i o.length j,o.length,f,3,1⟩]) (.cons_cons _ .slnil) ⟨_,rfl,_,_,_,_,rfl,rfl,⟨C,M,J,I,F⟩,⟨fun x=>⟨.inl,fun g=>g.elim id fun g=>by rw[pF m] at g;rw[←g,←aO,aw];exact List.getElem_mem _⟩,by omega⟩⟩
theorem tC(b:dL dU 1 ah aA cC ae aj)(c:Ty.Cs ah bC bj)(a:cC.length+fv bC≤1000000):mA 51 [.slice aA cC.length ae,.agg bj.toArray] ⟨.slice aA cC.length ae,cC.length,aj,3,1⟩ ah (fun v d R'=>∃(Al:OA) (l:List Int) (dA:Nat) (fc:LV),v= .slice Al l.length dA∧d=⟨.slice Al l.length dA,l.length,fc,3,1⟩∧dL dU 1 R' Al l dA fc∧((∀x,x∈l↔x∈cC∨hI x bC)∧l.length≤cC.length+fv bC)):=G6 _ b c a (a9 _)
theorem pG(aw:Ty.Cs ah bC aj)(E:fv bC≤1000):bd 20 [.agg aj.toArray] ah (fun v R'=>∃(r:Ty) (C:LV) (n:Int),v= .tuple #[.agg C.toArray,zI n]∧Ty.Cs R' r C∧(0≤n∧n≤1000)):=by
 obtain⟨az,st,aB,aF⟩:=bC
 obtain⟨Y,ag,rfl,K,l⟩:=aw
 replace l:=a8.1 l
 refine b5 func20 rfl ntmps20 rfl rfl fun w G ad=> ?_
 refine sV 10 rfl ?_
 refine nW 3 1 ?_
 refine kC (tC dL.nil (aP K l) (by simp;omega)) re rfl rfl ?_
 rintro _ _ A ap ⟨z,b,B,W,rfl,rfl,⟨an,au,O,I,D⟩,ax⟩
 refine rL 12 rfl ?_
 have aS:b.length≤490000000:=(show cF _ b.length _ from⟨O,I,by have p:=E;first|omega|(simp only[List.length_nil] at*;omega),D⟩).2.2.1
 refine lK (ι:=Wd×Nat×Int×BA×Int×List Ty×OA×Nat) [1,2,3,4,10,11] 0 rfl (fun(c,a,u,y,x,h,f,j)=>(⟨[(12,.val (zI a))],[(36,[zI u,.string y,zI x,.slice f h.length j]),(36,[zI 0,.string ⟨#[]⟩,zI 0,zS])],[⟨.slice z b.length B,b.length,W,3,1⟩]⟩,c,Sub A c∧(cF f h.length j∧a5 Ty.Cs 4 c f h)∧a≤b.length,b.length -a)) (A,0,az,st,aB,aF,Y,ag) rfl rfl [1] rfl ?_ ?_
 exact⟨sR,⟨K,(aC a2 l ap)⟩,b2 _⟩
 rintro⟨c,a,u,y,x,h,f,j⟩ ⟨t,⟨J,Q⟩,aX⟩
 show V _ _ _ ⟨_,_,_⟩ c
 refine rV 6 rfl ?_
 cases H:(decide ((a:Int)<(b.length:Int)))
 have aV:=cS H
 refine rV 15 rfl ?_
 have aU:b.length≤490000000:=(show cF _ b.length _ from⟨O,I,by have p:=E;first|omega|(simp only[List.length_nil] at*;omega),D⟩).2.2.1
 refine lK (ι:=Wd×Nat×Int×BA×Int×List Ty×OA×Nat) [1,2,3,4,25] 0 rfl (fun(g,a,S,U,T,m,i,o)=>(⟨[(26,.val (zI a))],[(36,[zI S,.string U,zI T,.slice i m.length o]),(36,[zI 0,.string ⟨#[]⟩,zI 0,zS])],[⟨.slice z b.length B,b.length,W,3,1⟩]⟩,g,Sub c g∧(cF i m.length o∧a5 Ty.Cs 4 g i m)∧a≤b.length,b.length -a)) (c,0,u,y,x,h,f,j) rfl rfl [1] rfl ?_ ?_
 exact⟨sR,⟨J,Q⟩,b2 _⟩
 rintro⟨g,a,S,U,T,m,i,o⟩ ⟨t,⟨N,R⟩,aY⟩
 show V _ _ _ ⟨_,_,_⟩ g
 refine rV 6 rfl ?_
 cases F:(decide ((a:Int)<(b.length:Int)))
 have aW:=cS F
 refine rV 16 rfl ?_
 exact cB results20 (aK rfl rfl cD) (aT rfl) ⟨rfl,_,_,(b.length:Int),rfl,(aP N R),⟨by omega,by have p:=ax.2;simp only[List.length_nil] at p;omega⟩⟩
 have aZ:=cX F
 refine rV 11 rfl ?_
 refine bZ mixed (fun k=>false) fun aq=> ?_
 refine bL [1] rfl (by kernel_rfl) id (vt 2 rfl (h0 rfl rfl rfl (by omega) (by omega)) rfl (by kernel_rfl) id (bL [3] rfl (by kernel_rfl) id (a7 [0,4] (by kernel_rfl) rfl ?_)))
 refine av rfl ?_ ?_
 refine a7 [4] (by kernel_rfl) rfl ?_
 refine dK rfl (lS (a:Int)) lc rfl rfl ?_ bf
 rintro _ ab -⟨q,⟨⟨a1,bh,ba,bl⟩,_,rfl,⟨aH,aN,rfl,L,d⟩,_⟩⟩
 subst ab
 replace d:=a8.1 d
 refine a7 [5] (by kernel_rfl) rfl (ww 1 ?_)
 rotate_left
 refine dK rfl (lS (a:Int)) lc rfl rfl ?_ bf
 rintro _ ac -⟨q,⟨⟨a4,bi,bb,bm⟩,_,rfl,⟨aI,aO,rfl,L,d⟩,_⟩⟩
 subst ac
 replace d:=a8.1 d
 refine bL [1000] rfl (by kernel_rfl) id (a7 [5] (by kernel_rfl) rfl (ww 1 ?_))
 rotate_left
 have P:=cX H
 refine rV 8 rfl ?_
 obtain⟨aL,be,aR,ak,ai,_,al,am⟩:=cn cP (aC cP (cz au an) t) a P
 obtain rfl:=al
 refine vp (a3 ak rfl rfl P gE) rfl (vp (dT rfl bG (am 0 _ rfl)) rfl (rL 4 rfl ?_))
 refine bZ mixed (fun k=>false) fun aq=> ?_
 refine bL [1,2] rfl (by kernel_rfl) id (vt 3 rfl (h0 rfl rfl rfl (by omega) (by omega)) rfl (by kernel_rfl) id (a7 [0,4] (by kernel_rfl) rfl ?_))
 refine av rfl ?_ ?_
 refine a7 [4] (by kernel_rfl) rfl ?_
 refine dK rfl (lS ((-1000000) -(a:Int))) lc rfl rfl ?_ bf
 rintro _ ae -⟨q,⟨⟨a6,bj,bc,bn⟩,_,rfl,⟨aJ,aQ,rfl,M,e⟩,_⟩⟩
 subst ae
 replace e:=a8.1 e
 refine a7 [5] (by kernel_rfl) rfl (ww 2 ?_)
 rotate_left
 refine dK rfl (lS ((-1000000) -(a:Int))) lc rfl rfl ?_ bf
 rintro _ aa -⟨q,⟨⟨a0,bg,a9,bk⟩,_,rfl,⟨aG,aM,rfl,M,e⟩,_⟩⟩
 subst aa
 replace e:=a8.1 e
 refine bL [1000] rfl (by kernel_rfl) id (a7 [5] (by kernel_rfl) rfl (ww 2 ?_))
 rotate_left
 any_goals
  refine uw 1 ?_
  refine dK rfl (v5 (aP N R) ((-1000000) -(a:Int)) (aP L d)) rc rfl rfl ?_ bf
  refine ww 3 ?_
  rotate_left
 any_goals
  refine uw 2 ?_
  refine dK rfl (v5 (aP J Q) ai (aP M e)) rc rfl rfl ?_ bf
  refine ww 3 ?_
  rotate_left
 any_goals
  refine uw 3 ?_
  rintro _ Z ar ⟨⟨ay,aD,aA,aE⟩,_,rfl,⟨X,af,rfl,ao,s⟩,_⟩
  replace s:=a8.1 s
  refine bL [1006] rfl (by kernel_rfl) id (bS (by kernel_rfl) (rD 3 rfl (vp (bA rfl rfl (by omega)) rfl (rL 2 rfl ?_))))
  refine dR (Z,a+1,ay,aD,aA,aE,X,af) rfl rfl [1] rfl ?_ ?_
  exact⟨t.trans ar,⟨ao,s⟩,by omega⟩
  (try dsimp only);omega
end Go.Proofs.YthnogncknmhgoaaGreat.Vm
