/- Lemmas for ModelOrs (10 of 15). No conditions. -/
import Derived.Test.YthnogncknmhgoaaGreatM8
set_option linter.all false
set_option maxRecDepth 100000
set_option maxHeartbeats 485000000
open Go.Proofs.Tryz
namespace Go.Proofs.YthnogncknmhgoaaGreat.Vm
open ChangeShapes WideShapes ChangeAt RowKit bq Data Mo
variable{dw:Array MapEntry}{c8:Array Operand}{fi:Array TypeId}{aY:BA}{dj:eF}{b3:Env}{aM:Ex}{dy:Exit→Act→Wd→Prop}{cI:cT}{bk:FuncId}{b1 ff:Hp}{aJ:Hx}{aj:LV}{bu:List (Nat×AV)}{aS:List Bx}{cv:List Ex}{aI gA Kf:List Nat}{dY:List Rl}{b4:List Ty}{oI:Mo.ei (List Nat)}{uk:Mo.ei (Ty×List Nat×Nat)}{gh:Mo.ei Nat}{p5:Mo.ei Unit}{ae ao aX:Nat}{gI:Nat→M Unit}{a0 rj:Nat→Nat}{ix:Nat→Option Vl}{aA:OA}{fH:Obj}{ap aW iz:PS}{dZ:ka}{aD:cU}{bI:St}{hs:tS}{bC:Ty}{aH ci:TypeId}{Ba:Unit}{az cM:Vl}{ah:Wd}
theorem uh{c:Code}{b:Nat}{ob:Obj}(d:aJ.H b=some ob)(k:aJ.K b=none→VX dj c dy bI ah ⟨aQ aJ.K b ob,gy aJ.H b⟩):VX dj c dy bI ah aJ:=fun ad a W h=>by
 refine k ?_ ad a W (h.freeze d)
 cases e:aJ.K b with
 |none=>rfl
 |some o=>
  have:=h.own.kh b (by rw[e];simp)
  rw[d] at this
  cases this
theorem B7(h:b1 ae=none):eC b1 (aQ b1 ae fH):=fun c ob a=>(bh _ _ (fun e=>by rw[e,h] at a;cases a)).trans a
theorem Jw(c:¬1<dY.length)(d:0<dY.length)(e:aG (fun g=>hJ (aB aD g) dY[0] aI) ap gh):aG (fun g=>ha (aB aD g) dY aI) ap gh:=by
 match dY,c,d with
 |[a],_,_=>exact e
 |a::b::q,c,_=>simp at c
theorem Jx{k:Nat}(d:1<dY.length)(c:k<dY.length)(e:pick dY.length ap=some (.ok (k,aW)))(f:aG (fun g=>hJ (aB aD g) dY[k] aI) aW gh):aG (fun g=>ha (aB aD g) dY aI) ap gh:=by
 match dY,d,c with
 |a::b::q,_,c=>
  refine bB (m:=fun _=>pick (a::b::q).length) (k:=fun g k=>hJ (aB aD g) ((a::b::q).getD k a) aI) (b8 e) ?_
  rw[List.getD_eq_getElem?_getD,List.getElem?_eq_getElem c]
  exact f
theorem Jy(c:1<dY.length)(d:pick dY.length ap=some (.error hs)):aG (fun g=>ha (aB aD g) dY aI) ap (.error hs):=by
 match dY,c with
 |a::b::q,_=>exact ej (m:=fun _=>pick (a::b::q).length) (k:=fun g k=>hJ (aB aD g) ((a::b::q).getD k a) aI) (b8 d)
section
variable{rs:cU}{v:Env}{gs:List Ex}{i c j:Nat}{st b6 dD:PS}
theorem nw(a:i<gs.length)(b:aG (fun g=>guards (aB rs g) v (gs[i]::gs.drop (i+1))) st p5):aG (fun g=>guards (aB rs g) v (gs.drop i)) st p5:=by
 rw[List.drop_eq_getElem_cons a]
 exact b
theorem Jz(a:later aM v st=some (.ok (j,b6)))(b:aG (fun g=>(aB rs g).force j) b6 (.ok (c,dD)))(h3:dD.at c= .unknown)(d:aG (fun g=>guards (aB rs g) v cv) {dD with cells:=dD.cells.set c (jK true)} p5):aG (fun g=>guards (aB rs g) v (aM::cv)) st p5:=
 bB (m:=fun _=>later aM v) (b8 a) (bB b (gG (by rw[h3];exact bB (m:=fun _=>put c (jK true)) (b8 rfl) d)))
theorem JA(a:later aM v st=some (.ok (j,b6)))(b:aG (fun g=>(aB rs g).force j) b6 (.ok (c,dD)))(h3:dD.at c= .cw aY aI)(e:aY=iN)(d:aG (fun g=>guards (aB rs g) v cv) dD p5):aG (fun g=>guards (aB rs g) v (aM::cv)) st p5:=
 bB (m:=fun _=>later aM v) (b8 a) (bB b (gG (by
  rw[h3]
  have:(fun g=>(if aY=iN then guards (aB rs g) v cv else stop 2:M Unit))=fun g=>guards (aB rs g) v cv:=funext fun g=>if_pos e
  show aG (fun g=>(if aY=iN then guards (aB rs g) v cv else stop 2:M Unit)) dD p5
  rw[this]
  exact d)))
theorem JB(a:later aM v st=some (.ok (j,b6)))(b:aG (fun g=>(aB rs g).force j) b6 (.ok (c,dD)))(h3:dD.at c= .cw aY aI)(d:aY≠iN):aG (fun g=>guards (aB rs g) v (aM::cv)) st (.error (2,0)):=
 bB (m:=fun _=>later aM v) (b8 a) (bB b (gG (by
  rw[h3]
  have:(fun g=>(if aY=iN then guards (aB rs g) v cv else stop 2:M Unit))=fun _=>stop 2:=funext fun g=>if_neg d
  show aG (fun g=>(if aY=iN then guards (aB rs g) v cv else stop 2:M Unit)) dD _
  rw[this]
  exact b8 rfl)))
theorem ui(a:later aM v st=some (.ok (j,b6)))(b:aG (fun g=>(aB rs g).force j) b6 (.ok (c,dD)))(hu:dD.at c≠ .unknown)(d:∀s l,dD.at c≠ .cw s l):aG (fun g=>guards (aB rs g) v (aM::cv)) st (.error (2,0)):=
 bB (m:=fun _=>later aM v) (b8 a) (bB b (gG (by
  cases e:dD.at c with
  |unknown=>exact absurd e hu
  |cw s l=>exact absurd e (d s l)
  |_=>exact b8 rfl)))
theorem JC(a:later aM v st=some (.ok (j,b6)))(b:aG (fun g=>(aB rs g).force j) b6 (.error hs)):aG (fun g=>guards (aB rs g) v (aM::cv)) st (.error hs):=
 bB (m:=fun _=>later aM v) (b8 a) (ej b)
end
theorem JD{d:Nat}{c:Nat}(g:Mo.Good aD d ap aW)(f:In d aW c)(h:aW.at c= .unknown):Mo.Good aD d ap {aW with cells:=aW.cells.set c (jK true)}:=by
 obtain⟨a,b,_⟩:=pV (c:=jK true) g.wf g.le f rC (fun i=>by
  have:=g.le.cell c i
  rw[h] at this
  cases e:ap.at c with
  |unknown=>exact .inr ⟨_,_,rfl⟩
  |dF _ _=>rw[e] at this;rcases this with h|⟨j,h⟩<;>cases h
  |_=>rw[e] at this;cases this) (fun _=>trivial) (rfl:put c (jK true) aW=some (.ok ((),_)))
 exact⟨a,b⟩
theorem JE{d wb:Nat}(bn:l5 d wb aD ae)(cq:∀N,rQ d wb aD ae N):tX d wb aD ae:=by
 intro bl st R X ex ew rules l b3 h c cT da cQ bv cn
 obtain⟨dy,d0,rfl,cN,c6⟩:=c
 obtain⟨Al,dA,rfl,ea,c2⟩:=cQ
 have bV:0<rules.length:=List.length_pos_iff.2 cT
 have eg:rules.length≤490000000:=cN.2.2.1
 refine eh func133 rfl ntmps133 rfl fun w G ad=> ?_
 refine cG 10 rfl ?_
 refine HY (ι:=Nat×(Nat→Nat)×PS×Wd×Hx) [0,1,2,6] 0 rfl (fun(au,aj,y,f,i)=>(⟨[(7,.val (zI (au:Nat)))],[],[]⟩,f,i,∃aP:au<rules.length,WF aD d y∧dq d wb aD aj y f i∧Le st y∧fF d st bl aj∧Sub R f∧eC X.K i.K∧∀r,aG (fun g=>hJ (aB aD g) rules[au] l) y r→aG (fun g=>ha (aB aD g) rules l) st r)) ?_ ?_
 refine aE 7 rfl ?_
 cases bC:(decide (((rules.length:Nat):Int)>1))
 have hT:¬1<rules.length:=by have:=of_decide_eq_false bC;omega
 refine aE 2 rfl ?_
 exact ry (0,bl,st,R,X) rfl rfl rfl [] rfl ⟨bV,b3,h,Le.refl _,g0 _,sR,eC.refl _,fun r c=>Jw hT bV c⟩
 have bS:1<rules.length:=by have:=of_decide_eq_true bC;omega
 refine aE 5 rfl ?_
 refine dP (wJ h rules.length) wR rfl rfl ?_ ?_
 rintro es O b5 b9 c7 cO ⟨rfl,r,bT,a⟩
 rcases r with t|⟨cf,dp⟩
 cases a
 obtain⟨cb,v,cX,cx,e,de⟩:=a
 cases e
 subst de
 have aS:=pU b3 (cR bT)
 refine an 2 rfl ?_
 exact ry (cf,cb,dp,b5,b9) rfl rfl rfl [] rfl ⟨aS.2,aS.1.wf,cX,aS.1.le,cx,c7,cO,fun r c=>Jx bS aS.2 (cR bT) c⟩
 rintro ch O f i _ _ ⟨rfl,r,c,a⟩
 rcases r with t|⟨az,y⟩
 cases a
 refine br 1 rfl ?_
 exact cL ⟨rfl,.error t,Jy bS (cR c),rfl⟩
 obtain⟨_,_,_,_,e,_⟩:=a
 cases e
 rintro⟨au,aj,y,f,i⟩ ⟨aP,dj,c5,aH,bu,b1,_,ag⟩
 show VX _ _ _ ⟨_,_,_⟩ f i
 have db:=da rules[au] (fL aP)
 obtain⟨bx,ek,d3,cj,cD,cH⟩:=a5.get dt (aC dt c6 b1) au aP
 cases cj
 generalize rules[au]=x at*
 obtain⟨dx,dZ,dz,d2,d1,rfl,cM,c4,cK,c0,bJ⟩:=cD
 have cB:=bJ
 obtain⟨dw,dY,rfl,_⟩:=fo bJ
 have be:x.b.size≤100000∧aO x.ps≤100000∧aO x.gs≤100000:=by unfold Rl.eo at db;omega
 have ef:x.ps.length≤490000000:=cM.2.2.1
 have d6:x.gs.length≤490000000:=cK.2.2.1
 have cS:a5 fE 1 f Al (l.map aj):=by rw[l3 bv bu];exact aC fZ c2 b1
 have cz:di d y l:=bv.le aH
 have a1:y.ay≤ae:=dS aH.ay cn
 refine aE 4 rfl (xp (a3 rfl rfl rfl aP hk) rfl (xp (cl rfl cH rfl) rfl ?_))
 refine rv rfl ?_
 rintro U dO _ co rfl
 refine an 15 rfl ?_
 have a8:di d y l:=cz
 refine eA (ι:=Nat×(Nat→Nat)×PS×Wd×Hp×Hp×(Array MapEntry)×Nat×Env) [0,2,6,8,9,28,29] 1 rfl (fun(k,W,L,aa,V,ai,Q,Y,P)=>(⟨[(30,.val (zI (k:Nat)))],[],[]⟩,aa,⟨V,aQ ai U (.map Q Y)⟩,k≤(x.ps).length∧WF aD d L∧dq d wb aD W L aa ⟨V,ai⟩∧ai U=none∧Le y L∧fF d y aj W∧Sub f aa∧eC i.K V∧g9 Q (hc W P)∧ed d L P∧∀r,aG (fun g=>dB (aB aD g) ((x.ps).drop k) ((l).drop k) P) L r→aG (fun g=>dB (aB aD g) (x.ps) (l) Env.nil) y r,(x.ps).length -k)) (0,aj,y,f,i.K,i.H,#[],0,Env.nil) rfl rfl rfl [] rfl ?_ ?_
 exact⟨b2 _,dj,c5,co,Le.refl _,g0 _,sR,eC.refl _,iw.nil,ed.nil,fun r c=>c⟩
 rintro⟨k,W,L,aa,V,ai,Q,Y,P⟩ ⟨eb,aV,bc,bf,Z,aM,am,bR,a4,ac,aU⟩
 show VX _ _ _ ⟨_,_,_⟩ aa ⟨V,aQ ai U (.map Q Y)⟩
 refine aE 6 rfl ?_
 cases bE:(decide (((k:Nat):Int)<((x.ps.length:Nat):Int)))
 have d5:k=x.ps.length:=by have:=of_decide_eq_false bE;omega
 refine aE 16 rfl ?_
 have ak:=aU _ (rP (v:=P) (st:=L) (.inl (List.drop_eq_nil_of_le (by omega))))
 refine uh (b:=U) (ob:= .map Q Y) (b0 _ _ _) ?_
 intro cp
 rw[j8 _ _ bf]
 have c1:dq d wb aD W L aa ⟨aQ V U (.map Q Y),ai⟩:=bc.mono sR (B7 cp)
 have bK:ia (aQ V U (.map Q Y)) W (.map (some U)) P:=⟨U,Q,Y,rfl,b0 _ _ _,a4⟩
 refine eA (ι:=Nat×(Nat→Nat)×PS×Wd×Hx) [0,6,8,9,49,50] 1 rfl (fun(m,aZ,av,aw,ax)=>(⟨[(51,.val (zI (m:Nat)))],[],[]⟩,aw,ax,m≤x.gs.length∧WF aD d av∧dq d wb aD aZ av aw ax∧Le L av∧fF d L W aZ∧Sub aa aw∧eC (aQ V U (.map Q Y)) ax.K∧∀r,aG (fun g=>guards (aB aD g) P (x.gs.drop m)) av r→aG (fun g=>guards (aB aD g) P x.gs) L r,x.gs.length -m)) (0,W,L,aa,⟨aQ V U (.map Q Y),ai⟩) rfl rfl rfl [] rfl ?_ ?_
 exact⟨b2 _,aV,c1,Le.refl _,g0 _,sR,eC.refl _,fun r c=>c⟩
 rintro⟨m,aZ,av,aw,ax⟩ ⟨ec,aW,bW,S,aA,aI,aR,ah⟩
 show VX _ _ _ ⟨_,_,_⟩ aw ax
 refine aE 6 rfl ?_
 cases bI:(decide (((m:Nat):Int)<((x.gs.length:Nat):Int)))
 have d7:m=x.gs.length:=by have:=of_decide_eq_false bI;omega
 refine aE 7 rfl ?_
 have bL:=ah _ (by rw[List.drop_eq_nil_of_le (by omega)];exact(fD:aG (fun _=>M.ret ()) av _))
 refine aE 5 rfl ?_
 refine dP (mF aW bW (cB.sub (am.trans aI)) be.1 ((bK.mono aR).jN ac aA) (ac.le S)) mG rfl rfl ?_ ?_
 rintro eq O dC dJ _ _ ⟨rfl,r,ba,a⟩
 rcases r with t|⟨dW,em⟩
 cases a
 obtain⟨dR,v,cV,cu,e,dc⟩:=a
 cases e
 subst dc
 have aN:=hV aW (ac.le S) (cR ba)
 refine dP (bn aN.1.wf cV aN.2 (dS aN.1.le.ay (dS S.ay (dS Z.ay a1)))) l8 rfl rfl ?_ ?_
 rintro er O dD dK _ _ ⟨rfl,r,cU,a⟩
 rcases r with t|⟨ce,dn⟩
 cases a
 obtain⟨ca,v,cW,cv,e,dd⟩:=a
 cases e
 subst dd
 refine an 4 rfl ?_
 exact dm results133 (aT rfl) ⟨rfl,.ok (ce,dn),ag _ (bB ak (bB bL (bB (m:=fun _=>later x.b P) (b8 (cR ba)) cU))),ca,_,cW,((bu.trans aM aH).trans aA (aH.trans Z)).trans (cu.trans cv aN.1.le) ((aH.trans Z).trans S),rfl,rfl⟩
 rintro ch O f i _ _ ⟨rfl,r,c,a⟩
 rcases r with t|⟨az,y⟩
 cases a
 refine br 1 rfl ?_
 exact cL ⟨rfl,.error t,ag _ (bB ak (bB bL (bB (m:=fun _=>later x.b P) (b8 (cR ba)) c))),rfl⟩
 obtain⟨_,_,_,_,e,_⟩:=a
 cases e
 rintro ch O f i _ _ ⟨rfl,r,c,a⟩
 rcases r with t|⟨az,y⟩
 cases a
 refine br 1 rfl ?_
 exact(mH (cR c)).elim
 obtain⟨_,_,_,_,e,_⟩:=a
 cases e
 have p:m<x.gs.length:=by have:=of_decide_eq_true bI;omega
 refine aE 7 rfl ?_
 obtain⟨cd,dl,ci,a0,aF,a7⟩:=a5.get bM c0 m p
 cases a0
 have a2:=aF
 obtain⟨b4,cg,rfl,_⟩:=fo aF
 refine xp (a3 rfl rfl rfl p cZ) rfl (xp (cl rfl (fun j u hu=>(am.trans aI) _ _ _ (a7 j u hu)) rfl) rfl (an 9 rfl ?_))
 refine dP (mF aW bW (a2.sub (am.trans aI)) (dS (rH (fL p)) be.2.2) ((bK.mono aR).jN ac aA) (ac.le S)) mG rfl rfl ?_ ?_
 rintro et O dE dL bX bO ⟨rfl,r,af,a⟩
 rcases r with t|⟨dX,en⟩
 cases a
 obtain⟨dU,v,cY,bq,e,df⟩:=a
 cases e
 subst df
 have ab:=hV aW (ac.le S) (cR af)
 refine dP (bn ab.1.wf cY ab.2 (dS ab.1.le.ay (dS S.ay (dS Z.ay a1)))) l8 rfl rfl ?_ ?_
 rintro eu O bi aJ bY bQ ⟨rfl,r,al,a⟩
 rcases r with t|⟨aL,aX⟩
 cases a
 obtain⟨aK,v,bb,bs,e,dg⟩:=a
 cases e
 subst dg
 have ap:=kU ab.1.wf ab.2 al
 refine an 5 rfl ?_
 obtain⟨⟨ei,A,B,C,D,E,F,I,T,n1,ao,z⟩,J,n⟩:=bb.cell aL ap.2.1
 cases o:aX.at aL with
 |dF e v=>
  rw[o] at n
  simp only[dv] at n
  obtain⟨rfl,_⟩:=n
  refine aE 4 rfl (bz (bw (cs:=[zI 0,A,B,C,D,E,F,I,T,n1,ao,z]) rfl (.inr (J)) bG rfl) rfl (an 11 rfl (bz (bw (cs:=[zI 0,A,B,C,D,E,F,I,T,n1,ao,z]) rfl (.inr (J)) bG rfl) rfl (an 12 rfl ?_))))
  refine eS (eV 2) eU rfl rfl (fun f i=> ?_)
  refine br 5 rfl ?_
  exact cL ⟨rfl,.error (2,0),ag _ (bB ak (ej (ah _ (nw p (ui (cR af) al (by rw[o];intro q;cases q) (by rw[o];intro s l q;cases q)))))),rfl⟩
 |link j=>
  rw[o] at n
  simp only[dv] at n
  obtain⟨rfl,rfl⟩:=n
  refine aE 4 rfl (bz (bw (cs:=[zI 1,A,B,C,D,E,F,I,_,n1,ao,z]) rfl (.inr (J)) bG rfl) rfl (an 11 rfl (bz (bw (cs:=[zI 1,A,B,C,D,E,F,I,_,n1,ao,z]) rfl (.inr (J)) bG rfl) rfl (an 12 rfl ?_))))
  refine eS (eV 2) eU rfl rfl (fun f i=> ?_)
  refine br 5 rfl ?_
  exact cL ⟨rfl,.error (2,0),ag _ (bB ak (ej (ah _ (nw p (ui (cR af) al (by rw[o];intro q;cases q) (by rw[o];intro s l q;cases q)))))),rfl⟩
 |unknown=>
  rw[o] at n
  simp only[dv] at n
  subst n
  refine aE 4 rfl (bz (bw (cs:=[zI 2,A,B,C,D,E,F,I,T,n1,ao,z]) rfl (.inr (J)) bG rfl) rfl (an 6 rfl ?_))
  refine dP (tV true) uc rfl rfl ?_ ?_
  rintro ev O b7 dN bZ -⟨rfl,bg,e⟩
  replace bg:=bg.symm
  subst bg
  cases e
  refine an 1 rfl ?_
  refine ke (cs:=[zI 2,A,B,C,D,E,F,I,T,n1,ao,z]) [zI 4,zI 0,.string ⟨#[]⟩,zI 0,zS,zI 0,zI 0,.map none,.pointer none,zI 0,.string ⟨#[84,114,117,101]⟩,zS] rfl rfl J rF rfl rfl rfl rfl ?_
  intro dH ct bo
  have c9:=bb.set ap.1.wf ap.2.1 (wS (R:=bi) (K:=aJ.K) (bl:=aK) true)
  have bN:=JD (ab.1.trans ap.1) ap.2.1 o
  subst ct
  refine an 7 rfl (bz (bw (cs:=[zI 4,zI 0,.string ⟨#[]⟩,zI 0,zS,zI 0,zI 0,.map none,.pointer none,zI 0,.string ⟨#[84,114,117,101]⟩,zS]) rfl (.inr (bo)) bG rfl) rfl (an 5 rfl (eX rfl rfl rfl (bz (bw (cs:=[zI 4,zI 0,.string ⟨#[]⟩,zI 0,zS,zI 0,zI 0,.map none,.pointer none,zI 0,.string ⟨#[84,114,117,101]⟩,zS]) rfl (.inr (bo)) fx rfl) rfl (an 4 rfl ?_)))))
  cases cA:((⟨#[84,114,117,101]⟩:BA).toList==(⟨#[84,114,117,101]⟩:BA).toList)
  exact absurd rfl (hW cA)
  refine aE 5 rfl (xp (bA rfl rfl (by omega)) rfl (an 2 rfl ?_))
  refine dI (m+1,aK,{aX with cells:=aX.cells.set aL (jK true)},b7,⟨aJ.K,aQ aJ.H (aK aL) (mE (wI true))⟩) rfl rfl rfl [] rfl ?_ ?_
  refine⟨by omega,bN.wf,?_,S.trans bN.le,?_,(aI.trans (bX.trans bY)).trans bZ,((aR.trans bO).trans bQ),fun r c=>ah r (nw p (Jz (cR af) al o c))⟩
  exact c9.mono bZ (eC.refl _)
  exact aA.trans (bq.trans bs ab.1.le) S
  show x.gs.length -(m+1)<x.gs.length -m;omega
  rintro ch O R' X' _ _ ⟨_,_,e⟩
  cases e
 |num m=>
  rw[o] at n
  simp only[dv] at n
  obtain⟨rfl,rfl⟩:=n
  refine aE 4 rfl (bz (bw (cs:=[zI 3,A,B,C,D,E,F,I,T,zI m,ao,z]) rfl (.inr (J)) bG rfl) rfl (an 11 rfl (bz (bw (cs:=[zI 3,A,B,C,D,E,F,I,T,zI m,ao,z]) rfl (.inr (J)) bG rfl) rfl (an 12 rfl ?_))))
  refine eS (eV 2) eU rfl rfl (fun f i=> ?_)
  refine br 5 rfl ?_
  exact cL ⟨rfl,.error (2,0),ag _ (bB ak (ej (ah _ (nw p (ui (cR af) al (by rw[o];intro q;cases q) (by rw[o];intro s l q;cases q)))))),rfl⟩
 |cw sm dk=>
  rw[o] at n
  simp only[dv] at n
  obtain⟨rfl,rfl,_⟩:=n
  refine aE 4 rfl (bz (bw (cs:=[zI 4,A,B,C,D,E,F,I,T,n1,.string sm,z]) rfl (.inr (J)) bG rfl) rfl (an 11 rfl (bz (bw (cs:=[zI 4,A,B,C,D,E,F,I,T,n1,.string sm,z]) rfl (.inr (J)) bG rfl) rfl (an 5 rfl (eX rfl rfl rfl (bz (bw (cs:=[zI 4,A,B,C,D,E,F,I,T,n1,.string sm,z]) rfl (.inr (J)) fx rfl) rfl (an 4 rfl ?_)))))))
  cases bD:(sm.toList==(⟨#[84,114,117,101]⟩:BA).toList)
  have bd:sm≠iN:=hW bD
  refine aE 2 rfl ?_
  refine eS (eV 2) eU rfl rfl (fun f i=> ?_)
  refine br 5 rfl ?_
  exact cL ⟨rfl,.error (2,0),ag _ (bB ak (ej (ah _ (nw p (JB (cR af) al o bd))))),rfl⟩
  have bd:sm=iN:=ki bD
  refine aE 5 rfl (xp (bA rfl rfl (by omega)) rfl (an 2 rfl ?_))
  refine dI (m+1,aK,aX,bi,aJ) rfl rfl rfl [] rfl ?_ ?_
  exact⟨by omega,ap.1.wf,bb,S.trans (ab.1.le.trans ap.1.le),aA.trans (bq.trans bs ab.1.le) S,aI.trans (bX.trans bY),(aR.trans bO).trans bQ,fun r c=>ah r (nw p (JA (cR af) al o bd c))⟩
  show x.gs.length -(m+1)<x.gs.length -m;omega
 |fn sm dk=>
  rw[o] at n
  simp only[dv] at n
  obtain⟨rfl,rfl,_⟩:=n
  refine aE 4 rfl (bz (bw (cs:=[zI 5,A,B,C,D,E,F,I,T,n1,.string sm,z]) rfl (.inr (J)) bG rfl) rfl (an 11 rfl (bz (bw (cs:=[zI 5,A,B,C,D,E,F,I,T,n1,.string sm,z]) rfl (.inr (J)) bG rfl) rfl (an 12 rfl ?_))))
  refine eS (eV 2) eU rfl rfl (fun f i=> ?_)
  refine br 5 rfl ?_
  exact cL ⟨rfl,.error (2,0),ag _ (bB ak (ej (ah _ (nw p (ui (cR af) al (by rw[o];intro q;cases q) (by rw[o];intro s l q;cases q)))))),rfl⟩
 rintro ch O f i _ _ ⟨rfl,r,c,a⟩
 rcases r with t|⟨az,y⟩
 cases a
 refine br 6 rfl ?_
 exact cL ⟨rfl,.error t,ag _ (bB ak (ej (ah _ (nw p (JC (cR af) c))))),rfl⟩
 obtain⟨_,_,_,_,e,_⟩:=a
 cases e
 rintro ch O f i _ _ ⟨rfl,r,c,a⟩
 rcases r with t|⟨az,y⟩
 cases a
 refine br 6 rfl ?_
 exact(mH (cR c)).elim
 obtain⟨_,_,_,_,e,_⟩:=a
 cases e
 have p:k<x.ps.length:=by have:=of_decide_eq_true bE;omega
 refine aE 8 rfl ?_
 obtain⟨cd,dl,ci,a0,aF,a7⟩:=a5.get bM c4 k p
 cases a0
 have a2:=aF
 obtain⟨b4,cg,rfl,_⟩:=fo aF
 refine xp (a3 rfl rfl rfl p cZ) rfl (xp (cl rfl (fun j u hu=>am _ _ _ (a7 j u hu)) rfl) rfl (an 13 rfl ?_))
 cases bF:(decide (((k:Nat):Int)<(((l.map bl).length:Nat):Int)))
 have ee:l.length≤k:=by have:=of_decide_eq_false bF;simp only[List.length_map] at this;omega
 refine aE 5 rfl (xp (bA rfl rfl (by omega)) rfl (an 2 rfl ?_))
 refine dI (k+1,W,L,aa,V,ai,Q,Y,P) rfl rfl rfl [] rfl ?_ ?_
 refine⟨by omega,aV,bc,bf,Z,aM,am,bR,a4,ac,fun r c=>aU r ?_⟩
 have d9:(l).drop k=[]:=List.drop_eq_nil_of_le (by omega)
 have d8:(l).drop (k+1)=[]:=List.drop_eq_nil_of_le (by omega)
 rw[d9]
 rw[d8] at c
 have cm:=c.one (rP (.inr rfl))
 subst cm
 exact rP (.inr rfl)
 show (x.ps).length -(k+1)<(x.ps).length -k;omega
 have ar:k<l.length:=by have:=of_decide_eq_true bF;simp only[List.length_map] at this;omega
 refine aE 1 rfl ?_
 refine dM mixed (fun k=>k==1) bH (fun _ _ h=>by cases h) fun aq=> ?_
 refine bm [0,1,2,3] rfl (by kernel_rfl) id ?_
 obtain⟨dV,el,d4,ck,cE,cJ⟩:=a5.get fZ cS k (by rw[List.length_map];exact ar)
 cases ck
 have cI:=cJ 0 (bP (aj l[k])) (by rw[cE,List.getElem_map];rfl)
 refine xt 4 rfl (a3 rfl rfl rfl (by rw[List.length_map];exact ar) jr) rfl (by kernel_rfl) id (xt 5 rfl (dT rfl ns (am _ _ _ cI)) rfl (by kernel_rfl) id (bm [6] rfl (by kernel_rfl) id (bp [7] (by kernel_rfl) rfl ?_)))
 have cC:W l[k]=aj l[k]:=aM _ (a8 _ (fL ar))
 rw[←cC]
 refine fY rfl (cq _ (v:=P) aV bc bf (a2.sub am) (dS (rH (fL p)) be.2.1) (a9 _) ((a8 _ (fL ar)).le Z) a4 ac (dS Z.ay a1)) w5 rfl rfl (fun _ _ h=>by cases h) ?_ ?_ ?_
 rintro ey O b6 aY c8 cP ⟨rfl,r,bU,a⟩
 rcases r with t|⟨ds,dr⟩
 cases a
 obtain⟨cc,bh,bk,bj,cr,dh,c3,cy,cF,e⟩:=a
 cases e
 have a6:=w9 aV ((a8 _ (fL ar)).le Z) ac bU
 rw[show aY=⟨aY.K,aQ bh U (.map bk bj)⟩ from by rw[←cr]]
 refine du (by kernel_rfl) (br 3 rfl (xp (bA rfl rfl (by omega)) rfl (an 2 rfl ?_)))
 refine dI (k+1,cc,dr,b6,aY.K,bh,bk,bj,ds) rfl rfl rfl [] rfl ?_ ?_
 refine⟨by omega,a6.1.wf,c3,dh,Z.trans a6.1.le,aM.trans cy Z,am.trans c8,bR.trans cP,cF,a6.2,fun r c=>aU r (p1 p ar (bB bU c))⟩
 show (x.ps).length -(k+1)<(x.ps).length -k;omega
 rintro ch O dG dQ _ _ ⟨rfl,r,c,a⟩
 rcases r with t|⟨az,ep⟩
 cases a
 refine br 5 rfl ?_
 exact cL ⟨rfl,.error t,ag _ (ej (aU _ (p1 p ar (ej c)))),rfl⟩
 obtain⟨_,_,_,_,_,_,_,_,_,e⟩:=a
 cases e
 exact bt
structure JF (d wb:Nat) (rs:cU) (F:Nat):Prop where
 force:l5 d wb rs F
 eval:rI d wb rs F
 OK:∀N,rQ d wb rs F N
 call:tX d wb rs F
 func:∀k,rJ d wb rs F k
 JG:∀k,pX d wb rs F k
 name:wL d wb rs F
 other:wM d wb rs F
theorem closed(d wb:Nat)(rs:cU)(F:Nat):JF d wb rs F:=by
 induction F using Nat.strongRecOn with
 |ind F c=>
  have g:rI d wb rs F:=Jk (fun a h=>(c a h).name) (fun a h=>(c a h).force) (fun a k h=>(c a h).JG k) (fun a h=>(c a h).other)
  have b:l5 d wb rs F:=Il g
  have l:∀N,rQ d wb rs F N:=fun N=>by
   induction N using Nat.strongRecOn with
   |ind N i=>exact Jv b i
  have f:tX d wb rs F:=JE b l
  have e:∀k,pX d wb rs F k:=fun k=>by
   induction k using Nat.strongRecOn with
   |ind k i=>exact IU fun n m=>BV f (i n m)
  have j:∀k,rJ d wb rs F k:=fun k=>BV f (e k)
  exact⟨b,g,l,f,j,e,IV b e j,Jc b (I6 b (IR b)) g⟩
theorem B8{d wb:Nat}{c:Nat}(w:WF aD d ap)(h:dq d wb aD a0 ap ah aJ)(a:In d ap c):cJ 113 [bP wb,bP (a0 c)] [] ah aJ (Out d wb aD a0 ap l4 (fun g=>(aB aD g).force c)):=(closed d wb aD ap.ay).force w h a (a9 _)
section
variable{C:eF}{ops:Array Oper}{Q:Exit→Act→Wd→Prop}{rest:List Oper}{S:St}{R:Wd}{X:Hx}{ty:TypeId}{pos:String}{af:Array Edge}
def jb (X:Hx) (b:Nat):Prop:=∃cs T,X.at b (.cells cs T (0,0))
theorem jb.w(h:jb X ae)(a:pM X ah):kN ah ae:=by
 obtain⟨cs,T,h⟩:=h
 exact⟨cs,T,a.heap h⟩
theorem B9{x y:Operand}{z r:Vl}(k:ev S x=some (.val (.map (some ae))))(l:ev S y=some (.val (bP aX)))(b:X.at ae (.map dw ao))(h:kd dw ix)(f:pO aH z)(j:∀ae,ix ae≠none→jb X ae)(g:jb X aX)
 (i:(ix aX).getD z=r):gF S R X (.lookup aH x y false) ty (.val r):=
 gF.val fun ad m W dst pos af n e o a=>by
  have c:=e.eval k
  have d:=e.eval l
  simp only[AV.den] at c d
  have:=HF f (a.heap b) h (fun ae b=>(j ae b).w a) (g.w a)
  rw[i] at this
  simp only[execOp,c,d,Sem.run_bind,this,Result.andThen_ok,Sem.run_pure]
theorem JH{x y u:Operand}(o:ev S x=some (.val (.map (some ae))))(p:ev S y=some (.val (bP aX)))(hu:ev S u=some (.val cM))(d:X.H ae=some (.map dw ao))(h:kd dw ix)(j:pO aH az)(n:∀ae,ix ae≠none→jb X ae)(l:jb X aX)(m:ix aX=none)
 (k:∀b c,kd b (gd ix aX cM)→bN C ops Q rest S R ⟨X.K,aQ X.H ae (.map b c)⟩):bN C ops Q (⟨none,.mapUpdate aH x y u,ty,pos,af,none⟩::rest) S R X:=by
 intro ad ac W a
 have e:=a.rel.eval o
 have f:=a.rel.eval p
 have h3:=a.rel.eval hu
 simp only[AV.den] at e f h3
 have g:=a.own.h ae _ d
 obtain⟨b,c,g1,g2⟩:=HG j g h (fun ae d=>(n ae d).w a.has) (l.w a.has) m cM
 refine wpList_plain rfl fun K i=> ?_
 unfold Oper.wp
 have:(execOp ac.eval ⟨none,.mapUpdate aH x y u,ty,pos,af,none⟩).run prog W= .ok .skip {W with heap:=W.heap.setIfInBounds ae (.map b c)}:=by
  simp only[execOp,e,f,h3,Sem.run_bind,g1,Result.andThen_ok,Sem.run_pure]
 rw[this]
 exact i _ _ (k b c g2 ad ac _ (a.ko (by rw[d];simp) (tP g)))
theorem JI{rw:List bU}{x y u:Operand}{f:Nat→Option Vl}(j:ev ⟨bu,aS,rw⟩ x=some (.val (.map (some ae))))(l:ev ⟨bu,aS,rw⟩ y=some (.val (bP aX)))(hu:ev ⟨bu,aS,rw⟩ u=some (.val cM))(e:X.H ae=some (.map dw ao))(h:kd dw f)(c:pO aH az)(i:∀ae,f ae≠none→jb X ae)(d:jb X aX)(g:f aX=none)
 (k:∀a b X',kd a (gd f aX cM)→X'=⟨X.K,aQ X.H ae (.map a b)⟩→bN C ops Q rest ⟨bu,aS,rw⟩ R X'):bN C ops Q (⟨none,.mapUpdate aH x y u,ty,pos,af,none⟩::rest) ⟨bu,aS,rw⟩ R X:=JH (S:=⟨bu,aS,rw⟩) j l hu e h c i d g fun a b h=>k a b _ h rfl
end
theorem Ca:np 202:=by
 have h:(prog.info? 204).map (·.size)=some 12:=by kernel_rfl
 cases e:prog.info? 204 with
 |none=>rw[e] at h;cases h
 |some i=>
  rw[e] at h
  refine⟨204,i,by kernel_rfl,e,?_⟩
  have:i.size=12:=Option.some.inj h
  rw[this]
  decide
theorem xc:pO 218 (.bool false):=⟨202,4,by kernel_rfl,Ca,fun W=>by rfl⟩
def iA (bl:Nat→Nat) (seen:List Nat):Nat→Option Value:=fun b=>if b∈seen.map bl then some (.bool true) else none
theorem JJ(bl:Nat→Nat):iA bl []=fun _=>none:=by funext b;simp[iA]
theorem JK(bl:Nat→Nat)(c:Nat)(l:List Nat):gd (iA bl l) (bl c) (.bool true)=iA bl (c::l):=by
 funext b
 unfold gd iA
 by_cases e:b=bl c
 ·subst e;simp
 ·simp[e]
theorem JL{d:Nat}(b:di d ap aI)(a:fF d ap a0 rj):iA rj aI=iA a0 aI:=by unfold iA;rw[l3 b a]
theorem xd{d wb:Nat}(h:dq d wb aD a0 ap ah aJ)(j:di d ap aI)(l:aJ.H ae=none)(b:Nat)(f:iA a0 aI b≠none):jb ⟨b1,aQ aJ.H ae fH⟩ b:=by
 unfold iA at f
 split at f
 ·rename_i k
  obtain⟨i,g,rfl⟩:=List.mem_map.1 k
  obtain⟨c,a,_⟩:=h.cell i (j i g)
  exact⟨_,_,.inr ((bh _ _ (fun e=>by rw[e,l] at a;cases a)).trans a)⟩
 ·exact absurd rfl f
theorem Cb{d wb:Nat}(h:dq d wb aD a0 ap ah aJ)(f:di d ap aI){c:Nat}(b:In d ap c)(g:c∉aI):iA a0 aI (a0 c)=none:=by
 unfold iA
 rw[if_neg]
 intro j
 obtain⟨i,a,e⟩:=List.mem_map.1 j
 exact g (h.inj i c (f i a) b e▸a)
theorem JM{c:Nat}(a:c∈aI):iA a0 aI (a0 c)=some (.bool true):=if_pos (List.mem_map.2 ⟨c,a,rfl⟩)
def kV (st:PS) (l:List Nat):Nat:=(List.range st.len).countP fun i=>decide (i∉l)
theorem Cc{α:Type}{p q:α→Bool}{a:α}:∀{l:List α},(∀x,p x=true→q x=true)→a∈l→q a=true→p a=false→l.countP p<l.countP q
 |b::l,d,c,g,f=>by
  have j:l.countP p≤l.countP q:=List.countP_mono_left fun x _=>d x
  rw[List.countP_cons,List.countP_cons]
  rcases dX.1 c with rfl|c
  ·rw[g,f];simp;omega
  ·have h:=Cc d c g f
   have i:(if p b=true then 1 else 0)≤(if q b=true then 1 else 0):=by
    by_cases e:p b=true
    ·rw[if_pos e,if_pos (d b e)];exact Nat.le_refl _
    ·rw[if_neg e];exact Nat.zero_le _
   omega
theorem JN{c:Nat}(b:c<ap.len)(d:aW.len=ap.len)(e:c∉aI):kV aW (c::aI)<kV ap aI:=by
 unfold kV
 rw[d]
 exact Cc (a:=c) (fun x h=>by simp at h⊢;exact h.2) (List.mem_range.2 b) (by simpa using e) (by simp)
theorem JO{st a1:PS}(b:a1.len=st.len)(h:∀i∈aI,i∈gA):kV a1 gA≤kV st aI:=by
 unfold kV
 rw[b]
 exact List.countP_mono_left fun x _ a=>by
  simp at a⊢
  exact fun q=>a (h x q)
theorem JP(h:tick ap=some (.ok (Ba,aW))):aW.ay<ap.ay:=by
 unfold tick at h
 split at h
 ·cases h
 ·rename_i a
  cases h
  show ap.ay -1<ap.ay
  omega
theorem JQ{d:Nat}(g:eT aD d cI)(w:WF aD d ap)(q:ed d ap b3)(h:iO cI aM b3 ap=some (.ok (ae,aW))):aW.ay<ap.ay:=by
 replace h:=cp h
 obtain⟨u,t,m,h⟩:=h
 have p:=JP m
 obtain⟨e,_⟩:=A9 w m
 have b:=q.le e.le
 refine Nat.lt_of_le_of_lt ?_ p
 revert h
 show dW _ _ _ _ _
 split<;>intro h
 ·replace h:=cp h
  obtain⟨l,b6,f,h⟩:=h
  obtain⟨g1,g2,_⟩:=l2 e.wf b f
  obtain⟨a,_⟩:=kg g1.wf (c:= .cw _ l) g2 h
  exact(g1.trans a).le.ay
 ·revert h
  show dW _ _ _ _ _
  split<;>intro h
  ·replace h:=cp h
   obtain⟨l,b6,f,h⟩:=h
   obtain⟨g1,g2,_⟩:=l2 e.wf b f
   obtain⟨a,_⟩:=Bc g g1.wf (b.le g1.le) g2 h
   exact(g1.trans a).le.ay
  ·revert h
   show dW _ _ _ _ _
   split<;>intro h
   ·obtain⟨a,k,n⟩:=Be g e.wf b h
    exact a.le.ay
   ·replace h:=cp h
    obtain⟨i,b6,f,h⟩:=h
    replace h:=cp h
    obtain⟨c,dD,o,h⟩:=h
    replace h:=cp h
    obtain⟨l,v,h3,h⟩:=h
    obtain⟨g1,g2⟩:=hV e.wf b f
    obtain⟨a,k,n⟩:=g.force g1.wf g2 o
    have r:=(b.le g1.le).le a.le
    obtain⟨j,s,_⟩:=l2 a.wf r h3
    obtain⟨n1,_⟩:=tT g j.wf (k.le j.le) ((j.le.cell c k.2).fg n) s h
    exact((g1.trans (a.trans j)).trans n1).le.ay
theorem Cd{d:Nat}:∀{g c:Nat} {st a1:PS} {a:Nat},WF aD d st→In d st c→(aB aD g).force c st=some (.ok (a,a1))→a1.ay<st.ay∨a1=st
 |0,c,st,a1,a,w,f,h=>by cases h
 |g+1,c,st,a1,a,w,f,h=>by
  replace h:jo (aB aD g) c st=some (.ok (a,a1)):=h
  replace h:=cp h
  obtain⟨x,b6,j,h⟩:=h
  obtain⟨k,rfl⟩:=jL j
  have i:=w.ok c f
  rw[←k] at i
  revert h
  show dW _ _ _ _ _
  split<;>intro h
  ·obtain⟨rfl,rfl⟩:=dG h
   exact .inr rfl
  ·rename_i e v
   replace h:=cp h
   obtain⟨y,dD,b,h⟩:=h
   replace h:=cp h
   obtain⟨u,l,h3,h⟩:=h
   obtain⟨rfl,rfl⟩:=dG h
   cases g with
   |zero=>cases b
   |succ g=>
    have:=JQ (eT.aB aD d g) w i b
    cases h3
    exact .inl this
  ·obtain⟨rfl,rfl⟩:=dG h
   exact .inr rfl
def ln (st a1:PS) (s a:List Nat):Prop:=a1.ay<st.ay∨(a1.ay=st.ay∧a1.len=st.len∧∀i∈s,i∈a)
theorem ln.refl{st:PS}{s:List Nat}:ln st st s s:= .inr ⟨rfl,rfl,fun _ h=>h⟩
theorem ln.trans{a b c:PS}{s t u:List Nat}(h:ln a b s t)(k:ln b c t u):ln a c s u:=by
 rcases h with h|⟨j,l,h3⟩
 ·rcases k with k|⟨f,g,d⟩
  ·exact .inl (by omega)
  ·exact .inl (by omega)
 ·rcases k with k|⟨f,g,d⟩
  ·exact .inl (by omega)
  ·exact .inr ⟨by omega,by omega,fun i e=>d i (h3 i e)⟩
theorem Ce{rs:cU}{d:Nat}:∀{g c:Nat} {s a:List Nat} {st a1:PS},WF rs d st→In d st c→di d st s→(aB rs g).whole c s st=some (.ok (a,a1))→ln st a1 s a
 |0,c,s,a,st,a1,w,m,e,h=>by cases h
 |g+1,c,s,a,st,a1,w,m,e,h=>by
  have t:∀(l:List Nat) {s a:List Nat} {st a1:PS},WF rs d st→di d st l→di d st s→gg (aB rs g) l s st=some (.ok (a,a1))→ln st a1 s a:=by
   intro l
   induction l with
   |nil=>
    intro s a st a1 w k e h
    obtain⟨rfl,rfl⟩:=dG h
    exact .refl
   |cons x r v=>
    intro s a st a1 w k e h
    replace h:=cp h
    obtain⟨z,b6,f,h⟩:=h
    obtain⟨g1,g2⟩:=(eT.aB rs d g).whole w (k x (hD ..)) e f
    exact(Ce w (k x (hD ..)) e f).trans (v g1.wf (fun i b=>(k i (iT _ b)).le g1.le) g2 h)
  replace h:kf (aB rs g) c s st=some (.ok (a,a1)):=h
  replace h:=cp h
  obtain⟨c1,b6,f,h⟩:=h
  obtain⟨g1,g2,y⟩:=(eT.aB rs d g).force w m f
  have q:ln st b6 s s:=by
   rcases Cd w m f with j|j
   ·exact .inl j
   ·subst j;exact .refl
  refine q.trans ?_
  replace h:=cp h
  obtain⟨x,dD,j,h⟩:=h
  obtain⟨u,rfl⟩:=jL j
  have n:=g1.wf.ok c1 g2
  rw[←u] at n
  revert h
  show dW _ _ _ _ _
  split<;>intro h
  ·revert h
   show dW _ _ _ _ _
   split<;>intro h
   ·obtain⟨rfl,rfl⟩:=dG h
    exact .refl
   ·have h3:=t _ g1.wf n (fun i b=>by
     rcases dX.1 b with rfl|b
     ·exact g2
     ·exact(e.le g1.le) i b) h
    rcases h3 with h3|⟨h3,o,p⟩
    ·exact .inl h3
    ·exact .inr ⟨h3,o,fun i b=>p i (iT _ b)⟩
  ·obtain⟨rfl,rfl⟩:=dG h
   exact .refl
theorem Ch:aF 107:=by unfold aF;kernel_rfl
def Gh (rs:cU) (d:Nat) (γ:Nat→M Unit):Prop:=∀c st,WF rs d st→In d st c→∃a1,γ c st=some (.ok ((),a1))∧a1.ay=st.ay∧a1.len=st.len∧a1.jJ=st.jJ∧∀i,d≤i→a1.at i=st.at i
theorem Gh.ret{rs:cU}{d:Nat}:Gh rs d (fun _=>M.ret ()):=fun c st w a=>⟨st,rfl,rfl,rfl,rfl,fun _ _=>rfl⟩
theorem jQ{d:Nat}(a:aW.len=ap.len){i:Nat}:In d aW i↔In d ap i:=by unfold In;rw[a]
theorem xe{d:Nat}(w:WF aD d ap)(b:aW.len=ap.len)(f:∀i,d≤i→aW.at i=ap.at i):WF aD d aW:=by
 refine⟨by rw[b];exact w.le,fun i g=> ?_⟩
 have k:=(jQ b).1 g
 have h:=w.ok i k
 rw[f i g.1]
 cases e:ap.at i with
 |dF a v=>rw[e] at h;exact fun s j c=>(jQ b).2 (h s j c)
 |link j=>rw[e] at h;exact⟨(jQ b).2 h.1,by rw[f j h.1.1];exact h.2⟩
 |cw s l=>rw[e] at h;exact fun j c=>(jQ b).2 (h j c)
 |fn s l=>rw[e] at h;exact⟨fun j c=>(jQ b).2 (h.1 j c),h.2⟩
 |_=>rw[e] at h;exact h
theorem JR{d wb:Nat}(h:dq d wb aD a0 ap ah aJ)(b:aW.len=ap.len)(c:aW.ay=ap.ay)(g:aW.jJ=ap.jJ)(e:∀i,d≤i→aW.at i=ap.at i):dq d wb aD a0 aW ah aJ:=by
 refine⟨fun i a=>by rw[e i a.1];exact h.cell i ((jQ b).1 a),fun i j a f=>h.inj i j ((jQ b).1 a) ((jQ b).1 f),fun i a=>h.ne i ((jQ b).1 a),?_,by rw[c];exact h.ay⟩
 rw[c,g]
 exact h.world
def nx (f:cT) (γ:Nat→M Unit) (c:Nat) (s:List Nat):M (List Nat):=(f.force c).bind fun c=>(γ c).bind fun _=>eB f c s
section
variable{rs:cU}{γ:Nat→M Unit}{c a:Nat}{s:List Nat}{st b6 dD:PS}
theorem JS(h:aG (fun g=>(aB rs g).force c) st (.error hs)):aG (fun g=>nx (aB rs g) γ c s) st (.error hs):=ej h
theorem ny(h:aG (fun g=>(aB rs g).force c) st (.ok (a,b6)))(b:γ a b6=some (.ok ((),dD)))(d:aG (fun g=>eB (aB rs g) a s) dD oI):aG (fun g=>nx (aB rs g) γ c s) st oI:=
 bB h (bB (m:=fun _=>γ a) (b8 b) d)
theorem Ci(h:aG (fun g=>nx (aB rs g) (fun _=>M.ret ()) c s) st oI):aG (fun g=>(aB rs g).whole c s) st oI:=aG.step (by exact h)
theorem rR(h:∀n l,st.at c≠ .cw n l):aG (fun g=>eB (aB rs g) c s) st (.ok (s,st)):=gG (by
 cases e:st.at c with
 |cw n l=>exact absurd e (h n l)
 |_=>exact fD)
theorem JT{n:BA}(h:st.at c= .cw n aI)(a:c∈s):aG (fun g=>eB (aB rs g) c s) st (.ok (s,st)):=gG (by
 rw[h]
 show aG (fun g=>if c∈s then M.ret s else gg (aB rs g) aI (c::s)) st _
 have:(fun g=>if c∈s then M.ret s else gg (aB rs g) aI (c::s))=fun _=>M.ret s:=funext fun g=>if_pos a
 rw[this]
 exact fD)
theorem Cj{n:BA}(h:st.at c= .cw n aI)(a:c∉s)(b:aG (fun g=>gg (aB rs g) aI (c::s)) st oI):aG (fun g=>eB (aB rs g) c s) st oI:=gG (by
 rw[h]
 show aG (fun g=>if c∈s then M.ret s else gg (aB rs g) aI (c::s)) st _
 have:(fun g=>if c∈s then M.ret s else gg (aB rs g) aI (c::s))=fun g=>gg (aB rs g) aI (c::s):=funext fun g=>if_neg a
 rw[this]
 exact b)
theorem Ck{i:Nat}(a:i<aI.length)(b:aG (fun g=>((aB rs g).whole aI[i] s).bind fun s=>gg (aB rs g) (aI.drop (i+1)) s) st oI):aG (fun g=>gg (aB rs g) (aI.drop i) s) st oI:=by
 rw[List.drop_eq_getElem_cons a]
 exact b
theorem JU(h:aI=[]):aG (fun g=>gg (aB rs g) aI s) st (.ok (s,st)):=by
 subst h
 exact fD
end
theorem JV(h:ap.ay<ae∨ap.ay=ae∧kV ap aI<ao)(k:ln ap aW aI gA):aW.ay<ae∨aW.ay=ae∧kV aW gA<ao:=by
 rcases k with k|⟨c,a,b⟩
 ·rcases h with h|h
  ·exact .inl (by omega)
  ·exact .inl (by omega)
 ·rcases h with h|h
  ·exact .inl (by omega)
  ·have:=JO (st:=ap) (a1:=aW) a b
   exact .inr (by omega)
theorem JW{s:List Nat}{c:Nat}(e:ap.ay=ae)(f:kV ap s=ao)(k:aW.ay<ap.ay∨aW=ap)(g:iz.ay=aW.ay)(b:iz.len=aW.len)(a:c<aW.len)(d:c∉s):iz.ay<ae∨iz.ay=ae∧kV iz (c::s)<ao:=by
 rcases k with k|rfl
 ·exact .inl (by omega)
 ·have:=JN a b d
  exact .inr (by omega)
def JX (d wb:Nat) (rs:cU) (bl:Nat→Nat) (st:PS) (a:Nat) (m:Nat→M (List Nat)):ka:=fun E ts R' X'=>
 ts=[]∧∃r,aG m st r∧match r with
  | .ok (c,a1)=>∃ef Hc es b,X'.H=aQ Hc a (.map es b)∧Hc a=none∧dq d wb rs ef a1 R' ⟨X'.K,Hc⟩∧fF d st bl ef∧kd es (iA ef c)∧WF rs d a1∧st.len≤a1.len∧E= .returned (.tuple #[])
  | .error t=>E= .panicked (oy t)
def uj (d wb:Nat) (rs:cU) (γ:Nat→M Unit) (F N:Nat):Prop:=∀{bl:Nat→Nat} {st:PS} {R:World} {K Hc:Hp} {a b:Nat} {es:Array MapEntry} {c:Nat} {s:List Nat},WF rs d st→dq d wb rs bl st R ⟨K,Hc⟩→Hc a=none→In d st c→di d st s→kd es (iA bl s)→st.ay=F→kV st s=N→
 cJ 107 [bP wb,bP (bl c),.map (some a)] [] R ⟨K,aQ Hc a (.map es b)⟩ (JX d wb rs bl st a (fun g=>nx (aB rs g) γ c s))
theorem JY{d c a:Nat}(w:WF aD d ap)(b:In d ap c)(h:aG (fun g=>(aB aD g).force c) ap (.ok (a,aW))):aW.ay<ap.ay∨aW=ap:=jO h fun g e=>Cd w b e
theorem JZ{d c:Nat}(w:WF aD d ap)(a:In d ap c)(e:di d ap aI)(h:aG (fun g=>(aB aD g).whole c aI) ap (.ok (gA,aW))):ln ap aW aI gA:=jO h fun g b=>Ce w a e b
theorem J0{d c:Nat}(w:WF aD d ap)(a:In d ap c)(e:di d ap aI)(h:aG (fun g=>(aB aD g).whole c aI) ap (.ok (gA,aW))):Mo.Good aD d ap aW∧di d aW gA:=jO h fun g b=>(eT.aB aD d g).whole w a e b
theorem Cl{d wb:Nat}{rs:cU}(bU:Gh rs d gI)(bj:∀aA aP,(aA<ae∨aA=ae∧aP<ao)→uj d wb rs (fun _=>M.ret ()) aA aP):uj d wb rs gI ae ao:=by
 intro bl st R K Hc E aa es c s aM h a7 aF a4 bv bi bk
 refine eh func107 rfl ntmps107 rfl fun w G ad=> ?_
 refine cG 4 rfl ?_
 refine kP (Hc:=Hc) (Hf:=hT E (.map es aa)) (ts:=[]) (rs:=[]) (B8 aM h aF) l8 rfl rfl (p3 a7).symm (w7 a7) rfl ?_ ?_
 rintro cc aN aR I _ _ bs ⟨rfl,r,F,D⟩
 rcases r with t|⟨x,bW⟩
 cases D
 obtain⟨b,cb,bM,U,e,bS⟩:=D
 cases e
 subst bS
 have u:=w8 bs
 rw[p3 u]
 have V:=kU aM aF F
 have J:kd es (iA b s):=by rw[JL a4 U];exact bv
 obtain⟨z,W,aY,ab,bx,aX⟩:=bU x bW V.1.wf V.2.1
 have Z:=xe V.1.wf ab aX
 have B:=JR bM ab aY bx aX
 have au:In d z x:=(jQ ab).2 V.2.1
 have al:di d z s:=fun i X=>(jQ ab).2 ((a4.le V.1.le) i X)
 have ac:st.len≤z.len:=by rw[ab];exact V.1.le.len
 have bJ:=fun bI=>JW (c:=x) (s:=s) bi bk (JY aM aF F) aY ab V.2.1.2 bI
 refine an 5 rfl ?_
 obtain⟨⟨b9,L,N,O,P,Q,S,T,ah,n1,az,aq⟩,a,p⟩:=B.cell x au
 cases A:z.at x with
 |dF e v=>
  rw[A] at p
  simp only[dv] at p
  obtain⟨rfl,b5,b8,b4⟩:=p
  have y:b x≠E:=fun q=>by rw[q,u] at a;cases a
  refine aE 4 rfl (bz (bw (cs:=[zI 0,L,N,O,P,Q,S,T,ah,n1,az,aq]) rfl (.inr ((bh _ _ y).trans a)) bG rfl) rfl (an 11 rfl ?_))
  exact kS results107 ⟨rfl,.ok (s,z),ny F W (rR (by rw[A];intro n l q;cases q)),b,I.H,es,aa,rfl,u,B,U,J,Z,ac,rfl⟩
 |link j=>
  rw[A] at p
  simp only[dv] at p
  obtain⟨rfl,rfl⟩:=p
  have y:b x≠E:=fun q=>by rw[q,u] at a;cases a
  refine aE 4 rfl (bz (bw (cs:=[zI 1,L,N,O,P,Q,S,T,_,n1,az,aq]) rfl (.inr ((bh _ _ y).trans a)) bG rfl) rfl (an 11 rfl ?_))
  exact kS results107 ⟨rfl,.ok (s,z),ny F W (rR (by rw[A];intro n l q;cases q)),b,I.H,es,aa,rfl,u,B,U,J,Z,ac,rfl⟩
 |unknown=>
  rw[A] at p
  simp only[dv] at p
  subst p
  have y:b x≠E:=fun q=>by rw[q,u] at a;cases a
  refine aE 4 rfl (bz (bw (cs:=[zI 2,L,N,O,P,Q,S,T,ah,n1,az,aq]) rfl (.inr ((bh _ _ y).trans a)) bG rfl) rfl (an 11 rfl ?_))
  exact kS results107 ⟨rfl,.ok (s,z),ny F W (rR (by rw[A];intro n l q;cases q)),b,I.H,es,aa,rfl,u,B,U,J,Z,ac,rfl⟩
 |num m=>
  rw[A] at p
  simp only[dv] at p
  obtain⟨rfl,rfl⟩:=p
  have y:b x≠E:=fun q=>by rw[q,u] at a;cases a
  refine aE 4 rfl (bz (bw (cs:=[zI 3,L,N,O,P,Q,S,T,ah,zI m,az,aq]) rfl (.inr ((bh _ _ y).trans a)) bG rfl) rfl (an 11 rfl ?_))
  exact kS results107 ⟨rfl,.ok (s,z),ny F W (rR (by rw[A];intro n l q;cases q)),b,I.H,es,aa,rfl,u,B,U,J,Z,ac,rfl⟩
 |cw sm o=>
  rw[A] at p
  simp only[dv] at p
  obtain⟨rfl,rfl,bo⟩:=p
  have y:b x≠E:=fun q=>by rw[q,u] at a;cases a
  obtain⟨Am,cq,rfl,bE,bN⟩:=bo
  by_cases af:x∈s
  refine aE 4 rfl (bz (bw (cs:=[zI 4,L,N,O,P,Q,S,T,ah,n1,.string sm,.slice Am (o.map b).length cq]) rfl (.inr ((bh _ _ y).trans a)) bG rfl) rfl (an 4 rfl (eX rfl rfl rfl (bz (B9 (r:= .bool true) rfl rfl (.inr (b0 _ _ _)) J xc (xd B al u) ⟨_,_,.inr ((bh _ _ y).trans a)⟩ (by rw[JM af];rfl)) rfl (an 6 rfl ?_)))))
  exact kS results107 ⟨rfl,.ok (s,z),ny F W (JT A af),b,I.H,es,aa,rfl,u,B,U,J,Z,ac,rfl⟩
  refine aE 4 rfl (bz (bw (cs:=[zI 4,L,N,O,P,Q,S,T,ah,n1,.string sm,.slice Am (o.map b).length cq]) rfl (.inr ((bh _ _ y).trans a)) bG rfl) rfl (an 4 rfl (eX rfl rfl rfl (bz (B9 (r:= .bool false) rfl rfl (.inr (b0 _ _ _)) J xc (xd B al u) ⟨_,_,.inr ((bh _ _ y).trans a)⟩ (by rw[Cb B al au af];rfl)) rfl (an 10 rfl ?_)))))
  refine JI (f:=iA b s) rfl rfl rfl (b0 _ _ _) J xc (xd B al u) ⟨_,_,.inr ((bh _ _ y).trans a)⟩ (Cb B al au af) ?_
  rintro bf bd bZ aV rfl
  rw[JK] at aV
  simp only[iM]
  refine an 7 rfl (bz (bw (cs:=[zI 4,L,N,O,P,Q,S,T,ah,n1,.string sm,.slice Am (o.map b).length cq]) rfl (.inr ((bh _ _ y).trans a)) gH rfl) rfl (an 5 rfl ?_))
  have a0:di d z o:=by have:=Z.ok x au;rw[A] at this;exact this
  have bR:di d z (x::s):=fun i X=>by
   rcases dX.1 X with rfl|X
   ·exact au
   ·exact al i X
  refine eA (ι:=Nat×(Nat→Nat)×PS×Wd×Hp×Hp×(Array MapEntry)×Nat×(List Nat)) [0,2,26,27] 0 rfl (fun(i,ak,C,ap,am,aj,ar,av,ai)=>(⟨[(28,.val (zI (i:Nat)))],[],[]⟩,ap,⟨am,aQ aj E (.map ar av)⟩,i≤o.length∧WF rs d C∧dq d wb rs ak C ap ⟨am,aj⟩∧aj E=none∧Le z C∧fF d z b ak∧Sub aR ap∧eC I.K am∧kd ar (iA ak ai)∧di d C ai∧(C.ay<ae∨C.ay=ae∧kV C ai<ao)∧∀r,aG (fun g=>gg (aB rs g) (o.drop i) ai) C r→aG (fun g=>gg (aB rs g) o (x::s)) z r,o.length -i)) (0,b,z,aR,I.K,I.H,bf,bd,x::s) rfl rfl rfl [] rfl ?_ ?_
  exact⟨b2 _,Z,B,u,Le.refl _,g0 _,sR,eC.refl _,aV,bR,bJ af,fun r ag=>ag⟩
  rintro⟨i,ak,C,ap,am,aj,ar,av,ai⟩ ⟨b6,ax,a2,a8,aw,aD,a6,bH,aW,aI,a1,aK⟩
  show VX _ _ _ ⟨_,_,_⟩ ap ⟨am,aQ aj E (.map ar av)⟩
  have b7:o.length≤490000000:=by have:=bE.2.2.1;simpa using this
  have aJ:∀{k:Nat} (aZ:k<o.length),In d C o[k]:=fun aZ=>(a0 _ (fL aZ)).le aw
  refine aE 6 rfl ?_
  cases aU:(decide (((i:Nat):Int)<(((o.map b).length:Nat):Int)))
  have bK:o.length≤i:=by have:=of_decide_eq_false aU;simp only[List.length_map] at this;omega
  refine aE 5 rfl (wl ?_)
  have bu:=aK _ (JU (s:=ai) (st:=C) (List.drop_eq_nil_of_le bK))
  exact kS results107 ⟨rfl,.ok (ai,C),ny F W (Cj A af bu),ak,aj,ar,av,rfl,a8,a2,fun i X=>(aD i ((jQ ab).2 (X.le V.1.le))).trans (U i X),aW,ax,dS ac aw.len,rfl⟩
  have Y:i<o.length:=by have:=of_decide_eq_true aU;simp only[List.length_map] at this;omega
  refine aE 7 rfl ?_
  obtain⟨b1,ca,b3,bg,bq,bD⟩:=a5.get fZ bN i (by rw[List.length_map];exact Y)
  cases bg
  have bC:=bD 0 (bP (b o[i])) (by rw[bq,List.getElem_map];rfl)
  refine xp (a3 rfl rfl rfl (by rw[List.length_map];exact Y) jr) rfl (xp (dT rfl ns (a6 _ _ _ bC)) rfl (an 7 rfl ?_))
  have bp:ak o[i]=b o[i]:=aD _ (a0 _ (fL Y))
  rw[←bp]
  refine dP (bj _ _ a1 ax a2 a8 (aJ Y) aI aW rfl rfl) Ch rfl rfl ?_ ?_
  rintro cd aN a9 aC bQ bF ⟨rfl,r,bL,D⟩
  rcases r with t|⟨bV,bX⟩
  cases D
  obtain⟨bc,aO,aT,aS,bm,bT,bO,bn,bt,-,-,e⟩:=D
  cases e
  have aL:=Ci bL
  have aH:=J0 ax (aJ Y) aI aL
  rw[show aC=⟨aC.K,aQ aO E (.map aT aS)⟩ from by rw[←bm]]
  refine an 4 rfl (xp (bA rfl rfl (by omega)) rfl (an 2 rfl ?_))
  refine dI (i+1,bc,bX,a9,aC.K,aO,aT,aS,bV) rfl rfl rfl [] rfl ?_ ?_
  refine⟨by omega,aH.1.wf,bO,bT,aw.trans aH.1.le,aD.trans bn aw,a6.trans bQ,bH.trans bF,bt,aH.2,JV a1 (JZ ax (aJ Y) aI aL),fun r ag=>aK r (Ck Y (bB aL ag))⟩
  show o.length -(i+1)<o.length -i;omega
  rintro ch aN ba bb _ _ ⟨rfl,r,ag,D⟩
  rcases r with t|⟨be,bY⟩
  cases D
  refine br 4 rfl ?_
  exact cL ⟨rfl,.error t,ny F W (Cj A af (aK _ (Ck Y (ej (Ci ag))))),rfl⟩
  obtain⟨_,_,_,_,_,_,_,_,_,_,_,e⟩:=D
  cases e
 |fn sm o=>
  rw[A] at p
  simp only[dv] at p
  obtain⟨rfl,rfl,_⟩:=p
  have y:b x≠E:=fun q=>by rw[q,u] at a;cases a
  refine aE 4 rfl (bz (bw (cs:=[zI 5,L,N,O,P,Q,S,T,ah,n1,.string sm,aq]) rfl (.inr ((bh _ _ y).trans a)) bG rfl) rfl (an 11 rfl ?_))
  exact kS results107 ⟨rfl,.ok (s,z),ny F W (rR (by rw[A];intro n l q;cases q)),b,I.H,es,aa,rfl,u,B,U,J,Z,ac,rfl⟩
 rintro ch aN ba bb _ _ _ ⟨rfl,r,ag,D⟩
 rcases r with t|⟨be,bY⟩
 cases D
 refine br 1 rfl ?_
 exact cL ⟨rfl,.error t,JS ag,rfl⟩
 obtain⟨_,_,_,_,e,_⟩:=D
 cases e
theorem J1{d wb:Nat}(F N:Nat):uj d wb aD (fun _=>M.ret ()) F N:=by
 induction F using Nat.strongRecOn generalizing N with
 |ind F c=>
  induction N using Nat.strongRecOn with
  |ind N e=>
   refine Cl Gh.ret fun b a h=> ?_
   rcases h with h|⟨rfl,h⟩
   ·exact c b h a
   ·exact e a h
theorem J2{d wb:Nat}(c:Gh aD d gI)(F N:Nat):uj d wb aD gI F N:=Cl c fun a b _=>J1 a b
section
variable{C:eF}{ops:Array Oper}{Q:Exit→Act→Wd→Prop}{rest:List Oper}{sl:List (Nat×AV)}{bx:List Bx}{rw:List bU}{S0:St}{R R0:Wd}{X:Hx}{d:Nat}{ty:TypeId}{pos:String}{af:Array Edge}{K:Nat→Bool}{HH:Hp}{aq:Nat→Nat}{ay:Nat}{aN:Array Bool}
theorem J3{x y:Operand}(j:ev bI x=some (.val (bP ae)))(k:ev bI y=some (.val (bP ao)))(g:np aH)(h:jb X ae)(i:jb X ao):gF bI R X (.binOp .eql aH x y ci) ty (.val (.bool (decide (ae=ao)))):=
 gF.val fun ad ac W dst pos af l d m c=>by
  have a:=d.eval j
  have b:=d.eval k
  simp only[AV.den] at a b
  have:=AT g (h.w c) (i.w c)
  have h3:(binOp .eql aH (bP ae) (bP ao)).run prog W= .ok (.bool (decide (ae=ao))) W:=by
   have e:binOp .eql aH (bP ae) (bP ao)=(do pure (.bool (←Op.equal aH (bP ae) (bP ao)))):=rfl
   rw[e]
   simp only[Sem.run_bind,this,Result.andThen_ok,Sem.run_pure]
  have f:(eqGuard .eql aH x y (bP ae) (bP ao)).run prog W= .ok () W:=rfl
  simp only[execOp,a,b,Sem.run_bind,h3,f,Result.andThen_ok,Sem.run_pure]
theorem p6(ft:List bU)(h:ft.Perm rw)(k:cQ C K HH S0 R0 aq ops Q ay aN ⟨sl,bx,ft⟩ R X):cQ C K HH S0 R0 aq ops Q ay aN ⟨sl,bx,rw⟩ R X:=fun ad a W c b=>k ad a W (ck.perm (S:=⟨sl,bx,rw⟩) c h) ⟨b.ad,b.bx,b.sub,b.le,b.hh⟩
theorem gi{c:Code}(ft:List bU)(h:ft.Perm rw)(k:VX C c Q ⟨sl,bx,ft⟩ R X):VX C c Q ⟨sl,bx,rw⟩ R X:=fun ad a W b=>k ad a W (ck.perm (S:=⟨sl,bx,rw⟩) b h)
theorem Cm{ts rr:List bU}(j:cJ bk aj ts R X dZ)(g:aF bk)(l:fb ⟨sl,bx,rw⟩ c8 (aj.map .val))(i:rw=ts++rr)(h:Nat.blt d C.N=true)
 (k:∀v a R' X',Sub R R'→(∀b ob,X.K b=some ob→X'.K b=some ob)→dZ (.returned v) a R' X'→bN C ops Q rest ⟨(d,.val v)::sl,bx,a++rr⟩ R' X')
 (m:∀ch a R' X',Sub R R'→(∀b ob,X.K b=some ob→X'.K b=some ob)→dZ (.panicked ch) a R' X'→DX C Q (.panic ch) ⟨sl,bx,a++rr⟩ R' X'):
 bN C ops Q (⟨some d,.call {callee:= .value (.func bk),args:=c8,argTypes:=fi},ty,pos,af,none⟩::rest) ⟨sl,bx,rw⟩ R X:=by
 refine kP (X:=X) (Hc:=X.H) (Hf:=bH) (ts:=ts) (rs:=rr) j g l i (hp _).symm (fun b n=>rfl) h ?_ ?_
 ·rintro v a R' X' c e h3 f
  rw[hp]
  exact k v a R' X' c e f
 ·rintro v a R' X' c e h3 f
  rw[hp]
  exact m v a R' X' c e f
theorem Co{i:Nat}{ts rr:List bU}(m:ops[i]?=some ⟨some d,.call {callee:= .value (.func bk),args:=c8,argTypes:=fi},ty,pos,af,none⟩)
 (p:cJ bk aj ts R X dZ) (h:aF bk) (q:fb ⟨sl,bx,rw⟩ c8 (aj.map .val)) (o:rw=ts++rr) (l:Nat.blt d C.N=true) (j:∀b ob,HH b=some ob→X.K b=some ob)
 (k:∀v a R' X',Sub R R'→(∀b ob,X.K b=some ob→X'.K b=some ob)→dZ (.returned v) a R' X'→cQ C K HH S0 R0 aq ops Q ay (aN.setIfInBounds i true) ⟨(d,.val v)::sl,bx,a++rr⟩ R' X')
 (r:∀ch a R' X',Sub R R'→(∀b ob,X.K b=some ob→X'.K b=some ob)→dZ (.panicked ch) a R' X'→DX C Q (.panic ch) ⟨sl,bx,a++rr⟩ R' X')
 (n:dV C K HH S0 R0 aq ops Q ay aN ⟨sl,bx,rw⟩ R X aI):dV C K HH S0 R0 aq ops Q ay aN ⟨sl,bx,rw⟩ R X (i::aI):=by
 refine wz (X:=X) (Hc:=X.H) (Hf:=bH) (ts:=ts) (rr:=rr) m p h q o (hp _).symm (fun b g=>rfl) l (fun b ob g=> .inl (j b ob g)) ?_ ?_ n
 ·rintro v a R' X' c e h3 f
  rw[hp]
  exact k v a R' X' c e f
 ·rintro v a R' X' c e h3 f
  rw[hp]
  exact r v a R' X' c e f
end
def nz (lb a:Nat) (o p:Obj):Hp:=aQ (hT lb o) a p
theorem Cp{o p:Obj}(a:b1 ae=none)(b:b1 ao=none):dH b1 (nz ae ao o p)=aQ (aQ b1 ae o) ao p:=by
 funext c
 unfold nz dH hT aQ bH
 by_cases e:c=ao
 ·subst e;simp[b]
 ·rw[if_neg e,if_neg e]
  by_cases e2:c=ae
  ·subst e2;simp[a]
  ·rw[if_neg e2,if_neg e2]
   cases b1 c<;>rfl
theorem J4{o p:Obj}(b:b1 ae=none)(d:b1 ao=none):∀c,b1 c≠none→nz ae ao o p c=none:=fun c a=>by
 unfold nz hT aQ bH
 rw[if_neg (fun e=>a (by rw[e];exact d)),if_neg (fun e=>a (by rw[e];exact b))]
theorem J5{o p:Obj}(h:∀c,b1 c≠none→nz ae ao o p c=none):b1 ae=none∧b1 ao=none:=by
 constructor
 ·cases e:b1 ae with
  |none=>rfl
  |some x=>
   have:=h ae (by rw[e];simp)
   unfold nz hT aQ at this
   split at this
   ·cases this
   ·rw[if_pos rfl] at this;cases this
 ·cases e:b1 ao with
  |none=>rfl
  |some x=>
   have:=h ao (by rw[e];simp)
   unfold nz aQ at this
   rw[if_pos rfl] at this
   cases this
section
variable{rs:cU}{c a:Nat}{l:List Nat}{room:Nat}{st b6 dD:PS}
theorem J6:aG (fun g=>(aB rs g).read c l 0) st (.ok ((.mk 1 sQ 0 [],l,0),st)):=aG.step (m:=fun g=>(aB rs g).read c l 0) fD
theorem lo(h:aG (fun g=>(aB rs g).force c) st (.ok (a,b6)))(b:aG (fun g=>fm (aB rs g) a l room) b6 uk):aG (fun g=>(aB rs g).read c l (room+1)) st uk:=aG.step (m:=fun g=>(aB rs g).read c l (room+1)) (bB h b)
theorem J7(h:aG (fun g=>(aB rs g).force c) st (.error hs)):aG (fun g=>(aB rs g).read c l (room+1)) st (.error hs):=aG.step (m:=fun g=>(aB rs g).read c l (room+1)) (ej h)
theorem J8{n:Int}(h:st.at a= .num n):aG (fun g=>fm (aB rs g) a l room) st (.ok ((.mk 2 ⟨#[]⟩ n [],l,room),st)):=gG (by rw[h];exact fD)
theorem J9(h:st.at a= .fn aY aI):aG (fun g=>fm (aB rs g) a l room) st (.ok ((.mk 4 aY aI.length [],l,room),st)):=gG (by rw[h];exact fD)
theorem Ka(h:st.at a= .cw aY aI)(b:aG (fun g=>reads (aB rs g) aI l room) st (.ok ((b4,gA,ae),dD))):aG (fun g=>fm (aB rs g) a l room) st (.ok ((.mk 1 aY 0 b4,gA,ae),dD)):=gG (by rw[h];exact bB b fD)
theorem Kc(h:st.at a= .cw aY aI)(b:aG (fun g=>reads (aB rs g) aI l room) st (.error hs)):aG (fun g=>fm (aB rs g) a l room) st (.error hs):=gG (by rw[h];exact ej b)
def Cq:PC→Prop
 | .num _=>False
 | .fn _ _=>False
 | .cw _ _=>False
 |_=>True
theorem xg{i:Nat}(h:Cq (st.at a))(b:l.idxOf? a=some i):aG (fun g=>fm (aB rs g) a l room) st (.ok ((.mk 3 ⟨#[]⟩ i [],l,room),st)):=gG (by
 cases e:st.at a with
 |num n=>rw[e] at h;exact h.elim
 |fn s q=>rw[e] at h;exact h.elim
 |cw s q=>rw[e] at h;exact h.elim
 |_=>simp only[b];exact fD)
theorem xh(h:Cq (st.at a))(b:l.idxOf? a=none):aG (fun g=>fm (aB rs g) a l room) st (.ok ((.mk 3 ⟨#[]⟩ l.length [],l++ [a],room),st)):=gG (by
 cases e:st.at a with
 |num n=>rw[e] at h;exact h.elim
 |fn s q=>rw[e] at h;exact h.elim
 |cw s q=>rw[e] at h;exact h.elim
 |_=>simp only[b];exact fD)
theorem Kd(h:aI=[]):aG (fun g=>reads (aB rs g) aI l room) st (.ok (([],l,room),st)):=by
 subst h
 exact fD
theorem Ke{i a b:Nat}(e:i<aI.length)(c:aG (fun g=>(aB rs g).read aI[i] l room) st (.ok ((bC,gA,a),b6)))(d:aG (fun g=>reads (aB rs g) (aI.drop (i+1)) gA a) b6 (.ok ((b4,Kf,b),dD))):aG (fun g=>reads (aB rs g) (aI.drop i) l room) st (.ok ((bC::b4,Kf,b),dD)):=by
 rw[List.drop_eq_getElem_cons e]
 exact bB c (bB d fD)
theorem Kg{i:Nat}(b:i<aI.length)(a:aG (fun g=>(aB rs g).read aI[i] l room) st (.error hs)):aG (fun g=>reads (aB rs g) (aI.drop i) l room) st (.error hs):=by
 rw[List.drop_eq_getElem_cons b]
 exact ej a
theorem Kh{i a:Nat}(d:i<aI.length)(b:aG (fun g=>(aB rs g).read aI[i] l room) st (.ok ((bC,gA,a),b6)))(c:aG (fun g=>reads (aB rs g) (aI.drop (i+1)) gA a) b6 (.error hs)):aG (fun g=>reads (aB rs g) (aI.drop i) l room) st (.error hs):=by
 rw[List.drop_eq_getElem_cons d]
 exact bB b (ej c)
end
def l9 (l:List Nat) (room:Nat) (b:List Nat) (a:Nat):Prop:=a≤room∧b.length+a≤l.length+room
theorem l9.trans{a b c:List Nat}{x y z:Nat}(h:l9 a x b y)(k:l9 b y c z):l9 a x c z:=⟨dS k.1 h.1,dS k.2 h.2⟩
theorem xi{rs:cU}:∀{g c:Nat} {l:List Nat} {room:Nat} {st a1:PS} {x:Ty×List Nat×Nat},(aB rs g).read c l room st=some (.ok (x,a1))→l9 l room x.2.1 x.2.2
 |0,c,l,room,st,a1,x,h=>by cases h
 |g+1,c,l,room,st,a1,x,h=>by
  have f:∀(q:List Nat) {l:List Nat} {room:Nat} {st a1:PS} {x:List Ty×List Nat×Nat},reads (aB rs g) q l room st=some (.ok (x,a1))→l9 l room x.2.1 x.2.2:=by
   intro q
   induction q with
   |nil=>
    intro l room st a1 x h
    obtain⟨rfl,rfl⟩:=dG h
    exact⟨a9 _,a9 _⟩
   |cons y r i=>
    intro l room st a1 x h
    replace h:=cp h
    obtain⟨j,b6,e,h⟩:=h
    replace h:=cp h
    obtain⟨d,dD,a,h⟩:=h
    obtain⟨rfl,rfl⟩:=dG h
    exact l9.trans (xi e) (show l9 _ _ d.2.1 d.2.2 from i a)
  replace h:iP (aB rs g) c l room st=some (.ok (x,a1)):=h
  cases room with
  |zero=>
   obtain⟨rfl,rfl⟩:=dG h
   exact⟨a9 _,a9 _⟩
  |succ room=>
   replace h:=cp h
   obtain⟨c1,b6,e,h⟩:=h
   replace h:=cp h
   obtain⟨y,dD,a,h⟩:=h
   obtain⟨k,rfl⟩:=jL a
   revert h
   show dW _ _ _ _ _
   split<;>intro h
   ·obtain⟨rfl,rfl⟩:=dG h
    exact⟨Nat.le_succ _,by simp⟩
   ·obtain⟨rfl,rfl⟩:=dG h
    exact⟨Nat.le_succ _,by simp⟩
   ·replace h:=cp h
    obtain⟨b,m,h3,h⟩:=h
    obtain⟨rfl,rfl⟩:=dG h
    have:=f _ h3
    exact⟨Nat.le_succ_of_le this.1,by have:=this.2;show b.2.1.length+b.2.2≤_;omega⟩
   ·revert h
    show dW _ _ _ _ _
    split<;>intro h
    ·obtain⟨rfl,rfl⟩:=dG h
     exact⟨Nat.le_succ _,by simp⟩
    ·obtain⟨rfl,rfl⟩:=dG h
     exact⟨Nat.le_succ _,by simp;omega⟩
theorem Cr{c:Nat}{x:Ty×List Nat×Nat}(h:aG (fun g=>(aB aD g).read c aI ae) ap (.ok (x,aW))):l9 aI ae x.2.1 x.2.2:=jO h fun g a=>xi a
theorem Ct{d c:Nat}{x:Ty×List Nat×Nat}(w:WF aD d ap)(a:In d ap c)(e:di d ap aI)(h:aG (fun g=>(aB aD g).read c aI ae) ap (.ok (x,aW))):Mo.Good aD d ap aW∧di d aW x.2.1:=jO h fun g b=>(eT.aB aD d g).read w a e b
def Cu (bs:List Nat) (b:Nat) (n:Int):Prop:=(n=-1∧b∉bs)∨∃i:Nat,n=(i:Int)∧∃h:i<bs.length,bs[i]=b∧∀k (a:k<i),bs[k]'(Nat.lt_trans a h)≠b
theorem xj{d wb:Nat}(h:dq d wb aD a0 ap ah aJ)(o:di d ap aI){c:Nat}(j:In d ap c){n:Int}(l:Cu (aI.map a0) (a0 c) n):(n=-1∧aI.idxOf? c=none)∨∃i:Nat,n=(i:Int)∧aI.idxOf? c=some i∧i<aI.length:=by
 rcases l with⟨a,b⟩|⟨i,a,b,h3,g⟩
 ·refine .inl ⟨a,?_⟩
  rw[List.idxOf?,List.findIdx?_eq_none_iff]
  intro x p
  by_cases e:x=c
  ·subst e;exact absurd (List.mem_map.2 ⟨x,p,rfl⟩) b
  ·simpa using e
 ·have f:i<aI.length:=by simpa using b
  refine .inr ⟨i,a,?_,f⟩
  rw[List.idxOf?,List.findIdx?_eq_some_iff_getElem]
  refine⟨f,?_,fun k m=> ?_⟩
  ·have:a0 aI[i]=a0 c:=by simpa using h3
   simpa using h.inj _ _ (o _ (List.getElem_mem f)) j this
  ·have:=g k m
   simp only[List.getElem_map] at this
   simp only[beq_iff_eq]
   intro e
   exact this (by rw[e])
def Ki (d wb:Nat) (rs:cU) (bl:Nat→Nat) (st:PS) (lb c:Nat) (m:Nat→M (Ty×List Nat×Nat)):ka:=fun E ts R' X'=>
 ∃r,aG m st r∧match r with
  | .ok ((t,a,e),a1)=>∃ef Hc A cap xs b,X'.H=aQ (aQ Hc lb (.cells [.slice A a.length cap].toArray 201 (0,0))) c (.cells [.int .i64 ((e:Nat):Int)].toArray 3 (0,0))∧Hc lb=none∧Hc c=none∧dq d wb rs ef a1 R' ⟨X'.K,Hc⟩∧fF d st bl ef∧
      ts=[⟨.slice A a.length cap,a.length,xs,202,1⟩]∧dL fE 1 R' A (a.map ef) cap xs∧Ty.Cs R' t b∧E= .returned (.agg b.toArray)
  | .error t=>E= .panicked (oy t)
def xk (d wb:Nat) (rs:cU) (N:Nat):Prop:=∀{bl:Nat→Nat} {st:PS} {R:World} {K Hc:Hp} {lb a cap c:Nat} {A:Option Addr} {xs:List Value} {l:List Nat},WF rs d st→dq d wb rs bl st R ⟨K,Hc⟩→Hc lb=none→Hc a=none→a≠lb→In d st c→di d st l→dL fE 1 R A (l.map bl) cap xs→l.length+N≤1000→
 cJ 108 [bP wb,bP (bl c),bP lb,bP a] [⟨.slice A l.length cap,l.length,xs,202,1⟩] R ⟨K,aQ (aQ Hc lb (.cells [.slice A l.length cap].toArray 201 (0,0))) a (.cells [.int .i64 ((N:Nat):Int)].toArray 3 (0,0))⟩ (Ki d wb rs bl st lb a (fun g=>(aB rs g).read c l N))
theorem xm{n cap b:Nat}{bs:List Nat}(t:n=bs.length)(D:bs.length≤490000000)(y:a5 fE 1 ah aA bs)(x:∀a∈bs,jb aJ a)(v:jb aJ b):cJ 114 [.slice aA n cap,bP b] [] ah aJ (fun E ts R' X'=>ts=[]∧R'=ah∧X'=aJ∧∃n:Int,E= .returned (zI n)∧Cu bs b n):=by
 subst t
 refine eh func114 rfl ntmps114 rfl fun w G ad=> ?_
 refine cG 14 rfl ?_
 refine eA (ι:=Nat) [0,1,6,7] 0 rfl (fun(i)=>(⟨[(8,.val (zI (i:Nat)))],[],[]⟩,ah,aJ,i≤bs.length∧∀k (c:k<bs.length),k<i→bs[k]≠b,bs.length -i)) (0) rfl rfl rfl [] rfl ?_ ?_
 exact⟨b2 _,fun k _ h=>absurd h (Nat.not_lt_zero _)⟩
 rintro i ⟨B,f⟩
 show VX _ _ _ ⟨_,_,_⟩ ah aJ
 refine aE 6 rfl ?_
 cases g:(decide (((i:Nat):Int)<((bs.length:Nat):Int)))
 have F:bs.length≤i:=by have:=of_decide_eq_false g;omega
 refine aE 12 rfl ?_
 exact dm results114 (aT rfl) ⟨rfl,rfl,rfl,_,rfl,.inl ⟨rfl,fun s=>by
  obtain⟨k,c,e⟩:=List.getElem_of_mem s
  exact f k c (by omega) e⟩⟩
 have d:i<bs.length:=by have:=of_decide_eq_true g;omega
 refine aE 16 rfl ?_
 obtain⟨z,H,A,l,m,r⟩:=a5.get fZ y i d
 cases l
 have p:=r 0 (bP bs[i]) (by rw[m];rfl)
 refine xp (a3 rfl rfl rfl d jr) rfl (xp (dT rfl ns p) rfl (bz (J3 rfl rfl Ca v (x _ (fL d))) rfl (an 2 rfl ?_)))
 cases j:(decide (b=bs[i]))
 have u:b≠bs[i]:=of_decide_eq_false j
 refine aE 5 rfl (xp (bA rfl rfl (by omega)) rfl (an 2 rfl ?_))
 refine dI (i+1) rfl rfl rfl [] rfl ?_ ?_
 refine⟨by omega,fun k c C=> ?_⟩
 by_cases e:k=i
 subst e;exact fun q=>u q.symm
 exact f k c (by omega)
 show bs.length -(i+1)<bs.length -i;omega
 have o:b=bs[i]:=of_decide_eq_true j
 refine aE 13 rfl ?_
 exact dm results114 (aT rfl) ⟨rfl,rfl,rfl,_,rfl,.inr ⟨i,rfl,d,o.symm,fun k c=>f k (Nat.lt_trans c d) c⟩⟩
theorem iB:cr 89 true 4:=by unfold cr;kernel_rfl
theorem jc:c7 87 89 4:=by unfold c7;kernel_rfl
theorem rS:dO 87 89 4 56:=by unfold dO;kernel_rfl
theorem xn:aF 108:=by unfold aF;kernel_rfl
theorem xo:aF 114:=by unfold aF;kernel_rfl
theorem ul{c:Code}{rw:List bU}(e size:Nat)(k:VX dj c dy ⟨bu,aS,⟨zS,0,[],e,size⟩::rw⟩ ah aJ):VX dj c dy ⟨bu,aS,rw⟩ ah aJ:=fun ad a W h=>k ad a W (ck.lI (S:=⟨bu,aS,rw⟩) h e size)
theorem dL.sub{α:Type}{P:Wd→α→LV→Prop}{size:Nat}{R R':Wd}{A:OA}{l:List α}{cap:Nat}{xs:LV}(h:dL P size R A l cap xs)(E:eR P size)(a:Sub R R'):dL P size R' A l cap xs:=⟨bg E a h.1,eL h.2.1 a,h.2.2⟩
theorem Kj{d wb:Nat}{rs:cU}(b7:∀bY,bY<ae→xk d wb rs bY):xk d wb rs ae:=by
 intro bl st R K Hc lb N cap c A xs l cI h bF bO I cb co dH el
 obtain⟨cf,bU,bK,ce,b6⟩:=dH
 rw[List.length_map] at bU bK
 refine eh func108 rfl ntmps108 rfl fun w G ad=> ?_
 cases ae with
 |zero=>
  refine cG 10 rfl (bz (bw (cs:=[zI 0]) rfl (.inr (b0 _ _ _)) bG rfl) rfl (an 6 rfl (xp (bJ (vs:=[(0,zI 1),(1,.string ⟨#[63]⟩)]) (v:= .agg #[zI 1,.string ⟨#[63]⟩,zI 0,zS]) rfl (fun W=>by kernel_rfl)) rfl (an 5 rfl ?_))))
  exact jG results108 (aK rfl rfl iB) (List.Sublist.refl _) ⟨.ok ((.mk 1 sQ 0 [],l,0),st),J6,bl,Hc,A,cap,xs,_,rfl,bF,bO,h,g0 _,rfl,⟨cf,by rw[List.length_map];exact bU,by rw[List.length_map];exact bK,ce,b6⟩,aP eg (ew (P:=Ty.Cs) (size:=4) _),rfl⟩
 |succ room=>
  refine cG 10 rfl (bz (bw (cs:=[zI ((room+1:Nat):Int)]) rfl (.inr (b0 _ _ _)) bG rfl) rfl (an 3 rfl ?_))
  cases dg:(((room+1:Nat):Int)==0)
  refine aE 7 rfl (bz (bw (cs:=[zI ((room+1:Nat):Int)]) rfl (.inr (b0 _ _ _)) bG rfl) rfl (xp (h0 (c:=((room:Nat):Int)) rfl rfl (by omega) (by omega) (by omega)) rfl (an 1 rfl ?_)))
  refine ke (cs:=[zI ((room+1:Nat):Int)]) [zI (room:Nat)] rfl rfl (b0 _ _ _) bG rfl rfl rfl rfl ?_
  intro d2 cV ei
  subst cV
  simp only[iM]
  refine an 6 rfl ?_
  refine kP (Hc:=Hc) (Hf:=nz lb N _ _) (ts:=[]) (rs:=_) (B8 cI h cb) l8 rfl rfl (Cp bF bO).symm (J4 bF bO) rfl ?_ ?_
  rintro ex am bc D cF _ ds ⟨rfl,r,ai,O⟩
  rcases r with t|⟨p,M⟩
  cases O
  obtain⟨f,ev,L,aj,e,dO⟩:=O
  cases e
  subst dO
  obtain⟨y,z⟩:=J5 ds
  rw[Cp y z]
  have ao:=kU cI cb ai
  have aC:di d M l:=co.le ao.1.le
  have aA:aL fE bc (l.map f) xs:=by rw[l3 co aj];exact bg fZ cF cf
  have bj:=eL bU cF
  have aO:dL fE 1 bc A (l.map f) cap xs:=⟨aA,by rw[List.length_map];exact bj,by rw[List.length_map];exact bK,ce,b6⟩
  show bN _ _ _ _ ⟨_,_,[⟨.slice A l.length cap,l.length,xs,202,1⟩]⟩ _ _
  refine an 5 rfl ?_
  obtain⟨⟨er,S,T,U,V,X,Y,Z,ab,n1,a6,aS⟩,n,C⟩:=L.cell p ao.2.1
  cases J:M.at p with
  |dF e v=>
   rw[J] at C
   simp only[dv] at C
   obtain⟨rfl,en,eq,em⟩:=C
   have s:f p≠lb:=fun q=>by rw[q,y] at n;cases n
   have x:f p≠N:=fun q=>by rw[q,z] at n;cases n
   refine aE 4 rfl (bz (bw (cs:=[zI 0,S,T,U,V,X,Y,Z,ab,n1,a6,aS]) rfl (.inr ((bh _ _ x).trans ((bh _ _ s).trans n))) bG rfl) rfl (an 31 rfl (bz (bw (cs:=[.slice A l.length cap]) rfl (.inr ((bh _ _ I.symm).trans (b0 _ _ _))) gH rfl) rfl (an 1 rfl ?_))))
   have aY:∀a∈l.map f,jb ⟨D.K,aQ (aQ D.H lb (.cells [.slice A l.length cap].toArray 201 (0,0))) N (.cells [zI (room:Nat)].toArray 3 (0,0))⟩ a:=fun a aT=>by
    obtain⟨i,aW,rfl⟩:=List.mem_map.1 aT
    obtain⟨b5,E,_⟩:=L.cell i (aC i aW)
    exact⟨_,_,.inr ((bh _ _ (fun q=>by rw[q,z] at E;cases E)).trans ((bh _ _ (fun q=>by rw[q,y] at E;cases E)).trans E))⟩
   refine kP (Hc:=_) (Hf:=bH) (ts:=[]) (rs:=_) (xm (bs:=l.map f) (b:=f p) (by rw[List.length_map]) (by rw[List.length_map];omega) (cz (by rw[List.length_map];exact bj) aA) aY ⟨_,_,.inr ((bh _ _ x).trans ((bh _ _ s).trans n))⟩) xo rfl rfl (hp _).symm (fun b b9=>rfl) rfl ?_ ?_
   rintro cK am ax ay a0 - -⟨rfl,ac,af,a1,e,aX⟩
   cases e
   replace ac:=ac.symm
   subst ac
   replace af:=af.symm
   subst af
   rw[hp]
   have F:=xj L aC ao.2.1 aX
   rcases F with⟨rfl,F⟩|⟨Q,rfl,F,_⟩
   show bN _ _ _ _ ⟨_,_,[⟨.slice A l.length cap,l.length,xs,202,1⟩]⟩ _ _
   refine an 15 rfl (bz (bw (cs:=[.slice A l.length cap]) rfl (.inr ((bh _ _ I.symm).trans (b0 _ _ _))) gH rfl) rfl (an 8 rfl (bz (bw (cs:=[.slice A l.length cap]) rfl (.inr ((bh _ _ I.symm).trans (b0 _ _ _))) gH rfl) rfl (an 1 rfl ?_))))
   refine fc jr rfl ?_
   intro ec dX cE dx
   refine lZ _ (List.Perm.swap _ _ _) ?_
   refine jH (news:=[.pointer (some ⟨f p,0,none⟩)]) oz rfl rfl (cd rfl dx) (fun h=>by cases h) (fun u hu=>by simp at hu;subst hu;rfl) (by omega) rfl rfl ?_
   intro bX b4 dQ cy cY cZ c0 c1
   rw[show l.length+1=(l++ [p]).length by simp]
   refine an 1 rfl ?_
   refine ke (cs:=[.slice A l.length cap]) [.slice bX (l++ [p]).length b4] rfl rfl ((bh _ _ I.symm).trans (b0 _ _ _)) gH rfl rfl rfl rfl ?_
   intro d1 cT ef
   subst cT
   rw[oH I,iM]
   refine an 5 rfl (xp (bJ (vs:=[(0,zI 3),(2,zI (l.length:Nat))]) (v:= .agg #[zI 3,.string ⟨#[]⟩,zI (l.length:Nat),zS]) rfl (fun W=>by kernel_rfl)) rfl (an 4 rfl ?_))
   exact jG results108 (aK rfl rfl iB) (.cons_cons _ (.cons _ .slnil)) ⟨.ok ((.mk 3 ⟨#[]⟩ l.length [],l++ [p],room),M),lo ai (xh (by rw[J];trivial) F),f,D.H,bX,b4,xs++ [.pointer (some ⟨f p,0,none⟩)],_,rfl,y,z,L.mono (cE.trans cy) (eC.refl _),aj,rfl,⟨by rw[List.map_append];exact c6 (bg fZ (cE.trans cy) aA) (c4 rfl),by rw[List.length_map];simpa using c1,by rw[List.length_map];simpa using cY,cZ,c0⟩,aP eg (a5.nil (P:=Ty.Cs) (size:=4) _),rfl⟩
   show bN _ _ _ _ ⟨_,_,[⟨.slice A l.length cap,l.length,xs,202,1⟩]⟩ _ _
   refine an 10 rfl ?_
   cases dj:(decide (((Q:Nat):Int)<0))
   refine aE 6 rfl (xp (bJ (vs:=[(0,zI 3),(2,zI (Q:Nat))]) (v:= .agg #[zI 3,.string ⟨#[]⟩,zI (Q:Nat),zS]) rfl (fun W=>by kernel_rfl)) rfl (an 4 rfl ?_))
   exact jG results108 (aK rfl rfl iB) (List.Sublist.refl _) ⟨.ok ((.mk 3 ⟨#[]⟩ Q [],l,room),M),lo ai (xg (by rw[J];trivial) F),f,D.H,A,cap,xs,_,rfl,y,z,L,aj,rfl,aO,aP eg (ew (P:=Ty.Cs) (size:=4) _),rfl⟩
   exact absurd (of_decide_eq_true dj) (by omega)
   rintro ch am ax ay a0 cn ci ⟨rfl,rfl,rfl,a1,e,_⟩
   cases e
  |link j=>
   rw[J] at C
   simp only[dv] at C
   obtain⟨rfl,rfl⟩:=C
   have s:f p≠lb:=fun q=>by rw[q,y] at n;cases n
   have x:f p≠N:=fun q=>by rw[q,z] at n;cases n
   refine aE 4 rfl (bz (bw (cs:=[zI 1,S,T,U,V,X,Y,Z,_,n1,a6,aS]) rfl (.inr ((bh _ _ x).trans ((bh _ _ s).trans n))) bG rfl) rfl (an 31 rfl (bz (bw (cs:=[.slice A l.length cap]) rfl (.inr ((bh _ _ I.symm).trans (b0 _ _ _))) gH rfl) rfl (an 1 rfl ?_))))
   have aY:∀a∈l.map f,jb ⟨D.K,aQ (aQ D.H lb (.cells [.slice A l.length cap].toArray 201 (0,0))) N (.cells [zI (room:Nat)].toArray 3 (0,0))⟩ a:=fun a aT=>by
    obtain⟨i,aW,rfl⟩:=List.mem_map.1 aT
    obtain⟨b5,E,_⟩:=L.cell i (aC i aW)
    exact⟨_,_,.inr ((bh _ _ (fun q=>by rw[q,z] at E;cases E)).trans ((bh _ _ (fun q=>by rw[q,y] at E;cases E)).trans E))⟩
   refine kP (Hc:=_) (Hf:=bH) (ts:=[]) (rs:=_) (xm (bs:=l.map f) (b:=f p) (by rw[List.length_map]) (by rw[List.length_map];omega) (cz (by rw[List.length_map];exact bj) aA) aY ⟨_,_,.inr ((bh _ _ x).trans ((bh _ _ s).trans n))⟩) xo rfl rfl (hp _).symm (fun b b9=>rfl) rfl ?_ ?_
   rintro cK am ax ay a0 - -⟨rfl,ac,af,a1,e,aX⟩
   cases e
   replace ac:=ac.symm
   subst ac
   replace af:=af.symm
   subst af
   rw[hp]
   have F:=xj L aC ao.2.1 aX
   rcases F with⟨rfl,F⟩|⟨Q,rfl,F,_⟩
   show bN _ _ _ _ ⟨_,_,[⟨.slice A l.length cap,l.length,xs,202,1⟩]⟩ _ _
   refine an 15 rfl (bz (bw (cs:=[.slice A l.length cap]) rfl (.inr ((bh _ _ I.symm).trans (b0 _ _ _))) gH rfl) rfl (an 8 rfl (bz (bw (cs:=[.slice A l.length cap]) rfl (.inr ((bh _ _ I.symm).trans (b0 _ _ _))) gH rfl) rfl (an 1 rfl ?_))))
   refine fc jr rfl ?_
   intro ea dR cA dt
   refine lZ _ (List.Perm.swap _ _ _) ?_
   refine jH (news:=[.pointer (some ⟨f p,0,none⟩)]) oz rfl rfl (cd rfl dt) (fun h=>by cases h) (fun u hu=>by simp at hu;subst hu;rfl) (by omega) rfl rfl ?_
   intro bV b1 dS cB c2 c3 c5 c7
   rw[show l.length+1=(l++ [p]).length by simp]
   refine an 1 rfl ?_
   refine ke (cs:=[.slice A l.length cap]) [.slice bV (l++ [p]).length b1] rfl rfl ((bh _ _ I.symm).trans (b0 _ _ _)) gH rfl rfl rfl rfl ?_
   intro d3 cW ej
   subst cW
   rw[oH I,iM]
   refine an 5 rfl (xp (bJ (vs:=[(0,zI 3),(2,zI (l.length:Nat))]) (v:= .agg #[zI 3,.string ⟨#[]⟩,zI (l.length:Nat),zS]) rfl (fun W=>by kernel_rfl)) rfl (an 4 rfl ?_))
   exact jG results108 (aK rfl rfl iB) (.cons_cons _ (.cons _ .slnil)) ⟨.ok ((.mk 3 ⟨#[]⟩ l.length [],l++ [p],room),M),lo ai (xh (by rw[J];trivial) F),f,D.H,bV,b1,xs++ [.pointer (some ⟨f p,0,none⟩)],_,rfl,y,z,L.mono (cA.trans cB) (eC.refl _),aj,rfl,⟨by rw[List.map_append];exact c6 (bg fZ (cA.trans cB) aA) (c4 rfl),by rw[List.length_map];simpa using c7,by rw[List.length_map];simpa using c2,c3,c5⟩,aP eg (a5.nil (P:=Ty.Cs) (size:=4) _),rfl⟩
   show bN _ _ _ _ ⟨_,_,[⟨.slice A l.length cap,l.length,xs,202,1⟩]⟩ _ _
   refine an 10 rfl ?_
   cases dk:(decide (((Q:Nat):Int)<0))
   refine aE 6 rfl (xp (bJ (vs:=[(0,zI 3),(2,zI (Q:Nat))]) (v:= .agg #[zI 3,.string ⟨#[]⟩,zI (Q:Nat),zS]) rfl (fun W=>by kernel_rfl)) rfl (an 4 rfl ?_))
   exact jG results108 (aK rfl rfl iB) (List.Sublist.refl _) ⟨.ok ((.mk 3 ⟨#[]⟩ Q [],l,room),M),lo ai (xg (by rw[J];trivial) F),f,D.H,A,cap,xs,_,rfl,y,z,L,aj,rfl,aO,aP eg (ew (P:=Ty.Cs) (size:=4) _),rfl⟩
   exact absurd (of_decide_eq_true dk) (by omega)
   rintro ch am ax ay a0 cn ci ⟨rfl,rfl,rfl,a1,e,_⟩
   cases e
  |unknown=>
   rw[J] at C
   simp only[dv] at C
   subst C
   have s:f p≠lb:=fun q=>by rw[q,y] at n;cases n
   have x:f p≠N:=fun q=>by rw[q,z] at n;cases n
   refine aE 4 rfl (bz (bw (cs:=[zI 2,S,T,U,V,X,Y,Z,ab,n1,a6,aS]) rfl (.inr ((bh _ _ x).trans ((bh _ _ s).trans n))) bG rfl) rfl (an 31 rfl (bz (bw (cs:=[.slice A l.length cap]) rfl (.inr ((bh _ _ I.symm).trans (b0 _ _ _))) gH rfl) rfl (an 1 rfl ?_))))
   have aY:∀a∈l.map f,jb ⟨D.K,aQ (aQ D.H lb (.cells [.slice A l.length cap].toArray 201 (0,0))) N (.cells [zI (room:Nat)].toArray 3 (0,0))⟩ a:=fun a aT=>by
    obtain⟨i,aW,rfl⟩:=List.mem_map.1 aT
    obtain⟨b5,E,_⟩:=L.cell i (aC i aW)
    exact⟨_,_,.inr ((bh _ _ (fun q=>by rw[q,z] at E;cases E)).trans ((bh _ _ (fun q=>by rw[q,y] at E;cases E)).trans E))⟩
   refine kP (Hc:=_) (Hf:=bH) (ts:=[]) (rs:=_) (xm (bs:=l.map f) (b:=f p) (by rw[List.length_map]) (by rw[List.length_map];omega) (cz (by rw[List.length_map];exact bj) aA) aY ⟨_,_,.inr ((bh _ _ x).trans ((bh _ _ s).trans n))⟩) xo rfl rfl (hp _).symm (fun b b9=>rfl) rfl ?_ ?_
   rintro cK am ax ay a0 - -⟨rfl,ac,af,a1,e,aX⟩
   cases e
   replace ac:=ac.symm
   subst ac
   replace af:=af.symm
   subst af
   rw[hp]
   have F:=xj L aC ao.2.1 aX
   rcases F with⟨rfl,F⟩|⟨Q,rfl,F,_⟩
   show bN _ _ _ _ ⟨_,_,[⟨.slice A l.length cap,l.length,xs,202,1⟩]⟩ _ _
   refine an 15 rfl (bz (bw (cs:=[.slice A l.length cap]) rfl (.inr ((bh _ _ I.symm).trans (b0 _ _ _))) gH rfl) rfl (an 8 rfl (bz (bw (cs:=[.slice A l.length cap]) rfl (.inr ((bh _ _ I.symm).trans (b0 _ _ _))) gH rfl) rfl (an 1 rfl ?_))))
   refine fc jr rfl ?_
   intro eb dU cC dw
   refine lZ _ (List.Perm.swap _ _ _) ?_
   refine jH (news:=[.pointer (some ⟨f p,0,none⟩)]) oz rfl rfl (cd rfl dw) (fun h=>by cases h) (fun u hu=>by simp at hu;subst hu;rfl) (by omega) rfl rfl ?_
   intro bW b3 dV cD c8 c9 da db
   rw[show l.length+1=(l++ [p]).length by simp]
   refine an 1 rfl ?_
   refine ke (cs:=[.slice A l.length cap]) [.slice bW (l++ [p]).length b3] rfl rfl ((bh _ _ I.symm).trans (b0 _ _ _)) gH rfl rfl rfl rfl ?_
   intro d4 cX ek
   subst cX
   rw[oH I,iM]
   refine an 5 rfl (xp (bJ (vs:=[(0,zI 3),(2,zI (l.length:Nat))]) (v:= .agg #[zI 3,.string ⟨#[]⟩,zI (l.length:Nat),zS]) rfl (fun W=>by kernel_rfl)) rfl (an 4 rfl ?_))
   exact jG results108 (aK rfl rfl iB) (.cons_cons _ (.cons _ .slnil)) ⟨.ok ((.mk 3 ⟨#[]⟩ l.length [],l++ [p],room),M),lo ai (xh (by rw[J];trivial) F),f,D.H,bW,b3,xs++ [.pointer (some ⟨f p,0,none⟩)],_,rfl,y,z,L.mono (cC.trans cD) (eC.refl _),aj,rfl,⟨by rw[List.map_append];exact c6 (bg fZ (cC.trans cD) aA) (c4 rfl),by rw[List.length_map];simpa using db,by rw[List.length_map];simpa using c8,c9,da⟩,aP eg (a5.nil (P:=Ty.Cs) (size:=4) _),rfl⟩
   show bN _ _ _ _ ⟨_,_,[⟨.slice A l.length cap,l.length,xs,202,1⟩]⟩ _ _
   refine an 10 rfl ?_
   cases dl:(decide (((Q:Nat):Int)<0))
   refine aE 6 rfl (xp (bJ (vs:=[(0,zI 3),(2,zI (Q:Nat))]) (v:= .agg #[zI 3,.string ⟨#[]⟩,zI (Q:Nat),zS]) rfl (fun W=>by kernel_rfl)) rfl (an 4 rfl ?_))
   exact jG results108 (aK rfl rfl iB) (List.Sublist.refl _) ⟨.ok ((.mk 3 ⟨#[]⟩ Q [],l,room),M),lo ai (xg (by rw[J];trivial) F),f,D.H,A,cap,xs,_,rfl,y,z,L,aj,rfl,aO,aP eg (ew (P:=Ty.Cs) (size:=4) _),rfl⟩
   exact absurd (of_decide_eq_true dl) (by omega)
   rintro ch am ax ay a0 cn ci ⟨rfl,rfl,rfl,a1,e,_⟩
   cases e
  |num m=>
   rw[J] at C
   simp only[dv] at C
   obtain⟨rfl,rfl⟩:=C
   have s:f p≠lb:=fun q=>by rw[q,y] at n;cases n
   have x:f p≠N:=fun q=>by rw[q,z] at n;cases n
   refine aE 4 rfl (bz (bw (cs:=[zI 3,S,T,U,V,X,Y,Z,ab,zI m,a6,aS]) rfl (.inr ((bh _ _ x).trans ((bh _ _ s).trans n))) bG rfl) rfl (an 15 rfl (bz (bw (cs:=[zI 3,S,T,U,V,X,Y,Z,ab,zI m,a6,aS]) rfl (.inr ((bh _ _ x).trans ((bh _ _ s).trans n))) bG rfl) rfl (xp (bJ (vs:=[(0,zI 2),(2,zI m)]) (v:= .agg #[zI 2,.string ⟨#[]⟩,zI m,zS]) rfl (fun W=>by kernel_rfl)) rfl (an 6 rfl ?_)))))
   exact jG results108 (aK rfl rfl iB) (List.Sublist.refl _) ⟨.ok ((.mk 2 ⟨#[]⟩ m [],l,room),M),lo ai (J8 J),f,D.H,A,cap,xs,_,rfl,y,z,L,aj,rfl,aO,aP eg (ew (P:=Ty.Cs) (size:=4) _),rfl⟩
  |cw sm o=>
   rw[J] at C
   simp only[dv] at C
   obtain⟨rfl,rfl,bD⟩:=C
   have s:f p≠lb:=fun q=>by rw[q,y] at n;cases n
   have x:f p≠N:=fun q=>by rw[q,z] at n;cases n
   obtain⟨Am,cq,rfl,dA,dJ⟩:=bD
   refine aE 4 rfl (bz (bw (cs:=[zI 4,S,T,U,V,X,Y,Z,ab,n1,.string sm,.slice Am (o.map f).length cq]) rfl (.inr ((bh _ _ x).trans ((bh _ _ s).trans n))) bG rfl) rfl (an 29 rfl (bz (bw (cs:=[zI 4,S,T,U,V,X,Y,Z,ab,n1,.string sm,.slice Am (o.map f).length cq]) rfl (.inr ((bh _ _ x).trans ((bh _ _ s).trans n))) fx rfl) rfl (xp (bJ (vs:=[(0,zI 1),(1,.string sm)]) (v:= .agg #[zI 1,.string sm,zI 0,zS]) rfl (fun W=>by kernel_rfl)) rfl (an 10 rfl (bz (bw (cs:=[zI 4,S,T,U,V,X,Y,Z,ab,n1,.string sm,.slice Am (o.map f).length cq]) rfl (.inr ((bh _ _ x).trans ((bh _ _ s).trans n))) gH rfl) rfl (an 5 rfl ?_)))))))
   have bM:di d M o:=by have:=ao.1.wf.ok p ao.2.1;rw[J] at this;exact this
   have ep:o.length≤490000000:=by have:=dA.2.2.1;simpa using this
   refine ul 89 4 ?_
   refine eA (ι:=Nat×(Nat→Nat)×PS×Wd×Hp×Hp×(List Nat)×OA×Nat×LV×Nat×(List Ty)×OA×Nat×LV) [0,2,3,8,9,59,60] 1 rfl (fun(i,az,al,aw,aR,av,aa,aI,aN,bx,ak,B,At,ap,au)=>(⟨[(61,.val (zI (i:Nat)))],[(89,[zI 1,.string sm,zI 0,.slice At B.length ap])],[⟨.slice At B.length ap,B.length,au,89,4⟩,⟨.slice aI aa.length aN,aa.length,bx,202,1⟩]⟩,aw,⟨aR,aQ (aQ av lb (.cells [.slice aI aa.length aN].toArray 201 (0,0))) N (.cells [zI (ak:Nat)].toArray 3 (0,0))⟩,i≤o.length∧WF rs d al∧dq d wb rs az al aw ⟨aR,av⟩∧av lb=none∧av N=none∧Le M al∧fF d M f az∧Sub bc aw∧eC D.K aR∧di d al aa∧dL fE 1 aw aI (aa.map az) aN bx∧l9 l room aa ak∧B.length=i∧dL Ty.Cs 4 aw At B ap au∧(∀bu bn bo dD,aG (fun g=>reads (aB rs g) (o.drop i) aa ak) al (.ok ((bu,bn,bo),dD))→aG (fun g=>reads (aB rs g) o l room) M (.ok ((B++bu,bn,bo),dD)))∧∀t,aG (fun g=>reads (aB rs g) (o.drop i) aa ak) al (.error t)→aG (fun g=>reads (aB rs g) o l room) M (.error t),o.length -i)) (0,f,M,bc,D.K,D.H,l,A,cap,xs,room,[],none,0,[]) rfl rfl rfl [1,1,1,1,1,1] rfl ?_ ?_
   exact⟨b2 _,ao.1.wf,L,y,z,Le.refl _,g0 _,sR,eC.refl _,aC,aO,⟨a9 _,a9 _⟩,rfl,dL.nil,fun bu bn bo dD ah=>ah,fun t ah=>ah⟩
   rintro⟨i,az,al,aw,aR,av,aa,aI,aN,bx,ak,B,At,ap,au⟩ ⟨eo,bk,bR,bI,bQ,bL,bd,cH,dB,bi,bS,aU,dN,⟨cg,dK,dC,dm,gZ⟩,cv,cx⟩
   show VX _ _ _ ⟨_,_,_⟩ aw ⟨aR,aQ (aQ av lb (.cells [.slice aI aa.length aN].toArray 201 (0,0))) N (.cells [zI (ak:Nat)].toArray 3 (0,0))⟩
   have bf:∀{k:Nat} (cl:k<o.length),In d al o[k]:=fun cl=>(bM _ (fL cl)).le bL
   refine aE 6 rfl ?_
   cases cc:(decide (((i:Nat):Int)<(((o.map f).length:Nat):Int)))
   have dG:o.length≤i:=by have:=of_decide_eq_false cc;simp only[List.length_map] at this;omega
   refine aE 15 rfl ?_
   have cj:=cv _ _ _ _ (Kd (l:=aa) (room:=ak) (st:=al) (List.drop_eq_nil_of_le dG))
   rw[List.append_nil] at cj
   exact jG results108 (aK rfl rfl iB) (.cons _ (.cons_cons _ .slnil)) ⟨.ok ((.mk 1 sm 0 B,aa,ak),al),lo ai (Ka J cj),az,av,aI,aN,bx,_,rfl,bI,bQ,bR,aj.trans bd ao.1.le,rfl,bS,aP ⟨dC,dm,by omega,gZ⟩ (cz dK cg),rfl⟩
   have ag:i<o.length:=by have:=of_decide_eq_true cc;simp only[List.length_map] at this;omega
   refine aE 7 rfl ?_
   obtain⟨d5,et,d9,cP,dr,dz⟩:=a5.get fZ dJ i (by rw[List.length_map];exact ag)
   cases cP
   have dy:=dz 0 (bP (f o[i])) (by rw[dr,List.getElem_map];rfl)
   refine xp (a3 rfl rfl rfl (by rw[List.length_map];exact ag) jr) rfl (xp (dT rfl ns (cH _ _ _ dy)) rfl (an 3 rfl ?_))
   refine gi _ (List.Perm.swap _ _ _) ?_
   refine dM mixed (fun k=>false) bH (fun _ _ h=>by cases h) fun aq=> ?_
   refine bm [0,2,3,4,5] rfl (by kernel_rfl) id (bp [1,6] (by kernel_rfl) rfl ?_)
   refine dh rfl ?_ ?_
   refine bp [6] (by kernel_rfl) rfl ?_
   have bE:az o[i]=f o[i]:=bd _ (bM _ (fL ag))
   rw[←bE]
   refine Co (rr:=[⟨.slice At B.length ap,B.length,au,89,4⟩]) rfl (b7 ak (by have:=aU.1;omega) bk bR bI bQ I (bf ag) bi bS (by have:=aU.2;omega)) xn rfl rfl rfl (fun _ _ h=>by cases h) ?_ ?_ ?_
   rintro ey am dZ aJ bT cm ⟨r,aD,O⟩
   rcases r with t|⟨⟨⟨a4,a8,a7,ba⟩,ar,bq⟩,cJ⟩
   cases O
   obtain⟨bZ,bb,aH,aM,bv,d7,cR,cp,cr,ct,b8,rfl,cu,aV,e⟩:=O
   cases e
   have be:=Ct bk (bf ag) bi aD
   have ca:=Cr aD
   have dn:=aV
   obtain⟨bB,bC,rfl,_⟩:=dn
   rw[show aJ=⟨aJ.K,aQ (aQ bb lb (.cells [.slice aH ar.length aM].toArray 201 (0,0))) N (.cells [zI (bq:Nat)].toArray 3 (0,0))⟩ from by rw[←cR]]
   show cQ _ _ _ _ _ _ _ _ _ _ ⟨_,_,[⟨.slice aH ar.length aM,ar.length,bv,202,1⟩,⟨.slice At B.length ap,B.length,au,89,4⟩]⟩ _ _
   refine ww 1 ?_
   rotate_left
   refine ww 3 ?_
   rotate_left
   exact bt
   have bE:az o[i]=f o[i]:=bd _ (bM _ (fL ag))
   rw[←bE]
   refine Co (rr:=[⟨.slice At B.length ap,B.length,au,89,4⟩]) rfl (b7 ak (by have:=aU.1;omega) bk bR bI bQ I (bf ag) bi bS (by have:=aU.2;omega)) xn rfl rfl rfl (fun _ _ h=>by cases h) ?_ ?_ ?_
   rintro ez am d0 aJ bT cm ⟨r,aD,O⟩
   rcases r with t|⟨⟨⟨a4,a8,a7,ba⟩,ar,bq⟩,cJ⟩
   cases O
   obtain⟨bZ,bb,aH,aM,bv,d8,cS,cp,cr,ct,b8,rfl,cu,aV,e⟩:=O
   cases e
   have be:=Ct bk (bf ag) bi aD
   have ca:=Cr aD
   have dp:=aV
   obtain⟨bB,bC,rfl,_⟩:=dp
   rw[show aJ=⟨aJ.K,aQ (aQ bb lb (.cells [.slice aH ar.length aM].toArray 201 (0,0))) N (.cells [zI (bq:Nat)].toArray 3 (0,0))⟩ from by rw[←cS]]
   show cQ _ _ _ _ _ _ _ _ _ _ ⟨_,_,[⟨.slice aH ar.length aM,ar.length,bv,202,1⟩,⟨.slice At B.length ap,B.length,au,89,4⟩]⟩ _ _
   refine bp [1,7] (by kernel_rfl) rfl ?_
   refine dh rfl ?_ ?_
   refine ww 1 ?_
   rotate_left
   refine jn jc rfl ?_ bt
   intro ee dY aF ck
   refine bm [1001] rfl (by kernel_rfl) id (ww 2 ?_)
   rotate_left
   refine ww 3 ?_
   rotate_left
   exact bt
   any_goals
    refine uw 1 ?_
    refine bp [7] (by kernel_rfl) rfl ?_
    refine jn jc rfl ?_ bt
    intro ed dW aF ck
    refine ww 2 ?_
    rotate_left
   any_goals
    refine uw 2 ?_
    refine p6 _ ((List.Perm.swap _ _ _).trans (List.Perm.cons _ (List.Perm.swap _ _ _))) ?_
    refine bp [8] (by kernel_rfl) rfl ?_
    refine kR (news:=[zI a4,.string a8,zI a7,.slice bB ba.length bC]) rfl rS rfl rfl (cd rfl ck) (fun h=>by cases h) (fun u hu=>a2.one (Ty.Cs.sub aV aF) u hu) (by omega) rfl rfl ?_ bt
    intro cM cO cN aZ dc dd de df
    rw[show B.length+1=(B++ [(.mk a4 a8 a7 ba:Ty)]).length by simp]
    refine bm [9,1010] rfl (by kernel_rfl) id (du (by kernel_rfl) (br 3 rfl (xp (bA rfl rfl (by omega)) rfl (an 2 rfl ?_))))
    refine dI (i+1,bZ,cJ,cN,aJ.K,bb,ar,aH,aM,bv,bq,B++ [(.mk a4 a8 a7 ba:Ty)],cM,cO,au++ [zI a4,.string a8,zI a7,.slice bB ba.length bC]) rfl rfl rfl [1,0,1] rfl ?_ ?_
    refine⟨by omega,be.1.wf,ct.mono (aF.trans aZ) (eC.refl _),cp,cr,bL.trans be.1.le,bd.trans b8 bL,cH.trans (bT.trans (aF.trans aZ)),dB.trans cm,be.2,cu.sub fZ (aF.trans aZ),aU.trans ca,by simp[dN],⟨aL.append (aL.sub a2 (bT.trans (aF.trans aZ)) cg) (aL.single (Ty.Cs.sub aV (aF.trans aZ))),by simpa using df,by simpa using dc,dd,de⟩,?_,?_⟩
    intro bu bn bo dD ah
    have:=cv _ _ _ _ (Ke ag aD ah)
    simpa using this
    exact fun t ah=>cx t (Kh ag aD ah)
    show o.length -(i+1)<o.length -i;omega
   any_goals
    refine uw 3 ?_
    rintro ch am ax ay _ _ ⟨r,ah,O⟩
    rcases r with t|⟨⟨eu,es,rx⟩,dP⟩
    cases O
    refine br 7 rfl ?_
    exact cL ⟨.error t,lo ai (Kc J (cx _ (Kg ag ah))),rfl⟩
    obtain⟨_,_,_,_,_,_,_,_,_,_,_,_,_,_,e⟩:=O
    cases e
  |fn sm o=>
   rw[J] at C
   simp only[dv] at C
   obtain⟨rfl,rfl,bD⟩:=C
   have s:f p≠lb:=fun q=>by rw[q,y] at n;cases n
   have x:f p≠N:=fun q=>by rw[q,z] at n;cases n
   obtain⟨Am,cq,rfl,_⟩:=bD
   refine aE 4 rfl (bz (bw (cs:=[zI 5,S,T,U,V,X,Y,Z,ab,n1,.string sm,.slice Am (o.map f).length cq]) rfl (.inr ((bh _ _ x).trans ((bh _ _ s).trans n))) bG rfl) rfl (an 18 rfl ?_))
   refine dM mixed (fun k=>false) bH (fun _ _ h=>by cases h) fun aq=> ?_
   refine bm [0,1,2,4,5,6] rfl (by kernel_rfl) id (bp [3,7] (by kernel_rfl) rfl ?_)
   refine fT rfl (bw (cs:=[zI 5,S,T,U,V,X,Y,Z,ab,n1,.string sm,.slice Am (o.map f).length cq]) rfl (.inr ((bh _ _ x).trans ((bh _ _ s).trans n))) fx rfl) rfl ?_ ?_
   refine bp [7] (by kernel_rfl) rfl ?_
   refine fT rfl (bw (cs:=[zI 5,S,T,U,V,X,Y,Z,ab,n1,.string sm,.slice Am (o.map f).length cq]) rfl (.inr ((bh _ _ x).trans ((bh _ _ s).trans n))) gH rfl) rfl ?_ bt
   refine bm [8] rfl (by kernel_rfl) id (xt 9 rfl (bJ (vs:=[(0,zI 4),(1,.string sm),(2,zI (((o.map f).length:Nat):Int))]) (v:= .agg #[zI 4,.string sm,zI (((o.map f).length:Nat):Int),zS]) rfl (fun W=>by kernel_rfl)) rfl (by kernel_rfl) id (bm [1010] rfl (by kernel_rfl) id (du (by kernel_rfl) (br 4 rfl (ww 1 ?_)))))
   rotate_left
   refine fT rfl (bw (cs:=[zI 5,S,T,U,V,X,Y,Z,ab,n1,.string sm,.slice Am (o.map f).length cq]) rfl (.inr ((bh _ _ x).trans ((bh _ _ s).trans n))) gH rfl) rfl ?_ bt
   refine bm [8] rfl (by kernel_rfl) id (bp [3] (by kernel_rfl) rfl ?_)
   refine fT rfl (bw (cs:=[zI 5,S,T,U,V,X,Y,Z,ab,n1,.string sm,.slice Am (o.map f).length cq]) rfl (.inr ((bh _ _ x).trans ((bh _ _ s).trans n))) fx rfl) rfl ?_ bt
   refine xt 9 rfl (bJ (vs:=[(0,zI 4),(1,.string sm),(2,zI (((o.map f).length:Nat):Int))]) (v:= .agg #[zI 4,.string sm,zI (((o.map f).length:Nat):Int),zS]) rfl (fun W=>by kernel_rfl)) rfl (by kernel_rfl) id (bm [1010] rfl (by kernel_rfl) id (du (by kernel_rfl) (br 4 rfl (ww 1 ?_))))
   rotate_left
   any_goals
    refine uw 1 ?_
    have dE:(o.map f).length=o.length:=List.length_map _
    rw[dE]
    exact jG results108 (aK rfl rfl iB) (List.Sublist.refl _) ⟨.ok ((.mk 4 sm o.length [],l,room),M),lo ai (J9 J),f,D.H,A,cap,xs,_,rfl,y,z,L,aj,rfl,aO,aP eg (ew (P:=Ty.Cs) (size:=4) _),rfl⟩
  rintro ch am ax ay _ _ _ ⟨rfl,r,ah,O⟩
  rcases r with t|⟨d6,dP⟩
  cases O
  refine br 1 rfl ?_
  exact cL ⟨.error t,J7 ah,rfl⟩
  obtain⟨_,_,_,_,e,_⟩:=O
  cases e
  exact absurd dg (by simp;omega)
theorem Kk{d wb:Nat}(N:Nat):xk d wb aD N:=by
 induction N using Nat.strongRecOn with
 |ind N a=>exact Kj a
theorem um{d wb:Nat}(h:dq d wb aD a0 ap ah ⟨b1,ff⟩)(j:ff ae=none):dq d wb aD a0 ap ah ⟨b1,aQ ff ae fH⟩:=by
 have f:∀c,ff c≠none→aQ ff ae fH c=ff c:=fun c k=>bh _ _ (fun e=>k (by rw[e];exact j))
 refine⟨fun i l=> ?_,h.inj,h.ne,?_,h.ay⟩
 ·obtain⟨c,a,b⟩:=h.cell i l
  exact⟨c,(f _ (by rw[show ff (a0 i)=_ from a];simp)).trans a,b⟩
 ·obtain⟨g,pv,a,b,h3⟩:=h.world
  exact⟨g,pv,(f _ (by rw[show ff wb=_ from a];simp)).trans a,b,h3⟩
def mI (f:cT) (γ:Nat→M Unit) (c:Nat):M Ty:=(nx f γ c []).bind fun _=>(f.read c [] 1000).bind fun a=>M.ret a.1
def Kl (d wb:Nat) (rs:cU) (bl:Nat→Nat) (st:PS) (m:Nat→M Ty):ka:=fun E ts R' X'=>
 ∃r,aG m st r∧match r with
  | .ok (t,a1)=>∃ef a,dq d wb rs ef a1 R' X'∧Ty.Cs R' t a∧E= .returned (.agg a.toArray)
  | .error t=>E= .panicked (oy t)
theorem Km{d wb:Nat}{rs:cU}(al:Gh rs d gI){K Hc:Hp}{lb c:Nat}(aj:WF rs d ap)(h:dq d wb rs a0 ap ah ⟨K,Hc⟩)(V:Hc lb=none)(f:In d ap c):
 cJ 95 [bP wb,bP (a0 c),bP lb] [⟨zS,0,[],202,1⟩] ah ⟨K,aQ Hc lb (.cells [zS].toArray 201 (0,0))⟩ (Kl d wb rs a0 ap (fun g=>mI (aB rs g) gI c)):=by
 refine eh func95 rfl ntmps95 rfl fun w G ad=> ?_
 refine cG 9 rfl ?_
 refine rv rfl ?_
 rintro j av _ k rfl
 have u:j≠lb:=fun q=>by
  rw[q] at k
  exact absurd k (by show aQ Hc lb _ lb≠none;rw[b0];simp)
 have ag:Hc j=none:=(bh _ _ u).symm.trans k
 have B:aQ Hc j (.map #[] 0) lb=none:=(bh _ _ u.symm).trans V
 refine kP (Hc:=aQ Hc j (.map #[] 0)) (Hf:=hT lb (.cells [zS].toArray 201 (0,0))) (ts:=[]) (rs:=_) (J2 al _ _ aj h ag f (fun i m=>by cases m) (s:=[]) (by rw[JJ];exact iw.nil) rfl rfl) Ch rfl rfl (by rw[p3 B];exact oH u.symm) (w7 B) rfl ?_ ?_
 rintro aN v J b _ _ U ⟨rfl,r,D,a⟩
 rcases r with t|⟨aJ,F⟩
 cases a
 obtain⟨O,ar,aD,az,P,ai,ab,R,_,ak,W,e⟩:=a
 cases e
 have C:=w8 U
 rw[p3 C]
 have S:In d F c:=⟨f.1,lA f.2 W⟩
 have ae:dq d wb rs O F J ⟨b.K,b.H⟩:=by rw[P];exact um ab ai
 show bN _ _ _ _ ⟨_,_,[⟨zS,0,[],202,1⟩]⟩ _ _
 refine an 13 rfl ?_
 refine xa (bs:=[(89,[zI 0,.string ⟨#[]⟩,zI 0,zS])]) rfl rfl ?_
 rintro E aw -n rfl
 have o:E≠lb:=fun q=>by
  rw[q] at n
  exact absurd n (by show aQ b.H lb _ lb≠none;rw[b0];simp)
 have Y:b.H E=none:=(bh _ _ o).symm.trans n
 rw[←R c f]
 refine Cm (rr:=[]) (Kk 1000 (l:=[]) (A:=none) (cap:=0) (xs:=[]) ak ae C Y o S (fun i m=>by cases m) dL.nil (by decide)) xn rfl rfl rfl ?_ ?_
 rintro aO v L x _ _ ⟨r,aa,a⟩
 rcases r with t|⟨⟨⟨aE,aL,aH,aR⟩,aF,aI⟩,I⟩
 cases a
 obtain⟨y,au,ao,ax,aP,aC,Q,X,Z,ac,_,rfl,_,z,e⟩:=a
 cases e
 have T:=z
 obtain⟨aq,ay,rfl,_⟩:=T
 have af:dq d wb rs y I L ⟨x.K,x.H⟩:=by rw[Q];exact um (um ac X) ((bh _ _ o).trans Z)
 refine A1 [] (eH _) ?_
 refine an 4 rfl ?_
 exact dm results95 (aK rfl rfl iB) ⟨.ok (_,I),bB D (bB aa fD),y,_,af,z,rfl⟩
 rintro ch v M N _ _ ⟨r,p,a⟩
 rcases r with t|⟨⟨aM,aG,rx⟩,am⟩
 cases a
 refine br 1 rfl ?_
 exact cL ⟨.error t,bB D (ej p),rfl⟩
 obtain⟨_,_,_,_,_,_,_,_,_,_,_,_,_,_,e⟩:=a
 cases e
 rintro ch v M N _ _ _ ⟨rfl,r,p,a⟩
 rcases r with t|⟨aA,am⟩
 cases a
 refine br 1 rfl ?_
 exact cL ⟨.error t,ej p,rfl⟩
 obtain⟨_,_,_,_,_,_,_,_,_,_,_,e⟩:=a
 cases e
end Go.Proofs.YthnogncknmhgoaaGreat.Vm
