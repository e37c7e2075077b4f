/- Lemmas for ModelOrs (14 of 15). No conditions. -/
import Derived.Test.YthnogncknmhgoaaGreatM12
set_option linter.all false
set_option maxRecDepth 100000
set_option maxHeartbeats 485000000
open Go.Proofs.Tryz
namespace Go.Proofs.YthnogncknmhgoaaGreat.Vm
open ChangeShapes WideShapes ChangeAt RowKit bq Data Lx
variable{aj bj:LV}{hS:List Pl}{ak:Md}{ae:Nat}{aA:OA}{jM:Rl}{bC:Ty}{ah:Wd}
theorem Dx:dO 71 135 6 72:=by unfold dO;kernel_rfl
theorem Nu:aF 44:=by unfold aF;kernel_rfl
theorem Dy:aF 45:=by unfold aF;kernel_rfl
theorem Nv:aF 48:=by unfold aF;kernel_rfl
theorem Dz:aF 49:=by unfold aF;kernel_rfl
theorem Nw(ag:oP ae):oP (ae+1):=by
 intro R f t lp x hC iI iy iE i6 lv
 obtain⟨hM,aB,hX,Am,ms,cq,Al,ls,dA⟩:=f
 obtain⟨As,l,ek,made,g,fs,m,d,e,al,ac⟩:=t
 obtain⟨⟨Q,U⟩,⟨O,T⟩,N,S⟩:=hC
 obtain⟨⟨z,A⟩,y,im,⟨r,E,D,C,B⟩⟩:=iI
 obtain⟨iB,iC,iD⟩:=iy
 dsimp only at Q U O T N S z A y im r E D C B iB iC iD iE
 obtain⟨q,an,ne,a,p,o⟩:=x
 obtain⟨fv,gB,rfl,aJ,H⟩:=i6
 have my:(.mk q an ne a p o:Ex).size=aO a+1:=fh _ _ _ _ _ _
 have mb:aO (a.take 0)=0:=by rw[List.take_zero];exact kD
 have mv:a.length≤aO a:=k1 _
 replace H:=c9.1 H
 try dsimp only[cu,Wt.tok]
 refine kI func16 rfl ntmps16 rfl rfl fun w G ad=> ?_
 refine sV 16 rfl ?_
 cases ly:(e !=0)
 try dsimp only[cu,Wt.tok]
 refine rV 20 rfl ?_
 cases cy:(q==3)
 have dP:=cc cy
 try dsimp only[cu,Wt.tok]
 refine rV 7 rfl ?_
 cases cA:(q==9)
 have dQ:=cc cA
 try dsimp only[cu,Wt.tok]
 refine rL 12 rfl ?_
 cases cE:(q==1)
 have bc:=cc cE
 try dsimp only[cu,Wt.tok]
 refine rL 14 rfl ?_
 cases cv:(q==1)
 have dL:=cc cv
 try dsimp only[cu,Wt.tok]
 refine rV 9 rfl ?_
 cases cw:(q==2)
 have dM:=cc cw
 try dsimp only[cu,Wt.tok]
 refine rV 7 rfl ?_
 cases cx:(q==4)
 have dO:=cc cx
 try dsimp only[cu,Wt.tok]
 refine rL 13 rfl ?_
 cases cB:(q==5)
 have dS:=cc cB
 try dsimp only[cu,Wt.tok]
 refine rL 17 rfl ?_
 cases cC:(q==6)
 have dT:=cc cC
 try dsimp only[cu,Wt.tok]
 refine rL 17 rfl ?_
 cases cG:(q==7)
 have dU:=cc cG
 try dsimp only[cu,Wt.tok]
 refine rL 17 rfl ?_
 cases hr:(q==8)
 try dsimp only[cu,Wt.tok]
 refine rL 16 rfl ?_
 refine ep (ts:=[]) (rs:=_) (h6 (ts:=[]) 2 p o) h7 rfl rfl rfl rfl ?_
 rintro _ _ _ fB lZ ⟨lJ,rfl,⟨gM,f7,fN,rfl⟩,⟨mE,np,mX,nF⟩,_,rfl,⟨kd,lc,rfl,h3,br⟩⟩
 subst fB
 replace br:=a8.1 br
 try dsimp only[cu,Wt.tok]
 refine rL 5 rfl ?_
 exact dN results16 (aK rfl rfl cD) (ts:=[⟨.slice g fs.length m,fs.length,d,135,6⟩]) (.cons_cons _ .slnil) ⟨_,rfl,⟨As,l,ek,made,g,fs,m,d,gM,f7,fN⟩,rfl,rfl,⟨⟨z,A⟩,y,by(try simp only[ll]);omega,⟨r,E,D,C,B⟩⟩,⟨by(try simp only[ll]);omega,by(try simp only[ll]);omega,by(try simp only[ll]);omega,by(try simp only[ll]);omega⟩,_,_,rfl,(aP h3 br)⟩
 have ix:=cb hr
 obtain rfl:q=8:=ix
 try dsimp only[cu,Wt.tok]
 refine rL 4 rfl ?_
 cases hs:(((a.length:Nat):Int)==1)
 try dsimp only[cu,Wt.tok]
 refine rL 12 rfl ?_
 refine ep (ts:=[]) (rs:=_) (h6 (ts:=[]) 2 p o) h7 rfl rfl rfl rfl ?_
 rintro _ _ _ fA lY ⟨lI,rfl,⟨gK,f6,fM,rfl⟩,⟨mC,no,mW,nE⟩,_,rfl,⟨kc,lb,rfl,h2,bq⟩⟩
 subst fA
 replace bq:=a8.1 bq
 try dsimp only[cu,Wt.tok]
 refine rL 5 rfl ?_
 exact dN results16 (aK rfl rfl cD) (ts:=[⟨.slice g fs.length m,fs.length,d,135,6⟩]) (.cons_cons _ .slnil) ⟨_,rfl,⟨As,l,ek,made,g,fs,m,d,gK,f6,fM⟩,rfl,rfl,⟨⟨z,A⟩,y,by(try simp only[ll]);omega,⟨r,E,D,C,B⟩⟩,⟨by(try simp only[ll]);omega,by(try simp only[ll]);omega,by(try simp only[ll]);omega,by(try simp only[ll]);omega⟩,_,_,rfl,(aP h2 bq)⟩
 have lX:=cb hs
 try dsimp only[cu,Wt.tok]
 refine rL 10 rfl ?_
 refine ep (ts:=[]) (rs:=_) (nl (ts:=[]) (by omega) (by omega)) nn rfl rfl rfl rfl ?_
 rintro _ _ _ fJ l6 ⟨lR,rfl,rfl,⟨I,K,J,L⟩,_,rfl,⟨Z,ab,rfl,aM,au⟩,_⟩
 subst fJ
 replace au:=a8.1 au
 try dsimp only[cu,Wt.tok]
 refine rL 5 rfl ?_
 refine bZ mixed (fun k=>k==1||k==3) fun aq=> ?_
 refine bL [0,1,2,3,5,6,7] rfl (by kernel_rfl) id (vt 8 rfl (bJ (vs:=[(0,.agg #[zI p,zI o]),(1,.agg #[zI I,.string K,zI J,.slice Z L.length ab])]) (v:= .agg #[zI p,zI o,zI I,.string K,zI J,.slice Z L.length ab]) rfl (fun W=>by kernel_rfl)) rfl (by kernel_rfl) id (a7 [4,9] (by kernel_rfl) rfl ?_))
 refine av rfl ?_ ?_
 refine a7 [9] (by kernel_rfl) rfl ?_
 refine eW wg rfl ?_ bf
 intro b7 kF X hF
 try dsimp only[cu,Wt.tok]
 refine iJ ?_
 refine a7 [10] (by kernel_rfl) rfl ?_
 refine fW (news:=[zI p,zI o,zI I,.string K,zI J,.slice Z L.length ab]) rfl Dx rfl rfl (cd rfl hF) (fun h=>by cases h) (fun u hu=>ho.one (wi (hR (l:=p) (c:=o)) (aP aM (aC a2 au X))) u hu) (n1:=(fs++ [(⟨(⟨p,o⟩:Po),(.mk I K J L:Ty)⟩:Fr)]).length) (by(try simp only[ll])<;>omega) (by(try simp only[ll]);omega) rfl rfl ?_ bf
 refine ww 1 ?_
 rotate_left
 refine eW wg rfl ?_ bf
 intro b7 kq X hD
 try dsimp only[cu,Wt.tok]
 refine bL [1004] rfl (by kernel_rfl) id ?_
 refine iJ ?_
 refine a7 [10] (by kernel_rfl) rfl ?_
 refine fW (news:=[zI p,zI o,zI I,.string K,zI J,.slice Z L.length ab]) rfl Dx rfl rfl (cd rfl hD) (fun h=>by cases h) (fun u hu=>ho.one (wi (hR (l:=p) (c:=o)) (aP aM (aC a2 au X))) u hu) (n1:=(fs++ [(⟨(⟨p,o⟩:Po),(.mk I K J L:Ty)⟩:Fr)]).length) (by(try simp only[ll])<;>omega) (by(try simp only[ll]);omega) rfl rfl ?_ bf
 refine ww 1 ?_
 rotate_left
 have dU:=cb cG
 obtain rfl:q=7:=dU
 try dsimp only[cu,Wt.tok]
 refine rL 4 rfl ?_
 cases hq:(((a.length:Nat):Int)==2)
 try dsimp only[cu,Wt.tok]
 refine rL 29 rfl ?_
 refine ep (ts:=[]) (rs:=_) (h6 (ts:=[]) 2 p o) h7 rfl rfl rfl rfl ?_
 rintro _ _ _ fI l5 ⟨lQ,rfl,⟨g0,gl,f3,rfl⟩,⟨mP,nA,m8,nQ⟩,_,rfl,⟨ko,lo,rfl,ik,bG⟩⟩
 subst fI
 replace bG:=a8.1 bG
 try dsimp only[cu,Wt.tok]
 refine rL 5 rfl ?_
 exact dN results16 (aK rfl rfl cD) (ts:=[⟨.slice g fs.length m,fs.length,d,135,6⟩]) (.cons_cons _ .slnil) ⟨_,rfl,⟨As,l,ek,made,g,fs,m,d,g0,gl,f3⟩,rfl,rfl,⟨⟨z,A⟩,y,by(try simp only[ll]);omega,⟨r,E,D,C,B⟩⟩,⟨by(try simp only[ll]);omega,by(try simp only[ll]);omega,by(try simp only[ll]);omega,by(try simp only[ll]);omega⟩,_,_,rfl,(aP ik bG)⟩
 have lV:=cb hq
 try dsimp only[cu,Wt.tok]
 refine rL 8 rfl ?_
 refine bZ mixed (fun k=>k==1) fun aq=> ?_
 refine bL [0,1,2,3,4,5] rfl (by kernel_rfl) id ?_
 obtain⟨kT,nh,_,hc,⟨eG,e0,eT,fb,eQ,b6⟩,ct,⟨j7,k6,rfl,hW,bl⟩,hA⟩:=cn bM H 0 (by omega)
 replace bl:=c9.1 bl
 try dsimp only[cu,Wt.tok]
 refine vt 6 rfl (a3 (i:=0) hc rfl rfl (by omega) cZ) rfl (by kernel_rfl) id (vt 7 rfl (cl rfl hA rfl) rfl (by kernel_rfl) id (bL [10,11] rfl (by kernel_rfl) id ?_))
 obtain⟨kU,ni,_,hd,⟨jb,jJ,jD,jU,jo,gG⟩,hh,⟨j8,k7,rfl,hY,bm⟩,hB⟩:=cn bM H 1 (by omega)
 replace bm:=c9.1 bm
 try dsimp only[cu,Wt.tok]
 refine vt 12 rfl (a3 (i:=1) hd rfl rfl (by omega) cZ) rfl (by kernel_rfl) id (vt 13 rfl (cl rfl hB rfl) rfl (by kernel_rfl) id (a7 [8] (by kernel_rfl) rfl ?_))
 have mj:aO (a.take 1)=aO (a.take 0)+(.mk eG e0 eT fb eQ b6:Ex).size:=by have b:=gL (ys:=a) (j:=0) (by omega);rw[←ct] at b;exact b
 have mt:aO (a.take 1)≤aO a:=eJ _ _
 have bO:(.mk eG e0 eT fb eQ b6:Ex).size+aO (a.drop 1)=aO a:=by have b:=qi (ys:=a) (by omega);rw[←ct] at b;exact b
 try dsimp only[cu,Wt.tok]
 refine lx rfl (rs:=[]) (ag (f:=⟨hM,aB,hX,Am,ms,cq,Al,ls,dA⟩) (t:=⟨As,l,ek,made,g,fs,m,d,e,al,ac⟩) ⟨⟨Q,U⟩,⟨O,T⟩,N,S⟩ ⟨⟨z,A⟩,y,by(try simp only[ll]);omega,⟨r,E,D,C,B⟩⟩ ⟨by(try simp only[ll]);omega,by(try simp only[ll]);omega,by(try simp only[ll]);omega⟩ (by(try simp only[ll]);omega) (de hW bl) (by(try simp only[ll]);omega)) iS rfl rfl rfl rfl rfl ?_ bf
 rintro _ _ _ kB aU ⟨⟨ft,jl,gz,jw,fk,g7,gq,jQ,gY,gj,f1⟩,rfl,rfl,⟨⟨du,d3⟩,dh,iv,⟨c3,ef,dH,cQ,ck⟩⟩,⟨er,iR,i1,eB⟩,⟨eK,e3,eX,fd⟩,_,rfl,⟨bV,b2,rfl,ii,bE⟩⟩
 dsimp only at du d3 dh iv c3 ef dH cQ ck er iR i1 eB
 (try simp only[ll] at er eB)
 replace bE:=a8.1 bE
 try dsimp only[cu,Wt.tok]
 refine vt 9 rfl (bJ (vs:=[(0,.string an),(1,.agg #[zI eK,.string e3,zI eX,.slice bV fd.length b2])]) (v:= .agg #[.string an,zI eK,.string e3,zI eX,.slice bV fd.length b2]) rfl (fun W=>by kernel_rfl)) rfl (by kernel_rfl) id (a7 [14] (by kernel_rfl) rfl ?_)
 have ml:aO (a.take 2)=aO (a.take 1)+(.mk jb jJ jD jU jo gG:Ex).size:=by have b:=gL (ys:=a) (j:=1) (by omega);rw[←hh] at b;exact b
 have mu:aO (a.take 2)≤aO a:=eJ _ _
 try dsimp only[cu,Wt.tok]
 refine lx rfl (rs:=[]) (Dw ag (f:=⟨hM,aB,hX,Am,ms,cq,Al,ls,dA⟩) (t:=⟨ft,jl,gz,jw,fk,g7,gq,jQ,gY,gj,f1⟩) ⟨⟨Q,(aC eE U aU)⟩,⟨O,(aC eE T aU)⟩,N,(aC gv S aU)⟩ ⟨⟨du,d3⟩,dh,by(try simp only[ll]);omega,⟨c3,ef,dH,cQ,ck⟩⟩ ⟨by(try simp only[ll]);omega,by(try simp only[ll]);omega,by(try simp only[ll]);omega⟩ (by(try simp only[ll]);omega) (mD (s:=an) (aP ii bE)) (de hY (aC bM bm aU)) (by(try simp only[ll]);omega)) Dz rfl rfl rfl rfl rfl ?_ bf
 rintro _ _ _ kC _ ⟨⟨fu,jm,gA,jx,bU,ba,b1,e8,gZ,gk,f2⟩,rfl,rfl,⟨⟨dv,d4⟩,di,iw,⟨c5,eh,dI,cR,cm⟩⟩,⟨es,iT,i2,eC⟩,⟨mO,nz,m7,nP⟩,_,rfl,⟨kn,ln,rfl,ij,bF⟩⟩
 dsimp only at dv d4 di iw c5 eh dI cR cm es iT i2 eC
 (try simp only[ll] at es eC)
 replace bF:=a8.1 bF
 try dsimp only[cu,Wt.tok]
 refine bL [1015] rfl (by kernel_rfl) id (bS (by kernel_rfl) (rD 3 rfl ?_))
 exact dN results16 (aK rfl rfl cD) (ts:=[⟨.slice bU ba.length b1,ba.length,e8,135,6⟩]) (.cons_cons _ .slnil) ⟨_,rfl,⟨fu,jm,gA,jx,bU,ba,b1,e8,gZ,gk,f2⟩,rfl,rfl,⟨⟨dv,d4⟩,di,by(try simp only[ll]);omega,⟨c5,eh,dI,cR,cm⟩⟩,⟨by(try simp only[ll]);omega,by(try simp only[ll]);omega,by(try simp only[ll]);omega,by(try simp only[ll]);omega⟩,_,_,rfl,(aP ij bF)⟩
 have dT:=cb cC
 obtain rfl:q=6:=dT
 try dsimp only[cu,Wt.tok]
 refine rL 4 rfl ?_
 cases hp:(((a.length:Nat):Int)==3)
 try dsimp only[cu,Wt.tok]
 refine rL 46 rfl ?_
 refine ep (ts:=[]) (rs:=_) (h6 (ts:=[]) 2 p o) h7 rfl rfl rfl rfl ?_
 rintro _ _ _ fH l4 ⟨lP,rfl,⟨gW,gh,fZ,rfl⟩,⟨mM,nx,m5,nN⟩,_,rfl,⟨kl,lk,rfl,ig,bC⟩⟩
 subst fH
 replace bC:=a8.1 bC
 try dsimp only[cu,Wt.tok]
 refine rL 5 rfl ?_
 exact dN results16 (aK rfl rfl cD) (ts:=[⟨.slice g fs.length m,fs.length,d,135,6⟩]) (.cons_cons _ .slnil) ⟨_,rfl,⟨As,l,ek,made,g,fs,m,d,gW,gh,fZ⟩,rfl,rfl,⟨⟨z,A⟩,y,by(try simp only[ll]);omega,⟨r,E,D,C,B⟩⟩,⟨by(try simp only[ll]);omega,by(try simp only[ll]);omega,by(try simp only[ll]);omega,by(try simp only[ll]);omega⟩,_,_,rfl,(aP ig bC)⟩
 have lU:=cb hp
 try dsimp only[cu,Wt.tok]
 refine rL 12 rfl ?_
 obtain⟨kQ,nd,_,b8,⟨eF,eZ,eS,fa,bP,a0⟩,cs,⟨j4,k3,rfl,hT,bi⟩,cH⟩:=cn bM H 0 (by omega)
 replace bi:=c9.1 bi
 try dsimp only[cu,Wt.tok]
 refine vp (a3 (i:=0) b8 rfl rfl (by omega) cZ) rfl (vp (cl rfl cH rfl) rfl ?_)
 have mg:aO (a.take 1)=aO (a.take 0)+(.mk eF eZ eS fa bP a0:Ex).size:=by have b:=gL (ys:=a) (j:=0) (by omega);rw[←cs] at b;exact b
 have mp:aO (a.take 1)≤aO a:=eJ _ _
 have bO:(.mk eF eZ eS fa bP a0:Ex).size+aO (a.drop 1)=aO a:=by have b:=qi (ys:=a) (by omega);rw[←cs] at b;exact b
 try dsimp only[cu,Wt.tok]
 refine ep (rs:=[]) (ag (f:=⟨hM,aB,hX,Am,ms,cq,Al,ls,dA⟩) (t:=⟨As,l,ek,made,g,fs,m,d,e,al,ac⟩) ⟨⟨Q,U⟩,⟨O,T⟩,N,S⟩ ⟨⟨z,A⟩,y,by(try simp only[ll]);omega,⟨r,E,D,C,B⟩⟩ ⟨by(try simp only[ll]);omega,by(try simp only[ll]);omega,by(try simp only[ll]);omega⟩ (by(try simp only[ll]);omega) (de hT bi) (by(try simp only[ll]);omega)) iS rfl rfl rfl rfl ?_
 rintro _ _ _ kw af ⟨⟨jZ,mR,kX,jt,fi,g5,go,jO,lr,kL,kH⟩,rfl,rfl,⟨⟨dr,d0⟩,dd,is,⟨c0,ec,dE,cN,ch⟩⟩,⟨en,iO,iY,ey⟩,⟨mJ,nu,m2,nK⟩,_,rfl,⟨ki,lh,rfl,ic,bz⟩⟩
 dsimp only at dr d0 dd is c0 ec dE cN ch en iO iY ey
 (try simp only[ll] at en ey)
 replace bz:=a8.1 bz
 try dsimp only[cu,Wt.tok]
 refine rL 5 rfl ?_
 refine bZ mixed (fun k=>k==1||k==3) fun aq=> ?_
 refine bL [0,1] rfl (by kernel_rfl) id (vt 2 rfl (bJ (vs:=[(0,zI 2),(1,.string ⟨#[66,111,111,108]⟩)]) (v:= .agg #[zI 2,.string ⟨#[66,111,111,108]⟩,zI 0,zS]) rfl (fun W=>by kernel_rfl)) rfl (by kernel_rfl) id (bL [3,4] rfl (by kernel_rfl) id ?_))
 have hx:=fun j u hu=>af _ _ _ (cH j u hu)
 try dsimp only[cu,Wt.tok]
 refine vt 5 rfl (a3 (i:=0) b8 rfl rfl (by omega) cZ) rfl (by kernel_rfl) id (bL [6] rfl (by kernel_rfl) id (vt 7 rfl (cl rfl (nc (off:=4) (n:=2) hx rfl) rfl) rfl (by kernel_rfl) id (a7 [8] (by kernel_rfl) rfl ?_)))
 refine lx rfl (ts:=[]) (rs:=_) (lW (ts:=[]) dr d0 dd (by(try simp only[ll]);omega) (aP ic bz) (aP eg (ew (P:=Ty.Cs) (size:=4) _)) bP a0) mc rfl rfl rfl rfl rfl ?_ bf
 rintro _ _ _ kx Y ⟨rfl,ji,fp,gw,gT,ge,fV,rfl,hN,iG,hH,lC⟩
 try dsimp only[cu,Wt.tok]
 refine bS (by kernel_rfl) (rD 6 rfl ?_)
 obtain⟨kR,nf,_,hb,⟨i9,jH,jB,jS,jn,gF⟩,hf,⟨j5,k4,rfl,hU,bj⟩,hy⟩:=cn bM (aC bM H (ai af Y)) 1 (by omega)
 replace bj:=c9.1 bj
 try dsimp only[cu,Wt.tok]
 refine vp (a3 (i:=1) hb rfl rfl (by omega) cZ) rfl (vp (cl rfl hy rfl) rfl ?_)
 have mh:aO (a.take 2)=aO (a.take 1)+(.mk i9 jH jB jS jn gF:Ex).size:=by have b:=gL (ys:=a) (j:=1) (by omega);rw[←hf] at b;exact b
 have mq:aO (a.take 2)≤aO a:=eJ _ _
 try dsimp only[cu,Wt.tok]
 refine ep (rs:=[]) (ag (f:=⟨hM,aB,hX,Am,ms,cq,Al,ls,dA⟩) (t:=⟨fp,ji,gw,jt,fi,g5,go,jO,gT,ge,fV⟩) ⟨⟨Q,(aC eE U (ai af Y))⟩,⟨O,(aC eE T (ai af Y))⟩,N,(aC gv S (ai af Y))⟩ ⟨⟨hN,iG⟩,hH,by(try simp only[ll]);omega,⟨bg ho Y c0,eL ec Y,dE,cN,ch⟩⟩ ⟨by(try simp only[ll]);omega,by(try simp only[ll]);omega,by(try simp only[ll]);omega⟩ (by(try simp only[ll]);omega) (de hU bj) (by(try simp only[ll]);omega)) iS rfl rfl rfl rfl ?_
 rintro _ _ _ ky aT ⟨⟨fq,jj,gx,ju,fj,g6,gp,jP,gU,gf,fX⟩,rfl,rfl,⟨⟨ds,d1⟩,df,it,⟨c1,ed,dF,cO,ci⟩⟩,⟨eo,iP,iZ,ez⟩,⟨mK,nv,m3,nL⟩,_,rfl,⟨kj,li,rfl,dy,aQ⟩⟩
 dsimp only at ds d1 df it c1 ed dF cO ci eo iP iZ ez
 (try simp only[ll] at eo ez)
 replace aQ:=a8.1 aQ
 try dsimp only[cu,Wt.tok]
 refine rL 9 rfl ?_
 obtain⟨kS,ng,_,b9,⟨ja,jI,jC,jT,eP,b5⟩,hg,⟨j6,k5,rfl,hV,bk⟩,cI⟩:=cn bM (aC bM H (ai (ai af Y) aT)) 2 (by omega)
 replace bk:=c9.1 bk
 try dsimp only[cu,Wt.tok]
 refine vp (a3 (i:=2) b9 rfl rfl (by omega) cZ) rfl (vp (cl rfl cI rfl) rfl ?_)
 have mi:aO (a.take 3)=aO (a.take 2)+(.mk ja jI jC jT eP b5:Ex).size:=by have b:=gL (ys:=a) (j:=2) (by omega);rw[←hg] at b;exact b
 have mr:aO (a.take 3)≤aO a:=eJ _ _
 try dsimp only[cu,Wt.tok]
 refine ep (rs:=[]) (ag (f:=⟨hM,aB,hX,Am,ms,cq,Al,ls,dA⟩) (t:=⟨fq,jj,gx,ju,fj,g6,gp,jP,gU,gf,fX⟩) ⟨⟨Q,(aC eE U (ai (ai af Y) aT))⟩,⟨O,(aC eE T (ai (ai af Y) aT))⟩,N,(aC gv S (ai (ai af Y) aT))⟩ ⟨⟨ds,d1⟩,df,by(try simp only[ll]);omega,⟨c1,ed,dF,cO,ci⟩⟩ ⟨by(try simp only[ll]);omega,by(try simp only[ll]);omega,by(try simp only[ll]);omega⟩ (by(try simp only[ll]);omega) (de hV bk) (by(try simp only[ll]);omega)) iS rfl rfl rfl rfl ?_
 rintro _ _ _ kz bK ⟨⟨j0,mS,kY,jv,bT,a9,b0,e7,lt,kM,kJ⟩,rfl,rfl,⟨⟨dt,d2⟩,dg,iu,⟨c2,ee,dG,cP,cj⟩⟩,⟨eq,iQ,i0,eA⟩,⟨mL,nw,m4,nM⟩,_,rfl,⟨kk,lj,rfl,ie,bB⟩⟩
 dsimp only at dt d2 dg iu c2 ee dG cP cj eq iQ i0 eA
 (try simp only[ll] at eq eA)
 replace bB:=a8.1 bB
 try dsimp only[cu,Wt.tok]
 refine rL 5 rfl ?_
 refine bZ mixed (fun k=>k==1||k==4||k==5) fun aq=> ?_
 refine bL [0,1,2,3,4] rfl (by kernel_rfl) id ?_
 have hz:=fun j u hu=>bK _ _ _ (cI j u hu)
 try dsimp only[cu,Wt.tok]
 refine vt 5 rfl (a3 (i:=2) b9 rfl rfl (by omega) cZ) rfl (by kernel_rfl) id (bL [6] rfl (by kernel_rfl) id (vt 7 rfl (cl rfl (nc (off:=4) (n:=2) hz rfl) rfl) rfl (by kernel_rfl) id (a7 [8] (by kernel_rfl) rfl ?_)))
 refine lx rfl (ts:=[]) (rs:=_) (lW (ts:=[]) dt d2 dg (by(try simp only[ll]);omega) (aP dy (aC a2 aQ bK)) (aP ie bB) eP b5) mc rfl rfl rfl rfl rfl ?_ bf
 rintro _ _ _ kA bN ⟨rfl,jk,fr,gy,gV,gg,fY,rfl,hO,iH,hI,lD⟩
 try dsimp only[cu,Wt.tok]
 refine bS (by kernel_rfl) (rD 9 rfl ?_)
 exact dN results16 (aK rfl rfl cD) (ts:=[⟨.slice bT a9.length b0,a9.length,e7,135,6⟩]) (.cons_cons _ .slnil) ⟨_,rfl,⟨fr,jk,gy,jv,bT,a9,b0,e7,gV,gg,fY⟩,rfl,rfl,⟨⟨hO,iH⟩,hI,by(try simp only[ll]);omega,⟨bg ho bN c2,eL ee bN,dG,cP,cj⟩⟩,⟨by(try simp only[ll]);omega,by(try simp only[ll]);omega,by(try simp only[ll]);omega,by(try simp only[ll]);omega⟩,_,_,rfl,(aP dy (aC a2 aQ (ai bK bN)))⟩
 have dS:=cb cB
 obtain rfl:q=5:=dS
 try dsimp only[cu,Wt.tok]
 refine rL 4 rfl ?_
 cases hn:(((a.length:Nat):Int)==2)
 try dsimp only[cu,Wt.tok]
 refine rL 63 rfl ?_
 refine ep (ts:=[]) (rs:=_) (h6 (ts:=[]) 2 p o) h7 rfl rfl rfl rfl ?_
 rintro _ _ _ fG l2 ⟨lO,rfl,⟨gS,gd,fU,rfl⟩,⟨mI,nt,m1,nJ⟩,_,rfl,⟨kh,lg,rfl,ib,bx⟩⟩
 subst fG
 replace bx:=a8.1 bx
 try dsimp only[cu,Wt.tok]
 refine rL 5 rfl ?_
 exact dN results16 (aK rfl rfl cD) (ts:=[⟨.slice g fs.length m,fs.length,d,135,6⟩]) (.cons_cons _ .slnil) ⟨_,rfl,⟨As,l,ek,made,g,fs,m,d,gS,gd,fU⟩,rfl,rfl,⟨⟨z,A⟩,y,by(try simp only[ll]);omega,⟨r,E,D,C,B⟩⟩,⟨by(try simp only[ll]);omega,by(try simp only[ll]);omega,by(try simp only[ll]);omega,by(try simp only[ll]);omega⟩,_,_,rfl,(aP ib bx)⟩
 have lT:=cb hn
 try dsimp only[cu,Wt.tok]
 refine rL 11 rfl ?_
 refine ep (rs:=[]) (Ns ag (f:=⟨hM,aB,hX,Am,ms,cq,Al,ls,dA⟩) (t:=⟨As,l,ek,made,g,fs,m,d,e,al,ac⟩) ⟨⟨Q,U⟩,⟨O,T⟩,N,S⟩ ⟨⟨z,A⟩,y,by(try simp only[ll]);omega,⟨r,E,D,C,B⟩⟩ ⟨by(try simp only[ll]);omega,by(try simp only[ll]);omega,by(try simp only[ll]);omega⟩ (by(try simp only[ll]);omega) (de aJ H) (by(try simp only[ll]);omega) (by show a.length=2;omega)) Nv rfl rfl rfl rfl ?_
 rintro _ _ _ kv _ ⟨⟨fo,jh,gu,js,bR,a4,bY,e5,gR,gc,fT⟩,rfl,rfl,⟨⟨dq,dZ⟩,dc,ir,⟨cY,eb,dD,cM,cg⟩⟩,⟨em,iN,iX,ex⟩,⟨mH,ns,m0,nI⟩,_,rfl,⟨kg,lf,rfl,ia,bw⟩⟩
 dsimp only at dq dZ dc ir cY eb dD cM cg em iN iX ex
 (try simp only[ll] at em ex)
 replace bw:=a8.1 bw
 try dsimp only[cu,Wt.tok]
 refine rL 5 rfl ?_
 exact dN results16 (aK rfl rfl cD) (ts:=[⟨.slice bR a4.length bY,a4.length,e5,135,6⟩]) (.cons_cons _ .slnil) ⟨_,rfl,⟨fo,jh,gu,js,bR,a4,bY,e5,gR,gc,fT⟩,rfl,rfl,⟨⟨dq,dZ⟩,dc,by(try simp only[ll]);omega,⟨cY,eb,dD,cM,cg⟩⟩,⟨by(try simp only[ll]);omega,by(try simp only[ll]);omega,by(try simp only[ll]);omega,by(try simp only[ll]);omega⟩,_,_,rfl,(aP ia bw)⟩
 have dO:=cb cx
 obtain rfl:q=4:=dO
 try dsimp only[cu,Wt.tok]
 refine rL 6 rfl ?_
 cases hm:(decide (((a.length:Nat):Int)≥2))
 try dsimp only[cu,Wt.tok]
 refine rV 74 rfl ?_
 refine ep (ts:=[]) (rs:=_) (h6 (ts:=[]) 2 p o) h7 rfl rfl rfl rfl ?_
 rintro _ _ _ fE l1 ⟨lN,rfl,⟨gQ,gb,fS,rfl⟩,⟨mG,nr,mZ,nH⟩,_,rfl,⟨kf,le,rfl,h9,bv⟩⟩
 subst fE
 replace bv:=a8.1 bv
 try dsimp only[cu,Wt.tok]
 refine rL 5 rfl ?_
 exact dN results16 (aK rfl rfl cD) (ts:=[⟨.slice g fs.length m,fs.length,d,135,6⟩]) (.cons_cons _ .slnil) ⟨_,rfl,⟨As,l,ek,made,g,fs,m,d,gQ,gb,fS⟩,rfl,rfl,⟨⟨z,A⟩,y,by(try simp only[ll]);omega,⟨r,E,D,C,B⟩⟩,⟨by(try simp only[ll]);omega,by(try simp only[ll]);omega,by(try simp only[ll]);omega,by(try simp only[ll]);omega⟩,_,_,rfl,(aP h9 bv)⟩
 have lS:=of_decide_eq_true hm
 try dsimp only[cu,Wt.tok]
 refine rV 6 rfl ?_
 obtain⟨kO,na,_,g9,⟨aD,aG,aF,aH,aE,az⟩,cr,⟨j2,k0,rfl,hQ,be⟩,hv⟩:=cn bM H 0 (by omega)
 replace be:=c9.1 be
 try dsimp only[cu,Wt.tok]
 refine vp (a3 (i:=0) g9 rfl rfl (by omega) cZ) rfl (vp (cl rfl hv rfl) rfl (rL 1 rfl ?_))
 have me:aO (a.take 1)=aO (a.take 0)+(.mk aD aG aF aH aE az:Ex).size:=by have b:=gL (ys:=a) (j:=0) (by omega);rw[←cr] at b;exact b
 have mn:aO (a.take 1)≤aO a:=eJ _ _
 have bO:(.mk aD aG aF aH aE az:Ex).size+aO (a.drop 1)=aO a:=by have b:=qi (ys:=a) (by omega);rw[←cr] at b;exact b
 try dsimp only[cu,Wt.tok]
 refine ep (rs:=[]) (ag (f:=⟨hM,aB,hX,Am,ms,cq,Al,ls,dA⟩) (t:=⟨As,l,ek,made,g,fs,m,d,e,al,ac⟩) ⟨⟨Q,U⟩,⟨O,T⟩,N,S⟩ ⟨⟨z,A⟩,y,by(try simp only[ll]);omega,⟨r,E,D,C,B⟩⟩ ⟨by(try simp only[ll]);omega,by(try simp only[ll]);omega,by(try simp only[ll]);omega⟩ (by(try simp only[ll]);omega) (de hQ be) (by(try simp only[ll]);omega)) iS rfl rfl rfl rfl ?_
 rintro _ _ _ bW aR ⟨⟨fm,jf,gs,jq,ff,g3,gm,jM,gN,f8,fO⟩,rfl,rfl,⟨⟨dm,dX⟩,da,ip,⟨cV,d9,dB,cK,ce⟩⟩,⟨ej,iL,iV,eu⟩,⟨jc,jK,jE,jV⟩,_,rfl,⟨fw,gC,rfl,h4,bs⟩⟩
 dsimp only at dm dX da ip cV d9 dB cK ce ej iL iV eu
 (try simp only[ll] at ej eu)
 replace bs:=a8.1 bs
 try dsimp only[cu,Wt.tok]
 refine rL 9 rfl ?_
 obtain⟨jX,kV,i3,hJ,iz⟩:=a6.drop (i:=1) bM aJ (aC bM H aR) (by omega)
 try dsimp only[cu,Wt.tok]
 refine vp (od (i:=1) rfl rfl (by omega) cZ i3) rfl (rL 5 rfl ?_)
 have mw:aO ((a.drop 1).take 0)=0:=by rw[List.take_zero];exact kD
 have lw:=fR hJ
 try dsimp only[cu,Wt.tok]
 refine lK (ι:=Wd×Nat×Int×BA×Int×List Ty×OA×Nat×List Bi×OA×Nat×Int×Int×Int×Int×List Fr×LV×OA×Nat) [0,2,6,9,99,100] 0 rfl (fun(aj,F,eH,e1,eU,aY,aI,aZ,am,ar,ay,ax,aV,aW,aX,M,ap,ah,aa)=>(⟨[(101,.val (zI (F:Nat)))],[(73,[.slice ar am.length ay,zI ax,.slice hM aB.length hX,.slice Am ms.length cq,.slice Al ls.length dA,.slice ah M.length aa,zI aV,zI aW,zI aX]),(31,[zI 4,.string an,zI ne,.slice fv a.length gB,zI p,zI o]),(36,[zI 0,.string ⟨#[]⟩,zI 0,zS]),(36,[zI eH,.string e1,zI eU,.slice aI aY.length aZ])],[⟨.slice ah M.length aa,M.length,ap,135,6⟩]⟩,aj,Sub bW aj∧(cF aI aY.length aZ∧a5 Ty.Cs 4 aj aI aY)∧(cF ar am.length ay∧a5 Bi.Cs 5 aj ar am)∧(aL Fr.Cs aj M ap∧Src aj 6 ah M.length ap∧M.length≤aa∧aa≤9223372036854775807∧(ah=none→aa=0))∧F≤(a.drop 1).length∧True∧(Good am∧made≤ax∧am.length+1000≤l.length+1000*((.mk aD aG aF aH aE az:Ex).size+aO ((a.drop 1).take F))∧ax≤made+500000000*(((.mk aD aG aF aH aE az:Ex).size+aO ((a.drop 1).take F):Nat):Int)+(F:Int)∧M.length≤fs.length+((.mk aD aG aF aH aE az:Ex).size+aO ((a.drop 1).take F))),(a.drop 1).length -F)) (bW,0,jc,jK,jE,jV,fw,gC,jf,fm,gs,jq,gN,f8,fO,g3,jM,ff,gm) rfl rfl [1] rfl ?_ ?_
 try dsimp only
 exact⟨sR,⟨h4,bs⟩,⟨dm,dX⟩,⟨cV,d9,dB,cK,ce⟩,Nat.zero_le _,trivial,(⟨da,by(try simp only[ll]);omega,by(try simp only[ll]);omega,by(try simp only[ll]);omega,by(try simp only[ll]);omega⟩)⟩
 rintro⟨aj,F,eH,e1,eU,aY,aI,aZ,am,ar,ay,ax,aV,aW,aX,M,ap,ah,aa⟩ ⟨aA,⟨dw,d5⟩,⟨dk,dV⟩,⟨c7,d7,dJ,cT,co⟩,lA,_,i7⟩
 obtain⟨dj,l7,l8,l9,ma⟩:=i7
 have mx:aO ((a.drop 1).take F)≤aO (a.drop 1):=eJ _ _
 show V _ _ _ ⟨_,_,_⟩ aj
 refine rV 6 rfl ?_
 cases cz:(decide (((F:Nat):Int)<(((a.drop 1).length:Nat):Int)))
 have lz:=cS cz
 try dsimp only[cu,Wt.tok]
 refine rV 14 rfl ?_
 exact dN results16 (aK rfl rfl cD) (ts:=[⟨.slice ah M.length aa,M.length,ap,135,6⟩]) (.cons_cons _ .slnil) ⟨_,rfl,⟨ar,am,ay,ax,ah,M,aa,ap,aV,aW,aX⟩,rfl,rfl,⟨⟨dk,dV⟩,dj,by(try simp only[ll]);omega,⟨c7,d7,dJ,cT,co⟩⟩,⟨by(try simp only[ll]);omega,by(try simp only[ll]);omega,by(try simp only[ll]);omega,by(try simp only[ll]);omega⟩,_,_,rfl,(aP dw d5)⟩
 have bb:=cX cz
 refine rV 7 rfl ?_
 obtain⟨kP,nb,_,ha,⟨i8,jG,jA,jR,eO,b4⟩,he,⟨j3,k2,rfl,hS,bh⟩,hw⟩:=cn bM (aC bM iz aA) F bb
 replace bh:=c9.1 bh
 try dsimp only[cu,Wt.tok]
 refine vp (a3 ha rfl rfl bb cZ) rfl (vp (cl rfl hw rfl) rfl (rL 9 rfl ?_))
 have mf:aO ((a.drop 1).take (F+1))=aO ((a.drop 1).take F)+(.mk i8 jG jA jR eO b4:Ex).size:=by have b:=gL bb;rw[←he] at b;exact b
 have mo:aO ((a.drop 1).take (F+1))≤aO (a.drop 1):=eJ _ _
 try dsimp only[cu,Wt.tok]
 refine ep (rs:=[]) (ag (f:=⟨hM,aB,hX,Am,ms,cq,Al,ls,dA⟩) (t:=⟨ar,am,ay,ax,ah,M,aa,ap,aV,aW,aX⟩) ⟨⟨Q,(aC eE U (ai aR aA))⟩,⟨O,(aC eE T (ai aR aA))⟩,N,(aC gv S (ai aR aA))⟩ ⟨⟨dk,dV⟩,dj,by(try simp only[ll]);omega,⟨c7,d7,dJ,cT,co⟩⟩ ⟨by(try simp only[ll]);omega,by(try simp only[ll]);omega,by(try simp only[ll]);omega⟩ (by(try simp only[ll]);omega) (de hS bh) (by(try simp only[ll]);omega)) iS rfl rfl rfl rfl ?_
 rintro _ _ _ ks d6 ⟨⟨jY,mQ,kW,jr,fg,g4,gn,jN,lq,kK,kG⟩,rfl,rfl,⟨⟨dn,dY⟩,db,iq,⟨cW,ea,dC,cL,cf⟩⟩,⟨el,iM,iW,ev⟩,⟨eI,e2,eV,fc⟩,_,rfl,⟨fx,gD,rfl,h5,bt⟩⟩
 dsimp only at dn dY db iq cW ea dC cL cf el iM iW ev
 (try simp only[ll] at el ev)
 replace bt:=a8.1 bt
 try dsimp only[cu,Wt.tok]
 refine rL 7 rfl ?_
 refine ep (ts:=[]) (rs:=_) (nl (ts:=[]) (by omega) (by omega)) nn rfl rfl rfl rfl ?_
 rintro _ _ _ fC l0 ⟨lL,rfl,rfl,⟨jd,jL,jF,jW⟩,_,rfl,⟨fy,gE,rfl,dx,aN⟩,_⟩
 subst fC
 replace aN:=a8.1 aN
 try dsimp only[cu,Wt.tok]
 refine rL 5 rfl ?_
 refine bZ mixed (fun k=>k==3||k==4||k==5||k==6) fun aq=> ?_
 refine bL [0,1,2,4,6,7] rfl (by kernel_rfl) id (a7 [3] (by kernel_rfl) rfl ?_)
 refine eW e6 rfl ?_ bf
 intro lu kt ak hE
 try dsimp only[cu,Wt.tok]
 refine a7 [5] (by kernel_rfl) rfl ?_
 have i5:=dp (l:=[(.mk eI e2 eV fc:Ty)]) (pt (by simp)) (a5.new (xs:=[zI eI,.string e2,zI eV,.slice fx fc.length gD]) a2 ((aL.single (aP h5 (a5.sub a2 bt ak)))) hE)
 obtain⟨_,_,i4,hK,iA⟩:=i5;cases i4
 try dsimp only[cu,Wt.tok]
 refine dK rfl (tw (dp hK iA) (aP dx (aC a2 aN ak))) q9 rfl rfl ?_ bf
 rintro _ ku aw ⟨⟨mz,nj,mT,nB⟩,_,rfl,⟨j9,k8,rfl,hZ,bn⟩⟩
 replace bn:=a8.1 bn
 try dsimp only[cu,Wt.tok]
 refine a7 [8] (by kernel_rfl) rfl ?_
 refine lx rfl (ts:=[]) (rs:=_) (lW (ts:=[]) dn (aC eM dY (ai ak aw)) db (by(try simp only[ll]);omega) (aP dw (aC a2 d5 (ai (ai d6 ak) aw))) (aP hZ bn) eO b4) mc rfl rfl rfl rfl rfl ?_ bf
 rintro _ _ _ fD aS ⟨rfl,jg,fn,gt,gO,f9,fP,rfl,hL,iF,hG,lB⟩
 try dsimp only[cu,Wt.tok]
 refine bS (by kernel_rfl) (rD 8 rfl (vp (bA rfl rfl (by omega)) rfl (rL 2 rfl ?_)))
 refine dR (fD,F+1,jd,jL,jF,jW,fy,gE,jg,fn,gt,(jr+1),gO,f9,fP,g4,jN,fg,gn) rfl rfl [0,1] rfl ?_ ?_
 try dsimp only
 exact⟨aA.trans (ai (ai (ai d6 ak) aw) aS),⟨dx,(aC a2 aN (ai (ai ak aw) aS))⟩,⟨hL,iF⟩,⟨bg ho (ai (ai ak aw) aS) cW,eL ea (ai (ai ak aw) aS),dC,cL,cf⟩,by omega,trivial,⟨hG,by(try simp only[ll]);omega,by(try simp only[ll]);omega,by(try simp only[ll]);omega,by(try simp only[ll]);omega⟩⟩
 (try dsimp only);omega
 have dM:=cb cw
 obtain rfl:q=2:=dM
 try dsimp only[cu,Wt.tok]
 refine rV 5 rfl ?_
 refine ep (ts:=[]) (rs:=_) (AB (by omega) (by omega) O T (de aJ H)) Dy rfl rfl rfl rfl ?_
 rintro _ _ _ kr bI ⟨rfl,jy,gJ,f5,fL,rfl,lE,lG,⟨mB,nm,mV,nD⟩,_,rfl,⟨kb,la,rfl,h1,bp⟩⟩
 replace bp:=a8.1 bp
 try dsimp only[cu,Wt.tok]
 refine rL 5 rfl ?_
 exact dN results16 (aK rfl rfl cD) (ts:=[⟨.slice g fs.length m,fs.length,d,135,6⟩]) (.cons_cons _ .slnil) ⟨_,rfl,⟨As,l,ek,jy,g,fs,m,d,gJ,f5,fL⟩,rfl,rfl,⟨⟨z,(aC eM A bI)⟩,y,by(try simp only[ll]);omega,⟨bg ho bI r,eL E bI,D,C,B⟩⟩,⟨by(try simp only[ll]);omega,by(try simp only[ll]);omega,by(try simp only[ll]);omega,by(try simp only[ll]);omega⟩,_,_,rfl,(aP h1 bp)⟩
 have dL:=cb cv
 exact absurd dL bc
 have bc:=cb cE
 obtain rfl:q=1:=bc
 try dsimp only[cu,Wt.tok]
 refine rL 19 rfl ?_
 refine ep (ts:=[]) (rs:=_) (Hl N S (by omega) (by omega) Q U (de aJ H)) Nu rfl rfl rfl rfl ?_
 rintro _ _ _ kE bH ⟨rfl,jz,gX,gi,f0,rfl,lF,lH,⟨mN,ny,m6,nO⟩,_,rfl,⟨km,lm,rfl,ih,bD⟩⟩
 replace bD:=a8.1 bD
 try dsimp only[cu,Wt.tok]
 refine rL 5 rfl ?_
 exact dN results16 (aK rfl rfl cD) (ts:=[⟨.slice g fs.length m,fs.length,d,135,6⟩]) (.cons_cons _ .slnil) ⟨_,rfl,⟨As,l,ek,jz,g,fs,m,d,gX,gi,f0⟩,rfl,rfl,⟨⟨z,(aC eM A bH)⟩,y,by(try simp only[ll]);omega,⟨bg ho bH r,eL E bH,D,C,B⟩⟩,⟨by(try simp only[ll]);omega,by(try simp only[ll]);omega,by(try simp only[ll]);omega,by(try simp only[ll]);omega⟩,_,_,rfl,(aP ih bD)⟩
 have dQ:=cb cA
 obtain rfl:q=9:=dQ
 try dsimp only[cu,Wt.tok]
 refine rL 122 rfl ?_
 refine ep (ts:=[]) (rs:=_) (h6 (ts:=[]) 2 p o) h7 rfl rfl rfl rfl ?_
 rintro _ _ _ fF l3 ⟨lM,rfl,⟨gP,ga,fQ,rfl⟩,⟨mF,nq,mY,nG⟩,_,rfl,⟨ke,ld,rfl,h8,bu⟩⟩
 subst fF
 replace bu:=a8.1 bu
 try dsimp only[cu,Wt.tok]
 refine rL 5 rfl ?_
 exact dN results16 (aK rfl rfl cD) (ts:=[⟨.slice g fs.length m,fs.length,d,135,6⟩]) (.cons_cons _ .slnil) ⟨_,rfl,⟨As,l,ek,made,g,fs,m,d,gP,ga,fQ⟩,rfl,rfl,⟨⟨z,A⟩,y,by(try simp only[ll]);omega,⟨r,E,D,C,B⟩⟩,⟨by(try simp only[ll]);omega,by(try simp only[ll]);omega,by(try simp only[ll]);omega,by(try simp only[ll]);omega⟩,_,_,rfl,(aP h8 bu)⟩
 have dP:=cb cy
 obtain rfl:q=3:=dP
 try dsimp only[cu,Wt.tok]
 refine rV 3 rfl (vp (bJ (vs:=[(0,zI 2),(1,.string ⟨#[73,110,116]⟩)]) (v:= .agg #[zI 2,.string ⟨#[73,110,116]⟩,zI 0,zS]) rfl (fun W=>by kernel_rfl)) rfl (rL 5 rfl ?_))
 exact dN results16 (aK rfl rfl cD) (ts:=[⟨.slice g fs.length m,fs.length,d,135,6⟩]) (.cons_cons _ .slnil) ⟨_,rfl,⟨As,l,ek,made,g,fs,m,d,e,al,ac⟩,rfl,rfl,⟨⟨z,A⟩,y,by(try simp only[ll]);omega,⟨r,E,D,C,B⟩⟩,⟨by(try simp only[ll]);omega,by(try simp only[ll]);omega,by(try simp only[ll]);omega,by(try simp only[ll]);omega⟩,_,_,rfl,(aP eg (ew (P:=Ty.Cs) (size:=4) _))⟩
 try dsimp only[cu,Wt.tok]
 refine rV 3 rfl (vp (bJ (vs:=[]) (v:= .agg #[zI 0,.string ⟨#[]⟩,zI 0,zS]) rfl (fun W=>by kernel_rfl)) rfl (rL 5 rfl ?_))
 exact dN results16 (aK rfl rfl cD) (ts:=[⟨.slice g fs.length m,fs.length,d,135,6⟩]) (.cons_cons _ .slnil) ⟨_,rfl,⟨As,l,ek,made,g,fs,m,d,e,al,ac⟩,rfl,rfl,⟨⟨z,A⟩,y,by(try simp only[ll]);omega,⟨r,E,D,C,B⟩⟩,⟨by(try simp only[ll]);omega,by(try simp only[ll]);omega,by(try simp only[ll]);omega,by(try simp only[ll]);omega⟩,_,_,rfl,(aP eg (ew (P:=Ty.Cs) (size:=4) _))⟩
 any_goals
  refine uw 1 ?_
  intro fe gH fz ao hi hj hk hl
  have il:aL Fr.Cs fz (fs++ [(⟨(⟨p,o⟩:Po),(.mk I K J L:Ty)⟩:Fr)]) (d++ [zI p,zI o,zI I,.string K,zI J,.slice Z L.length ab]):=bg ho ao (c6 (bg ho X r) (c4 (wi (hR (l:=p) (c:=o)) (aP aM (aC a2 au X)))))
  try dsimp only[cu,Wt.tok]
  refine bL [11,12,1013] rfl (by kernel_rfl) id (bS (by kernel_rfl) (rD 2 rfl ?_))
  refine bZ mixed (fun k=>k==1||k==3) fun aq=> ?_
  refine bL [0,1,2,3] rfl (by kernel_rfl) id (vt 4 rfl (bJ (vs:=[(0,.string an),(1,.agg #[zI I,.string K,zI J,.slice Z L.length ab])]) (v:= .agg #[.string an,zI I,.string K,zI J,.slice Z L.length ab]) rfl (fun W=>by kernel_rfl)) rfl (by kernel_rfl) id (bL [5,6] rfl (by kernel_rfl) id ?_))
  obtain⟨kN,m9,_,g8,⟨eD,eY,eR,e9,eN,b3⟩,cp,⟨j1,kZ,rfl,hP,bd⟩,ht⟩:=cn bM (aC bM H (ai X ao)) 0 (by omega)
  replace bd:=c9.1 bd
  try dsimp only[cu,Wt.tok]
  refine vt 7 rfl (a3 (i:=0) g8 rfl rfl (by omega) cZ) rfl (by kernel_rfl) id (vt 8 rfl (cl rfl ht rfl) rfl (by kernel_rfl) id (a7 [9] (by kernel_rfl) rfl ?_))
  have md:aO (a.take 1)=aO (a.take 0)+(.mk eD eY eR e9 eN b3:Ex).size:=by have b:=gL (ys:=a) (j:=0) (by omega);rw[←cp] at b;exact b
  have mm:aO (a.take 1)≤aO a:=eJ _ _
  have bO:(.mk eD eY eR e9 eN b3:Ex).size+aO (a.drop 1)=aO a:=by have b:=qi (ys:=a) (by omega);rw[←cp] at b;exact b
  try dsimp only[cu,Wt.tok]
  refine lx rfl (rs:=[⟨.slice (some ⟨b7,0,none⟩) 1 1,1,[zI p,zI o,zI I,.string K,zI J,.slice Z L.length ab],135,6⟩]) (Dw ag (f:=⟨hM,aB,hX,Am,ms,cq,Al,ls,dA⟩) (t:=⟨As,l,ek,(made+1),fe,(fs++ [(⟨(⟨p,o⟩:Po),(.mk I K J L:Ty)⟩:Fr)]),gH,(d++ [zI p,zI o,zI I,.string K,zI J,.slice Z L.length ab]),e,al,ac⟩) ⟨⟨Q,(aC eE U (ai X ao))⟩,⟨O,(aC eE T (ai X ao))⟩,N,(aC gv S (ai X ao))⟩ ⟨⟨z,(aC eM A (ai X ao))⟩,y,by(try simp only[ll]);omega,⟨il,hl,hi,hj,hk⟩⟩ ⟨by(try simp only[ll]);omega,by(try simp only[ll]);omega,by(try simp only[ll]);omega⟩ (by(try simp only[ll]);omega) (mD (s:=an) (aP aM (aC a2 au (ai X ao)))) (de hP bd) (by(try simp only[ll]);omega)) Dz rfl rfl rfl rfl rfl ?_ bf
  rintro _ _ _ kp _ ⟨⟨fl,je,gr,jp,bQ,a1,bX,e4,gI,f4,fK⟩,rfl,rfl,⟨⟨dl,dW⟩,c8,io,⟨cU,d8,dz,cJ,ca⟩⟩,⟨ei,iK,iU,et⟩,⟨mA,nk,mU,nC⟩,_,rfl,⟨ka,k9,rfl,h0,bo⟩⟩
  dsimp only at dl dW c8 io cU d8 dz cJ ca ei iK iU et
  (try simp only[ll] at ei et)
  replace bo:=a8.1 bo
  try dsimp only[cu,Wt.tok]
  refine bL [1010] rfl (by kernel_rfl) id (bS (by kernel_rfl) (rD 3 rfl ?_))
  exact dN results16 (aK rfl rfl cD) (ts:=[⟨.slice bQ a1.length bX,a1.length,e4,135,6⟩]) (.cons_cons _ (.cons _ .slnil)) ⟨_,rfl,⟨fl,je,gr,jp,bQ,a1,bX,e4,gI,f4,fK⟩,rfl,rfl,⟨⟨dl,dW⟩,c8,by(try simp only[ll]);omega,⟨cU,d8,dz,cJ,ca⟩⟩,⟨by(try simp only[ll]);omega,by(try simp only[ll]);omega,by(try simp only[ll]);omega,by(try simp only[ll]);omega⟩,_,_,rfl,(aP h0 bo)⟩
theorem ym:∀n,oP n
 |0=>fun _ _ _ _ _ h=>absurd (Nat.le_zero.1 h) (ng _)
 |n+1=>Nw (ym n)
theorem Nx(ca:uI ae):uI (ae+1):=by
 intro R c2 c5 Am ms cq t fz x aB aF el ec eu fE
 obtain⟨As,l,ek,made,c,ls,d,b,e,al,ac⟩:=t
 obtain⟨⟨p,q⟩,o,d8,⟨n,F,E,D,C⟩⟩:=el
 obtain⟨ef,eh,ei⟩:=ec
 dsimp only at p q o d8 n F E D C ef eh ei
 obtain⟨f,g,ne,a,N,K⟩:=x
 obtain⟨ct,df,rfl,bE,ag⟩:=eu
 have go:(.mk f g ne a N K:Ex).size=aO a+1:=fh _ _ _ _ _ _
 have gf:aO (a.take 0)=0:=by rw[List.take_zero];exact kD
 have gk:a.length≤aO a:=k1 _
 replace ag:=c9.1 ag
 try dsimp only[dQ,Wp.tok]
 refine kI func16 rfl ntmps16 rfl rfl fun w G ad=> ?_
 refine sV 16 rfl ?_
 cases fG:(e !=0)
 try dsimp only[dQ,Wp.tok]
 refine rV 20 rfl ?_
 cases be:(f==3)
 have bN:=cc be
 try dsimp only[dQ,Wp.tok]
 refine rV 7 rfl ?_
 cases bh:(f==9)
 have bO:=cc bh
 try dsimp only[dQ,Wp.tok]
 refine rL 12 rfl ?_
 cases bm:(f==1)
 have aE:=cc bm
 try dsimp only[dQ,Wp.tok]
 refine rL 14 rfl ?_
 cases bi:(f==1)
 have bP:=cc bi
 try dsimp only[dQ,Wp.tok]
 refine rV 9 rfl ?_
 cases bj:(f==2)
 have bQ:=cc bj
 try dsimp only[dQ,Wp.tok]
 refine rV 7 rfl ?_
 cases bk:(f==4)
 have bR:=cc bk
 try dsimp only[dQ,Wp.tok]
 refine rL 13 rfl ?_
 cases bn:(f==5)
 have bT:=cc bn
 try dsimp only[dQ,Wp.tok]
 refine rL 17 rfl ?_
 cases bo:(f==6)
 have bU:=cc bo
 try dsimp only[dQ,Wp.tok]
 refine rL 17 rfl ?_
 cases bp:(f==7)
 have bV:=cc bp
 try dsimp only[dQ,Wp.tok]
 refine rL 17 rfl ?_
 cases dF:(f==8)
 try dsimp only[dQ,Wp.tok]
 refine rL 16 rfl ?_
 refine ep (ts:=[]) (rs:=_) (h6 (ts:=[]) 2 N K) h7 rfl rfl rfl rfl ?_
 rintro _ _ _ cx f3 ⟨fM,rfl,⟨dj,cU,cK,rfl⟩,⟨gq,gN,gB,gW⟩,_,rfl,⟨e2,fr,rfl,dX,aJ⟩⟩
 subst cx
 replace aJ:=a8.1 aJ
 try dsimp only[dQ,Wp.tok]
 refine rL 5 rfl ?_
 exact dN results16 (aK rfl rfl cD) (ts:=[⟨.slice c ls.length d,ls.length,b,129,5⟩]) (.cons_cons _ .slnil) ⟨_,rfl,⟨As,l,ek,made,c,ls,d,b,dj,cU,cK⟩,rfl,rfl,⟨⟨p,q⟩,o,by(try simp only[ll]);omega,⟨n,F,E,D,C⟩⟩,⟨by(try simp only[ll]);omega,by(try simp only[ll]);omega,by(try simp only[ll]);omega,by(try simp only[ll]);omega⟩,_,_,rfl,(aP dX aJ)⟩
 have eb:=cb dF
 obtain rfl:f=8:=eb
 try dsimp only[dQ,Wp.tok]
 refine rL 4 rfl ?_
 cases dG:(((a.length:Nat):Int)==1)
 refine ww 2 ?_
 rotate_left
 have f1:=cb dG
 refine ww 2 ?_
 rotate_left
 have bV:=cb bp
 obtain rfl:f=7:=bV
 try dsimp only[dQ,Wp.tok]
 refine rL 4 rfl ?_
 cases dE:(((a.length:Nat):Int)==2)
 refine ww 3 ?_
 rotate_left
 have f0:=cb dE
 refine ww 3 ?_
 rotate_left
 have bU:=cb bo
 obtain rfl:f=6:=bU
 try dsimp only[dQ,Wp.tok]
 refine rL 4 rfl ?_
 cases dD:(((a.length:Nat):Int)==3)
 refine ww 4 ?_
 rotate_left
 have fZ:=cb dD
 refine ww 4 ?_
 rotate_left
 have bT:=cb bn
 obtain rfl:f=5:=bT
 try dsimp only[dQ,Wp.tok]
 refine rL 4 rfl ?_
 cases dC:(((a.length:Nat):Int)==2)
 refine ww 5 ?_
 rotate_left
 have fY:=cb dC
 refine ww 5 ?_
 rotate_left
 have bR:=cb bk
 obtain rfl:f=4:=bR
 try dsimp only[dQ,Wp.tok]
 refine rL 6 rfl ?_
 cases dB:(decide (((a.length:Nat):Int)≥2))
 try dsimp only[dQ,Wp.tok]
 refine rV 74 rfl ?_
 refine ep (ts:=[]) (rs:=_) (h6 (ts:=[]) 2 N K) h7 rfl rfl rfl rfl ?_
 rintro _ _ _ cC f6 ⟨fP,rfl,⟨dn,c0,cO,rfl⟩,⟨gt,gQ,gE,gZ⟩,_,rfl,⟨e5,fu,rfl,d2,aS⟩⟩
 subst cC
 replace aS:=a8.1 aS
 try dsimp only[dQ,Wp.tok]
 refine rL 5 rfl ?_
 exact dN results16 (aK rfl rfl cD) (ts:=[⟨.slice c ls.length d,ls.length,b,129,5⟩]) (.cons_cons _ .slnil) ⟨_,rfl,⟨As,l,ek,made,c,ls,d,b,dn,c0,cO⟩,rfl,rfl,⟨⟨p,q⟩,o,by(try simp only[ll]);omega,⟨n,F,E,D,C⟩⟩,⟨by(try simp only[ll]);omega,by(try simp only[ll]);omega,by(try simp only[ll]);omega,by(try simp only[ll]);omega⟩,_,_,rfl,(aP d2 aS)⟩
 have fX:=of_decide_eq_true dB
 try dsimp only[dQ,Wp.tok]
 refine rV 6 rfl ?_
 obtain⟨fk,gJ,_,du,⟨ah,am,ak,an,aj,af⟩,bd,⟨eZ,fo,rfl,dU,aG⟩,dH⟩:=cn bM ag 0 (by omega)
 replace aG:=c9.1 aG
 try dsimp only[dQ,Wp.tok]
 refine vp (a3 (i:=0) du rfl rfl (by omega) cZ) rfl (vp (cl rfl dH rfl) rfl (rL 1 rfl ?_))
 have gg:aO (a.take 1)=aO (a.take 0)+(.mk ah am ak an aj af:Ex).size:=by have L:=gL (ys:=a) (j:=0) (by omega);rw[←bd] at L;exact L
 have gi:aO (a.take 1)≤aO a:=eJ _ _
 have gl:(.mk ah am ak an aj af:Ex).size+aO (a.drop 1)=aO a:=by have L:=qi (ys:=a) (by omega);rw[←bd] at L;exact L
 try dsimp only[dQ,Wp.tok]
 refine ep (rs:=[]) (ca (c2:=c2) (c5:=c5) (Am:=Am) (ms:=ms) (cq:=cq) (t:=⟨As,l,ek,made,c,ls,d,b,e,al,ac⟩) aB aF ⟨⟨p,q⟩,o,by(try simp only[ll]);omega,⟨n,F,E,D,C⟩⟩ ⟨by(try simp only[ll]);omega,by(try simp only[ll]);omega,by(try simp only[ll]);omega⟩ (de dU aG) (by(try simp only[ll]);omega)) iS rfl rfl rfl rfl ?_
 rintro _ _ _ a1 b1 ⟨⟨cr,eA,dc,eF,co,eC,da,eR,dl,cW,cM⟩,rfl,rfl,⟨⟨bC,bX⟩,bw,d9,⟨bt,b4,bH,bq,ba⟩⟩,⟨b6,em,eo,b8⟩,⟨ey,eP,eK,eU⟩,_,rfl,⟨cu,dg,rfl,d0,aQ⟩⟩
 dsimp only at bC bX bw d9 bt b4 bH bq ba b6 em eo b8
 (try simp only[ll] at b6 b8)
 replace aQ:=a8.1 aQ
 try dsimp only[dQ,Wp.tok]
 refine rL 9 rfl ?_
 obtain⟨eX,fm,er,dP,ed⟩:=a6.drop (i:=1) bM bE (aC bM ag b1) (by omega)
 try dsimp only[dQ,Wp.tok]
 refine vp (od (i:=1) rfl rfl (by omega) cZ er) rfl (rL 5 rfl ?_)
 have gm:aO ((a.drop 1).take 0)=0:=by rw[List.take_zero];exact kD
 have fF:=fR dP
 try dsimp only[dQ,Wp.tok]
 refine lK (ι:=Wd×Nat×Int×BA×Int×List Ty×OA×Nat×List Bi×OA×Nat×Int×Int×Int×Int×List Lo×LV×OA×Nat) [0,2,6,9,99,100] 0 rfl (fun(J,m,ce,cj,ch,az,ao,aA,O,X,ab,aa,aw,ax,ay,B,U,I,H)=>(⟨[(101,.val (zI (m:Nat)))],[(73,[.slice X O.length ab,zI aa,c2,.slice Am ms.length cq,.slice I B.length H,c5,zI aw,zI ax,zI ay]),(31,[zI 4,.string g,zI ne,.slice ct a.length df,zI N,zI K]),(36,[zI 0,.string ⟨#[]⟩,zI 0,zS]),(36,[zI ce,.string cj,zI ch,.slice ao az.length aA])],[⟨.slice I B.length H,B.length,U,129,5⟩]⟩,J,Sub a1 J∧(cF ao az.length aA∧a5 Ty.Cs 4 J ao az)∧(cF X O.length ab∧a5 Bi.Cs 5 J X O)∧(aL Lo.Cs J B U∧Src J 5 I B.length U∧B.length≤H∧H≤9223372036854775807∧(I=none→H=0))∧m≤(a.drop 1).length∧True∧(Good O∧made≤aa∧O.length+1000≤l.length+1000*((.mk ah am ak an aj af:Ex).size+aO ((a.drop 1).take m))∧aa≤made+500000000*(((.mk ah am ak an aj af:Ex).size+aO ((a.drop 1).take m):Nat):Int)+(m:Int)∧B.length≤ls.length+((.mk ah am ak an aj af:Ex).size+aO ((a.drop 1).take m))),(a.drop 1).length -m)) (a1,0,ey,eP,eK,eU,cu,dg,eA,cr,dc,eF,dl,cW,cM,eC,eR,co,da) rfl rfl [1] rfl ?_ ?_
 try dsimp only
 exact⟨sR,⟨d0,aQ⟩,⟨bC,bX⟩,⟨bt,b4,bH,bq,ba⟩,Nat.zero_le _,trivial,(⟨bw,by(try simp only[ll]);omega,by(try simp only[ll]);omega,by(try simp only[ll]);omega,by(try simp only[ll]);omega⟩)⟩
 rintro⟨J,m,ce,cj,ch,az,ao,aA,O,X,ab,aa,aw,ax,ay,B,U,I,H⟩ ⟨aZ,⟨bF,b0⟩,⟨bB,bW⟩,⟨bv,b3,bK,bs,bc⟩,fI,_,ev⟩
 obtain⟨bz,gb,gc,gd,ge⟩:=ev
 have gn:aO ((a.drop 1).take m)≤aO (a.drop 1):=eJ _ _
 show V _ _ _ ⟨_,_,_⟩ J
 refine rV 6 rfl ?_
 cases bl:(decide (((m:Nat):Int)<(((a.drop 1).length:Nat):Int)))
 have fH:=cS bl
 try dsimp only[dQ,Wp.tok]
 refine rV 14 rfl ?_
 exact dN results16 (aK rfl rfl cD) (ts:=[⟨.slice I B.length H,B.length,U,129,5⟩]) (.cons_cons _ .slnil) ⟨_,rfl,⟨X,O,ab,aa,I,B,H,U,aw,ax,ay⟩,rfl,rfl,⟨⟨bB,bW⟩,bz,by(try simp only[ll]);omega,⟨bv,b3,bK,bs,bc⟩⟩,⟨by(try simp only[ll]);omega,by(try simp only[ll]);omega,by(try simp only[ll]);omega,by(try simp only[ll]);omega⟩,_,_,rfl,(aP bF b0)⟩
 have aD:=cX bl
 refine rV 7 rfl ?_
 obtain⟨fl,gK,_,dv,⟨ex,eO,eI,eT,cg,a4⟩,dw,⟨e0,fp,rfl,dV,aH⟩,dI⟩:=cn bM (aC bM ed aZ) m aD
 replace aH:=c9.1 aH
 try dsimp only[dQ,Wp.tok]
 refine vp (a3 dv rfl rfl aD cZ) rfl (vp (cl rfl dI rfl) rfl (rL 9 rfl ?_))
 have gh:aO ((a.drop 1).take (m+1))=aO ((a.drop 1).take m)+(.mk ex eO eI eT cg a4:Ex).size:=by have L:=gL aD;rw[←dw] at L;exact L
 have gj:aO ((a.drop 1).take (m+1))≤aO (a.drop 1):=eJ _ _
 try dsimp only[dQ,Wp.tok]
 refine ep (rs:=[]) (ca (c2:=c2) (c5:=c5) (Am:=Am) (ms:=ms) (cq:=cq) (t:=⟨X,O,ab,aa,I,B,H,U,aw,ax,ay⟩) aB (aC eE aF (ai b1 aZ)) ⟨⟨bB,bW⟩,bz,by(try simp only[ll]);omega,⟨bv,b3,bK,bs,bc⟩⟩ ⟨by(try simp only[ll]);omega,by(try simp only[ll]);omega,by(try simp only[ll]);omega⟩ (de dV aH) (by(try simp only[ll]);omega)) iS rfl rfl rfl rfl ?_
 rintro _ _ _ fe b2 ⟨⟨eY,gz,fn,eG,cp,eD,db,eS,fA,fj,fi⟩,rfl,rfl,⟨⟨bD,bY⟩,bx,ea,⟨bu,b5,bI,br,bb⟩⟩,⟨b7,en,eq,b9⟩,⟨cf,ck,ci,cm⟩,_,rfl,⟨cv,dh,rfl,d1,aR⟩⟩
 dsimp only at bD bY bx ea bu b5 bI br bb b7 en eq b9
 (try simp only[ll] at b7 b9)
 replace aR:=a8.1 aR
 try dsimp only[dQ,Wp.tok]
 refine rL 7 rfl ?_
 refine ep (ts:=[]) (rs:=_) (nl (ts:=[]) (by omega) (by omega)) nn rfl rfl rfl rfl ?_
 rintro _ _ _ cA f4 ⟨fO,rfl,rfl,⟨ez,eQ,eN,eV⟩,_,rfl,⟨cw,di,rfl,bG,ar⟩,_⟩
 subst cA
 replace ar:=a8.1 ar
 try dsimp only[dQ,Wp.tok]
 refine rL 5 rfl ?_
 refine bZ mixed (fun k=>k==3||k==4||k==5||k==6) fun aq=> ?_
 refine bL [0,1,2,4,6,7] rfl (by kernel_rfl) id (a7 [3] (by kernel_rfl) rfl ?_)
 refine eW e6 rfl ?_ bf
 intro fD ff M dM
 try dsimp only[dQ,Wp.tok]
 refine a7 [5] (by kernel_rfl) rfl ?_
 have et:=dp (l:=[(.mk cf ck ci cm:Ty)]) (pt (by simp)) (a5.new (xs:=[zI cf,.string ck,zI ci,.slice cv cm.length dh]) a2 ((aL.single (aP d1 (a5.sub a2 aR M)))) dM)
 obtain⟨_,_,es,dS,ee⟩:=et;cases es
 try dsimp only[dQ,Wp.tok]
 refine dK rfl (tw (dp dS ee) (aP bG (aC a2 ar M))) q9 rfl rfl ?_ bf
 rintro _ fg Z ⟨⟨gp,gM,gA,gV⟩,_,rfl,⟨e1,fq,rfl,dW,aI⟩⟩
 replace aI:=a8.1 aI
 try dsimp only[dQ,Wp.tok]
 refine a7 [8] (by kernel_rfl) rfl ?_
 refine lx rfl (ts:=[]) (rs:=_) (lW (ts:=[]) bD (aC eM bY (ai M Z)) bx (by(try simp only[ll]);omega) (aP bF (aC a2 b0 (ai (ai b2 M) Z))) (aP dW aI) cg a4) mc rfl rfl rfl rfl rfl ?_ bf
 rintro _ _ _ cB au ⟨rfl,eB,cs,dd,dm,cY,cN,rfl,dT,ej,dO,fJ⟩
 try dsimp only[dQ,Wp.tok]
 refine bS (by kernel_rfl) (rD 8 rfl (vp (bA rfl rfl (by omega)) rfl (rL 2 rfl ?_)))
 refine dR (cB,m+1,ez,eQ,eN,eV,cw,di,eB,cs,dd,(eG+1),dm,cY,cN,eD,eS,cp,db) rfl rfl [0,1] rfl ?_ ?_
 try dsimp only
 exact⟨aZ.trans (ai (ai (ai b2 M) Z) au),⟨bG,(aC a2 ar (ai (ai M Z) au))⟩,⟨dT,ej⟩,⟨bg gv (ai (ai M Z) au) bu,eL b5 (ai (ai M Z) au),bI,br,bb⟩,by omega,trivial,⟨dO,by(try simp only[ll]);omega,by(try simp only[ll]);omega,by(try simp only[ll]);omega,by(try simp only[ll]);omega⟩⟩
 (try dsimp only);omega
 have bQ:=cb bj
 obtain rfl:f=2:=bQ
 try dsimp only[dQ,Wp.tok]
 refine rV 5 rfl ?_
 refine ep (ts:=[]) (rs:=_) (AB (by omega) (by omega) aB aF (de bE ag)) Dy rfl rfl rfl rfl ?_
 rintro _ _ _ fd aY ⟨rfl,eH,dk,cV,cL,rfl,fK,fL,⟨gr,gO,gC,gX⟩,_,rfl,⟨e3,fs,rfl,dY,aM⟩⟩
 replace aM:=a8.1 aM
 try dsimp only[dQ,Wp.tok]
 refine rL 5 rfl ?_
 exact dN results16 (aK rfl rfl cD) (ts:=[⟨.slice c ls.length d,ls.length,b,129,5⟩]) (.cons_cons _ .slnil) ⟨_,rfl,⟨As,l,ek,eH,c,ls,d,b,dk,cV,cL⟩,rfl,rfl,⟨⟨p,(aC eM q aY)⟩,o,by(try simp only[ll]);omega,⟨bg gv aY n,eL F aY,E,D,C⟩⟩,⟨by(try simp only[ll]);omega,by(try simp only[ll]);omega,by(try simp only[ll]);omega,by(try simp only[ll]);omega⟩,_,_,rfl,(aP dY aM)⟩
 have bP:=cb bi
 exact absurd bP aE
 have aE:=cb bm
 obtain rfl:f=1:=aE
 try dsimp only[dQ,Wp.tok]
 refine rL 9 rfl ?_
 refine ep (ts:=[]) (rs:=_) (nl (ts:=[]) (by omega) (by omega)) nn rfl rfl rfl rfl ?_
 rintro _ _ _ cH f2 ⟨fS,rfl,rfl,⟨r,z,y,A⟩,_,rfl,⟨Q,S,rfl,ap,Y⟩,_⟩
 subst cH
 replace Y:=a8.1 Y
 try dsimp only[dQ,Wp.tok]
 refine rL 5 rfl ?_
 refine bZ mixed (fun k=>k==1||k==3) fun aq=> ?_
 refine bL [0,1,2,3,5,6,7] rfl (by kernel_rfl) id (vt 8 rfl (bJ (vs:=[(0,.string g),(1,.agg #[zI r,.string z,zI y,.slice Q A.length S])]) (v:= .agg #[.string g,zI r,.string z,zI y,.slice Q A.length S]) rfl (fun W=>by kernel_rfl)) rfl (by kernel_rfl) id (a7 [4,9] (by kernel_rfl) rfl ?_))
 refine av rfl ?_ ?_
 refine a7 [9] (by kernel_rfl) rfl ?_
 refine eW pI rfl ?_ bf
 intro fB fb T dJ
 try dsimp only[dQ,Wp.tok]
 refine iJ ?_
 refine a7 [10] (by kernel_rfl) rfl ?_
 refine fW (news:=[.string g,zI r,.string z,zI y,.slice Q A.length S]) rfl qj rfl rfl (cd rfl dJ) (fun h=>by cases h) (fun u hu=>gv.one (mD (s:=g) (aP ap (aC a2 Y T))) u hu) (n1:=(ls++ [(⟨g,(.mk r z y A:Ty)⟩:Lo)]).length) (by(try simp only[ll])<;>omega) (by(try simp only[ll]);omega) rfl rfl ?_ bf
 refine ww 1 ?_
 rotate_left
 refine eW pI rfl ?_ bf
 intro fC fc T dL
 try dsimp only[dQ,Wp.tok]
 refine bL [1004] rfl (by kernel_rfl) id ?_
 refine iJ ?_
 refine a7 [10] (by kernel_rfl) rfl ?_
 refine fW (news:=[.string g,zI r,.string z,zI y,.slice Q A.length S]) rfl qj rfl rfl (cd rfl dL) (fun h=>by cases h) (fun u hu=>gv.one (mD (s:=g) (aP ap (aC a2 Y T))) u hu) (n1:=(ls++ [(⟨g,(.mk r z y A:Ty)⟩:Lo)]).length) (by(try simp only[ll])<;>omega) (by(try simp only[ll]);omega) rfl rfl ?_ bf
 refine ww 1 ?_
 rotate_left
 have bO:=cb bh
 obtain rfl:f=9:=bO
 try dsimp only[dQ,Wp.tok]
 refine rL 9 rfl ?_
 refine ep (ts:=[]) (rs:=_) (nl (ts:=[]) (by omega) (by omega)) nn rfl rfl rfl rfl ?_
 rintro _ _ _ cz f5 ⟨fN,rfl,rfl,⟨gs,gP,gD,gY⟩,_,rfl,⟨e4,ft,rfl,dZ,aN⟩,_⟩
 subst cz
 replace aN:=a8.1 aN
 try dsimp only[dQ,Wp.tok]
 refine rL 5 rfl ?_
 exact dN results16 (aK rfl rfl cD) (ts:=[⟨.slice c ls.length d,ls.length,b,129,5⟩]) (.cons_cons _ .slnil) ⟨_,rfl,⟨As,l,ek,(made+1),c,ls,d,b,e,al,ac⟩,rfl,rfl,⟨⟨p,q⟩,o,by(try simp only[ll]);omega,⟨n,F,E,D,C⟩⟩,⟨by(try simp only[ll]);omega,by(try simp only[ll]);omega,by(try simp only[ll]);omega,by(try simp only[ll]);omega⟩,_,_,rfl,(aP dZ aN)⟩
 have bN:=cb be
 obtain rfl:f=3:=bN
 try dsimp only[dQ,Wp.tok]
 refine rV 3 rfl (vp (bJ (vs:=[(0,zI 2),(1,.string ⟨#[73,110,116]⟩)]) (v:= .agg #[zI 2,.string ⟨#[73,110,116]⟩,zI 0,zS]) rfl (fun W=>by kernel_rfl)) rfl (rL 5 rfl ?_))
 exact dN results16 (aK rfl rfl cD) (ts:=[⟨.slice c ls.length d,ls.length,b,129,5⟩]) (.cons_cons _ .slnil) ⟨_,rfl,⟨As,l,ek,made,c,ls,d,b,e,al,ac⟩,rfl,rfl,⟨⟨p,q⟩,o,by(try simp only[ll]);omega,⟨n,F,E,D,C⟩⟩,⟨by(try simp only[ll]);omega,by(try simp only[ll]);omega,by(try simp only[ll]);omega,by(try simp only[ll]);omega⟩,_,_,rfl,(aP eg (ew (P:=Ty.Cs) (size:=4) _))⟩
 try dsimp only[dQ,Wp.tok]
 refine rV 3 rfl (vp (bJ (vs:=[]) (v:= .agg #[zI 0,.string ⟨#[]⟩,zI 0,zS]) rfl (fun W=>by kernel_rfl)) rfl (rL 5 rfl ?_))
 exact dN results16 (aK rfl rfl cD) (ts:=[⟨.slice c ls.length d,ls.length,b,129,5⟩]) (.cons_cons _ .slnil) ⟨_,rfl,⟨As,l,ek,made,c,ls,d,b,e,al,ac⟩,rfl,rfl,⟨⟨p,q⟩,o,by(try simp only[ll]);omega,⟨n,F,E,D,C⟩⟩,⟨by(try simp only[ll]);omega,by(try simp only[ll]);omega,by(try simp only[ll]);omega,by(try simp only[ll]);omega⟩,_,_,rfl,(aP eg (ew (P:=Ty.Cs) (size:=4) _))⟩
 any_goals
  refine uw 1 ?_
  intro a0 a9 cy aX dx dy dz dA
  have d7:aL Lo.Cs cy (ls++ [(⟨g,(.mk r z y A:Ty)⟩:Lo)]) (b++ [.string g,zI r,.string z,zI y,.slice Q A.length S]):=bg gv aX (c6 (bg gv T n) (c4 (mD (s:=g) (aP ap (aC a2 Y T)))))
  try dsimp only[dQ,Wp.tok]
  refine bL [11,12,1013] rfl (by kernel_rfl) id (bS (by kernel_rfl) (rD 9 rfl ?_))
  exact dN results16 (aK rfl rfl cD) (ts:=[⟨.slice a0 (ls++ [(⟨g,(.mk r z y A:Ty)⟩:Lo)]).length a9,(ls++ [(⟨g,(.mk r z y A:Ty)⟩:Lo)]).length,(b++ [.string g,zI r,.string z,zI y,.slice Q A.length S]),129,5⟩]) (.cons_cons _ (.cons _ .slnil)) ⟨_,rfl,⟨As,l,ek,(made+1),a0,(ls++ [(⟨g,(.mk r z y A:Ty)⟩:Lo)]),a9,(b++ [.string g,zI r,.string z,zI y,.slice Q A.length S]),e,al,ac⟩,rfl,rfl,⟨⟨p,(aC eM q (ai T aX))⟩,o,by(try simp only[ll]);omega,⟨d7,dA,dx,dy,dz⟩⟩,⟨by(try simp only[ll]);omega,by(try simp only[ll]);omega,by(try simp only[ll]);omega,by(try simp only[ll]);omega⟩,_,_,rfl,(aP ap (aC a2 Y (ai T aX)))⟩
 any_goals
  refine uw 2 ?_
  try dsimp only[dQ,Wp.tok]
  refine rL 12 rfl ?_
  refine ep (ts:=[]) (rs:=_) (h6 (ts:=[]) 2 N K) h7 rfl rfl rfl rfl ?_
  rintro _ _ _ cJ ga ⟨fV,rfl,⟨dt,c8,cT,rfl⟩,⟨gy,gU,gI,g5⟩,_,rfl,⟨fa,fy,rfl,d6,aW⟩⟩
  subst cJ
  replace aW:=a8.1 aW
  try dsimp only[dQ,Wp.tok]
  refine rL 5 rfl ?_
  exact dN results16 (aK rfl rfl cD) (ts:=[⟨.slice c ls.length d,ls.length,b,129,5⟩]) (.cons_cons _ .slnil) ⟨_,rfl,⟨As,l,ek,made,c,ls,d,b,dt,c8,cT⟩,rfl,rfl,⟨⟨p,q⟩,o,by(try simp only[ll]);omega,⟨n,F,E,D,C⟩⟩,⟨by(try simp only[ll]);omega,by(try simp only[ll]);omega,by(try simp only[ll]);omega,by(try simp only[ll]);omega⟩,_,_,rfl,(aP d6 aW)⟩
 any_goals
  refine uw 3 ?_
  try dsimp only[dQ,Wp.tok]
  refine rL 29 rfl ?_
  refine ep (ts:=[]) (rs:=_) (h6 (ts:=[]) 2 N K) h7 rfl rfl rfl rfl ?_
  rintro _ _ _ cI f9 ⟨fU,rfl,⟨ds,c7,cR,rfl⟩,⟨gx,gT,gH,g4⟩,_,rfl,⟨e9,fx,rfl,d5,aV⟩⟩
  subst cI
  replace aV:=a8.1 aV
  try dsimp only[dQ,Wp.tok]
  refine rL 5 rfl ?_
  exact dN results16 (aK rfl rfl cD) (ts:=[⟨.slice c ls.length d,ls.length,b,129,5⟩]) (.cons_cons _ .slnil) ⟨_,rfl,⟨As,l,ek,made,c,ls,d,b,ds,c7,cR⟩,rfl,rfl,⟨⟨p,q⟩,o,by(try simp only[ll]);omega,⟨n,F,E,D,C⟩⟩,⟨by(try simp only[ll]);omega,by(try simp only[ll]);omega,by(try simp only[ll]);omega,by(try simp only[ll]);omega⟩,_,_,rfl,(aP d5 aV)⟩
 any_goals
  refine uw 4 ?_
  try dsimp only[dQ,Wp.tok]
  refine rL 46 rfl ?_
  refine ep (ts:=[]) (rs:=_) (h6 (ts:=[]) 2 N K) h7 rfl rfl rfl rfl ?_
  rintro _ _ _ cG f8 ⟨fT,rfl,⟨dr,c3,cQ,rfl⟩,⟨gw,gS,gG,g3⟩,_,rfl,⟨e8,fw,rfl,d4,aU⟩⟩
  subst cG
  replace aU:=a8.1 aU
  try dsimp only[dQ,Wp.tok]
  refine rL 5 rfl ?_
  exact dN results16 (aK rfl rfl cD) (ts:=[⟨.slice c ls.length d,ls.length,b,129,5⟩]) (.cons_cons _ .slnil) ⟨_,rfl,⟨As,l,ek,made,c,ls,d,b,dr,c3,cQ⟩,rfl,rfl,⟨⟨p,q⟩,o,by(try simp only[ll]);omega,⟨n,F,E,D,C⟩⟩,⟨by(try simp only[ll]);omega,by(try simp only[ll]);omega,by(try simp only[ll]);omega,by(try simp only[ll]);omega⟩,_,_,rfl,(aP d4 aU)⟩
 any_goals
  refine uw 5 ?_
  try dsimp only[dQ,Wp.tok]
  refine rL 63 rfl ?_
  refine ep (ts:=[]) (rs:=_) (h6 (ts:=[]) 2 N K) h7 rfl rfl rfl rfl ?_
  rintro _ _ _ cE f7 ⟨fQ,rfl,⟨dq,c1,cP,rfl⟩,⟨gu,gR,gF,g0⟩,_,rfl,⟨e7,fv,rfl,d3,aT⟩⟩
  subst cE
  replace aT:=a8.1 aT
  try dsimp only[dQ,Wp.tok]
  refine rL 5 rfl ?_
  exact dN results16 (aK rfl rfl cD) (ts:=[⟨.slice c ls.length d,ls.length,b,129,5⟩]) (.cons_cons _ .slnil) ⟨_,rfl,⟨As,l,ek,made,c,ls,d,b,dq,c1,cP⟩,rfl,rfl,⟨⟨p,q⟩,o,by(try simp only[ll]);omega,⟨n,F,E,D,C⟩⟩,⟨by(try simp only[ll]);omega,by(try simp only[ll]);omega,by(try simp only[ll]);omega,by(try simp only[ll]);omega⟩,_,_,rfl,(aP d3 aT)⟩
theorem DA:∀n,uI n
 |0=>fun _ _ _ _ _ h=>absurd (Nat.le_zero.1 h) (ng _)
 |n+1=>Nx (DA n)
theorem Ny{Am:OA}{ms:List Pl}{cq:Nat}{t:Wt}(bU:cF aA hS.length ae)(cc:a5 Pl.Cs 6 ah aA hS)(aI:cF Am ms.length cq)(aN:a5 Pl.Cs 6 ah Am ms)(ea:t.Ok ah)(dZ:Rl.Cs ah jM aj)(el:Ty.Cs ah bC bj)(d0:t.qh (gP jM)):iL 37 [.agg aj.toArray,.agg bj.toArray] 73 (cu ⟨aA,hS,ae,Am,ms,cq,none,[],0⟩ t) [t.tok] ah (fun v dj eK R'=>∃aw:Wt,dj=cu ⟨aA,hS,ae,Am,ms,cq,none,[],0⟩ aw∧eK=[aw.tok]∧aw.Ok R'∧t.Up aw (gP jM)):=by
 obtain⟨As,l,ek,made,ab,fs,ag,a1,e,al,ac⟩:=t
 obtain⟨⟨bW,cf⟩,bH,dV,⟨bz,co,b4,bt,bn⟩⟩:=ea
 obtain⟨d1,d2,d3⟩:=d0
 dsimp only at bW cf bH dV bz co b4 bt bn d1 d2 d3
 obtain⟨ao,a,c,⟨M,U,S,Z,I,F⟩,O,L⟩:=jM
 obtain⟨a9,bi,a6,bh,_,rfl,bV,ce,bQ,b9,⟨ba,bk,rfl,b1,ar⟩⟩:=dZ
 obtain⟨cC,cG,cE,cI⟩:=bC
 obtain⟨bb,bl,rfl,dS,aV⟩:=el
 replace ar:=c9.1 ar
 (try dsimp only at bV ce bQ b9 b1 ar)
 replace aV:=a8.1 aV
 have fK:gP (⟨ao,a,c,((.mk M U S Z I F:Ex)),O,L⟩:Rl)=aO a+aO c+(.mk M U S Z I F:Ex).size+2:=rfl
 have em:uI (gP (⟨ao,a,c,((.mk M U S Z I F:Ex)),O,L⟩:Rl)):=DA _
 have cB:oP (gP (⟨ao,a,c,((.mk M U S Z I F:Ex)),O,L⟩:Rl)):=ym _
 refine kI func37 rfl ntmps37 rfl rfl fun w G ad=> ?_
 refine sV 29 rfl ?_
 refine gN 36 4 ?_
 refine gN 129 5 ?_
 refine fl _ ((List.Perm.swap _ _ _).trans (List.Perm.cons _ (List.Perm.swap _ _ _))) ?_
 refine fl _ (List.Perm.swap _ _ _) ?_
 refine fl _ ((List.Perm.swap _ _ _).trans (List.Perm.cons _ (List.Perm.swap _ _ _))) ?_
 have fN:aO (a.take 0)=0:=by rw[List.take_zero];exact kD
 have fn:=fR bV
 refine lK (ι:=Wd×Nat×List Bi×OA×Nat×Int×Int×Int×Int×List Ty×LV×OA×Nat×List Lo×LV×OA×Nat) [0,4,5,18,19] 0 rfl (fun(z,g,J,af,ap,Q,aY,aZ,a0,b,x,y,r,d,C,n,j)=>(⟨[(6,.val (.slice y b.length r)),(20,.val (zI (g:Nat)))],[(73,[.slice af J.length ap,zI Q,.slice aA hS.length ae,.slice Am ms.length cq,.slice n d.length j,.slice ab fs.length ag,zI aY,zI aZ,zI a0]),(112,[.string ao,.slice a9 a.length bi,.slice a6 c.length bh,zI M,.string U,zI S,.slice ba Z.length bk,zI I,zI F,zI O,zI L]),(36,[zI cC,.string cG,zI cE,.slice bb cI.length bl])],[⟨.slice y b.length r,b.length,x,36,4⟩,⟨.slice n d.length j,d.length,C,129,5⟩,⟨.slice ab fs.length ag,fs.length,a1,135,6⟩]⟩,z,Sub ah z∧(cF af J.length ap∧a5 Bi.Cs 5 z af J)∧(aL Ty.Cs z b x∧Src z 4 y b.length x∧b.length≤r∧r≤9223372036854775807∧(y=none→r=0))∧(aL Lo.Cs z d C∧Src z 5 n d.length C∧d.length≤j∧j≤9223372036854775807∧(n=none→j=0))∧g≤a.length∧True∧True∧(Good J∧made≤Q∧J.length≤l.length+1000*aO (a.take g)∧Q≤made+500000000*((aO (a.take g):Nat):Int)∧b.length≤g∧d.length≤aO (a.take g)),a.length -g)) (ah,0,l,As,ek,made,e,al,ac,[],[],none,0,[],[],none,0) rfl rfl [1,1,1] rfl ?_ ?_
 exact⟨sR,⟨bW,cf⟩,⟨gr,⟨rfl,.inl rfl⟩,Nat.le_refl _,by decide,fun _=>rfl⟩,⟨gr,⟨rfl,.inl rfl⟩,Nat.le_refl _,by decide,fun _=>rfl⟩,Nat.zero_le _,trivial,trivial,(⟨bH,by(try simp only[ll]);omega,by(try simp only[ll]);omega,by(try simp only[ll]);omega,by(try simp only[ll]);omega,by(try simp only[ll]);omega⟩)⟩
 rintro⟨z,g,J,af,ap,Q,aY,aZ,a0,b,x,y,r,d,C,n,j⟩ ⟨o,⟨bR,ca⟩,⟨bF,d9,dU,dD,dt⟩,⟨aH,aX,aJ,aG,aF⟩,fq,_,_,ei⟩
 obtain⟨bO,fx,fz,fB,fD,fF⟩:=ei
 have fL:aO (a.take g)≤aO a:=eJ _ _
 show V _ _ _ ⟨_,_,_⟩ z
 refine rV 6 rfl ?_
 cases bs:(decide (((g:Nat):Int)<((a.length:Nat):Int)))
 have fp:=cS bs
 refine rV 9 rfl ?_
 refine ep (ts:=[]) (rs:=_) (nl (ts:=[]) (by omega) (by omega)) nn rfl rfl rfl rfl ?_
 rintro _ _ _ cR fw ⟨fv,rfl,rfl,⟨eq,eI,eF,eR⟩,_,rfl,⟨cQ,dg,rfl,b2,au⟩,_⟩
 subst cR
 replace au:=a8.1 au
 refine rL 5 rfl ?_
 refine bZ mixed (fun k=>k==1||k==2||k==3) fun aq=> ?_
 refine bL [0,1,2,3,5,6] rfl (by kernel_rfl) id (a7 [4] (by kernel_rfl) rfl ?_)
 refine dK rfl (tw (dp ⟨dU,dD,by(try simp only[ll]);omega,dt⟩ (cz d9 bF)) (aP b2 au)) q9 rfl rfl ?_ bf
 rintro _ eZ m ⟨⟨fP,f0,fV,f3⟩,_,rfl,⟨eW,fg,rfl,dO,aS⟩⟩
 replace aS:=a8.1 aS
 refine a7 [7] (by kernel_rfl) rfl ?_
 refine lx rfl (ts:=[]) (rs:=_) (lW (ts:=[]) bR (aC eM ca m) bO (by(try simp only[ll]);omega) (aP dS (aC a2 aV (ai o m))) (aP dO aS) O L) mc rfl rfl rfl rfl rfl ?_ bf
 rintro _ _ _ bd p ⟨rfl,er,cM,db,dk,c0,cU,rfl,dI,d4,dF,fr⟩
 refine bS (by kernel_rfl) (rD 11 rfl ?_)
 refine fl _ (List.Perm.swap _ _ _) ?_
 refine fl _ (List.Perm.swap _ _ _) ?_
 refine fl _ ((List.Perm.swap _ _ _).trans (List.Perm.cons _ (List.Perm.swap _ _ _))) ?_
 have fO:aO (c.take 0)=0:=by rw[List.take_zero];exact kD
 have fo:=fR bQ
 refine lK (ι:=Wd×Nat×List Bi×OA×Nat×Int×Int×Int×Int×List Fr×LV×OA×Nat) [0,4,9,42,43] 0 rfl (fun(E,i,B,K,ak,R,ax,ay,az,q,Y,D,A)=>(⟨[(44,.val (zI (i:Nat)))],[(73,[.slice K B.length ak,zI R,.slice aA hS.length ae,.slice Am ms.length cq,.slice n d.length j,.slice D q.length A,zI ax,zI ay,zI az]),(112,[.string ao,.slice a9 a.length bi,.slice a6 c.length bh,zI M,.string U,zI S,.slice ba Z.length bk,zI I,zI F,zI O,zI L]),(36,[zI cC,.string cG,zI cE,.slice bb cI.length bl]),(36,[zI eq,.string eI,zI eF,.slice cQ eR.length dg])],[⟨.slice D q.length A,q.length,Y,135,6⟩,⟨.slice y b.length r,b.length,x,36,4⟩,⟨.slice n d.length j,d.length,C,129,5⟩]⟩,E,Sub bd E∧(cF K B.length ak∧a5 Bi.Cs 5 E K B)∧(aL Fr.Cs E q Y∧Src E 6 D q.length Y∧q.length≤A∧A≤9223372036854775807∧(D=none→A=0))∧i≤c.length∧True∧(Good B∧made≤R∧B.length≤l.length+1000+1000*(aO a+aO (c.take i))∧R≤made+1+500000000*(((aO a+aO (c.take i)):Nat):Int)∧q.length≤fs.length+aO (c.take i)),c.length -i)) (bd,0,er,cM,db,(Q+1),dk,c0,cU,fs,a1,ab,ag) rfl rfl [1,1,1] rfl ?_ ?_
 exact⟨sR,⟨dI,d4⟩,⟨bg ho (ai (ai o m) p) bz,eL co (ai (ai o m) p),b4,bt,bn⟩,Nat.zero_le _,trivial,(⟨dF,by(try simp only[ll]);omega,by(try simp only[ll]);omega,by(try simp only[ll]);omega,by(try simp only[ll]);omega⟩)⟩
 rintro⟨E,i,B,K,ak,R,ax,ay,az,q,Y,D,A⟩ ⟨s,⟨bT,cb⟩,⟨bG,cm,b8,bx,br⟩,_,_,ej⟩
 obtain⟨bP,fy,fA,fC,fE⟩:=ej
 have fM:aO (c.take i)≤aO c:=eJ _ _
 show V _ _ _ ⟨_,_,_⟩ E
 refine rV 6 rfl ?_
 cases dA:(decide (((i:Nat):Int)<((c.length:Nat):Int)))
 refine rV 11 rfl ?_
 refine ep (rs:=[⟨.slice y b.length r,b.length,x,36,4⟩,⟨.slice n d.length j,d.length,C,129,5⟩]) (cB (f:=⟨aA,hS,ae,Am,ms,cq,n,d,j⟩) (t:=⟨K,B,ak,R,D,q,A,Y,ax,ay,az⟩) ⟨⟨bU,(aC eE cc (ai (ai (ai o m) p) s))⟩,⟨aI,(aC eE aN (ai (ai (ai o m) p) s))⟩,⟨aJ,aG,by(try simp only[ll]);omega,aF⟩,(aC gv (cz aX aH) (ai (ai m p) s))⟩ ⟨⟨bT,cb⟩,bP,by(try simp only[ll]);omega,⟨bG,cm,b8,bx,br⟩⟩ ⟨by(try simp only[ll]);omega,by(try simp only[ll]);omega,by(try simp only[ll]);omega⟩ (by(try simp only[ll]);omega) (de b1 (aC bM ar (ai (ai (ai o m) p) s))) (by(try simp only[ll]);omega)) iS rfl rfl rfl rfl ?_
 rintro _ _ _ e1 d8 ⟨⟨eT,fU,fd,eB,a4,aE,be,cH,fk,e9,e7⟩,rfl,rfl,⟨⟨b0,ci⟩,bN,dY,⟨bD,cr,b6,bv,bp⟩⟩,⟨cw,ed,eh,cA⟩,⟨fS,f2,fX,f5⟩,_,rfl,⟨eY,fi,rfl,dQ,aU⟩⟩
 dsimp only at b0 ci bN dY bD cr b6 bv bp cw ed eh cA
 (try simp only[ll] at cw cA)
 replace aU:=a8.1 aU
 refine rL 12 rfl ?_
 refine ep (ts:=[]) (rs:=_) (lW (ts:=[]) b0 ci bN (by(try simp only[ll]);omega) (aP dQ aU) (aP b2 (aC a2 au (ai (ai (ai m p) s) d8))) I F) mc rfl rfl rfl rfl ?_
 rintro _ _ _ e3 cj ⟨rfl,ev,cP,df,dn,c7,cY,rfl,dL,d6,dH,fu⟩
 refine rL 8 rfl (yV ?_)
 exact sK results37 (ts:=[⟨.slice a4 aE.length be,aE.length,cH,135,6⟩]) (.cons_cons _ (.cons _ (.cons _ .slnil))) ⟨_,rfl,⟨cP,ev,df,eB,a4,aE,be,cH,dn,c7,cY⟩,rfl,rfl,⟨⟨dL,d6⟩,dH,by(try simp only[ll]);omega,⟨bg ho cj bD,eL cr cj,b6,bv,bp⟩⟩,⟨by(try simp only[ll]);omega,by(try simp only[ll]);omega,by(try simp only[ll]);omega,by(try simp only[ll]);omega⟩⟩
 have aM:=cX dA
 refine rV 7 rfl ?_
 obtain⟨fb,fZ,_,ds,⟨eo,eH,eD,eQ,cD,bm⟩,dv,⟨eV,ff,rfl,dN,aR⟩,dC⟩:=cn bM (aC bM b9 (ai (ai (ai o m) p) s)) i aM
 replace aR:=c9.1 aR
 refine vp (a3 ds rfl rfl aM cZ) rfl (vp (cl rfl dC rfl) rfl (rL 8 rfl ?_))
 have fH:aO (c.take (i+1))=aO (c.take i)+(.mk eo eH eD eQ cD bm:Ex).size:=by have am:=gL aM;rw[←dv] at am;exact am
 have fJ:aO (c.take (i+1))≤aO c:=eJ _ _
 refine ep (rs:=[⟨.slice y b.length r,b.length,x,36,4⟩,⟨.slice n d.length j,d.length,C,129,5⟩]) (cB (f:=⟨aA,hS,ae,Am,ms,cq,n,d,j⟩) (t:=⟨K,B,ak,R,D,q,A,Y,ax,ay,az⟩) ⟨⟨bU,(aC eE cc (ai (ai (ai o m) p) s))⟩,⟨aI,(aC eE aN (ai (ai (ai o m) p) s))⟩,⟨aJ,aG,by(try simp only[ll]);omega,aF⟩,(aC gv (cz aX aH) (ai (ai m p) s))⟩ ⟨⟨bT,cb⟩,bP,by(try simp only[ll]);omega,⟨bG,cm,b8,bx,br⟩⟩ ⟨by(try simp only[ll]);omega,by(try simp only[ll]);omega,by(try simp only[ll]);omega⟩ (by(try simp only[ll]);omega) (de dN aR) (by(try simp only[ll]);omega)) iS rfl rfl rfl rfl ?_
 rintro _ _ _ e0 d7 ⟨⟨eS,fT,fc,eA,cK,dq,c8,eN,fj,e8,e5⟩,rfl,rfl,⟨⟨bY,ch⟩,bK,dX,⟨bB,cp,b5,bu,bo⟩⟩,⟨cv,ec,ef,cy⟩,⟨fQ,f1,fW,f4⟩,_,rfl,⟨eX,fh,rfl,dP,aT⟩⟩
 dsimp only at bY ch bK dX bB cp b5 bu bo cv ec ef cy
 (try simp only[ll] at cv cy)
 replace aT:=a8.1 aT
 refine rL 7 rfl (vp (bJ (vs:=[(0,zI 2),(1,.string ⟨#[66,111,111,108]⟩)]) (v:= .agg #[zI 2,.string ⟨#[66,111,111,108]⟩,zI 0,zS]) rfl (fun W=>by kernel_rfl)) rfl (rL 2 rfl ?_))
 refine ep (ts:=[]) (rs:=_) (lW (ts:=[]) bY ch bK (by(try simp only[ll]);omega) (aP dP aT) (aP eg (ew (P:=Ty.Cs) (size:=4) _)) cD bm) mc rfl rfl rfl rfl ?_
 rintro _ _ _ cT aW ⟨rfl,eu,cO,dd,dm,c3,cW,rfl,dJ,d5,dG,ft⟩
 refine rL 4 rfl (vp (bA rfl rfl (by omega)) rfl (rL 2 rfl ?_))
 refine dR (cT,i+1,eu,cO,dd,eA,dm,c3,cW,dq,eN,cK,c8) rfl rfl [1,1,1] rfl ?_ ?_
 exact⟨s.trans (ai d7 aW),⟨dJ,d5⟩,⟨bg ho aW bB,eL cp aW,b5,bu,bo⟩,by omega,trivial,⟨dG,by(try simp only[ll]);omega,by(try simp only[ll]);omega,by(try simp only[ll]);omega,by(try simp only[ll]);omega⟩⟩
 (try dsimp only);omega
 have aK:=cX bs
 refine rV 7 rfl ?_
 obtain⟨fa,fY,_,dr,⟨en,eG,eC,eP,ex,dh⟩,du,⟨eU,fe,rfl,dM,aQ⟩,dB⟩:=cn bM (aC bM ce o) g aK
 replace aQ:=c9.1 aQ
 refine vp (a3 dr rfl rfl aK cZ) rfl (vp (cl rfl dB rfl) rfl (rL 8 rfl ?_))
 refine o8 _ (List.Perm.swap _ _ _) ?_
 have fG:aO (a.take (g+1))=aO (a.take g)+(.mk en eG eC eP ex dh:Ex).size:=by have am:=gL aK;rw[←du] at am;exact am
 have fI:aO (a.take (g+1))≤aO a:=eJ _ _
 refine ep (rs:=[⟨.slice y b.length r,b.length,x,36,4⟩,⟨.slice ab fs.length ag,fs.length,a1,135,6⟩]) (em (c2:= .slice aA hS.length ae) (c5:= .slice ab fs.length ag) (Am:=Am) (ms:=ms) (cq:=cq) (t:=⟨af,J,ap,Q,n,d,j,C,aY,aZ,a0⟩) aI (aC eE aN o) ⟨⟨bR,ca⟩,bO,by(try simp only[ll]);omega,⟨aH,aX,aJ,aG,aF⟩⟩ ⟨by(try simp only[ll]);omega,by(try simp only[ll]);omega,by(try simp only[ll]);omega⟩ (de dM aQ) (by(try simp only[ll]);omega)) iS rfl rfl rfl rfl ?_
 rintro _ _ _ e2 ck ⟨⟨cN,es,dc,ez,cL,ey,da,eO,dl,c1,cV⟩,rfl,rfl,⟨⟨bX,cg⟩,bI,dW,⟨bE,cs,b7,bw,bq⟩⟩,⟨ct,eb,ee,cx⟩,⟨N,X,T,aa⟩,_,rfl,⟨aB,aD,rfl,b3,av⟩⟩
 dsimp only at bX cg bI dW bE cs b7 bw bq ct eb ee cx
 (try simp only[ll] at ct cx)
 replace av:=a8.1 av
 refine et e6 rfl ?_
 intro fm e4 H dE
 refine o8 _ ((List.Perm.swap _ _ _).trans (List.Perm.cons _ (List.Perm.swap _ _ _))) ?_
 refine j4 (news:=[zI N,.string X,zI T,.slice aB aa.length aD]) m8 rfl rfl (cd rfl dE) (fun h=>by cases h) (fun u hu=>a2.one (aP b3 (aC a2 av H)) u hu) (n1:=(b++ [(.mk N X T aa:Ty)]).length) (by(try simp only[ll])<;>omega) (by(try simp only[ll]);omega) rfl rfl ?_
 intro cJ di bc an dw dx dy dz
 have dT:aL Ty.Cs bc (b++ [(.mk N X T aa:Ty)]) (x++ [zI N,.string X,zI T,.slice aB aa.length aD]):=bg a2 an (c6 (bg a2 (ai ck H) bF) (c4 (aP b3 (aC a2 av H))))
 refine rL 5 rfl (vp (bA rfl rfl (by omega)) rfl (rL 2 rfl ?_))
 refine dR (bc,g+1,es,cN,dc,ez,dl,c1,cV,(b++ [(.mk N X T aa:Ty)]),(x++ [zI N,.string X,zI T,.slice aB aa.length aD]),cJ,di,ey,eO,cL,da) rfl rfl [1,0,1,1] rfl ?_ ?_
 exact⟨o.trans (ai (ai ck H) an),⟨bX,(aC eM cg (ai H an))⟩,⟨dT,dz,dw,dx,dy⟩,⟨bg gv (ai H an) bE,eL cs (ai H an),b7,bw,bq⟩,by omega,trivial,trivial,⟨bI,by(try simp only[ll]);omega,by(try simp only[ll]);omega,by(try simp only[ll]);omega,by(try simp only[ll]);omega,by(try simp only[ll]);omega⟩⟩
 (try dsimp only);omega
theorem Nz:cr 65 true 7:=by unfold cr;kernel_rfl
theorem uK:dO 66 75 6 80:=by unfold dO;kernel_rfl
theorem NA:aF 43:=by unfold aF;kernel_rfl
theorem DB(ac:Md.Cs ah ak aj)(Z:ak.Ok):uJ 15 [.agg aj.toArray] 73 ah (fun cs R'=>∃(Am:OA) (ms:List Pl) (cq:Nat),cs=[zS,zI 0,zS,.slice Am ms.length cq,zS,zS,zI 0,zI 0,zI 0]∧cF Am ms.length cq∧a5 Pl.Cs 6 R' Am ms∧ms.length≤100002):=by
 obtain⟨ay,aI⟩:=ak
 obtain⟨ag,au,am,ax,rfl,F,J,H,K⟩:=ac
 (try dsimp only at F J H K)
 refine Np func15 rfl ntmps15 rfl rfl fun w G ad=> ?_
 refine sV 8 rfl (vp (bJ (vs:=[]) (v:= .agg #[zS,zI 0,zS,zS,zS,zS,zI 0,zI 0,zI 0]) rfl (fun W=>by kernel_rfl)) rfl (rL 8 rfl ?_))
 refine cN (G9 (ez F J H K) Z) NA rfl rfl ?_
 rintro _ A _ ⟨_,y,rfl,⟨al,aw,rfl,aD,ae⟩,aG⟩
 refine rL 5 rfl ?_
 refine gN 75 6 ?_
 refine lK (ι:=Wd×Nat×List Pl×LV×OA×Nat) [2,3,9,10] 1 rfl (fun(m,d,a,o,l,j)=>(⟨[(11,.val (zI (d:Nat)))],[(73,[zS,zI 0,zS,.slice l a.length j,zS,zS,zI 0,zI 0,zI 0])],[⟨.slice l a.length j,a.length,o,75,6⟩]⟩,m,Sub A m∧(aL Pl.Cs m a o∧Src m 6 l a.length o∧a.length≤j∧j≤9223372036854775807∧(l=none→j=0))∧d≤y.length∧a.length≤d,y.length -d)) (A,0,[],[],none,0) rfl rfl [1] rfl ?_ ?_
 exact⟨sR,⟨gr,⟨rfl,.inl rfl⟩,a9 _,by decide,fun _=>rfl⟩,b2 _,b2 _⟩
 rintro⟨m,d,a,o,l,j⟩ ⟨M,⟨D,af,ab,Y,Q⟩,aE,aF⟩
 show V _ _ _ ⟨_,_,_⟩ m
 refine rV 6 rfl ?_
 cases C:(decide (((d:Nat):Int)<((y.length:Nat):Int)))
 have aB:=cS C
 refine rV 13 rfl ?_
 exact Nq results15 rfl rfl ⟨l,a,j,rfl,⟨ab,Y,by(try simp only[ll]);omega,Q⟩,(cz af D),by(try simp only[ll]);omega⟩
 have I:=cX C
 refine rV 7 rfl ?_
 obtain⟨ar,aH,_,P,⟨c,ap,b,⟨e,g,f,i⟩⟩,_,⟨_,rfl,B,⟨p,q,rfl,x,r⟩⟩,X⟩:=cn kG (aC kG ae M) d I
 replace r:=a8.1 r
 (try dsimp only at x r)
 refine vp (a3 P rfl rfl I tE) rfl (vp (cl rfl X rfl) rfl (rL 4 rfl ?_))
 refine bZ mixed (fun k=>k==2) fun aq=> ?_
 refine bL [0,1,2,3,5,6,7,8,9,10,11,12] rfl (by kernel_rfl) id (vt 13 rfl (bJ (vs:=[(0,.string c),(1,.agg #[zI e,.string g,zI f,.slice p i.length q]),(2,zI b)]) (v:= .agg #[.string c,zI e,.string g,zI f,.slice p i.length q,zI b]) rfl (fun W=>by kernel_rfl)) rfl (by kernel_rfl) id (a7 [4,14] (by kernel_rfl) rfl ?_))
 refine av rfl ?_ ?_
 refine a7 [14] (by kernel_rfl) rfl ?_
 refine eW lT rfl ?_ bf
 intro aA ao t E
 refine ww 1 ?_
 rotate_left
 refine eW lT rfl ?_ bf
 intro az an t E
 refine bL [1004] rfl (by kernel_rfl) id (ww 1 ?_)
 rotate_left
 any_goals
  refine uw 1 ?_
  refine iJ ?_
  refine a7 [15] (by kernel_rfl) rfl ?_
  refine fW (news:=[.string c,zI e,.string g,zI f,.slice p i.length q,zI b]) rfl uK rfl rfl (cd rfl E) (fun h=>by cases h) (fun u hu=>eE.one (kH (s:=c) (n:=b) B (aP x (aC a2 r t))) u hu) (n1:=(a++ [(⟨c,(.mk e g f i:Ty),b⟩:Pl)]).length) (by(try simp only[ll])<;>omega) (by(try simp only[ll]);omega) rfl rfl ?_ bf
  intro N O z L R S T U
  have aa:aL Pl.Cs z (a++ [(⟨c,(.mk e g f i:Ty),b⟩:Pl)]) (o++ [.string c,zI e,.string g,zI f,.slice p i.length q,zI b]):=bg eE L (c6 (bg eE t D) (c4 (kH (s:=c) (n:=b) B (aP x (aC a2 r t)))))
  refine bL [16,17,1018] rfl (by kernel_rfl) id (bS (by kernel_rfl) (rD 3 rfl (vp (bA rfl rfl (by omega)) rfl (rL 2 rfl ?_))))
  refine dR (z,d+1,(a++ [(⟨c,(.mk e g f i:Ty),b⟩:Pl)]),(o++ [.string c,zI e,.string g,zI f,.slice p i.length q,zI b]),N,O) rfl rfl [1] rfl ?_ ?_
  exact⟨M.trans (ai t L),⟨aa,U,R,S,T⟩,by omega,by simp;omega⟩
  (try dsimp only);omega
end Go.Proofs.YthnogncknmhgoaaGreat.Vm
namespace Go.Proofs.YthnogncknmhgoaaGreat.Vm
open ChangeShapes WideShapes ChangeAt RowKit bq Data Lx
open lB
variable{aY:BA}{bk:FuncId}{aj:LV}{ec:List BA}{dY:List Rl}{ak:Md}{az:Vl}{qC:Vl→Prop}{ah:Wd}
theorem bd.NB(h:∀w,Sub ah w→Calls prog bk aj.toArray w fun E g=>Below w.heap.size w g∧∃v,E= .returned v∧qC v):bd bk aj ah fun v R'=>R'=ah∧qC v:=by
 intro w ad e
 have l:((aj.map AV.val).map (AV.den ad)).toArray=aj.toArray:=by rw[List.map_map];congr 1;exact List.map_id'' (fun _=>rfl) aj
 rw[l]
 refine(h w (fun b o u hu=>(e.b9 b o u hu).1)).mono ?_
 rintro E g ⟨c,v,rfl,n⟩
 refine⟨v,[],[],ah,rfl,⟨c.os,c.tape,c.output,c.size,fun b f _=>c.block b f,fun b o u f hu=> .inl hu,Sub.refl ah⟩,⟨fun k T cs d=>(by cases d),fun i j m=>(by cases m),fun r a=>(by cases a),fun r a=>(by cases a),List.Pairwise.nil,fun b o u hu=>⟨jz c (a9 _) (e.b9 b o u hu).1,fun k d=>(by cases d),fun r a=>(by cases a)⟩⟩,rfl,fun r a=>(by cases a),rfl,rfl,n⟩
theorem DC{R:Wd}:∀{l:List BA} {xs:LV},aL b7 R l xs→xs=l.map Value.string
 |[],xs,h=>h
 |s::l,xs,⟨c,ys,a,b,h3⟩=>by
  rw[a,DC h3]
  have:c=[.string s]:=b
  rw[this]
  rfl
theorem NC(i:a6 b7 1 ah az ec)(s:BA):bd 41 [az,.string s] ah (fun v R'=>R'=ah∧∃(b:Bool),v= .bool b∧(b=lC ec s)):=by
 obtain⟨A,cap,rfl,⟨a,c,h3,d⟩,xs,f,g⟩:=i
 have e:=DC g
 subst e
 refine bd.NB fun w h=>(yB w _ ec s ⟨A,cap,rfl,a,c,h3,d,eL f h⟩).mono ?_
 rintro E j ⟨rfl,rfl⟩
 exact⟨Below.refl _ _,_,rfl,_,rfl,rfl⟩
def me (rs:List Rl):List ByteArray:=rs.foldl (fun l r=>if lC l r.s then l else l++ [r.s]) []
theorem uL{i:Nat}(h:i<dY.length):me (dY.take (i+1))=if lC (me (dY.take i)) (dY[i]).s then me (dY.take i) else me (dY.take i)++ [(dY[i]).s]:=by
 unfold me
 rw[List.take_succ_eq_append_getElem h,List.foldl_append]
 rfl
theorem ND:lC ec aY=true↔∃x∈ec,aY.toList=x.toList:=by
 rw[lC,List.any_eq_true]
 exact⟨fun⟨x,a,b⟩=>⟨x,a,by simpa using b⟩,fun⟨x,a,b⟩=>⟨x,a,by simpa using b⟩⟩
theorem DD(rs:List Rl):∀i,i≤rs.length→(me (rs.take i)).length≤i
 |0,_=>a9 _
 |i+1,h=>by
  have a:=DD rs i (by omega)
  rw[uL (by omega)]
  split
  ·omega
  ·simp only[List.length_append,List.length_cons,List.length_nil];omega
theorem DE(rs:List Rl):∀i,i≤rs.length→((me (rs.take i)).map ByteArray.toList).Nodup
 |0,_=>List.nodup_nil
 |i+1,h=>by
  have d:=DE rs i (by omega)
  rw[uL (by omega)]
  split
  ·exact d
  ·rename_i g
   rw[List.map_append,List.nodup_append]
   refine⟨d,by simp,fun a f b c e=> ?_⟩
   simp only[List.map_cons,List.map_nil,List.mem_singleton] at c
   subst c
   obtain⟨x,j,k⟩:=List.mem_map.1 f
   exact g (ND.2 ⟨x,j,by rw[k,e]⟩)
theorem DF(Z:Md.Cs ah ak aj):bd 33 [.agg aj.toArray] ah (fun v R'=>∃(H:Vl) (l:List BA),v=H∧a6 b7 1 R' H l∧(l=me ak.rs)):=by
 obtain⟨ax,k⟩:=ak
 obtain⟨ae,ao,al,ar,rfl,T,aa,B,C⟩:=Z
 (try dsimp only at T aa B C)
 refine b5 func33 rfl ntmps33 rfl rfl fun w G ad=> ?_
 refine sV 21 rfl ?_
 refine gN 9 1 ?_
 have aA:=fR B
 refine lK (ι:=Wd×Nat×List BA×LV×OA×Nat) [2,7,8] 1 rfl (fun(d,b,a,f,g,e)=>(⟨[(3,.val (.slice g a.length e)),(9,.val (zI (b:Nat)))],[],[⟨.slice g a.length e,a.length,f,9,1⟩]⟩,d,Sub ah d∧(aL b7 d a f∧Src d 1 g a.length f∧a.length≤e∧e≤9223372036854775807∧(g=none→e=0))∧b≤k.length∧a.length≤b∧(a=me (k.take b)),k.length -b)) (ah,0,[],[],none,0) rfl rfl [1] rfl ?_ ?_
 exact⟨sR,⟨gr,⟨rfl,.inl rfl⟩,a9 _,by decide,fun _=>rfl⟩,b2 _,b2 _,(rfl)⟩
 rintro⟨d,b,a,f,g,e⟩ ⟨q,⟨i,r,o,n,m⟩,aB,aD,s⟩
 show V _ _ _ ⟨_,_,_⟩ d
 refine rV 6 rfl ?_
 cases z:(decide (((b:Nat):Int)<((k.length:Nat):Int)))
 have S:=cS z
 refine rV 13 rfl ?_
 exact cH results33 (aT rfl) ⟨rfl,_,_,rfl,(dp ⟨o,n,by omega,m⟩ (cz r i)),(by rw[s,List.take_of_length_le S])⟩
 have j:=cX z
 refine rV 7 rfl ?_
 obtain⟨an,aI,_,L,⟨c,aJ,az,⟨aE,aK,aH,aM,aG,aw⟩,aF,av⟩,y,⟨ag,aq,af,ap,_,rfl,W,ac,U,ab,⟨am,au,rfl,X,p⟩⟩,Q⟩:=cn dt (aC dt C q) b j
 replace p:=c9.1 p
 (try dsimp only at W ac U ab X p)
 refine vp (a3 L rfl rfl j hk) rfl (vp (cl rfl Q rfl) rfl (rL 9 rfl ?_))
 refine be (NC (dp ⟨o,n,by omega,m⟩ (cz r i)) c) ji rfl rfl ?_
 rintro _ ⟨J,rfl,F⟩
 refine rL 3 rfl ?_
 cases A:(J)
 refine rV 5 rfl ?_
 refine et fy rfl ?_
 intro ay x E R
 refine gO ?_
 refine j4 (news:=[.string c]) gY rfl rfl (cd rfl R) (fun h=>by cases h) (fun u hu=>bT.one (show b7 x c [_] from rfl) u hu) (n1:=(a++ [c]).length) (by(try simp only[ll])<;>omega) (by simp;omega) rfl rfl ?_
 intro I K t D M N O P
 have Y:aL b7 t (a++ [c]) (f++ [.string c]):=bg bT D (c6 (bg bT E i) (c4 (show b7 x c [_] from rfl)))
 refine rL 5 rfl (vp (bA rfl rfl (by omega)) rfl (rL 2 rfl ?_))
 refine dR (t,b+1,(a++ [c]),(f++ [.string c]),I,K) rfl rfl [1] rfl ?_ ?_
 exact⟨q.trans (ai E D),⟨Y,P,M,N,O⟩,by omega,by simp;omega,by rw[uL j,←y,←s];simp[←F,A]⟩
 (try dsimp only);omega
 refine rV 5 rfl (vp (bA rfl rfl (by omega)) rfl (rL 2 rfl ?_))
 refine dR (d,b+1,a,f,g,e) rfl rfl [1] rfl ?_ ?_
 exact⟨q.trans sR,⟨i,r,o,n,m⟩,by omega,by omega,by rw[uL j,←y,←s];simp[←F,A]⟩
 (try dsimp only);omega
end Go.Proofs.YthnogncknmhgoaaGreat.Vm
namespace Go.Proofs.YthnogncknmhgoaaGreat.Vm
open ChangeShapes WideShapes ChangeAt RowKit bq Data Mo
variable{eN:Exit}{aJ:Hx}{aj:LV}{ct:List (List Int)}{ly:List Bool}{cC:List Int}{gb:List Oper}{ae ao aX eO:Nat}{aA:OA}{fV iI:bU}{cW:Type}{aH:TypeId}{az:Vl}{ah:Wd}
theorem mP:c7 159 4 1:=by unfold c7;kernel_rfl
def mf {α:Type} (P:World→α→List Value→Prop) (size:Nat) (R:World) (l:List α) (c:List Value):Prop:=∃v,c=[v]∧a6 P size R v l
theorem jw{P:Wd→cW→LV→Prop}(E:eR P ae):eR (mf P ae) 1:=by
 refine⟨fun h d=> ?_,fun h=> ?_,fun h u hu=> ?_⟩
 ·obtain⟨v,a,A,cap,b,h3,c⟩:=h;exact⟨v,a,A,cap,b,h3,aC E c d⟩
 ·obtain⟨v,rfl,-⟩:=h;rfl
 ·obtain⟨v,rfl,A,cap,rfl,-⟩:=h
  rw[List.mem_singleton] at hu;subst hu;rfl
def sn (_:World) (b:Bool) (c:List Value):Prop:=c=[.bool b]
theorem oQ:eR sn 1:=⟨fun h _=>h,fun h=>by rw[show _=_ from h];rfl,fun h u hu=>by rw[show _=_ from h,List.mem_singleton] at hu;subst hu;rfl⟩
theorem DG{R:Wd}:∀l:List Bool,aL sn R l (l.map Value.bool)
 |[]=>rfl
 |a::l=>⟨[.bool a],l.map Value.bool,rfl,rfl,DG l⟩
theorem yn{i n:Nat}(a:ly.length=n)(h:i<n):(ly.map Value.bool)[0+i*1]?=some (.bool (ly.getD i false)):=by
 rw[Nat.zero_add,Nat.mul_one,List.getElem?_map,List.getElem?_eq_getElem (by omega),List.getD_eq_getElem?_getD,List.getElem?_eq_getElem (by omega)]
 rfl
theorem DH{i n:Nat}(b:ly.length=n)(h:i<n)(u:Bool):(ly.map Value.bool).take (0+i*1)++(Value.bool u).cells.toList++(ly.map Value.bool).drop (0+i*1+1)=(ly.set i u).map Value.bool:=by
 rw[Nat.zero_add,Nat.mul_one,List.map_set]
 exact(List.set_eq_take_append_cons_drop (l:=ly.map Value.bool) (i:=i) (a:=Value.bool u)|>.trans (by rw[if_pos (by rw[List.length_map];omega)];simp[Value.cells])).symm
theorem DI(n:Nat):ht n [.bool false]=(List.replicate n false).map Value.bool:=by
 unfold ht
 refine List.ext_getElem (by simp) fun i a b=> ?_
 simp[Nat.mod_one]
section
variable{C:eF}{Q:Exit→Act→Wd→Prop}{S:St}{R:Wd}{X:Hx}
theorem oR{cs:LV}(b:X.H ae=some (.cells cs.toArray aH (0,0)))(k:Sub R (add R ae cs)→(∀j u,cs[j]?=some u→(add R ae cs).cell? ⟨ae,j,none⟩=some u)→DX C Q eN S (add R ae cs) ⟨X.K,gy X.H ae⟩):DX C Q eN S R X:=fun ad a W h=>k (fun x o u hu=>by
 rw[hO]
 by_cases eN:x=ae
 ·subst eN;rw[h.own.b9 x (by rw[b];simp) o] at hu;cases hu
 ·rw[if_neg eN];exact hu) (fun j u hu=>by rw[hO,if_pos rfl];exact hu) ad a W (h.CE b)
end
theorem NE{b n:Nat}(c:ly.length=n)(d:n≤490000000)(a:∀j u,(ly.map Value.bool)[j]?=some u→ah.cell? ⟨b,j,none⟩=some u):a6 sn 1 ah (.slice (some ⟨b,0,none⟩) n n) ly:=by
 subst c
 exact⟨_,_,rfl,⟨Nat.le_refl _,by omega,d,fun h=>by cases h⟩,cz (cd (by simp) a) (DG ly)⟩
theorem DJ:p8 159 4 [.bool false]:=by
 have h:(prog.info? 4).map (fun i=>(i.size,i.bytes))=some (1,1):=by kernel_rfl
 cases e:prog.info? 4 with
 |none=>rw[e] at h;cases h
 |some i=>
  rw[e] at h
  simp only[Option.map_some,Option.some.injEq,Prod.mk.injEq] at h
  exact⟨i,.bool false,by kernel_rfl,e,h.1,by rw[h.2];decide,fun W=>by rfl,by rfl⟩
theorem NF(h:a6 (mf dU 1) 1 ah az ct)(g:Int):cJ 67 [az,zI g] [] ah aJ (ic aJ fun u R'=>∃bs:List Bool,a6 sn 1 R' u bs∧bs.length=ct.length):=by
 obtain⟨U,Z,rfl,O,R⟩:=h
 have s:ct.length≤490000000:=O.2.2.1
 refine eh func67 rfl ntmps67 rfl fun w G ad=> ?_
 refine cG 9 rfl ?_
 refine rW (n:=ct.length) DJ (by decide) rfl rfl s rfl ?_
 rintro b W _ z rfl
 rw[DI]
 have f:(List.replicate ct.length false).length=ct.length:=List.length_replicate
 generalize hbs:List.replicate ct.length false=bs0 at f
 refine an 9 rfl ?_
 cases B:(decide (g<0))
 have ai:=of_decide_eq_false B
 refine an 7 rfl ?_
 cases E:(decide (g≥((ct.length:Nat):Int)))
 have al:=of_decide_eq_false E
 refine aE 8 rfl (xp (bA rfl rfl (by omega)) rfl (an 4 rfl ?_))
 refine eA (ι:=Nat×(List Bool)) [0,1,4,5,23] 0 rfl (fun(r,e)=>(⟨[(24,.val (zI (r:Nat)))],[],[]⟩,ah,⟨aJ.K,aQ aJ.H b (.cells (e.map Value.bool).toArray 4 (0,0))⟩,r≤ct.length+1∧e.length=ct.length,ct.length+1 -r)) (0,bs0) rfl rfl rfl [] rfl ?_ ?_
 exact⟨b2 _,f⟩
 rintro⟨r,e⟩ ⟨_,f⟩
 show VX _ _ _ ⟨_,_,_⟩ ah ⟨aJ.K,aQ aJ.H b (.cells (e.map Value.bool).toArray 4 (0,0))⟩
 refine aE 6 rfl ?_
 cases F:(decide (((r:Nat):Int)<((ct.length+1:Nat):Int)))
 refine aE 13 rfl ?_
 refine oR (cs:=e.map Value.bool) (b0 _ _ _) fun T t=> ?_
 refine ww 3 ?_
 rotate_left
 have ag:=cX F
 refine aE 13 rfl ?_
 refine eA (ι:=Nat×(List Bool)) [0,1,4,5,23,24,27] 0 rfl (fun(i,a)=>(⟨[(28,.val (zI (i:Nat)))],[],[]⟩,ah,⟨aJ.K,aQ aJ.H b (.cells (a.map Value.bool).toArray 4 (0,0))⟩,i≤ct.length∧a.length=ct.length,ct.length -i)) (0,e) rfl rfl rfl [] rfl ?_ ?_
 exact⟨b2 _,f⟩
 rintro⟨i,a⟩ ⟨_,o⟩
 show VX _ _ _ ⟨_,_,_⟩ ah ⟨aJ.K,aQ aJ.H b (.cells (a.map Value.bool).toArray 4 (0,0))⟩
 refine aE 6 rfl ?_
 cases I:(decide (((i:Nat):Int)<((ct.length:Nat):Int)))
 refine aE 8 rfl (xp (bA rfl rfl (by omega)) rfl (an 2 rfl ?_))
 refine dI (r+1,a) rfl rfl rfl [] rfl ?_ ?_
 exact⟨by omega,o⟩
 show ct.length+1 -(r+1)<ct.length+1 -r;omega
 have p:=cX I
 refine aE 18 rfl ?_
 cases J:(((i:Nat):Int) !=g)
 have am:((i:Nat):Int)=g:=by simpa using J
 refine an 15 rfl (ww 1 ?_)
 rotate_left
 refine an 2 rfl (eX rfl rfl rfl (xp (a3 rfl rfl rfl p mP) rfl (eX rfl rfl rfl (bz (bw (cs:=a.map Value.bool) (u:= .bool (a.getD i false)) rfl (.inr (b0 _ _ _)) mu (yn o p)) rfl (an 4 rfl ?_)))))
 cases af:(a.getD i false)
 refine aE 6 rfl (xp (bA rfl rfl (by omega)) rfl (an 2 rfl ?_))
 refine dI (i+1,a) rfl rfl rfl [] rfl ?_ ?_
 exact⟨by omega,o⟩
 show ct.length -(i+1)<ct.length -i;omega
 refine aE 7 rfl (ww 1 ?_)
 rotate_left
 refine aE 9 rfl (ww 2 ?_)
 rotate_left
 refine an 16 rfl (ww 2 ?_)
 rotate_left
 any_goals
  refine uw 1 ?_
  obtain⟨X,ao,_,x,d,_,⟨_,rfl,V,aa,rfl,P,S⟩,M⟩:=cn (jw cP) R i p
  refine xp (a3 x rfl rfl p kn) rfl (xp (dT rfl kT (M 0 _ rfl)) rfl (an 5 rfl ?_))
  refine eA (ι:=Nat×(List Bool)) [0,1,4,5,23,24,27,28,44,45] 0 rfl (fun(j,c)=>(⟨[(46,.val (zI (j:Nat)))],[],[]⟩,ah,⟨aJ.K,aQ aJ.H b (.cells (c.map Value.bool).toArray 4 (0,0))⟩,j≤d.length∧c.length=ct.length,d.length -j)) (0,a) rfl rfl rfl [] rfl ?_ ?_
  exact⟨b2 _,o⟩
  rintro⟨j,c⟩ ⟨_,k⟩
  show VX _ _ _ ⟨_,_,_⟩ ah ⟨aJ.K,aQ aJ.H b (.cells (c.map Value.bool).toArray 4 (0,0))⟩
  have ae:d.length≤490000000:=P.2.2.1
  refine aE 6 rfl ?_
  cases L:(decide (((j:Nat):Int)<((d.length:Nat):Int)))
  refine aE 8 rfl (xp (bA rfl rfl (by omega)) rfl (an 2 rfl ?_))
  refine dI (i+1,c) rfl rfl rfl [] rfl ?_ ?_
  exact⟨by omega,k⟩
  show ct.length -(i+1)<ct.length -i;omega
  have v:=cX L
  refine aE 7 rfl ?_
  obtain⟨Y,ap,ab,y,m,ac,A,N⟩:=cn cP S j v
  obtain rfl:=A
  refine xp (a3 y rfl rfl v gE) rfl (xp (dT rfl bG (N 0 _ rfl)) rfl (an 8 rfl ?_))
  cases C:(decide (m≥0))
  refine an 12 rfl (xp (bA rfl rfl (by omega)) rfl (an 2 rfl (ww 4 ?_)))
  rotate_left
  have aj:=of_decide_eq_true C
  refine an 7 rfl ?_
  cases D:(decide (m<((ct.length:Nat):Int)))
  refine aE 5 rfl (xp (bA rfl rfl (by omega)) rfl (an 2 rfl (ww 4 ?_)))
  rotate_left
  have ak:=of_decide_eq_true D
  refine aE 1 rfl ?_
  obtain⟨l,Q⟩:∃l:Nat,m=(l:Int):=⟨m.toNat,by omega⟩
  have q:l<ct.length:=by omega
  rw[Q]
  refine aE 3 rfl (xp (a3 rfl rfl rfl q mP) rfl ?_)
  refine rX (cs:=c.map Value.bool) ((c.set l true).map Value.bool) rfl rfl (b0 _ _ _) mu rfl (by rw[List.length_map,k];have:=q;omega) rfl (DH k q _) ?_
  rintro _ rfl
  simp only[iM]
  refine an 4 rfl (xp (bA rfl rfl (by omega)) rfl (an 2 rfl ?_))
  refine dI (j+1,(c.set l true)) rfl rfl rfl [] rfl ?_ ?_
  exact⟨by omega,(by rw[List.length_set,k])⟩
  show d.length -(j+1)<d.length -j;omega
 any_goals
  refine uw 2 ?_
  refine oR (cs:=bs0.map Value.bool) (b0 _ _ _) fun T t=> ?_
  refine ww 3 ?_
  rotate_left
 any_goals
  refine uw 3 ?_
  rw[j8 _ _ z]
  exact dm results67 (aT rfl) ⟨rfl,rfl,_,rfl,_,NE f s t,f⟩
 any_goals
  refine uw 4 ?_
  refine dI (j+1,c) rfl rfl rfl [] rfl ?_ ?_
  exact⟨by omega,k⟩
  show d.length -(j+1)<d.length -j;omega
theorem uM:cr 159 false 1:=by unfold cr;kernel_rfl
theorem so:c7 158 159 1:=by unfold c7;kernel_rfl
theorem NG:dO 158 159 1 24:=by unfold dO;kernel_rfl
theorem NH:aF 67:=by unfold aF;kernel_rfl
section
variable{C:eF}{ops:Array Oper}{Q:Exit→Act→Wd→Prop}{rest:List Oper}{sl:List (Nat×AV)}{bx:List Bx}{rw:List bU}{R:Wd}{X:Hx}{d:Nat}{ty:TypeId}{pos:String}{af:Array Edge}
theorem sp{x y:Operand}{n:Nat}{m c:Nat}{news:LV}(i:dO ae ao aX eO)(o:ev ⟨sl,bx,⟨az,n,aj,ao,aX⟩::rw⟩ x=some (.val az))(p:ev ⟨sl,bx,⟨az,n,aj,ao,aX⟩::rw⟩ y=some (.val (.slice aA m c)))
 (l:Src R aX aA m news) (f:aA=none→c=0) (b:∀u∈news,u.oneCell'=true) {n1:Nat} (j:n1=n+m) (e:n1≤1000000000) (g:Nat.ble eO 100000=true) (h:Nat.blt d C.N=true)
 (k:∀a cap R',Sub R R'→n1≤cap→cap≤9223372036854775807→(a=none→cap=0)→Src R' aX a (n1) (aj++news)→
   bN C ops Q rest ⟨(d,.val (.slice a (n1) cap))::sl,bx,⟨.slice a (n1) cap,n1,aj++news,ao,aX⟩::rw⟩ R' X):
 bN C ops Q (⟨some d,.call {callee:= .builtin .append,args:=#[x,y],argTypes:=#[ae,ae]},ty,pos,af,none⟩::rest) ⟨sl,bx,⟨az,n,aj,ao,aX⟩::rw⟩ R X:=by
 subst j
 exact jH i o p l f b e g h k
theorem yo(k:bN C ops Q gb ⟨sl,bx,iI::fV::rw⟩ R X):bN C ops Q gb ⟨sl,bx,fV::iI::rw⟩ R X:=lZ _ (List.Perm.swap _ _ _) k
end
def yp (n:Nat) (R:World) (bs:List Bool) (c:List Value):Prop:=mf sn 1 R bs c∧bs.length=n
theorem oS(n:Nat):eR (yp n) 1:=⟨fun h a=>⟨(jw oQ).sub h.1 a,h.2⟩,fun h=>(jw oQ).len h.1,fun h=>(jw oQ).one h.1⟩
def jT (n:Nat) (g:List Int):Prop:=(∀x∈g,0≤x∧x<(n:Int))∧g.Nodup
theorem NI(h:jT ae cC):jT (ae+1) (cC++ [(ae:Int)]):=by
 refine⟨fun x c=> ?_,?_⟩
 ·rcases fM.1 c with c|c
  ·have:=h.1 x c;omega
  ·rw[List.mem_singleton] at c;omega
 ·rw[List.nodup_append]
  refine⟨h.2,by simp,fun a d b f e=> ?_⟩
  rw[List.mem_singleton] at f
  have:=h.1 a d
  omega
theorem DK{k n:Nat}(h:jT k cC)(b:k≤n):jT n cC:=⟨fun x a=>by have:=h.1 x a;omega,h.2⟩
theorem NJ{n:Nat}(h:∀x∈ct,jT n x)(b:jT n cC):∀x∈ct++ [cC],jT n x:=fun x a=>by
 rcases fM.1 a with a|a
 ·exact h x a
 ·rw[List.mem_singleton] at a;rw[a];exact b
theorem NK(h:a6 (mf dU 1) 1 ah az ct)(dh:ct.length≤1000000):cJ 34 [az] [] ah aJ (ic aJ fun u R'=>∃gs:List (List Int),a6 (mf dU 1) 1 R' u gs∧gs.length≤ct.length∧∀g∈gs,jT ct.length g):=by
 have cQ:=h
 obtain⟨cj,cB,rfl,aU,b6⟩:=h
 have bS:ct.length≤490000000:=aU.2.2.1
 refine eh func34 rfl ntmps34 rfl fun w G ad=> ?_
 refine cG 26 rfl ?_
 refine lg 159 1 ?_
 refine eA (ι:=Wd×Nat×(List (List Bool))×LV×OA×Nat) [0,2,3,18] 0 rfl (fun(C,F,d,v,y,t)=>(⟨[(4,.val (.slice y d.length t)),(19,.val (zI (F:Nat)))],[],[⟨.slice y d.length t,d.length,v,159,1⟩]⟩,C,aJ,Sub ah C∧(aL (yp ct.length) C d v∧Src C 1 y d.length v∧d.length≤t∧t≤9223372036854775807∧(y=none→t=0))∧F≤ct.length∧True∧(d.length=F),ct.length -F)) (ah,0,[],[],none,0) rfl rfl rfl [1] rfl ?_ ?_
 exact⟨sR,⟨gr,⟨rfl,.inl rfl⟩,a9 _,by decide,fun _=>rfl⟩,b2 _,trivial,(rfl)⟩
 rintro⟨C,F,d,v,y,t⟩ ⟨bb,⟨aw,bc,dc,c0,_⟩,c8,_,dj⟩
 show VX _ _ _ ⟨_,_,_⟩ C aJ
 refine aE 6 rfl ?_
 cases aM:(decide (((F:Nat):Int)<((ct.length:Nat):Int)))
 have c1:=cS aM
 refine aE 9 rfl ?_
 refine rW (n:=ct.length) DJ (by decide) rfl rfl bS rfl ?_
 rintro b cr _ br rfl
 rw[DI]
 have aX:(List.replicate ct.length false).length=ct.length:=List.length_replicate
 generalize hbs:List.replicate ct.length false=bs0 at aX
 refine an 16 rfl ?_
 refine lg 51 1 ?_
 refine gi _ (List.Perm.swap _ _ _) ?_
 refine gi _ (List.Perm.swap _ _ _) ?_
 refine eA (ι:=Wd×Nat×(List (List Int))×LV×OA×Nat×(List Bool)) [2,3,4,6,31] 0 rfl (fun(D,A,r,T,L,J,N)=>(⟨[(7,.val (.slice L r.length J)),(32,.val (zI (A:Nat)))],[],[⟨.slice L r.length J,r.length,T,51,1⟩,⟨.slice y d.length t,d.length,v,159,1⟩]⟩,D,⟨aJ.K,aQ aJ.H b (.cells (N.map Value.bool).toArray 4 (0,0))⟩,Sub C D∧(aL (mf dU 1) D r T∧Src D 1 L r.length T∧r.length≤J∧J≤9223372036854775807∧(L=none→J=0))∧A≤ct.length∧True∧(r.length≤A∧∀g∈r,jT ct.length g)∧N.length=ct.length,ct.length -A)) (C,0,[],[],none,0,bs0) rfl rfl rfl [1,1] rfl ?_ ?_
 exact⟨sR,⟨gr,⟨rfl,.inl rfl⟩,a9 _,by decide,fun _=>rfl⟩,b2 _,trivial,(⟨a9 _,fun g bT=>by cases bT⟩),aX⟩
 rintro⟨D,A,r,T,L,J,N⟩ ⟨aj,⟨aR,bd,aY,aP,aK⟩,da,_,cg,b5⟩
 obtain⟨c7,aS⟩:=cg
 show VX _ _ _ ⟨_,_,_⟩ D ⟨aJ.K,aQ aJ.H b (.cells (N.map Value.bool).toArray 4 (0,0))⟩
 refine aE 6 rfl ?_
 cases aN:(decide (((A:Nat):Int)<((ct.length:Nat):Int)))
 have c2:=cS aN
 refine aE 13 rfl ?_
 refine oR (cs:=N.map Value.bool) (b0 _ _ _) fun b9 db=> ?_
 rw[j8 _ _ br]
 exact dm results34 (aT rfl) ⟨rfl,rfl,_,rfl,_,dp ⟨aY,aP,by(try simp only[ll]);omega,aK⟩ (aC (jw cP) (cz bd aR) b9),by(try simp only[ll]);omega,aS⟩
 have dg:=cX aN
 refine aE 11 rfl ?_
 refine gi _ (List.Perm.swap _ _ _) ?_
 refine gi _ (List.Perm.swap _ _ _) ?_
 refine eA (ι:=Wd×Nat×(List (List Int))×LV×OA×Nat×(List Bool)) [2,3,4,6,31,32] 0 rfl (fun(l,j,Lx,p,q,o,s)=>(⟨[(7,.val (.slice q Lx.length o)),(8,.val (zI (j:Nat)))],[],[⟨.slice q Lx.length o,Lx.length,p,51,1⟩,⟨.slice y d.length t,d.length,v,159,1⟩]⟩,l,⟨aJ.K,aQ aJ.H b (.cells (s.map Value.bool).toArray 4 (0,0))⟩,Sub D l∧(aL (mf dU 1) l Lx p∧Src l 1 q Lx.length p∧Lx.length≤o∧o≤9223372036854775807∧(q=none→o=0))∧j≤ct.length∧True∧(Lx.length≤A∧∀g∈Lx,jT ct.length g)∧s.length=ct.length,ct.length -j)) (D,0,r,T,L,J,N) rfl rfl rfl [1,1] rfl ?_ ?_
 exact⟨sR,⟨aR,bd,aY,aP,aK⟩,Nat.zero_le _,trivial,(⟨by(try simp only[ll]);omega,aS⟩),b5⟩
 rintro⟨l,j,Lx,p,q,o,s⟩ ⟨O,⟨X,aB,ax,av,ap⟩,_,_,ce,aa⟩
 obtain⟨c3,Z⟩:=ce
 show VX _ _ _ ⟨_,_,_⟩ l ⟨aJ.K,aQ aJ.H b (.cells (s.map Value.bool).toArray 4 (0,0))⟩
 refine aE 8 rfl ?_
 cases bM:(decide (((j:Nat):Int)<((ct.length:Nat):Int)))
 refine aE 8 rfl (xp (bA rfl rfl (by omega)) rfl (an 2 rfl ?_))
 refine dI (l,A+1,Lx,p,q,o,s) rfl rfl rfl [1,1] rfl ?_ ?_
 exact⟨aj.trans O,⟨X,aB,ax,av,ap⟩,by omega,trivial,⟨by(try simp only[ll]);omega,Z⟩,aa⟩
 (try dsimp only);omega
 have a0:=cX bM
 refine aE 10 rfl (xp (a3 rfl rfl rfl a0 mP) rfl (bz (bw (cs:=s.map Value.bool) (u:= .bool (s.getD j false)) rfl (.inr (b0 _ _ _)) mu (yn aa a0)) rfl (an 2 rfl ?_)))
 cases cT:(s.getD j false)
 refine aE 20 rfl ?_
 refine lg 3 1 ?_
 refine gi _ ((List.Perm.swap _ _ _).trans (List.Perm.cons _ (List.Perm.swap _ _ _))) ?_
 refine gi _ ((List.Perm.swap _ _ _).trans (List.Perm.cons _ (List.Perm.swap _ _ _))) ?_
 refine gi _ ((List.Perm.swap _ _ _).trans (List.Perm.cons _ (List.Perm.swap _ _ _))) ?_
 refine eA (ι:=Wd×Bool×Nat×(List Int)×LV×OA×Nat×(List Bool)) [2,3,4,6,7,8,31,32] 0 rfl (fun(m,P,c,a,B,k,i,f)=>(⟨[(9,.val (.slice k a.length i)),(10,.val (.bool P)),(11,.val (zI (c:Nat)))],[],[⟨.slice k a.length i,a.length,B,3,1⟩,⟨.slice q Lx.length o,Lx.length,p,51,1⟩,⟨.slice y d.length t,d.length,v,159,1⟩]⟩,m,⟨aJ.K,aQ aJ.H b (.cells (f.map Value.bool).toArray 4 (0,0))⟩,Sub l m∧(aL dU m a B∧Src m 1 k a.length B∧a.length≤i∧i≤9223372036854775807∧(k=none→i=0))∧c≤ct.length∧True∧(jT c a∧a.length≤c)∧f.length=ct.length,ct.length -c)) (l,true,0,[],[],none,0,s) rfl rfl rfl [1,1,1] rfl ?_ ?_
 exact⟨sR,⟨gr,⟨rfl,.inl rfl⟩,a9 _,by decide,fun _=>rfl⟩,b2 _,trivial,(⟨⟨fun x cc=>(by cases cc),List.nodup_nil⟩,a9 _⟩),aa⟩
 rintro⟨m,P,c,a,B,k,i,f⟩ ⟨z,⟨Q,ag,ac,W,V⟩,c9,_,cf,R⟩
 obtain⟨Y,c5⟩:=cf
 show VX _ _ _ ⟨_,_,_⟩ m ⟨aJ.K,aQ aJ.H b (.cells (f.map Value.bool).toArray 4 (0,0))⟩
 refine aE 8 rfl ?_
 cases aO:(decide (((c:Nat):Int)<((ct.length:Nat):Int)))
 have bX:=cS aO
 refine aE 11 rfl ?_
 cases cZ:(P)
 refine aE 6 rfl (xp (bA rfl rfl (by omega)) rfl (an 2 rfl ?_))
 refine dI (m,j+1,Lx,p,q,o,f) rfl rfl rfl [0,1,1] rfl ?_ ?_
 exact⟨O.trans z,⟨bg (jw cP) z X,eL aB z,ax,av,ap⟩,by omega,trivial,⟨by(try simp only[ll]);omega,Z⟩,R⟩
 (try dsimp only);omega
 refine aE 10 rfl ?_
 refine gi _ ((List.Perm.swap _ _ _).trans (List.Perm.cons _ (List.Perm.swap _ _ _))) ?_
 refine gi _ ((List.Perm.swap _ _ _).trans (List.Perm.cons _ (List.Perm.swap _ _ _))) ?_
 refine gi _ ((List.Perm.swap _ _ _).trans (List.Perm.cons _ (List.Perm.swap _ _ _))) ?_
 have cR:a.length≤490000000:=(show cF _ a.length _ from⟨ac,W,by(try simp only[ll]);omega,V⟩).2.2.1
 refine eA (ι:=Nat×(List Bool)) [2,3,4,6,7,8,9,31,32,89,90] 0 rfl (fun(I,E)=>(⟨[(91,.val (zI (I:Nat)))],[],[⟨.slice k a.length i,a.length,B,3,1⟩,⟨.slice q Lx.length o,Lx.length,p,51,1⟩,⟨.slice y d.length t,d.length,v,159,1⟩]⟩,m,⟨aJ.K,aQ aJ.H b (.cells (E.map Value.bool).toArray 4 (0,0))⟩,I≤a.length∧E.length=ct.length,a.length -I)) (0,f) rfl rfl rfl [1,1,1] rfl ?_ ?_
 exact⟨b2 _,R⟩
 rintro⟨I,E⟩ ⟨_,ab⟩
 show VX _ _ _ ⟨_,_,_⟩ m ⟨aJ.K,aQ aJ.H b (.cells (E.map Value.bool).toArray 4 (0,0))⟩
 refine aE 6 rfl ?_
 cases bO:(decide (((I:Nat):Int)<((a.length:Nat):Int)))
 refine aE 10 rfl ?_
 refine fc kn rfl ?_
 intro cO co af bW
 refine lZ _ ((List.Perm.swap _ _ _).trans (List.Perm.cons _ (List.Perm.swap _ _ _))) ?_
 refine sp (news:=[.slice k a.length i]) sb rfl rfl (cd rfl bW) (fun h=>by cases h) (fun u hu=>(jw cP).one ⟨_,rfl,dp ⟨ac,W,by(try simp only[ll]);omega,V⟩ (aC cP (cz ag Q) af)⟩ u hu) (n1:=(Lx++ [a]).length) (by(try simp only[ll])<;>omega) (by(try simp only[ll]);omega) rfl rfl ?_
 intro bf bj aG a8 bI bJ bK bL
 have b4:aL (mf dU 1) aG (Lx++ [a]) (p++ [.slice k a.length i]):=bg (jw cP) a8 (c6 (bg (jw cP) (ai z af) X) (c4 ⟨_,rfl,dp ⟨ac,W,by(try simp only[ll]);omega,V⟩ (aC cP (cz ag Q) af)⟩))
 have bZ:=NJ Z (DK Y (show c≤ct.length by omega))
 refine an 11 rfl (xp (bA rfl rfl (by omega)) rfl (an 2 rfl ?_))
 refine dI (aG,A+1,(Lx++ [a]),(p++ [.slice k a.length i]),bf,bj,E) rfl rfl rfl [1,0,0,1] rfl ?_ ?_
 exact⟨aj.trans (ai (ai (ai O z) af) a8),⟨b4,bL,bI,bJ,bK⟩,by omega,trivial,⟨by(try simp only[ll]);omega,bZ⟩,ab⟩
 (try dsimp only);omega
 have ay:=cX bO
 refine aE 7 rfl ?_
 obtain⟨cA,dr,cI,bp,U,bq,bu,bR⟩:=cn cP (cz ag Q) I ay
 obtain rfl:=bu
 refine xp (a3 bp rfl rfl ay gE) rfl (xp (dT rfl bG (bR 0 _ rfl)) rfl (an 3 rfl ?_))
 have bY:0≤U∧U<(ct.length:Int):=by have bm:=(Y.1 _ (List.getElem_mem (n:=I) ay));rw[←bq] at bm;have:=bX;omega
 obtain⟨S,aW⟩:∃S:Nat,U=(S:Int):=⟨U.toNat,by omega⟩
 rw[aW]
 rw[aW] at bY
 have aA:S<ct.length:=by omega
 refine aE 3 rfl (xp (a3 rfl rfl rfl aA mP) rfl ?_)
 refine rX (cs:=E.map Value.bool) ((E.set S true).map Value.bool) rfl rfl (b0 _ _ _) mu rfl (by rw[List.length_map,ab];have:=aA;omega) rfl (DH ab aA _) ?_
 rintro _ rfl
 simp only[iM]
 refine an 4 rfl (xp (bA rfl rfl (by omega)) rfl (an 2 rfl ?_))
 refine dI (I+1,(E.set S true)) rfl rfl rfl [1,1,1] rfl ?_ ?_
 exact⟨by omega,(by rw[List.length_set,ab])⟩
 (try dsimp only);omega
 have a1:=cX aO
 refine aE 11 rfl ?_
 cases bN:(((c:Nat):Int)==((j:Nat):Int))
 refine an 2 rfl (eX rfl rfl rfl ?_)
 obtain⟨cv,dk,_,am,cK,_,⟨⟨_,rfl,ck,cC,rfl,_,b7⟩,dd⟩,ar⟩:=cn (oS ct.length) (aC (oS ct.length) (cz bc aw) (ai (ai aj O) z)) j (by omega)
 refine xp (a3 am rfl rfl (by omega) so) rfl (eX rfl rfl rfl (xp (dT rfl uM (ar 0 _ rfl)) rfl (an 1 rfl (eX rfl rfl rfl ?_))))
 obtain⟨cw,dl,cE,ao,aI,_,bs,au⟩:=cn oQ b7 c (by omega)
 obtain rfl:=bs
 refine xp (a3 ao rfl rfl (by omega) mP) rfl (eX rfl rfl rfl (xp (dT rfl mu (au 0 _ rfl)) rfl (an 1 rfl ?_)))
 cases cU:(aI)
 refine an 22 rfl (xp (a3 am rfl rfl (by omega) so) rfl (xp (dT rfl uM (ar 0 _ rfl)) rfl (an 1 rfl (xp (a3 ao rfl rfl (by omega) mP) rfl (xp (dT rfl mu (au 0 _ rfl)) rfl (an 1 rfl (ww 1 ?_)))))))
 rotate_left
 refine an 2 rfl (eX rfl rfl rfl ?_)
 obtain⟨cx,dn,_,bn,cL,_,⟨⟨_,rfl,cl,cD,rfl,_,b8⟩,de⟩,bP⟩:=cn (oS ct.length) (aC (oS ct.length) (cz bc aw) (ai (ai aj O) z)) c (by omega)
 refine xp (a3 bn rfl rfl (by omega) so) rfl (eX rfl rfl rfl (xp (dT rfl uM (bP 0 _ rfl)) rfl (an 1 rfl (eX rfl rfl rfl ?_))))
 obtain⟨cy,dq,cH,bo,bl,_,bt,bQ⟩:=cn oQ b8 j (by omega)
 obtain rfl:=bt
 refine xp (a3 bo rfl rfl (by omega) mP) rfl (eX rfl rfl rfl (xp (dT rfl mu (bQ 0 _ rfl)) rfl (an 10 rfl ?_)))
 cases cV:(bl)
 refine aE 5 rfl (xp (a3 am rfl rfl (by omega) so) rfl (xp (dT rfl uM (ar 0 _ rfl)) rfl (an 1 rfl (xp (a3 ao rfl rfl (by omega) mP) rfl (xp (dT rfl mu (au 0 _ rfl)) rfl (an 1 rfl (ww 1 ?_)))))))
 rotate_left
 refine aE 4 rfl (ww 2 ?_)
 rotate_left
 have di:=cb bN
 refine an 29 rfl (ww 2 ?_)
 rotate_left
 refine aE 7 rfl (xp (bA rfl rfl (by omega)) rfl (an 2 rfl ?_))
 refine dI (l,j+1,Lx,p,q,o,s) rfl rfl rfl [1,1] rfl ?_ ?_
 exact⟨O.trans sR,⟨X,aB,ax,av,ap⟩,by omega,trivial,⟨by(try simp only[ll]);omega,Z⟩,aa⟩
 (try dsimp only);omega
 have df:=cX aM
 refine aE 15 rfl ?_
 refine dP (NF (dp aU (aC (jw cP) b6 bb)) ((F:Nat):Int)) NH rfl rfl ?_ ?_
 rintro dt ci cp cq ba -⟨rfl,aq,ds,e,ca⟩
 cases e
 replace aq:=aq.symm
 subst aq
 obtain⟨M,⟨ak,al,rfl,aV,a2⟩,aZ⟩:=ca
 refine fc so rfl ?_
 intro cN cm ae bV
 refine yo ?_
 refine sp (news:=[.slice ak M.length al]) NG rfl rfl (cd rfl bV) (fun h=>by cases h) (fun u hu=>(oS ct.length).one ⟨⟨_,rfl,dp aV (aC oQ a2 ae)⟩,aZ⟩ u hu) (n1:=(d++ [M]).length) (by(try simp only[ll])<;>omega) (by(try simp only[ll]);omega) rfl rfl ?_
 intro bh bk aH a4 bv bx bB bC
 have b1:aL (yp ct.length) aH (d++ [M]) (v++ [.slice ak M.length al]):=bg (oS ct.length) a4 (c6 (bg (oS ct.length) (ai ba ae) aw) (c4 ⟨⟨_,rfl,dp aV (aC oQ a2 ae)⟩,aZ⟩))
 refine an 5 rfl (xp (bA rfl rfl (by omega)) rfl (an 2 rfl ?_))
 refine dI (aH,F+1,(d++ [M]),(v++ [.slice ak M.length al]),bh,bk) rfl rfl rfl [1] rfl ?_ ?_
 exact⟨bb.trans (ai (ai ba ae) a4),⟨b1,bC,bv,bx,bB⟩,by omega,trivial,by(try simp only[ll]);omega⟩
 (try dsimp only);omega
 rintro ch ci l cu _ _ ⟨_,_,_,e,_⟩
 cases e
 any_goals
  refine uw 1 ?_
  cases cW:(aI)
  refine an 14 rfl (xp (bA rfl rfl (by omega)) rfl (an 2 rfl (ww 3 ?_)))
  rotate_left
  refine an 2 rfl (eX rfl rfl rfl (xp (a3 rfl rfl rfl a1 mP) rfl (eX rfl rfl rfl (bz (bw (cs:=f.map Value.bool) (u:= .bool (f.getD c false)) rfl (.inr (b0 _ _ _)) mu (yn R a1)) rfl (an 4 rfl ?_)))))
  cases cY:(f.getD c false)
  refine aE 8 rfl (xp (bA rfl rfl (by omega)) rfl (an 2 rfl ?_))
  refine dI (m,false,c+1,a,B,k,i,f) rfl rfl rfl [1,1,1] rfl ?_ ?_
  refine ww 4 ?_
  rotate_left
  (try dsimp only);omega
  refine aE 6 rfl (xp (bA rfl rfl (by omega)) rfl (an 2 rfl (ww 3 ?_)))
  rotate_left
 any_goals
  refine uw 2 ?_
  refine fc gE rfl ?_
  intro cM aD a5 bU
  refine yo ?_
  refine sp (news:=[zI (c:Nat)]) om rfl rfl (cd rfl bU) (fun h=>by cases h) (fun u hu=>cP.one (show dU aD ((c:Nat):Int) [_] from rfl) u hu) (n1:=(a++ [((c:Nat):Int)]).length) (by(try simp only[ll])<;>omega) (by(try simp only[ll]);omega) rfl rfl ?_
  intro be bi aF a7 bD bE bF bH
  have b3:aL dU aF (a++ [((c:Nat):Int)]) (B++ [zI (c:Nat)]):=bg cP a7 (c6 (bg cP a5 Q) (c4 (show dU aD ((c:Nat):Int) [_] from rfl)))
  refine an 6 rfl (xp (bA rfl rfl (by omega)) rfl (an 2 rfl ?_))
  refine dI (aF,P,c+1,(a++ [((c:Nat):Int)]),(B++ [zI (c:Nat)]),be,bi,f) rfl rfl rfl [1,0,1,1] rfl ?_ ?_
  exact⟨z.trans (ai a5 a7),⟨b3,bH,bD,bE,bF⟩,by omega,trivial,⟨NI Y,by(try simp only[ll]);omega⟩,R⟩
  (try dsimp only);omega
 any_goals
  refine uw 3 ?_
  refine dI (m,P,c+1,a,B,k,i,f) rfl rfl rfl [1,1,1] rfl ?_ ?_
  refine ww 4 ?_
  rotate_left
  (try dsimp only);omega
 any_goals
  refine uw 4 ?_
  exact⟨z.trans sR,⟨Q,ag,ac,W,V⟩,by omega,trivial,⟨DK Y (Nat.le_succ _),by(try simp only[ll]);omega⟩,R⟩
end Go.Proofs.YthnogncknmhgoaaGreat.Vm
