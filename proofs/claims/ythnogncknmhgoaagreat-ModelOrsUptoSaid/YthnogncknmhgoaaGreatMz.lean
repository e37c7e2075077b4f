/- ModelOrs: a choice of two goals has the answers of both. No conditions. -/
import Derived.Test.YthnogncknmhgoaaGreatRows
import Derived.ChangeMaps5
import Derived.Test.YthnogncknmhgoaaGreatM13
import Derived.Test.YthnogncknmhgoaaGreatM12
import Derived.Test.YthnogncknmhgoaaGreatM11
import Derived.Test.YthnogncknmhgoaaGreatM0
set_option linter.all false
set_option maxRecDepth 100000
set_option maxHeartbeats 485000000
open Go.Proofs.Tryz
namespace Go.Proofs.YthnogncknmhgoaaGreat.Vm
open ChangeShapes WideShapes ChangeAt RowKit bq Data Mo
variable{bQ:Array Bool}{c8:Array Operand}{fi:Array TypeId}{aY im:BA}{ca hE:Bool}{aM:Ex}{bk:FuncId}{aJ:Hx}{aj bj:LV}{mO:LV→Wd→Prop}{jS:List (List Int×Ty)}{ct:List (List Int)}{bu:List (Nat×AV)}{ec:List BA}{bD:List Bi}{aS lF:List Bx}{cC:List Int}{aI:List Nat}{gb NM:List Oper}{ue:List PC}{dY:List Rl}{b4 qm D0:List Ty}{ak:Md}{ae ao aX eO:Nat}{dl:Nat→Bool}{gI:Nat→M Unit}{aA:OA}{ga:Option (List (List Int×Ty)×(Nat→Bool))}{ap aW:PS}{nI:Pr}{tm:Prop}{aD:cU}{fV:bU}{bC fC:Ty}{aH:TypeId}{az:Vl}{lU:Vl→LV→List bU→Wd→Prop}{pB:Vl→bU→Wd→Prop}{hF:Vl→Wd→Prop}{ah:Wd}
theorem DL:aF 33:=by unfold aF;kernel_rfl
theorem NL:aF 68:=by unfold aF;kernel_rfl
section
variable{C:eF}{ops:Array Oper}{Q:Exit→Act→Wd→Prop}{rest:List Oper}{S:St}{sl:List (Nat×AV)}{bx:List Bx}{rw:List bU}{R:Wd}{X:Hx}{d:Nat}{ty:TypeId}{pos:String}{af:Array Edge}
theorem yq{P:St→Wd→Prop}(step:∀b:er,b.N=C.N→(∀S' R',P S' R'→VL b ops Q NM S' R')→VL b ops Q gb S R)(f:∀S' R',P S' R'→bN C ops Q NM S' R' X):bN C ops Q gb S R X:=fun ad a W h=>
 step ⟨C.N,W,R,gC ad S.boxes.length S.rows,S.boxes.length,ad⟩ rfl (fun S' R' e d c W' g=>f S' R' e d c W' (h.oq g)) ad a W h.here
theorem DM(i:mA bk aj fV R pB)(f:aF bk)(j:fb ⟨sl,bx,fV::rw⟩ c8 (aj.map .val))(h:Nat.blt d C.N=true)
 (k:∀v a R',Sub R R'→pB v a R'→bN C ops Q rest ⟨(d,.val v)::sl,bx,a::rw⟩ R' X):bN C ops Q (⟨some d,.call {callee:= .value (.func bk),args:=c8,argTypes:=fi},ty,pos,af,none⟩::rest) ⟨sl,bx,fV::rw⟩ R X:=
 yq (P:=fun S' R'=>∃v a,Sub R R'∧pB v a R'∧S'=⟨(d,.val v)::sl,bx,a::rw⟩) (fun m g l=>kC i f j (by rw[g];exact h) fun v a R' b c=>l _ _ ⟨v,a,b,c,rfl⟩) (fun S' R' ⟨v,a,b,c,e⟩=>by rw[e];exact k v a R' b c)
theorem oT{ts rs:List bU}(m:iL bk aj ao bj ts R lU)(g:aF bk)(n:fb ⟨sl,bx,rw⟩ c8 (.ptr ae 0::aj.map .val))
 (j:bx[ae]?=some (ao,bj)) (l:rw=ts++rs) (i:Nat.blt d C.N=true)
 (k:∀v a b R',Sub R R'→lU v a b R'→bN C ops Q rest ⟨(d,.val v)::sl,bx.set ae (ao,a),b++rs⟩ R' X):bN C ops Q (⟨some d,.call {callee:= .value (.func bk),args:=c8,argTypes:=fi},ty,pos,af,none⟩::rest) ⟨sl,bx,rw⟩ R X:=
 yq (P:=fun S' R'=>∃v a b,Sub R R'∧lU v a b R'∧S'=⟨(d,.val v)::sl,bx.set ae (ao,a),b++rs⟩) (fun p h o=>ep m g n j l (by rw[h];exact i) fun v a b R' c f=>o _ _ ⟨v,a,b,c,f,rfl⟩) (fun S' R' ⟨v,a,b,c,f,e⟩=>by rw[e];exact k v a b R' c f)
theorem DN(m:Nat)(i:uJ bk aj ae R mO)(c:aF bk)(j:fb ⟨sl,bx,rw⟩ c8 (aj.map .val))(g:Nat.blt d C.N=true)(h:bx.length=m)
 (k:∀cs R',Sub R R'→mO cs R'→bN C ops Q rest ⟨(d,.ptr m 0)::sl,bx++ [(ae,cs)],rw⟩ R' X):bN C ops Q (⟨some d,.call {callee:= .value (.func bk),args:=c8,argTypes:=fi},ty,pos,af,none⟩::rest) ⟨sl,bx,rw⟩ R X:=
 yq (P:=fun S' R'=>∃cs,Sub R R'∧mO cs R'∧S'=⟨(d,.ptr m 0)::sl,bx++ [(ae,cs)],rw⟩) (fun n f l=>Nr m i c j (by rw[f];exact g) h fun cs R' a b=>l _ _ ⟨cs,a,b,rfl⟩) (fun S' R' ⟨cs,a,b,e⟩=>by rw[e];exact k cs R' a b)
end
abbrev hN:Value:= .slice none 0 0
theorem NO(n:Nat):ht n [hN]=List.replicate n hN:=by
 unfold ht
 refine List.ext_getElem (by simp) fun i a b=> ?_
 simp[Nat.mod_one]
theorem NP{n i:Nat}(h:i<n):List.replicate (n -i) hN=hN::List.replicate (n -(i+1)) hN:=by
 rw[show n -i=(n -(i+1))+1 by omega,List.replicate_succ]
theorem NQ{i:Nat}(h:aj.length=i):(aj++az::bj)[0+i*1]?=some az:=by
 rw[Nat.zero_add,Nat.mul_one,List.getElem?_append_right (by omega),h,Nat.sub_self]
 rfl
theorem NR{i:Nat}(h:aj.length=i){n c:Nat}:(aj++az::bj).take (0+i*1)++(Value.slice aA n c).cells.toList++(aj++az::bj).drop (0+i*1+1)=aj++ .slice aA n c::bj:=by
 subst h
 rw[Nat.zero_add,Nat.mul_one,List.take_left,show aj.length+1=aj.length+1 from rfl,←List.drop_drop,List.drop_left]
 simp[Value.cells]
theorem NS:p8 47 51 [hN]:=by
 have h:(prog.info? 51).map (fun i=>(i.size,i.bytes))=some (1,24):=by kernel_rfl
 cases e:prog.info? 51 with
 |none=>rw[e] at h;cases h
 |some i=>
  rw[e] at h
  simp only[Option.map_some,Option.some.injEq,Prod.mk.injEq] at h
  exact⟨i,zS,by kernel_rfl,e,h.1,by rw[h.2];decide,fun W=>by rfl,by rfl⟩
theorem NT(cc:Md.Cs ah ak aj)(cg:ak.Ok):cJ 35 [.agg aj.toArray] [] ah aJ (ic aJ fun u R'=>∃es:List (List Int),a6 (mf dU 1) 1 R' u es∧es.length=(me ak.rs).length):=by
 obtain⟨ds,ac⟩:=ak
 obtain⟨cN,db,cV,di,rfl,aG,aV,T,Y⟩:=cc
 (try dsimp only at aG aV T Y)
 refine eh func35 rfl ntmps35 rfl fun w G ad=> ?_
 refine cG 9 rfl ?_
 refine kQ (DF (ez aG aV T Y)) DL rfl rfl ?_
 rintro _ al ci ⟨_,c,rfl,⟨cQ,dd,rfl,bZ,aX⟩,cq⟩
 refine an 7 rfl ?_
 have cf:=cq
 have ce:c.length≤490000000:=bZ.2.2.1
 refine rW (n:=c.length) NS (by decide) rfl rfl ce rfl ?_
 rintro b c2 _ bB rfl
 rw[NO]
 refine an 12 rfl ?_
 refine eA (ι:=Nat×Wd×(List (List Int))×LV) [1,2,3,4,23,24] 1 rfl (fun(i,y,ls,f)=>(⟨[(25,.val (zI (i:Nat)))],[],[]⟩,y,⟨aJ.K,aQ aJ.H b (.cells (f++List.replicate (c.length -i) hN).toArray 51 (0,0))⟩,i≤c.length∧Sub al y∧aL (mf dU 1) y ls f∧ls.length=i,c.length -i)) (0,al,[],[]) rfl rfl rfl [] rfl ?_ ?_
 exact⟨b2 _,sR,gr,rfl⟩
 rintro⟨i,y,ls,f⟩ ⟨dG,N,P,aM⟩
 show VX _ _ _ ⟨_,_,_⟩ y ⟨aJ.K,aQ aJ.H b (.cells (f++List.replicate (c.length -i) hN).toArray 51 (0,0))⟩
 have S:f.length=i:=by have:=aL.len (jw cP) P;omega
 refine aE 6 rfl ?_
 cases ay:(decide (((i:Nat):Int)<((c.length:Nat):Int)))
 have dB:=cS ay
 refine aE 13 rfl ?_
 have b5:i=c.length:=by omega
 subst b5
 rw[Nat.sub_self,List.replicate_zero,List.append_nil]
 refine oR (cs:=f) (b0 _ _ _) fun ck b6=> ?_
 rw[j8 _ _ bB]
 exact dm results35 (aT rfl) ⟨rfl,rfl,_,rfl,ls,⟨_,_,by rw[aM],⟨by omega,by omega,by omega,fun h=>by cases h⟩,a5.of (cd (by omega) b6) (aL.sub (jw cP) ck P)⟩,by rw[aM,cf]⟩
 have U:=cX ay
 refine aE 8 rfl ?_
 obtain⟨c7,d7,dn,bp,bl,_,bC,bQ⟩:=cn bT (aC bT aX N) i U
 obtain rfl:=bC
 refine xp (a3 bp rfl rfl U fy) rfl (xp (dT rfl fx (bQ 0 _ rfl)) rfl (an 12 rfl ?_))
 rw[NP U]
 refine lg 3 1 ?_
 refine eA (ι:=Nat×Wd×(List Int)×LV×OA×Nat) [1,2,3,4,5,6,23,24,25,30,31] 1 rfl (fun(k,r,a,q,e,d)=>(⟨[(32,.val (zI (k:Nat)))],[],[⟨.slice e a.length d,a.length,q,3,1⟩]⟩,r,⟨aJ.K,aQ aJ.H b (.cells (f++ .slice e a.length d::List.replicate (c.length -(i+1)) hN).toArray 51 (0,0))⟩,k≤c.length∧Sub y r∧aL dU r a q∧Src r 1 e a.length q∧a.length≤d∧d≤9223372036854775807∧(e=none→d=0)∧a.length≤k,c.length -k)) (0,y,[],[],none,0) rfl rfl rfl [1,1,1,1,1,1] rfl ?_ ?_
 exact⟨b2 _,sR,gr,⟨rfl,.inl rfl⟩,a9 _,by decide,fun _=>rfl,b2 _⟩
 rintro⟨k,r,a,q,e,d⟩ ⟨dK,F,Q,a7,aN,aU,ar,dL⟩
 show VX _ _ _ ⟨_,_,_⟩ r ⟨aJ.K,aQ aJ.H b (.cells (f++ .slice e a.length d::List.replicate (c.length -(i+1)) hN).toArray 51 (0,0))⟩
 refine aE 6 rfl ?_
 cases az:(decide (((k:Nat):Int)<((c.length:Nat):Int)))
 have dE:=cS az
 refine aE 8 rfl (xp (bA rfl rfl (by omega)) rfl (an 2 rfl ?_))
 rw[show f++ .slice e a.length d::List.replicate (c.length -(i+1)) hN=(f++ [.slice e a.length d])++List.replicate (c.length -(i+1)) hN by simp]
 refine dI (i+1,r,ls++ [a],f++ [.slice e a.length d]) rfl rfl rfl [] rfl ?_ ?_
 exact⟨by omega,N.trans F,c6 (bg (jw cP) F P) (c4 ⟨_,rfl,dp ⟨aN,aU,by omega,ar⟩ (cz a7 Q)⟩),by(try simp only[ll]);omega⟩
 show c.length -(i+1)<c.length -i;omega
 have aS:=cX az
 refine aE 8 rfl ?_
 obtain⟨c8,d8,dq,bq,bm,_,bD,bR⟩:=cn bT (aC bT aX (ai N F)) k aS
 obtain rfl:=bD
 refine xp (a3 bq rfl rfl aS fy) rfl (xp (dT rfl fx (bR 0 _ rfl)) rfl (an 19 rfl ?_))
 have dv:=fR T
 refine eA (ι:=Wd×Bool×Nat) [1,2,3,4,5,6,7,8,23,24,25,30,31,32,38,39] 1 rfl (fun(v,L,p)=>(⟨[(9,.val (.bool L)),(40,.val (zI (p:Nat)))],[],[⟨.slice e a.length d,a.length,q,3,1⟩]⟩,v,⟨aJ.K,aQ aJ.H b (.cells (f++ .slice e a.length d::List.replicate (c.length -(i+1)) hN).toArray 51 (0,0))⟩,Sub r v∧p≤ac.length,ac.length -p)) (r,false,0) rfl rfl rfl [1] rfl ?_ ?_
 exact⟨sR,b2 _⟩
 rintro⟨v,L,p⟩ ⟨t,_⟩
 show VX _ _ _ ⟨_,_,_⟩ v ⟨aJ.K,aQ aJ.H b (.cells (f++ .slice e a.length d::List.replicate (c.length -(i+1)) hN).toArray 51 (0,0))⟩
 refine aE 6 rfl ?_
 cases bN:(decide (((p:Nat):Int)<((ac.length:Nat):Int)))
 refine aE 11 rfl ?_
 cases dA:(L)
 refine aE 5 rfl (xp (bA rfl rfl (by omega)) rfl (an 2 rfl ?_))
 refine dI (k+1,v,a,q,e,d) rfl rfl rfl [1] rfl ?_ ?_
 exact⟨by omega,F.trans t,bg cP t Q,eL a7 t,aN,aU,ar,by(try simp only[ll]);omega⟩
 show c.length -(k+1)<c.length -k;omega
 refine aE 6 rfl (xp (a3 rfl rfl rfl (by omega) kn) rfl (bz (bw (cs:=f++ .slice e a.length d::List.replicate (c.length -(i+1)) hN) (u:= .slice e a.length d) rfl (.inr (b0 _ _ _)) kT (NQ S)) rfl (an 1 rfl ?_)))
 refine fc gE rfl ?_
 intro du ao a2 bY
 refine yo ?_
 refine sp (news:=[zI (k:Nat)]) om rfl rfl (cd rfl bY) (fun h=>by cases h) (fun u hu=>cP.one (show dU ao ((k:Nat):Int) [_] from rfl) u hu) (n1:=(a++ [((k:Nat):Int)]).length) (by(try simp only[ll])<;>omega) (by(try simp only[ll]);omega) rfl rfl ?_
 intro af aq ap a4 bI bJ bK bL
 have b9:aL dU ap (a++ [((k:Nat):Int)]) (q++ [zI (k:Nat)]):=bg cP a4 (c6 (bg cP (ai t a2) Q) (c4 (show dU ao ((k:Nat):Int) [_] from rfl)))
 refine xp (a3 rfl rfl rfl (by omega) kn) rfl ?_
 refine rX (cs:=f++ .slice e a.length d::List.replicate (c.length -(i+1)) hN) (f++ .slice af (a++ [((k:Nat):Int)]).length aq::List.replicate (c.length -(i+1)) hN) rfl rfl (b0 _ _ _) kT rfl (by rw[List.length_append,List.length_cons,S];omega) rfl (NR S) ?_
 rintro _ rfl
 simp only[iM]
 refine an 4 rfl (xp (bA rfl rfl (by omega)) rfl (an 2 rfl ?_))
 refine dI (k+1,ap,(a++ [((k:Nat):Int)]),(q++ [zI (k:Nat)]),af,aq) rfl rfl rfl [1] rfl ?_ ?_
 exact⟨by omega,F.trans (ai (ai t a2) a4),bg cP sR b9,bL,bI,bJ,bK,by(try simp only[ll]);omega⟩
 show c.length -(k+1)<c.length -k;omega
 have V:=cX bN
 refine aE 7 rfl ?_
 obtain⟨da,d9,_,br,⟨cF,j,g,⟨cu,cH,cC,cM,cy,bj⟩,d4,dr⟩,bx,⟨cU,dh,cO,dc,_,rfl,aI,aY,aH,aW,⟨c0,dl,rfl,aK,M⟩⟩,bS⟩:=cn dt (aC dt Y (ai (ai (ai ci N) F) t)) p V
 replace M:=c9.1 M
 (try dsimp only at aI aY aH aW aK M)
 refine xp (a3 br rfl rfl V hk) rfl (xp (cl rfl bS rfl) rfl (an 13 rfl ?_))
 cases dy:(cF.toList==bl.toList)
 refine aE 6 rfl (xp (bA rfl rfl (by omega)) rfl (an 2 rfl ?_))
 refine dI (v,L,p+1) rfl rfl rfl [1] rfl ?_ ?_
 exact⟨t.trans sR,by omega⟩
 (try dsimp only);omega
 refine aE 4 rfl ?_
 have dN:aO j+aO g+(.mk cu cH cC cM cy bj:Ex).size+1≤100000:=by have s:=cg.rl (i:=p) V;dsimp only at s;rw[←bx] at s;exact s
 have dM:j.length≤aO j:=k1 _
 have dF:g.length≤aO g:=k1 _
 refine aE 15 rfl ?_
 refine lg 9 1 ?_
 refine gi _ (List.Perm.swap _ _ _) ?_
 refine gi _ (List.Perm.swap _ _ _) ?_
 have d2:aO (j.take 0)=0:=by rw[List.take_zero];exact kD
 have dx:=fR aI
 refine eA (ι:=Wd×Nat×(List BA)×LV×OA×Nat) [1,2,3,4,5,6,7,8,9,11,13,23,24,25,30,31,32,38,39,40,49,50] 2 rfl (fun(x,o,l,B,C,z)=>(⟨[(12,.val (.slice C l.length z)),(51,.val (zI (o:Nat)))],[],[⟨.slice C l.length z,l.length,B,9,1⟩,⟨.slice e a.length d,a.length,q,3,1⟩]⟩,x,⟨aJ.K,aQ aJ.H b (.cells (f++ .slice e a.length d::List.replicate (c.length -(i+1)) hN).toArray 51 (0,0))⟩,Sub v x∧(aL b7 x l B∧Src x 1 C l.length B∧l.length≤z∧z≤9223372036854775807∧(C=none→z=0))∧o≤j.length∧True∧(l.length≤aO (j.take o)),j.length -o)) (v,0,[],[],none,0) rfl rfl rfl [1,1] rfl ?_ ?_
 refine ww 1 ?_
 rotate_left
 rintro⟨x,o,l,B,C,z⟩ ⟨I,⟨R,ba,aR,aB,av⟩,dJ,_,dS⟩
 have d0:aO (j.take o)≤aO j:=eJ _ _
 show VX _ _ _ ⟨_,_,_⟩ x ⟨aJ.K,aQ aJ.H b (.cells (f++ .slice e a.length d::List.replicate (c.length -(i+1)) hN).toArray 51 (0,0))⟩
 refine aE 6 rfl ?_
 cases aw:(decide (((o:Nat):Int)<((j.length:Nat):Int)))
 have dD:=cS aw
 refine aE 16 rfl ?_
 refine lg 9 1 ?_
 refine gi _ ((List.Perm.swap _ _ _).trans (List.Perm.cons _ (List.Perm.swap _ _ _))) ?_
 refine gi _ ((List.Perm.swap _ _ _).trans (List.Perm.cons _ (List.Perm.swap _ _ _))) ?_
 refine gi _ ((List.Perm.swap _ _ _).trans (List.Perm.cons _ (List.Perm.swap _ _ _))) ?_
 have d1:aO (g.take 0)=0:=by rw[List.take_zero];exact kD
 have dw:=fR aH
 refine eA (ι:=Wd×Nat×(List BA)×LV×OA×Nat) [1,2,3,4,5,6,7,8,9,11,12,23,24,25,30,31,32,38,39,40,61,62] 2 rfl (fun(D,m,Lx,O,J,E)=>(⟨[(13,.val (.slice J Lx.length E)),(63,.val (zI (m:Nat)))],[],[⟨.slice J Lx.length E,Lx.length,O,9,1⟩,⟨.slice C l.length z,l.length,B,9,1⟩,⟨.slice e a.length d,a.length,q,3,1⟩]⟩,D,⟨aJ.K,aQ aJ.H b (.cells (f++ .slice e a.length d::List.replicate (c.length -(i+1)) hN).toArray 51 (0,0))⟩,Sub x D∧(aL b7 D Lx O∧Src D 1 J Lx.length O∧Lx.length≤E∧E≤9223372036854775807∧(J=none→E=0))∧m≤g.length∧True∧(Lx.length≤aO (g.take m)),g.length -m)) (x,0,[],[],none,0) rfl rfl rfl [1,1,1] rfl ?_ ?_
 refine ww 1 ?_
 rotate_left
 rintro⟨D,m,Lx,O,J,E⟩ ⟨A,⟨aF,a8,aP,aA,au⟩,dH,_,dR⟩
 have dZ:aO (g.take m)≤aO g:=eJ _ _
 show VX _ _ _ ⟨_,_,_⟩ D ⟨aJ.K,aQ aJ.H b (.cells (f++ .slice e a.length d::List.replicate (c.length -(i+1)) hN).toArray 51 (0,0))⟩
 refine aE 6 rfl ?_
 cases ax:(decide (((m:Nat):Int)<((g.length:Nat):Int)))
 have dC:=cS ax
 refine aE 12 rfl ?_
 refine DM (free_spec ⟨aF,a8,aP,aA,au⟩ (de aK (aC bM M (ai I A))) (dp ⟨aR,aB,by(try simp only[ll]);omega,av⟩ (aC bT (cz ba R) A)) (by(try simp only[ll]);omega) (by(try simp only[ll]);omega)) ri rfl rfl ?_
 rintro _ _ am a1 ⟨cT,d3,dg,ea,rfl,rfl,⟨bX,cp,cb,bV,bt⟩,dQ⟩
 refine an 6 rfl ?_
 cases dz:(L)
 refine an 2 rfl (eX rfl rfl rfl ?_)
 refine ru (jE (dp ⟨cb,bV,by omega,bt⟩ (cz cp bX)) bm) ji rfl rfl ?_
 rintro _ ⟨be,rfl⟩
 refine an 6 rfl (xp (bA rfl rfl (by omega)) rfl (an 2 rfl ?_))
 refine dI (am,be,p+1) rfl rfl rfl [0,0,1] rfl ?_ ?_
 exact⟨t.trans (ai (ai I A) a1),by omega⟩
 (try dsimp only);omega
 refine an 9 rfl (xp (bA rfl rfl (by omega)) rfl (an 2 rfl ?_))
 refine dI (am,true,p+1) rfl rfl rfl [0,0,1] rfl ?_ ?_
 exact⟨t.trans (ai (ai I A) a1),by omega⟩
 (try dsimp only);omega
 have W:=cX ax
 refine aE 7 rfl ?_
 obtain⟨c5,d6,_,bo,⟨ct,cE,cB,cL,cx,bi⟩,bv,⟨cY,dk,rfl,b4,aa⟩,bP⟩:=cn bM (aC bM aW (ai I A)) m W
 replace aa:=c9.1 aa
 refine xp (a3 bo rfl rfl W cZ) rfl (xp (cl rfl bP rfl) rfl (an 8 rfl ?_))
 have dW:aO (g.take (m+1))=aO (g.take m)+(.mk ct cE cB cL cx bi:Ex).size:=by have s:=gL W;rw[←bv] at s;exact s
 have dY:aO (g.take (m+1))≤aO g:=eJ _ _
 refine DM (free_spec ⟨aF,a8,aP,aA,au⟩ (de b4 aa) (dp ⟨aR,aB,by(try simp only[ll]);omega,av⟩ (aC bT (cz ba R) A)) (by(try simp only[ll]);omega) (by(try simp only[ll]);omega)) ri rfl rfl ?_
 rintro _ _ bd cj ⟨bc,cv,bf,cI,rfl,rfl,⟨bW,co,ca,bU,bs⟩,dP⟩
 refine an 5 rfl (xp (bA rfl rfl (by omega)) rfl (an 2 rfl ?_))
 refine dI (bd,m+1,cv,cI,bc,bf) rfl rfl rfl [1,1,1] rfl ?_ ?_
 exact⟨A.trans cj,⟨bW,co,ca,bU,bs⟩,by omega,trivial,by(try simp only[ll]);omega⟩
 (try dsimp only);omega
 have X:=cX aw
 refine aE 7 rfl ?_
 obtain⟨c3,d5,_,bn,⟨cr,cD,cA,cK,cw,bh⟩,bu,⟨cW,dj,rfl,b3,Z⟩,bO⟩:=cn bM (aC bM aY I) o X
 replace Z:=c9.1 Z
 refine xp (a3 bn rfl rfl X cZ) rfl (xp (cl rfl bO rfl) rfl (an 7 rfl ?_))
 have dV:aO (j.take (o+1))=aO (j.take o)+(.mk cr cD cA cK cw bh:Ex).size:=by have s:=gL X;rw[←bu] at s;exact s
 have dX:aO (j.take (o+1))≤aO j:=eJ _ _
 refine kQ (GS (de b3 Z) (by(try simp only[ll]);omega)) NL rfl rfl ?_
 rintro _ c1 aZ ⟨_,ab,rfl,⟨cR,df,rfl,b1,ch⟩,dO⟩
 obtain⟨ae,cm,aD⟩:=id ch
 refine sp (news:=ae) gY rfl rfl cm b1.2.2.2 (aL.one bT aD) (n1:=(l++ab).length) (by(try simp only[ll])<;>omega) (by(try simp only[ll]);omega) rfl rfl ?_
 intro bb bk ag a0 bE bF bG bH
 have b8:aL b7 ag (l++ab) (B++ae):=bg bT a0 (c6 (bg bT aZ R) aD)
 refine an 5 rfl (xp (bA rfl rfl (by omega)) rfl (an 2 rfl ?_))
 refine dI (ag,o+1,(l++ab),(B++ae),bb,bk) rfl rfl rfl [1,1] rfl ?_ ?_
 exact⟨I.trans (ai aZ a0),⟨b8,bH,bE,bF,bG⟩,by omega,trivial,by(try simp only[ll]);omega⟩
 (try dsimp only);omega
 any_goals
  refine uw 1 ?_
  exact⟨sR,⟨gr,⟨rfl,.inl rfl⟩,Nat.le_refl _,by decide,fun _=>rfl⟩,Nat.zero_le _,trivial,(by(try simp only[ll]);omega)⟩
section
variable{C:eF}{Kb:Nat→Bool}{HH:Hp}{ops:Array Oper}{Q:Exit→Act→Wd→Prop}{sl:List (Nat×AV)}{bx:List Bx}{rw:List bU}{R R0:Wd}{X:Hx}{d:Nat}{ty:TypeId}{pos:String}{af:Array Edge}{S0:St}{aq:Nat→Nat}{ay:Nat}{aN:Array Bool}
theorem NU{i:Nat}{ts rs:List bU}(c:ops[i]?=some ⟨some d,.call {callee:= .value (.func bk),args:=c8,argTypes:=fi},ty,pos,af,none⟩)
 (I:iL bk aj ao bj ts R lU) (w:aF bk) (K:fb ⟨sl,bx,rw⟩ c8 (.ptr ae 0::aj.map .val)) (b:bx[ae]?=some (ao,bj)) (G:rw=ts++rs) (B:Nat.blt d C.N=true) (y:Kb ae=false)
 (k:∀v f m R',Sub R R'→lU v f m R'→cQ C Kb HH S0 R0 aq ops Q ay (aN.setIfInBounds i true) ⟨(d,.val v)::sl,bx.set ae (ao,f),m++rs⟩ R' X)
 (H:dV C Kb HH S0 R0 aq ops Q ay aN ⟨sl,bx,rw⟩ R X aI):dV C Kb HH S0 R0 aq ops Q ay aN ⟨sl,bx,rw⟩ R X (i::aI):=by
 intro j l ad a W h g
 rcases dX.1 l with rfl|l
 ·unfold wpOp
  simp only[c,Region.wanted]
  refine .inl ?_
  unfold Oper.wp
  have r:=(List.getElem?_eq_some_iff.1 b).1
  have s:∀i,i< [(ao,bj)].length→(fun _=>ae:Nat→Nat) i<bx.length∧bx[(fun _=>ae:Nat→Nat) i]?=[(ao,bj)][i]?:=by
   intro i c
   have:i=0:=by simpa using c
   subst this
   exact⟨r,b⟩
  have A:(AV.ptr ae 0::aj.map AV.val).map (AV.den ad)=((AV.ptr 0 0::aj.map AV.val)).map (AV.den fun _=>ad ae):=by
   simp only[List.map_cons,List.map_map]
   rfl
  rw[k7,K.eval h.rel.slot,j0 w,A]
  have z:=h.rel.own
  subst G
  refine(I W (fun _=>ad ae) (z.sub (fun _=>ae) [(ao,bj)] s (fun i j c l _=>by simp at c l;omega) (List.sublist_append_left ts rs))).mono ?_
  rintro E W' ⟨v,L,m,R',rfl,n,D,M,J,f,rfl,F⟩
  have t:=h.here.called (rs:=rs) (ts:=ts) rfl (fun _=>ae) s n D rfl J (bx.set ae (ao,f)) (by simp) (fun i c=>by
   have:i=0:=by simpa using c
   subst this
   simp[List.getElem?_set_self r]) (fun k b=>List.getElem?_set_ne (b 0 (by simp)))
  have u:=t.put (x:= .val v) (dn B) (fun k o e=>by cases e)
  have p:=h.oq u
  have q:lY Kb HH S0 R0 aq ⟨(d,.val v)::sl,bx.set ae (ao,f),m++rs⟩ R' X ad:=⟨g.ad,fun k b=>by
   rw[List.getElem?_set_ne (fun e=>by subst e;rw[y] at b;cases b)]
   exact g.bx k b,g.sub.trans n.sub,by simpa using g.le,g.hh⟩
  exact⟨p.held q,k v f m R' n.sub F ad _ W' p q⟩
 ·exact H j l ad a W h g
end
theorem qk(h:(full bD bC≤1000∧fC=dE bD (iu bC))∨(1000<full bD bC∧fC= .mk 0 ⟨#[]⟩ 0 [])):fv fC≤1000:=by
 rcases h with⟨a,rfl⟩|⟨-,rfl⟩
 ·rw[z2];exact a
 ·decide
section
variable{α:Type}{P:Wd→α→LV→Prop}{size:Nat}{R:Wd}
theorem aL.at(E:eR P size){l:List α}(h:aL P R l aj){i:Nat}(d:i<l.length):∃c,P R l[i] c∧(aj.drop (0+i*size)).take size=c:=by
 have a:=(aL.cut E i h).2
 rw[List.drop_eq_getElem_cons d] at a
 obtain⟨c,ys,b,h3,_⟩:=a
 refine⟨c,h3,?_⟩
 rw[Nat.zero_add,b,←E.len h3,List.take_left]
theorem aL.put(E:eR P size){l:List α}(h:aL P R l aj){i:Nat}(e:i<l.length){a:α}{c:LV}(d:P R a c):aL P R (l.set i a) (aj.take (0+i*size)++c++aj.drop (0+i*size+size)):=by
 rw[Nat.zero_add,List.set_eq_take_append_cons_drop,if_pos e,List.append_assoc]
 have b:=(aL.cut E (i+1) h).2
 rw[show i*size+size=(i+1)*size by rw[Nat.succ_mul]]
 exact c6 (aL.cut E i h).1 (aL.cons d b)
theorem DO{z:α}{zs:LV}(e:P R z zs):∀n,aL P R (List.replicate n z) (ht n zs)
 |0=>by
  show aL P R [] _
  have:ht 0 zs=[]:=by unfold ht;simp
  rw[this]
  rfl
 |n+1=>by
  have f:=DO e n
  have d:∀m i,i<m*zs.length→(ht m zs)[i]?=some (zs[i % zs.length]!):=fun m i a=>by
   unfold ht
   rw[List.getElem?_map,List.getElem?_range a]
   rfl
  have g:ht (n+1) zs=ht n zs++zs:=by
   refine List.ext_getElem? fun i=> ?_
   by_cases a:i<n*zs.length
   ·rw[List.getElem?_append_left (by rw[rU];exact a),d _ _ a,d _ _ (by rw[Nat.succ_mul];omega)]
   ·rw[List.getElem?_append_right (by rw[rU];omega),rU]
    by_cases c:i<(n+1)*zs.length
    ·rw[d _ _ c]
     rw[Nat.succ_mul] at c
     have b:i -n*zs.length<zs.length:=by omega
     have h:i % zs.length=i -n*zs.length:=by
      have e1:i=(i -n*zs.length)+n*zs.length:=by omega
      rw[e1,Nat.add_mul_mod_self_right,Nat.mod_eq_of_lt b]
      omega
     rw[h,List.getElem?_eq_getElem b,List.getElem!_eq_getElem?_getD,List.getElem?_eq_getElem b]
     rfl
    ·rw[List.getElem?_eq_none (by rw[rU];omega)]
     rw[Nat.succ_mul] at c
     rw[List.getElem?_eq_none (by omega)]
  rw[g,List.replicate_succ']
  exact c6 f (c4 e)
end
theorem NV:p8 34 36 [zI 0,.string ⟨#[]⟩,zI 0,zS]:=by
 have h:(prog.info? 36).map (fun i=>(i.size,i.bytes))=some (4,56):=by kernel_rfl
 cases e:prog.info? 36 with
 |none=>rw[e] at h;cases h
 |some i=>
  rw[e] at h
  have a:(i.size,i.bytes)=(4,56):=Option.some.inj h
  refine⟨i,.agg #[zI 0,.string ⟨#[]⟩,zI 0,zS],by kernel_rfl,e,congrArg Prod.fst a,by have h3:i.bytes=56:=congrArg Prod.snd a;omega,fun W=>by rfl,rfl⟩
def fA (rs:List Rl) (s:ByteArray):Nat:=((rs.filter fun r=>r.s.toList==s.toList).map gP).sum
theorem DP{i:Nat}(h:i<dY.length)(s:BA):fA (dY.take (i+1)) s=fA (dY.take i) s+if(dY[i]).s.toList==s.toList then gP dY[i] else 0:=by
 unfold fA
 rw[List.take_succ_eq_append_getElem h,List.filter_append,List.map_append,List.sum_append]
 congr 1
 cases a:((dY[i]).s.toList==s.toList)<;>simp[a]
theorem DQ(rs:List Rl)(s:BA):∀i,fA (rs.take i) s≤fA rs s:=fun i=>by
 have:fA rs s=fA (rs.take i) s+fA (rs.drop i) s:=by
  unfold fA
  rw[←List.sum_append,←List.map_append,←List.filter_append,List.take_append_drop]
 omega
theorem DR:∀(rs:List Rl) (b:List BA),(b.map ByteArray.toList).Nodup→(b.map (fA rs)).sum≤(rs.map gP).sum
 |[],b,_=>by
  have:∀l:List BA,(l.map (fA [])).sum=0:=fun l=>by
   induction l with
   |nil=>rfl
   |cons a l m=>simp only[List.map_cons,List.sum_cons,m];rfl
  rw[this];exact Nat.zero_le _
 |r::rs,b,j=>by
  have m:=DR rs b j
  have n:∀l:List BA,(l.map ByteArray.toList).Nodup→(l.map (fA (r::rs))).sum≤(l.map (fA rs)).sum+gP r:=by
   intro l f
   have c:∀s,fA (r::rs) s=fA rs s+if r.s.toList==s.toList then gP r else 0:=fun s=>by
    unfold fA
    rw[List.filter_cons]
    split
    ·simp only[List.map_cons,List.sum_cons];omega
    ·rfl
   by_cases i:∃s∈l,r.s.toList=s.toList
   ·obtain⟨s,k,p⟩:=i
    induction l with
    |nil=>cases k
    |cons a l q=>
     simp only[List.map_cons,List.nodup_cons,List.mem_map,not_exists,not_and] at f
     simp only[List.map_cons,List.sum_cons]
     by_cases d:r.s.toList=a.toList
     ·have h3:(l.map (fA (r::rs))).sum=(l.map (fA rs)).sum:=by
       congr 1
       refine List.map_congr_left fun x g=> ?_
       rw[c,if_neg (by simpa using fun e:r.s.toList=x.toList=>f.1 x g (e.symm.trans d))]
       omega
      rw[h3,c a]
      split<;>omega
     ·have o:s∈l:=by
       rcases dX.1 k with rfl|h
       ·exact absurd p d
       ·exact h
      have:=q f.2 o
      rw[c a,if_neg (by simpa using d)]
      omega
   ·have h3:(l.map (fA (r::rs))).sum=(l.map (fA rs)).sum:=by
     congr 1
     refine List.map_congr_left fun x g=> ?_
     rw[c,if_neg (by simpa using fun e:r.s.toList=x.toList=>i ⟨x,g,e⟩)]
     omega
    omega
  have:=n b j
  simp only[List.map_cons,List.sum_cons]
  omega
def hy (rs:List Rl) (nm:List ByteArray) (g:List Int):Nat:=(g.map fun e=>fA rs (nm.getD e.toNat ⟨#[]⟩)).sum
theorem NW(rs:List Rl)(nm:List BA){g:List Int}{i:Nat}(h:i<g.length):hy rs nm (g.take (i+1))=hy rs nm (g.take i)+fA rs (nm.getD (g[i]).toNat ⟨#[]⟩):=by
 unfold hy
 rw[List.take_succ_eq_append_getElem h,List.map_append,List.sum_append]
 simp
theorem DS(rs:List Rl)(nm:List BA)(g:List Int)(i:Nat):hy rs nm (g.take i)≤hy rs nm g:=by
 have:hy rs nm g=hy rs nm (g.take i)+hy rs nm (g.drop i):=by
  unfold hy
  rw[←List.sum_append,←List.map_append,List.take_append_drop]
 omega
theorem NX(i:(ec.map ByteArray.toList).Nodup)(c:jT ec.length cC):hy dY ec cC≤(dY.map gP).sum:=by
 have d:hy dY ec cC=((cC.map fun e=>ec.getD e.toNat ⟨#[]⟩).map (fA dY)).sum:=by
  unfold hy
  rw[List.map_map]
  rfl
 rw[d]
 refine DR dY _ ?_
 rw[List.map_map,List.nodup_iff_pairwise_ne,List.pairwise_map]
 refine(List.nodup_iff_pairwise_ne.1 c.2).imp_of_mem fun{a b} g h k e=> ?_
 have j:=c.1 a g
 have h3:=c.1 b h
 simp only[Function.comp_apply,List.getD_eq_getElem?_getD] at e
 rw[List.getElem?_eq_getElem (by omega),List.getElem?_eq_getElem (by omega)] at e
 simp only[Option.getD_some] at e
 have f:(ec.map ByteArray.toList)[a.toNat]'(by rw[List.length_map];omega)=(ec.map ByteArray.toList)[b.toNat]'(by rw[List.length_map];omega):=by simpa using e
 have:=(List.getElem_inj i).1 f
 omega
section
variable{C:eF}{K:Nat→Bool}{HH:Hp}{ops:Array Oper}{Q:Exit→Act→Wd→Prop}{sl:List (Nat×AV)}{bx:List Bx}{rw:List bU}{R R0:Wd}{X:Hx}{d:Nat}{ty:TypeId}{pos:String}{af:Array Edge}{S0:St}{aq:Nat→Nat}{ay:Nat}{aN:Array Bool}
theorem uN{i:Nat}{x y:Operand}{n:Nat}{m c:Nat}{news:LV}(l:ops[i]?=some ⟨some d,.call {callee:= .builtin .append,args:=#[x,y],argTypes:=#[ae,ae]},ty,pos,af,none⟩)
 (j:dO ae ao aX eO) (r:ev ⟨sl,bx,⟨az,n,aj,ao,aX⟩::rw⟩ x=some (.val az)) (s:ev ⟨sl,bx,⟨az,n,aj,ao,aX⟩::rw⟩ y=some (.val (.slice aA m c)))
 (q:Src R aX aA m news) (f:aA=none→c=0) (b:∀u∈news,u.oneCell'=true) {n1:Nat} (o:n1=n+m) (e:n1≤1000000000) (g:Nat.ble eO 100000=true) (h:Nat.blt d C.N=true)
 (k:∀a cap R',Sub R R'→n1≤cap→cap≤9223372036854775807→(a=none→cap=0)→Src R' aX a (n1) (aj++news)→
   cQ C K HH S0 R0 aq ops Q ay (aN.setIfInBounds i true) ⟨(d,.val (.slice a (n1) cap))::sl,bx,⟨.slice a (n1) cap,n1,aj++news,ao,aX⟩::rw⟩ R' X)
 (p:dV C K HH S0 R0 aq ops Q ay aN ⟨sl,bx,⟨az,n,aj,ao,aX⟩::rw⟩ R X aI):dV C K HH S0 R0 aq ops Q ay aN ⟨sl,bx,⟨az,n,aj,ao,aX⟩::rw⟩ R X (i::aI):=by
 subst o
 exact kR l j r s q f b e g h k p
theorem uO{i:Nat}(m:Nat)(cm:List Bx)(h:ops[i]?=some ⟨some d,.alloc aH,ty,pos,af,none⟩)(o:eQ aH aj)(l:bx.length=m)(f:bx++ [(aH,aj)]=cm)(g:Nat.blt d C.N=true)(b:K m=false)
 (p:cQ C K HH S0 R0 aq ops Q ay (aN.setIfInBounds i true) ⟨(d,.ptr m 0)::sl,cm,rw⟩ R X) (n:dV C K HH S0 R0 aq ops Q ay aN ⟨sl,bx,rw⟩ R X aI):dV C K HH S0 R0 aq ops Q ay aN ⟨sl,bx,rw⟩ R X (i::aI):=by
 subst l f
 refine pP (S:=⟨sl,bx,rw⟩) h (fun q c=>sI (S:=⟨sl,bx,rw⟩) o (c▸dn g)) ?_ ?_ n
 ·rintro S' R' ⟨rfl,rfl⟩
  refine⟨by simp,fun k a=> ?_⟩
  have r:k≠bx.length:=fun e=>by subst e;rw[b] at a;cases a
  by_cases j:k<bx.length
  ·exact List.getElem?_append_left j
  ·show (bx++ [(aH,aj)])[k]?=bx[k]?
   rw[List.getElem?_eq_none (by simp;omega),List.getElem?_eq_none (by omega)]
 ·rintro S' R' ⟨rfl,rfl⟩ _
  exact p
end
section
variable{C:eF}{ops:Array Oper}{Q:Exit→Act→Wd→Prop}{rw:List bU}{R:Wd}{X:Hx}{K:Nat→Bool}{HH:Hp}{S0:St}{R0:Wd}{aq:Nat→Nat}
theorem nK{ay i d m:Nat}(h:s3 ops C.N (fun _ k=>K k) i bQ aS=some (d,m,lF))(g:cQ C K HH S0 R0 aq ops Q ay (bQ.setIfInBounds i true) ⟨(d,.ptr m 0)::bu,lF,rw⟩ R X)(f:dV C K HH S0 R0 aq ops Q ay bQ ⟨bu,aS,rw⟩ R X aI):dV C K HH S0 R0 aq ops Q ay bQ ⟨bu,aS,rw⟩ R X (i::aI):=by
 obtain⟨T,ty,pos,af,cs,g1,g2,a,b,c,e⟩:=za h
 exact uO m _ g1 g2 a b c e g f
end
theorem DT:aF 15:=by unfold aF;kernel_rfl
theorem DU:aF 17:=by unfold aF;kernel_rfl
theorem ql:aF 20:=by unfold aF;kernel_rfl
theorem NY:aF 32:=by unfold aF;kernel_rfl
theorem NZ:aF 34:=by unfold aF;kernel_rfl
theorem Oa:aF 35:=by unfold aF;kernel_rfl
theorem Ob:aF 37:=by unfold aF;kernel_rfl
theorem Oc:aF 38:=by unfold aF;kernel_rfl
theorem Od{n:Nat}(h:jT n cC):cC.length≤n:=se h.2 h.1
theorem Oe{R:Wd}(je:Md.Cs R ak aj)(dN:ak.Ok)(hr:ak.rs.length≤40)(fb:(ak.rs.map gP).sum≤12100):cJ 13 [.agg aj.toArray] [] R aJ (ic aJ fun u R'=>∃(gf:Vl) (l:List Sg) (k p q:Int),u= .tuple #[gf,zI k,.agg #[zI p,zI q]]∧a6 Sg.Cs 7 R' gf l∧l.length≤1000):=by
 obtain⟨eU,f⟩:=ak
 obtain⟨es,eO,eu,eQ,rfl,bU,bV,bI,bM⟩:=je
 (try dsimp only at bU bV bI bM)
 try dsimp only
 refine eh func13 rfl ntmps13 rfl fun w G ad=> ?_
 refine cG 12 rfl ?_
 refine kQ (GH (ez bU bV bI bM) dN) NY rfl rfl ?_
 rintro _ j3 aW ⟨⟨g3,ei,dk⟩,_,rfl,rfl⟩
 refine an 10 rfl ?_
 cases kJ:(g3)
 refine aE 6 rfl ?_
 refine kQ (DF (ez bU (aC eI bV aW) bI (aC dt bM aW))) DL rfl rfl ?_
 rintro _ gF bq ⟨_,d,rfl,⟨et,eP,rfl,k8,cA⟩,dd⟩
 refine an 7 rfl ?_
 have ld:d.length≤40:=by have bo:=DD f f.length (Nat.le_refl _);rw[List.take_length] at bo;dsimp only at dd hr;rw[dd];omega
 have jg:(d.map ByteArray.toList).Nodup:=by have bo:=DE f f.length (Nat.le_refl _);rw[List.take_length] at bo;rw[dd];exact bo
 dsimp only at fb
 refine rW (n:=d.length) NV (by decide) rfl rfl (by omega) rfl ?_
 rintro b ki _ dn rfl
 have dx:=DO (P:=Ty.Cs) (R:=gF) (z:= .mk 0 ⟨#[]⟩ 0 []) (zs:=[zI 0,.string ⟨#[]⟩,zI 0,zS]) (aP eg (ew (P:=Ty.Cs) (size:=4) _)) d.length
 have fI:(List.replicate d.length (Ty.mk 0 ⟨#[]⟩ 0 [])).length=d.length:=List.length_replicate
 generalize List.replicate d.length (Ty.mk 0 ⟨#[]⟩ 0 [])=qf at dx fI
 generalize ht d.length [zI 0,.string ⟨#[]⟩,zI 0,zS]=xa0 at dx⊢
 refine an 6 rfl ?_
 refine DN 3 (DB (ez bU (aC eI bV (ai aW bq)) bI (aC dt bM (ai aW bq))) dN) DT rfl rfl rfl ?_
 rintro _ kc F ⟨Am,ms,cq,rfl,iZ,jj,_⟩
 refine an 7 rfl ?_
 refine dP (NT (ez bU (aC eI bV (ai (ai aW bq) F)) bI (aC dt bM (ai (ai aW bq) F))) dN) Oa rfl rfl ?_ ?_
 rintro lG er kf kg aD -⟨rfl,dq,lE,e,jt⟩
 cases e
 replace dq:=dq.symm
 subst dq
 obtain⟨hp,⟨jV,kj,rfl,iX,jh⟩,jd⟩:=jt
 have iS:hp.length=d.length:=by rw[jd,dd]
 refine dP (NK (dp iX jh) (by omega)) NZ rfl rfl ?_ ?_
 rintro lH er eN kh aF -⟨rfl,dr,lF,e,ju⟩
 cases e
 replace dr:=dr.symm
 subst dr
 obtain⟨gs,⟨gq,g6,rfl,iY,ji⟩,iU,fs⟩:=ju
 rw[iS] at iU fs
 refine an 5 rfl ?_
 refine lg 75 6 ?_
 refine lg 135 6 ?_
 refine gi [⟨zS,0,[],75,6⟩,⟨zS,0,[],135,6⟩] (List.Perm.swap _ _ _) ?_
 have kD:=fR iY
 refine eA (ι:=Wd×Nat×(List Bi)×OA×Nat×Int×Int×Int×Int×(List Pl)×LV×OA×Nat×(List Fr)×LV×OA×Nat×(List Ty)×LV) [1,2,3,4,6,7,8,43,44] 3 rfl (fun(ae,ah,aZ,bQ,b9,bu,cU,cV,cW,r,aN,ab,U,j,ar,E,B,cR,cp)=>(⟨[(45,.val (zI (ah:Nat)))],[(73,[.slice bQ aZ.length b9,zI bu,.slice ab r.length U,.slice Am ms.length cq,zS,.slice E j.length B,zI cU,zI cV,zI cW])],[⟨.slice ab r.length U,r.length,aN,75,6⟩,⟨.slice E j.length B,j.length,ar,135,6⟩]⟩,ae,⟨aJ.K,aQ aJ.H b (.cells cp.toArray 36 (0,0))⟩,Sub eN ae∧(cF bQ aZ.length b9∧a5 Bi.Cs 5 ae bQ aZ)∧(aL Pl.Cs ae r aN∧Src ae 6 ab r.length aN∧r.length≤U∧U≤9223372036854775807∧(ab=none→U=0))∧(aL Fr.Cs ae j ar∧Src ae 6 E j.length ar∧j.length≤B∧B≤9223372036854775807∧(E=none→B=0))∧ah≤gs.length∧True∧True∧(Good aZ∧0≤bu∧aZ.length≤12100000*ah∧bu≤6100000000000*(ah:Int)∧r.length≤100*ah∧j.length≤12100*ah)∧aL Ty.Cs ae cR cp∧cR.length=d.length,gs.length -ah)) (eN,0,[],none,0,0,0,0,0,[],[],none,0,[],[],none,0,qf,xa0) rfl rfl rfl [1,1] rfl ?_ ?_
 exact⟨sR,⟨eg,ew _⟩,⟨gr,⟨rfl,.inl rfl⟩,Nat.le_refl _,by decide,fun _=>rfl⟩,⟨gr,⟨rfl,.inl rfl⟩,Nat.le_refl _,by decide,fun _=>rfl⟩,Nat.zero_le _,trivial,trivial,(⟨Good.nil,by(try dsimp only);(try simp only[ll]);omega,by(try dsimp only);(try simp only[ll]);omega,by(try dsimp only);(try simp only[ll]);omega,by(try dsimp only);(try simp only[ll]);omega,by(try dsimp only);(try simp only[ll]);omega⟩),(bg a2 (ai (ai F aD) aF) dx),fI⟩
 rintro⟨ae,ah,aZ,bQ,b9,bu,cU,cV,cW,r,aN,ab,U,j,ar,E,B,cR,cp⟩ ⟨ay,⟨dE,dX⟩,⟨iH,jk,i9,iD,hF⟩,⟨iI,jl,ja,iE,hG⟩,_,_,_,jv,fj,fJ⟩
 obtain⟨iV,lo,ls,lw,lz,lC⟩:=jv
 show VX _ _ _ ⟨_,_,_⟩ ae ⟨aJ.K,aQ aJ.H b (.cells cp.toArray 36 (0,0))⟩
 refine aE 6 rfl ?_
 cases ip:(decide (((ah:Nat):Int)<((gs.length:Nat):Int)))
 refine aE 20 rfl ?_
 refine lg 65 7 ?_
 refine gi [⟨.slice E j.length B,j.length,ar,135,6⟩,⟨zS,0,[],65,7⟩,⟨.slice ab r.length U,r.length,aN,75,6⟩] ((List.Perm.swap _ _ _).trans (List.Perm.cons _ (List.Perm.swap _ _ _))) ?_
 refine gi [⟨.slice ab r.length U,r.length,aN,75,6⟩,⟨.slice E j.length B,j.length,ar,135,6⟩,⟨zS,0,[],65,7⟩] ((List.Perm.swap _ _ _).trans (List.Perm.cons _ (List.Perm.swap _ _ _))) ?_
 refine gi [⟨zS,0,[],65,7⟩,⟨.slice ab r.length U,r.length,aN,75,6⟩,⟨.slice E j.length B,j.length,ar,135,6⟩] ((List.Perm.swap _ _ _).trans (List.Perm.cons _ (List.Perm.swap _ _ _))) ?_
 refine eA (ι:=Wd×Nat×(List Sg)×LV×OA×Nat×(List Ty)×LV) [1,2,3,4,7,8,183,184] 4 rfl (fun(bB,M,S,b7,At,bE,co,bf)=>(⟨[(23,.val (.slice At S.length bE)),(185,.val (zI (M:Nat)))],[],[⟨.slice At S.length bE,S.length,b7,65,7⟩,⟨.slice ab r.length U,r.length,aN,75,6⟩,⟨.slice E j.length B,j.length,ar,135,6⟩]⟩,bB,⟨aJ.K,aQ aJ.H b (.cells bf.toArray 36 (0,0))⟩,Sub ae bB∧(aL Sg.Cs bB S b7∧Src bB 7 At S.length b7∧S.length≤bE∧bE≤9223372036854775807∧(At=none→bE=0))∧M≤d.length∧S.length≤M∧aL Ty.Cs bB co bf∧co.length=d.length,d.length -M)) (ae,0,[],[],none,0,cR,cp) rfl rfl rfl [1,1,1] rfl ?_ ?_
 exact⟨sR,⟨gr,⟨rfl,.inl rfl⟩,a9 _,by decide,fun _=>rfl⟩,b2 _,b2 _,fj,fJ⟩
 rintro⟨bB,M,S,b7,At,bE,co,bf⟩ ⟨cl,⟨fm,jm,jb,iF,hH⟩,hn,lc,dz,cy⟩
 show VX _ _ _ ⟨_,_,_⟩ bB ⟨aJ.K,aQ aJ.H b (.cells bf.toArray 36 (0,0))⟩
 refine aE 6 rfl ?_
 cases fd:(decide (((M:Nat):Int)<((d.length:Nat):Int)))
 have kX:=cS fd
 refine aE 9 rfl (xp (bJ (vs:=[]) (v:= .agg #[zI 0,zI 0]) rfl (fun W=>by kernel_rfl)) rfl (an 6 rfl ?_))
 refine oR (cs:=bf) (b0 _ _ _) fun F fF=> ?_
 rw[j8 _ _ dn]
 exact kk results13 (aT rfl) (aT rfl) (aK rfl rfl gp) (List.nil_sublist _) ⟨rfl,rfl,_,rfl,_,S,0,0,0,rfl,dp ⟨jb,iF,by(try dsimp only);(try simp only[ll]);omega,hH⟩ (aC kG (cz jm fm) F),by(try dsimp only);(try simp only[ll]);omega⟩
 have bL:=cX fd
 refine aE 8 rfl ?_
 obtain⟨gT,jH,kt,hz,aw,hN,h2,iv⟩:=cn bT (aC bT cA (ai (ai (ai (ai F aD) aF) ay) cl)) M bL
 obtain rfl:=h2
 have kV:d.getD M ⟨#[]⟩=aw:=by rw[hN,List.getD_eq_getElem?_getD,List.getElem?_eq_getElem bL];rfl
 refine xp (a3 (b:=gT) (o:=jH) (i:=M) hz rfl rfl bL fy) rfl (xp (dT rfl fx (iv 0 _ rfl)) rfl (an 4 rfl ?_))
 refine tR (ι:=Wd×Int×BA×Int×List Ty×OA×Nat×Int) (fun(cr,al,ap,ao,av,aR,bb,O)=>(⟨[(1,.ptr 0 0),(2,.val (zS)),(3,.val (zI 0)),(4,.ptr 1 0),(7,.val (.slice (some ⟨b,0,none⟩) d.length d.length)),(8,.ptr 3 0),(23,.val (.slice At S.length bE)),(25,.val (.string aw)),(26,.ptr 4 0),(27,.val (zI O)),(183,.val (.slice et d.length eP)),(184,.val (zI (d.length:Nat))),(185,.val (zI (M:Nat)))],[(26,[.slice es eU.length eO,.slice eu f.length eQ]),(29,[zI 0,zI 0]),(58,[.bool false,zI ei,zI dk]),(73,[.slice bQ aZ.length b9,zI bu,.slice ab r.length U,.slice Am ms.length cq,zS,.slice E j.length B,zI cU,zI cV,zI cW]),(36,[zI al,.string ap,zI ao,.slice aR av.length bb])],[⟨.slice At S.length bE,S.length,b7,65,7⟩,⟨.slice ab r.length U,r.length,aN,75,6⟩,⟨.slice E j.length B,j.length,ar,135,6⟩]⟩,cr,⟨aJ.K,aQ aJ.H b (.cells bf.toArray 36 (0,0))⟩,Sub bB cr∧(cF aR av.length bb∧a5 Ty.Cs 4 cr aR av)∧0≤O∧O≤1000)) ?_ ?_
 refine dM mixed (fun k=>k==3) bH (fun _ _ h=>by cases h) fun aq=> ?_
 refine bm [0,1,2,3,4,5] rfl (by kernel_rfl) id (xt 6 rfl (a3 (i:=M) rfl rfl rfl bL e6) rfl (by kernel_rfl) id (bp [7,13] (by kernel_rfl) rfl ?_))
 obtain⟨_,e3,iK⟩:=aL.at a2 dz (i:=M) (by rw[cy];exact bL)
 obtain⟨⟨cH,cO,cL,jP⟩,hS⟩:∃x,x=co[M]'(by rw[cy];exact bL):=⟨_,rfl⟩
 rw[←hS] at e3
 obtain⟨gy,hc,rfl,dJ,bY⟩:=e3
 replace bY:=a8.1 bY
 refine fT rfl (lX (cs:=bf) (ds:=[zI cH,.string cO,zI cL,.slice gy jP.length hc]) rfl (.inr (b0 _ _ _)) cD iK rfl) rfl ?_ ?_
 refine bp [8,13] (by kernel_rfl) rfl ?_
 refine iy rfl (j5 (eK (made:=bu) dE (aC eM dX cl)) (aP (k:=cH) (s:=cO) (n:=cL) dJ bY)) j6 rfl rfl (fun _ _ h=>by cases h) ?_ ?_
 rintro _ j4 fS ⟨⟨ec,ep,ek,lI⟩,_,rfl,⟨jW,kl,rfl,dG,bW⟩,d7⟩
 replace bW:=a8.1 bW
 refine bp [9,13] (by kernel_rfl) rfl ?_
 refine iy rfl (pG (aP (k:=ec) (s:=ep) (n:=ek) dG bW) (qk d7)) ql rfl rfl (fun _ _ h=>by cases h) ?_ ?_
 rintro _ eC fU ⟨⟨f0,gb,f6,gh⟩,_,f4,rfl,⟨ev,eR,rfl,fB,cg⟩,d8⟩
 replace cg:=a8.1 cg
 refine bm [10,11,12] rfl (by kernel_rfl) id (bp [13] (by kernel_rfl) rfl ?_)
 refine nK rfl ?_ bt
 refine bm [1014,15] rfl (by kernel_rfl) id (du (by kernel_rfl) (ww 9 ?_))
 rotate_left
 refine nK rfl ?_ bt
 refine ww 7 ?_
 rotate_left
 refine nK rfl ?_ bt
 refine ww 6 ?_
 rotate_left
 refine nK rfl ?_ bt
 refine bp [7] (by kernel_rfl) rfl ?_
 obtain⟨_,e5,iN⟩:=aL.at a2 dz (i:=M) (by rw[cy];exact bL)
 obtain⟨⟨cH,cO,cL,jQ⟩,hU⟩:∃x,x=co[M]'(by rw[cy];exact bL):=⟨_,rfl⟩
 rw[←hU] at e5
 obtain⟨gz,hd,rfl,dJ,bY⟩:=e5
 replace bY:=a8.1 bY
 refine fT rfl (lX (cs:=bf) (ds:=[zI cH,.string cO,zI cL,.slice gz jQ.length hd]) rfl (.inr (b0 _ _ _)) cD iN rfl) rfl ?_ bt
 refine ww 6 ?_
 rotate_left
 rintro⟨cr,al,ap,ao,av,aR,bb,O⟩ ⟨cC,⟨fD,fP⟩,le,lh⟩
 show VX _ _ _ ⟨_,_,_⟩ cr ⟨aJ.K,aQ aJ.H b (.cells bf.toArray 36 (0,0))⟩
 refine dM mixed (fun k=>k==0||k==4) bH (fun _ _ h=>by cases h) fun aq=> ?_
 refine bm [0,1,2,3,5,6] rfl (by kernel_rfl) id (xt 7 rfl (bJ (vs:=[(0,zI O),(1,.agg #[zI al,.string ap,zI ao,.slice aR av.length bb])]) (v:= .agg #[zI O,zI al,.string ap,zI ao,.slice aR av.length bb]) rfl (fun W=>by kernel_rfl)) rfl (by kernel_rfl) id (bp [4] (by kernel_rfl) rfl ?_))
 refine iy rfl (q3 (ez bU (aC eI bV (ai (ai (ai (ai (ai (ai (ai aW bq) F) aD) aF) ay) cl) cC)) bI (aC dt bM (ai (ai (ai (ai (ai (ai (ai aW bq) F) aD) aF) ay) cl) cC))) aw) q6 rfl rfl (fun _ _ h=>by cases h) ?_ bt
 rintro _ gJ -⟨fL,⟨bd,rfl⟩⟩
 subst gJ
 refine xt 8 rfl (bJ (vs:=[(0,.string aw),(1,zI bd),(2,.agg #[zI O,zI al,.string ap,zI ao,.slice aR av.length bb])]) (v:= .agg #[.string aw,zI bd,zI O,zI al,.string ap,zI ao,.slice aR av.length bb]) rfl (fun W=>by kernel_rfl)) rfl (by kernel_rfl) id (bp [9] (by kernel_rfl) rfl ?_)
 refine jn tE rfl ?_ bt
 intro kB j9 cB iT
 refine nA ?_
 refine bp [10] (by kernel_rfl) rfl ?_
 refine uN (news:=[.string aw,zI bd,zI O,zI al,.string ap,zI ao,.slice aR av.length bb]) rfl Ap rfl rfl (cd rfl iT) (fun h=>by cases h) (fun u hu=>kG.one (tF (s:=aw) (a:=bd) (n:=O) ⟨by omega,by omega⟩ (aP (k:=al) (s:=ap) (n:=ao) fD (aC a2 fP cB))) u hu) (n1:=(S++ [(⟨aw,bd,O,(.mk al ap ao av:Ty)⟩:Sg)]).length) (by(try simp only[ll])<;>omega) (by(try dsimp only);(try simp only[ll]);omega) rfl rfl ?_ bt
 intro gl hj eD d3 ig ih ii ij
 have i7:aL Sg.Cs eD (S++ [(⟨aw,bd,O,(.mk al ap ao av:Ty)⟩:Sg)]) (b7++ [.string aw,zI bd,zI O,zI al,.string ap,zI ao,.slice aR av.length bb]):=bg kG d3 (c6 (bg kG (ai cC cB) fm) (c4 (tF (s:=aw) (a:=bd) (n:=O) ⟨by omega,by omega⟩ (aP (k:=al) (s:=ap) (n:=ao) fD (aC a2 fP cB)))))
 refine bm [11] rfl (by kernel_rfl) id (du (by kernel_rfl) (br 3 rfl (xp (bA rfl rfl (by omega)) rfl (an 2 rfl ?_))))
 refine dI (eD,M+1,(S++ [(⟨aw,bd,O,(.mk al ap ao av:Ty)⟩:Sg)]),(b7++ [.string aw,zI bd,zI O,zI al,.string ap,zI ao,.slice aR av.length bb]),gl,hj,co,bf) rfl rfl rfl [1,0,1,1] rfl ?_ ?_
 exact⟨cl.trans (ai (ai cC cB) d3),⟨i7,ij,ig,ih,ii⟩,by(try dsimp only);omega,by simp;omega,(bg a2 (ai (ai cC cB) d3) dz),cy⟩
 (try dsimp only);omega
 have dR:=cX ip
 refine aE 7 rfl ?_
 obtain⟨gQ,jE,_,hv,y,hK,⟨_,rfl,gn,g4,rfl,iW,dW⟩,is⟩:=cn (jw cP) (aC (jw cP) ji ay) ah dR
 have cw:jT d.length y:=by rw[hK];exact fs _ (List.getElem_mem (n:=ah) dR)
 have kR:hy f d y≤12100:=dS (NX jg cw) fb
 have k4:=Od cw
 refine xp (a3 (b:=gQ) (o:=jE) (i:=ah) hv rfl rfl dR kn) rfl (xp (dT rfl kT (is 0 _ rfl)) rfl (an 12 rfl ?_))
 refine gi [⟨.slice E j.length B,j.length,ar,135,6⟩,⟨.slice ab r.length U,r.length,aN,75,6⟩] (List.Perm.swap _ _ _) ?_
 refine gi [⟨.slice ab r.length U,r.length,aN,75,6⟩,⟨.slice E j.length B,j.length,ar,135,6⟩] (List.Perm.swap _ _ _) ?_
 have kF:=fR iW
 refine eA (ι:=Wd×Nat×Int×(List Pl)×LV×OA×Nat×(List Ty)×LV) [1,2,3,4,6,7,8,10,43,44,45,49,50] 3 rfl (fun(bj,aY,bv,m,au,Q,J,cm,be)=>(⟨[(51,.val (zI (aY:Nat)))],[(73,[.slice bQ aZ.length b9,zI bv,.slice Q m.length J,.slice Am ms.length cq,zS,.slice E j.length B,zI cU,zI cV,zI cW])],[⟨.slice Q m.length J,m.length,au,75,6⟩,⟨.slice E j.length B,j.length,ar,135,6⟩]⟩,bj,⟨aJ.K,aQ aJ.H b (.cells be.toArray 36 (0,0))⟩,Sub ae bj∧(aL Pl.Cs bj m au∧Src bj 6 Q m.length au∧m.length≤J∧J≤9223372036854775807∧(Q=none→J=0))∧aY≤y.length∧True∧(bv=bu+(aY:Int)∧m.length≤r.length+aY)∧aL Ty.Cs bj cm be∧cm.length=d.length,y.length -aY)) (ae,0,bu,r,aN,ab,U,cR,cp) rfl rfl rfl [1,1] rfl ?_ ?_
 exact⟨sR,⟨iH,jk,i9,iD,hF⟩,Nat.zero_le _,trivial,(⟨by(try dsimp only);(try simp only[ll]);omega,by(try dsimp only);(try simp only[ll]);omega⟩),fj,fJ⟩
 rintro⟨bj,aY,bv,m,au,Q,J,cm,be⟩ ⟨L,⟨dC,fY,fH,fi,eZ⟩,lb,_,jz,dy,c7⟩
 obtain⟨lr,lv⟩:=jz
 show VX _ _ _ ⟨_,_,_⟩ bj ⟨aJ.K,aQ aJ.H b (.cells be.toArray 36 (0,0))⟩
 refine aE 6 rfl ?_
 cases fc:(decide (((aY:Nat):Int)<((y.length:Nat):Int)))
 have k0:=cS fc
 refine aE 15 rfl ?_
 refine gi [⟨.slice E j.length B,j.length,ar,135,6⟩,⟨.slice Q m.length J,m.length,au,75,6⟩] (List.Perm.swap _ _ _) ?_
 have kP:hy f d (y.take 0)=0:=by rw[List.take_zero];rfl
 refine eA (ι:=Wd×Nat×(List Bi)×OA×Nat×Int×Int×Int×Int×(List Fr)×LV×OA×Nat×(List Ty)×LV) [1,2,3,4,6,7,8,10,43,44,45,79,80] 3 rfl (fun(aB,A,bc,bw,bS,a0,bn,bD,bC,Lx,a1,ac,V,cT,b6)=>(⟨[(81,.val (zI (A:Nat)))],[(73,[.slice bw bc.length bS,zI a0,.slice Q m.length J,.slice Am ms.length cq,zS,.slice ac Lx.length V,zI bn,zI bD,zI bC])],[⟨.slice ac Lx.length V,Lx.length,a1,135,6⟩,⟨.slice Q m.length J,m.length,au,75,6⟩]⟩,aB,⟨aJ.K,aQ aJ.H b (.cells b6.toArray 36 (0,0))⟩,Sub bj aB∧(cF bw bc.length bS∧a5 Bi.Cs 5 aB bw bc)∧(aL Fr.Cs aB Lx a1∧Src aB 6 ac Lx.length a1∧Lx.length≤V∧V≤9223372036854775807∧(ac=none→V=0))∧A≤y.length∧True∧(Good bc∧bv≤a0∧bc.length≤aZ.length+1000*hy f d (y.take A)∧a0≤bv+500000000*((hy f d (y.take A):Nat):Int)∧Lx.length≤j.length+hy f d (y.take A))∧aL Ty.Cs aB cT b6∧cT.length=d.length,y.length -A)) (bj,0,aZ,bQ,b9,bv,cU,cV,cW,j,ar,E,B,cm,be) rfl rfl rfl [1,1] rfl ?_ ?_
 exact⟨sR,⟨dE,(aC eM dX L)⟩,⟨bg ho L iI,eL jl L,ja,iE,hG⟩,Nat.zero_le _,trivial,(⟨iV,by(try dsimp only);(try simp only[ll]);omega,by(try dsimp only);(try simp only[ll]);omega,by(try dsimp only);(try simp only[ll]);omega,by(try dsimp only);(try simp only[ll]);omega⟩),dy,c7⟩
 rintro⟨aB,A,bc,bw,bS,a0,bn,bD,bC,Lx,a1,ac,V,cT,b6⟩ ⟨ag,⟨cb,cf⟩,⟨dA,d5,dO,dv,dl⟩,la,_,jx,fk,fK⟩
 obtain⟨ft,lp,lt,lx,lA⟩:=jx
 have k6:=DS f d y A
 show VX _ _ _ ⟨_,_,_⟩ aB ⟨aJ.K,aQ aJ.H b (.cells b6.toArray 36 (0,0))⟩
 refine aE 6 rfl ?_
 cases fe:(decide (((A:Nat):Int)<((y.length:Nat):Int)))
 have kZ:=cS fe
 refine aE 10 rfl ?_
 refine oT (ts:=[]) (rs:=_) (AC cb cf ⟨dO,dv,by(try dsimp only);(try simp only[ll]);omega,dl⟩ (cz d5 dA)) DU rfl rfl rfl rfl ?_
 rintro _ _ _ eG X ⟨rfl,rfl,em,en,gY,rfl⟩
 refine an 13 rfl ?_
 cases kK:(gY)
 refine aE 13 rfl (ww 1 ?_)
 rotate_left
 refine aE 4 rfl ?_
 refine oT (ts:=[]) (rs:=_) (h6 (ts:=[]) 3 em en) h7 rfl rfl rfl rfl ?_
 rintro _ _ _ gH ln ⟨lk,rfl,⟨bn,bD,bC,rfl⟩,_,_,rfl,-⟩
 subst gH
 refine an 12 rfl (ww 1 ?_)
 rotate_left
 have c8:=cX fe
 refine aE 7 rfl ?_
 obtain⟨gV,jJ,kv,hB,c2,e0,h4,ix⟩:=cn cP (aC cP dW (ai L ag)) A c8
 obtain rfl:=h4
 have k2:0≤c2∧c2<(d.length:Int):=by rw[e0];exact cw.1 _ (List.getElem_mem (n:=A) c8)
 obtain⟨D,i4⟩:∃k:Nat,c2=(k:Int):=⟨c2.toNat,by omega⟩
 subst i4
 have ce:D<d.length:=by omega
 refine xp (a3 (b:=gV) (o:=jJ) (i:=A) hB rfl rfl c8 gE) rfl (xp (dT rfl bG (ix 0 _ rfl)) rfl (an 12 rfl ?_))
 refine gi [⟨.slice Q m.length J,m.length,au,75,6⟩,⟨.slice ac Lx.length V,Lx.length,a1,135,6⟩] (List.Perm.swap _ _ _) ?_
 refine gi [⟨.slice ac Lx.length V,Lx.length,a1,135,6⟩,⟨.slice Q m.length J,m.length,au,75,6⟩] (List.Perm.swap _ _ _) ?_
 have k5:hy f d (y.take (A+1))=hy f d (y.take A)+fA f (d.getD D ⟨#[]⟩):=by have bo:=NW f d (g:=y) c8;rw[←e0] at bo;exact bo
 have k7:=DS f d y (A+1)
 have kI:fA (f.take 0) (d.getD D ⟨#[]⟩)=0:=by rw[List.take_zero];rfl
 have kE:=fR bI
 refine eA (ι:=Wd×Nat×(List Bi)×OA×Nat×Int×Int×Int×Int×(List Fr)×LV×OA×Nat×(List Ty)×LV) [1,2,3,4,6,7,8,10,14,43,44,45,79,80,81,86,87] 3 rfl (fun(a7,C,bs,bR,ca,b4,cY,cZ,c0,aS,b8,bz,bl,b5,bO)=>(⟨[(88,.val (zI (C:Nat)))],[(73,[.slice bR bs.length ca,zI b4,.slice Q m.length J,.slice Am ms.length cq,zS,.slice bz aS.length bl,zI cY,zI cZ,zI c0])],[⟨.slice bz aS.length bl,aS.length,b8,135,6⟩,⟨.slice Q m.length J,m.length,au,75,6⟩]⟩,a7,⟨aJ.K,aQ aJ.H b (.cells bO.toArray 36 (0,0))⟩,Sub aB a7∧(cF bR bs.length ca∧a5 Bi.Cs 5 a7 bR bs)∧(aL Fr.Cs a7 aS b8∧Src a7 6 bz aS.length b8∧aS.length≤bl∧bl≤9223372036854775807∧(bz=none→bl=0))∧C≤f.length∧True∧(Good bs∧bv≤b4∧bs.length≤aZ.length+1000*(hy f d (y.take A)+fA (f.take C) (d.getD D ⟨#[]⟩))∧b4≤bv+500000000*(((hy f d (y.take A)+fA (f.take C) (d.getD D ⟨#[]⟩)):Nat):Int)∧aS.length≤j.length+(hy f d (y.take A)+fA (f.take C) (d.getD D ⟨#[]⟩)))∧aL Ty.Cs a7 b5 bO∧b5.length=d.length,f.length -C)) (aB,0,bc,bw,bS,a0,bn,bD,bC,Lx,a1,ac,V,cT,b6) rfl rfl rfl [1,1] rfl ?_ ?_
 exact⟨sR,⟨cb,cf⟩,⟨dA,d5,dO,dv,dl⟩,Nat.zero_le _,trivial,(⟨ft,by(try dsimp only);(try simp only[ll]);omega,by(try dsimp only);(try simp only[ll]);omega,by(try dsimp only);(try simp only[ll]);omega,by(try dsimp only);(try simp only[ll]);omega⟩),fk,fK⟩
 rintro⟨a7,C,bs,bR,ca,b4,cY,cZ,c0,aS,b8,bz,bl,b5,bO⟩ ⟨b3,⟨dF,dY⟩,⟨dB,d6,dQ,dw,dm⟩,_,_,jy,c5,cx⟩
 obtain⟨dD,lq,lu,ly,lB⟩:=jy
 have kN:=DQ f (d.getD D ⟨#[]⟩) C
 have kO:=DQ f (d.getD D ⟨#[]⟩) (C+1)
 show VX _ _ _ ⟨_,_,_⟩ a7 ⟨aJ.K,aQ aJ.H b (.cells bO.toArray 36 (0,0))⟩
 refine aE 6 rfl ?_
 cases iq:(decide (((C:Nat):Int)<((f.length:Nat):Int)))
 refine aE 8 rfl (xp (bA rfl rfl (by omega)) rfl (an 2 rfl ?_))
 refine dI (a7,A+1,bs,bR,ca,b4,cY,cZ,c0,aS,b8,bz,bl,b5,bO) rfl rfl rfl [1,1] rfl ?_ ?_
 exact⟨ag.trans b3,⟨dF,dY⟩,⟨dB,d6,dQ,dw,dm⟩,by(try dsimp only);omega,trivial,⟨dD,by(try dsimp only);(try simp only[ll]);omega,by(try dsimp only);(try simp only[ll]);omega,by(try dsimp only);(try simp only[ll]);omega,by(try dsimp only);(try simp only[ll]);omega⟩,c5,cx⟩
 (try dsimp only);omega
 have da:=cX iq
 refine aE 7 rfl ?_
 obtain⟨gW,jK,_,hC,⟨df,ga,eX,⟨eb,eo,ej,gg,ef,dj⟩,ee,di⟩,e1,⟨gu,g8,gt,g7,_,rfl,fv,fN,fu,fM,⟨gw,ha,rfl,fz,db⟩⟩,iz⟩:=cn dt (aC dt bM (ai (ai (ai (ai (ai (ai (ai (ai aW bq) F) aD) aF) ay) L) ag) b3)) C da
 replace db:=c9.1 db
 (try dsimp only at fv fN fu fM fz db)
 refine xp (a3 (b:=gW) (o:=jK) (i:=C) hC rfl rfl da hk) rfl (xp (jY (cs:=[.string df,.slice gu ga.length g8,.slice gt eX.length g7,zI eb,.string eo,zI ej,.slice gw gg.length ha,zI ef,zI dj,zI ee,zI di]) rfl tp iz) rfl (an 5 rfl ?_))
 refine dM mixed (fun k=>k==4) bH (fun _ _ h=>by cases h) fun aq=> ?_
 refine bm [0,1,2,3] rfl (by kernel_rfl) id ?_
 obtain⟨gX,jL,kw,hD,eW,hP,h5,iA⟩:=cn bT (aC bT cA (ai (ai (ai (ai (ai (ai F aD) aF) ay) L) ag) b3)) D ce
 obtain rfl:=h5
 have fr:d.getD D ⟨#[]⟩=eW:=by rw[hP,List.getD_eq_getElem?_getD,List.getElem?_eq_getElem ce];rfl
 refine xt 4 rfl (a3 (b:=gX) (o:=jL) (i:=D) hD rfl rfl ce fy) rfl (by kernel_rfl) id (xt 5 rfl (dT rfl fx (iA 0 _ rfl)) rfl (by kernel_rfl) id (bm [6] rfl (by kernel_rfl) id (du (by kernel_rfl) (br 1 rfl ?_))))
 cases ff:(df.toList==eW.toList)
 have iC:fA (f.take (C+1)) (d.getD D ⟨#[]⟩)=fA (f.take C) (d.getD D ⟨#[]⟩):=by rw[DP da,←e1,fr];rw[show ((_:Rl).s.toList==_)=false from ff];rfl
 refine aE 5 rfl (xp (bA rfl rfl (by omega)) rfl (an 2 rfl ?_))
 refine dI (a7,C+1,bs,bR,ca,b4,cY,cZ,c0,aS,b8,bz,bl,b5,bO) rfl rfl rfl [1,1] rfl ?_ ?_
 exact⟨b3.trans sR,⟨dF,dY⟩,⟨dB,d6,dQ,dw,dm⟩,by(try dsimp only);omega,trivial,⟨dD,by(try dsimp only);(try simp only[ll]);omega,by(try dsimp only);(try simp only[ll]);omega,by(try dsimp only);(try simp only[ll]);omega,by(try dsimp only);(try simp only[ll]);omega⟩,c5,cx⟩
 (try dsimp only);omega
 have iC:fA (f.take (C+1)) (d.getD D ⟨#[]⟩)=fA (f.take C) (d.getD D ⟨#[]⟩)+gP (⟨df,ga,eX,((.mk eb eo ej gg ef dj:Ex)),ee,di⟩:Rl):=by rw[DP da,←e1,fr];rw[show ((_:Rl).s.toList==_)=true from ff];rfl
 refine aE 1 rfl ?_
 refine dM mixed (fun k=>k==4) bH (fun _ _ h=>by cases h) fun aq=> ?_
 refine bm [0,1,2,3] rfl (by kernel_rfl) id (xt 4 rfl (a3 (i:=D) rfl rfl rfl ce e6) rfl (by kernel_rfl) id (bp [5] (by kernel_rfl) rfl ?_))
 obtain⟨_,e8,iP⟩:=aL.at a2 c5 (i:=D) (by rw[cx];exact ce)
 obtain⟨⟨f2,gd,f8,jR⟩,hW⟩:∃x,x=b5[D]'(by rw[cx];exact ce):=⟨_,rfl⟩
 rw[←hW] at e8
 obtain⟨gA,he,rfl,i1,d0⟩:=e8
 replace d0:=a8.1 d0
 refine fT rfl (lX (cs:=bO) (ds:=[zI f2,.string gd,zI f8,.slice gA jR.length he]) rfl (.inr (b0 _ _ _)) cD iP rfl) rfl ?_ bt
 refine bp [6] (by kernel_rfl) rfl ?_
 refine NU rfl (rs:=[⟨.slice Q m.length J,m.length,au,75,6⟩]) (Ny (t:=⟨bR,bs,ca,b4,bz,aS,bl,b8,cY,cZ,c0⟩) ⟨fH,fi,by(try dsimp only);(try simp only[ll]);omega,eZ⟩ (aC eE (cz fY dC) (ai ag b3)) iZ (aC eE jj (ai (ai (ai (ai (ai aD aF) ay) L) ag) b3)) ⟨⟨dF,dY⟩,dD,by(try dsimp only);(try simp only[ll]);omega,⟨dB,d6,dQ,dw,dm⟩⟩ (pr (s:=df) (l:=ee) (c:=di) fv fN fu fM (de (k:=eb) (s:=eo) (n:=ej) (l:=ef) (c:=dj) fz db)) (aP (k:=f2) (s:=gd) (n:=f8) i1 d0) ⟨by(try dsimp only);(try simp only[ll]);omega,by(try dsimp only);(try simp only[ll]);omega,by(try dsimp only);(try simp only[ll]);omega⟩) Ob rfl rfl rfl rfl rfl ?_ bt
 rintro _ _ _ gG fV ⟨⟨gv,jA,g9,jC,go,hq,g5,jN,hm,gN,gM⟩,rfl,rfl,⟨⟨fw,fO⟩,fq,jf,⟨fl,fZ,fG,fh,eY⟩⟩,⟨jp,jq,jr,js⟩⟩
 dsimp only at fw fO fq jf fl fZ fG fh eY jp jq jr js
 refine du (by kernel_rfl) (br 3 rfl (xp (bA rfl rfl (by omega)) rfl (an 2 rfl ?_)))
 refine dI (gG,C+1,jA,gv,g9,jC,hm,gN,gM,hq,jN,go,g5,b5,bO) rfl rfl rfl [1,1] rfl ?_ ?_
 exact⟨b3.trans fV,⟨fw,fO⟩,⟨fl,fZ,fG,fh,eY⟩,by(try dsimp only);omega,trivial,⟨fq,by(try dsimp only);(try simp only[ll]);omega,by(try dsimp only);(try simp only[ll]);omega,by(try dsimp only);(try simp only[ll]);omega,by(try dsimp only);(try simp only[ll]);omega⟩,(bg a2 fV c5),cx⟩
 (try dsimp only);omega
 have dV:=cX fc
 refine aE 7 rfl ?_
 obtain⟨gS,jG,ks,hx,c1,hM,h1,iu⟩:=cn cP (aC cP dW L) aY dV
 obtain rfl:=h1
 have k1:0≤c1∧c1<(d.length:Int):=by rw[hM];exact cw.1 _ (List.getElem_mem (n:=aY) dV)
 obtain⟨I,i3⟩:∃k:Nat,c1=(k:Int):=⟨c1.toNat,by omega⟩
 subst i3
 have aV:I<d.length:=by omega
 refine xp (a3 (b:=gS) (o:=jG) (i:=aY) hx rfl rfl dV gE) rfl (xp (dT rfl bG (iu 0 _ rfl)) rfl (an 8 rfl ?_))
 refine oT (ts:=[]) (rs:=_) (nl (ts:=[]) (by omega) (by omega)) nn rfl rfl rfl rfl ?_
 rintro _ _ _ gD lm ⟨lj,rfl,rfl,⟨cE,cN,cK,dg⟩,_,rfl,⟨ey,eT,rfl,i0,dZ⟩,_⟩
 subst gD
 replace dZ:=a8.1 dZ
 refine xp (a3 (i:=I) rfl rfl rfl aV e6) rfl ?_
 refine rX (cs:=be) (be.take (0+I*4)++ [zI cE,.string cN,zI cK,.slice ey dg.length eT]++be.drop (0+I*4+4)) rfl rfl (b0 _ _ _) cD rfl (by have bo:=aL.len a2 dy;rw[bo,c7];have:=aV;omega) rfl rfl ?_
 rintro _ rfl
 simp only[iM]
 have cv:=aL.put a2 dy (i:=I) (by rw[c7];exact aV) (aP (k:=cE) (s:=cN) (n:=cK) i0 dZ)
 have cc:(cm.set I (.mk cE cN cK dg:Ty)).length=d.length:=by rw[List.length_set];exact c7
 generalize cm.set I (.mk cE cN cK dg:Ty)=ts_19 at cv cc
 generalize (be.take (0+I*4)++ [zI cE,.string cN,zI cK,.slice ey dg.length eT]++be.drop (0+I*4+4))=xa_19 at cv⊢
 refine an 2 rfl ?_
 refine dM mixed (fun k=>false) bH (fun _ _ h=>by cases h) fun aq=> ?_
 refine bm [0,1,2,3,5,6] rfl (by kernel_rfl) id ?_
 obtain⟨gU,jI,ku,hA,ax,hO,h3,iw⟩:=cn bT (aC bT cA (ai (ai (ai (ai F aD) aF) ay) L)) I aV
 obtain rfl:=h3
 have kW:d.getD I ⟨#[]⟩=ax:=by rw[hO,List.getD_eq_getElem?_getD,List.getElem?_eq_getElem aV];rfl
 refine xt 7 rfl (a3 (b:=gU) (o:=jI) (i:=I) hA rfl rfl aV fy) rfl (by kernel_rfl) id (xt 8 rfl (dT rfl fx (iw 0 _ rfl)) rfl (by kernel_rfl) id (bm [9,10] rfl (by kernel_rfl) id (xt 11 rfl (a3 (i:=I) rfl rfl rfl aV e6) rfl (by kernel_rfl) id (bp [4,12] (by kernel_rfl) rfl ?_))))
 refine dh rfl ?_ ?_
 refine bp [12] (by kernel_rfl) rfl ?_
 obtain⟨_,e4,iL⟩:=aL.at a2 cv (i:=I) (by rw[cc];exact aV)
 obtain⟨⟨Y,aa,Z,aA⟩,hT⟩:∃x,x=ts_19[I]'(by rw[cc];exact aV):=⟨_,rfl⟩
 rw[←hT] at e4
 obtain⟨a4,ba,rfl,dK,bZ⟩:=e4
 replace bZ:=a8.1 bZ
 refine fT rfl (lX (cs:=xa_19) (ds:=[zI Y,.string aa,zI Z,.slice a4 aA.length ba]) rfl (.inr (b0 _ _ _)) cD iL rfl) rfl ?_ bt
 refine xt 13 rfl (bJ (vs:=[(0,.string ax),(1,.agg #[zI Y,.string aa,zI Z,.slice a4 aA.length ba]),(2,zI 0)]) (v:= .agg #[.string ax,zI Y,.string aa,zI Z,.slice a4 aA.length ba,zI 0]) rfl (fun W=>by kernel_rfl)) rfl (by kernel_rfl) id (bp [14] (by kernel_rfl) rfl (ww 2 ?_))
 rotate_left
 obtain⟨_,e7,iO⟩:=aL.at a2 cv (i:=I) (by rw[cc];exact aV)
 obtain⟨⟨Y,aa,Z,aA⟩,hV⟩:∃x,x=ts_19[I]'(by rw[cc];exact aV):=⟨_,rfl⟩
 rw[←hV] at e7
 obtain⟨a4,ba,rfl,dK,bZ⟩:=e7
 replace bZ:=a8.1 bZ
 refine fT rfl (lX (cs:=xa_19) (ds:=[zI Y,.string aa,zI Z,.slice a4 aA.length ba]) rfl (.inr (b0 _ _ _)) cD iO rfl) rfl ?_ bt
 refine xt 13 rfl (bJ (vs:=[(0,.string ax),(1,.agg #[zI Y,.string aa,zI Z,.slice a4 aA.length ba]),(2,zI 0)]) (v:= .agg #[.string ax,zI Y,.string aa,zI Z,.slice a4 aA.length ba,zI 0]) rfl (fun W=>by kernel_rfl)) rfl (by kernel_rfl) id (bp [4,14] (by kernel_rfl) rfl ?_)
 refine dh rfl ?_ ?_
 refine bp [14] (by kernel_rfl) rfl (ww 2 ?_)
 rotate_left
 refine jn lT rfl ?_ bt
 intro kC kb ck fp
 refine bm [1004] rfl (by kernel_rfl) id (ww 3 ?_)
 rotate_left
 rintro ch er aB gL _ _ ⟨_,_,_,e,_⟩
 cases e
 rintro ch er aB gL _ _ ⟨_,_,_,e,_⟩
 cases e
 refine aE 2 rfl ?_
 refine dM mixed (fun k=>k==2) bH (fun _ _ h=>by cases h) fun aq=> ?_
 refine bm [0,1,2,3,1004] rfl (by kernel_rfl) id (du (by kernel_rfl) (br 3 rfl ?_))
 exact kk results13 (aT rfl) (aT rfl) (aK rfl rfl gp) (eH _) ⟨rfl,rfl,_,rfl,_,[],2,ei,dk,rfl,a6.nil,b2 _⟩
 any_goals
  refine uw 1 ?_
  cases kL:(bn !=0)
  refine aE 11 rfl ?_
  refine gi [⟨.slice Q m.length J,m.length,au,75,6⟩,⟨.slice ac Lx.length V,Lx.length,a1,135,6⟩] (List.Perm.swap _ _ _) ?_
  refine eA (ι:=Wd×Nat×(List Pl)×LV×OA×Nat×(List Ty)×LV) [1,2,3,4,6,7,8,43,44,45,130,131] 3 rfl (fun(bi,aX,T,bP,bx,bk,bN,aM)=>(⟨[(132,.val (zI (aX:Nat)))],[(73,[.slice bw bc.length bS,zI a0,.slice bx T.length bk,.slice Am ms.length cq,zS,.slice ac Lx.length V,zI bn,zI bD,zI bC]),(29,[zI em,zI en])],[⟨.slice bx T.length bk,T.length,bP,75,6⟩,⟨.slice ac Lx.length V,Lx.length,a1,135,6⟩]⟩,bi,⟨aJ.K,aQ aJ.H b (.cells aM.toArray 36 (0,0))⟩,Sub eG bi∧(aL Pl.Cs bi T bP∧Src bi 6 bx T.length bP∧T.length≤bk∧bk≤9223372036854775807∧(bx=none→bk=0))∧aX≤y.length∧True∧(T.length≤m.length+aX)∧aL Ty.Cs bi bN aM∧bN.length=d.length,y.length -aX)) (eG,0,m,au,Q,J,cT,b6) rfl rfl rfl [1,1] rfl ?_ ?_
  exact⟨sR,⟨bg eE (ai ag X) dC,eL fY (ai ag X),fH,fi,eZ⟩,Nat.zero_le _,trivial,(by(try dsimp only);(try simp only[ll]);omega),(bg a2 X fk),fK⟩
  rintro⟨bi,aX,T,bP,bx,bk,bN,aM⟩ ⟨az,⟨fn,jo,jc,iG,hI⟩,k9,_,lD,cu,bK⟩
  show VX _ _ _ ⟨_,_,_⟩ bi ⟨aJ.K,aQ aJ.H b (.cells aM.toArray 36 (0,0))⟩
  refine aE 6 rfl ?_
  cases fg:(decide (((aX:Nat):Int)<((y.length:Nat):Int)))
  have kY:=cS fg
  refine aE 8 rfl (xp (bA rfl rfl (by omega)) rfl (an 2 rfl ?_))
  refine dI (bi,ah+1,bc,bw,bS,a0,bn,bD,bC,T,bP,bx,bk,Lx,a1,ac,V,bN,aM) rfl rfl rfl [1,1] rfl ?_ ?_
  exact⟨ay.trans (ai (ai (ai L ag) X) az),⟨cb,(aC eM cf (ai X az))⟩,⟨fn,jo,jc,iG,hI⟩,⟨bg ho (ai X az) dA,eL d5 (ai X az),dO,dv,dl⟩,by(try dsimp only);omega,trivial,trivial,⟨ft,by(try dsimp only);(try simp only[ll]);omega,by(try dsimp only);(try simp only[ll]);omega,by(try dsimp only);(try simp only[ll]);omega,by(try dsimp only);(try simp only[ll]);omega,by(try dsimp only);(try simp only[ll]);omega⟩,cu,bK⟩
  (try dsimp only);omega
  have dU:=cX fg
  refine aE 7 rfl ?_
  obtain⟨gZ,jM,kx,hE,c3,hQ,h8,iB⟩:=cn cP (aC cP dW (ai (ai (ai L ag) X) az)) aX dU
  obtain rfl:=h8
  have k3:0≤c3∧c3<(d.length:Int):=by rw[hQ];exact cw.1 _ (List.getElem_mem (n:=aX) dU)
  obtain⟨N,i5⟩:∃k:Nat,c3=(k:Int):=⟨c3.toNat,by omega⟩
  subst i5
  have af:N<d.length:=by omega
  refine xp (a3 (b:=gZ) (o:=jM) (i:=aX) hE rfl rfl dU gE) rfl (xp (dT rfl bG (iB 0 _ rfl)) rfl (an 5 rfl ?_))
  refine dM mixed (fun k=>k==3) bH (fun _ _ h=>by cases h) fun aq=> ?_
  refine bm [0,1,2,3,4,5] rfl (by kernel_rfl) id (xt 6 rfl (a3 (i:=N) rfl rfl rfl af e6) rfl (by kernel_rfl) id (bp [7] (by kernel_rfl) rfl ?_))
  obtain⟨_,e9,iQ⟩:=aL.at a2 cu (i:=N) (by rw[bK];exact af)
  obtain⟨⟨f3,ge,f9,jS⟩,hX⟩:∃x,x=bN[N]'(by rw[bK];exact af):=⟨_,rfl⟩
  rw[←hX] at e9
  obtain⟨gB,hf,rfl,i2,d1⟩:=e9
  replace d1:=a8.1 d1
  refine fT rfl (lX (cs:=aM) (ds:=[zI f3,.string ge,zI f9,.slice gB jS.length hf]) rfl (.inr (b0 _ _ _)) cD iQ rfl) rfl ?_ bt
  refine bp [8] (by kernel_rfl) rfl ?_
  refine iy rfl (ni (eK (made:=a0) cb (aC eM cf (ai X az))) (aP (k:=f3) (s:=ge) (n:=f9) i2 d1)) nj rfl rfl (fun _ _ h=>by cases h) ?_ bt
  rintro _ gK -⟨fL,⟨g0,rfl,_⟩⟩
  subst gK
  refine bm [9] rfl (by kernel_rfl) id (du (by kernel_rfl) (br 1 rfl ?_))
  cases kM:(g0)
  refine aE 2 rfl ?_
  refine dM mixed (fun k=>k==0) bH (fun _ _ h=>by cases h) fun aq=> ?_
  refine bm [0,1,2] rfl (by kernel_rfl) id ?_
  obtain⟨gR,jF,kr,hw,eV,hL,h0,it⟩:=cn bT (aC bT cA (ai (ai (ai (ai (ai (ai (ai F aD) aF) ay) L) ag) X) az)) N af
  obtain rfl:=h0
  have kU:d.getD N ⟨#[]⟩=eV:=by rw[hL,List.getD_eq_getElem?_getD,List.getElem?_eq_getElem af];rfl
  refine xt 3 rfl (a3 (b:=gR) (o:=jF) (i:=N) hw rfl rfl af fy) rfl (by kernel_rfl) id (xt 4 rfl (dT rfl fx (it 0 _ rfl)) rfl (by kernel_rfl) id (bp [5] (by kernel_rfl) rfl ?_))
  refine iy rfl (Gt (ez bU (aC eI bV (ai (ai (ai (ai (ai (ai (ai (ai (ai aW bq) F) aD) aF) ay) L) ag) X) az)) bI (aC dt bM (ai (ai (ai (ai (ai (ai (ai (ai (ai aW bq) F) aD) aF) ay) L) ag) X) az))) eV) Oc rfl rfl (fun _ _ h=>by cases h) ?_ bt
  rintro _ gI -⟨fL,⟨⟨jB,hh⟩,_,rfl,rfl⟩⟩
  subst gI
  refine bm [6,7,1008] rfl (by kernel_rfl) id (du (by kernel_rfl) (br 12 rfl ?_))
  refine oR (cs:=aM) (b0 _ _ _) fun F fF=> ?_
  rw[j8 _ _ dn]
  exact kk results13 (aT rfl) (aT rfl) (aK rfl rfl gp) (eH _) ⟨rfl,rfl,_,rfl,_,[],3,jB,hh,rfl,a6.nil,b2 _⟩
  refine aE 3 rfl ?_
  refine tR (ι:=Wd×Int×BA×Int×List Ty×OA×Nat×Int) (fun(ct,aG,aI,aH,aO,bh,bF,am)=>(⟨[(1,.ptr 0 0),(2,.val (zS)),(3,.val (zI 0)),(4,.ptr 1 0),(6,.val (.slice et d.length eP)),(7,.val (.slice (some ⟨b,0,none⟩) d.length d.length)),(8,.ptr 3 0),(20,.val (zI (N:Nat))),(21,.ptr 5 0),(22,.val (zI am)),(43,.val (.slice gq gs.length g6)),(44,.val (zI (gs.length:Nat))),(45,.val (zI (ah:Nat))),(130,.val (.slice gn y.length g4)),(131,.val (zI (y.length:Nat))),(132,.val (zI (aX:Nat)))],[(26,[.slice es eU.length eO,.slice eu f.length eQ]),(29,[zI 0,zI 0]),(58,[.bool false,zI ei,zI dk]),(73,[.slice bw bc.length bS,zI a0,.slice bx T.length bk,.slice Am ms.length cq,zS,.slice ac Lx.length V,zI bn,zI bD,zI bC]),(29,[zI em,zI en]),(36,[zI aG,.string aI,zI aH,.slice bh aO.length bF])],[⟨.slice bx T.length bk,T.length,bP,75,6⟩,⟨.slice ac Lx.length V,Lx.length,a1,135,6⟩]⟩,ct,⟨aJ.K,aQ aJ.H b (.cells aM.toArray 36 (0,0))⟩,Sub bi ct∧(cF bh aO.length bF∧a5 Ty.Cs 4 ct bh aO)∧0≤am∧am≤1000)) ?_ ?_
  refine dM mixed (fun k=>k==3) bH (fun _ _ h=>by cases h) fun aq=> ?_
  refine bm [0,1,2,3,4,5] rfl (by kernel_rfl) id (xt 6 rfl (a3 (i:=N) rfl rfl rfl af e6) rfl (by kernel_rfl) id (bp [7,13] (by kernel_rfl) rfl ?_))
  obtain⟨_,fa,iR⟩:=aL.at a2 cu (i:=N) (by rw[bK];exact af)
  obtain⟨⟨cI,cQ,cM,jU⟩,hY⟩:∃x,x=bN[N]'(by rw[bK];exact af):=⟨_,rfl⟩
  rw[←hY] at fa
  obtain⟨gC,hg,rfl,dL,b1⟩:=fa
  replace b1:=a8.1 b1
  refine fT rfl (lX (cs:=aM) (ds:=[zI cI,.string cQ,zI cM,.slice gC jU.length hg]) rfl (.inr (b0 _ _ _)) cD iR rfl) rfl ?_ ?_
  refine bp [8,13] (by kernel_rfl) rfl ?_
  refine iy rfl (j5 (eK (made:=a0) cb (aC eM cf (ai X az))) (aP (k:=cI) (s:=cQ) (n:=cM) dL b1)) j6 rfl rfl (fun _ _ h=>by cases h) ?_ ?_
  rintro _ kd fW ⟨⟨ed,eq,el,lK⟩,_,rfl,⟨jZ,ko,rfl,dH,bX⟩,d9⟩
  replace bX:=a8.1 bX
  refine bp [9,13] (by kernel_rfl) rfl ?_
  refine iy rfl (pG (aP (k:=ed) (s:=eq) (n:=el) dH bX) (qk d9)) ql rfl rfl (fun _ _ h=>by cases h) ?_ ?_
  rintro _ eJ fX ⟨⟨f1,gc,f7,gj⟩,_,f5,rfl,⟨ex,eS,rfl,fC,ci⟩,ea⟩
  replace ci:=a8.1 ci
  refine bm [10,11,12] rfl (by kernel_rfl) id (bp [13] (by kernel_rfl) rfl ?_)
  refine nK rfl ?_ bt
  refine bm [1014,15] rfl (by kernel_rfl) id (du (by kernel_rfl) (ww 10 ?_))
  rotate_left
  refine nK rfl ?_ bt
  refine ww 8 ?_
  rotate_left
  refine nK rfl ?_ bt
  refine ww 5 ?_
  rotate_left
  refine nK rfl ?_ bt
  refine bp [7] (by kernel_rfl) rfl ?_
  obtain⟨_,e2,iJ⟩:=aL.at a2 cu (i:=N) (by rw[bK];exact af)
  obtain⟨⟨cI,cQ,cM,jO⟩,hR⟩:∃x,x=bN[N]'(by rw[bK];exact af):=⟨_,rfl⟩
  rw[←hR] at e2
  obtain⟨gx,hb,rfl,dL,b1⟩:=e2
  replace b1:=a8.1 b1
  refine fT rfl (lX (cs:=aM) (ds:=[zI cI,.string cQ,zI cM,.slice gx jO.length hb]) rfl (.inr (b0 _ _ _)) cD iJ rfl) rfl ?_ bt
  refine ww 5 ?_
  rotate_left
  rintro⟨ct,aG,aI,aH,aO,bh,bF,am⟩ ⟨dc,⟨fE,fQ⟩,lf,li⟩
  show VX _ _ _ ⟨_,_,_⟩ ct ⟨aJ.K,aQ aJ.H b (.cells aM.toArray 36 (0,0))⟩
  refine dM mixed (fun k=>k==5) bH (fun _ _ h=>by cases h) fun aq=> ?_
  refine bm [0,1,2,3,5,6] rfl (by kernel_rfl) id ?_
  obtain⟨gO,jD,kq,hs,aU,hJ,hZ,ir⟩:=cn bT (aC bT cA (ai (ai (ai (ai (ai (ai (ai (ai F aD) aF) ay) L) ag) X) az) dc)) N af
  obtain rfl:=hZ
  have kS:d.getD N ⟨#[]⟩=aU:=by rw[hJ,List.getD_eq_getElem?_getD,List.getElem?_eq_getElem af];rfl
  refine xt 7 rfl (a3 (b:=gO) (o:=jD) (i:=N) hs rfl rfl af fy) rfl (by kernel_rfl) id (xt 8 rfl (dT rfl fx (ir 0 _ rfl)) rfl (by kernel_rfl) id (bm [9,10] rfl (by kernel_rfl) id (xt 11 rfl (bJ (vs:=[(0,.string aU),(1,.agg #[zI aG,.string aI,zI aH,.slice bh aO.length bF]),(2,zI am)]) (v:= .agg #[.string aU,zI aG,.string aI,zI aH,.slice bh aO.length bF,zI am]) rfl (fun W=>by kernel_rfl)) rfl (by kernel_rfl) id (bp [4,12] (by kernel_rfl) rfl ?_))))
  refine dh rfl ?_ ?_
  refine bp [12] (by kernel_rfl) rfl ?_
  refine jn lT rfl ?_ bt
  intro ky j1 cj fo
  refine ww 4 ?_
  rotate_left
  refine jn lT rfl ?_ bt
  intro kz j2 cj fo
  refine bm [1004] rfl (by kernel_rfl) id (ww 4 ?_)
  rotate_left
  refine aE 2 rfl ?_
  refine dM mixed (fun k=>k==3) bH (fun _ _ h=>by cases h) fun aq=> ?_
  refine bm [0,1,2,3,4,5,6,7,8,9,1010] rfl (by kernel_rfl) id (du (by kernel_rfl) (br 8 rfl ?_))
  refine oR (cs:=b6) (b0 _ _ _) fun F fF=> ?_
  rw[j8 _ _ dn]
  exact kk results13 (aT rfl) (aT rfl) (aK rfl rfl gp) (eH _) ⟨rfl,rfl,_,rfl,_,[],bn,bD,bC,rfl,a6.nil,b2 _⟩
 any_goals
  refine uw 2 ?_
  refine jn lT rfl ?_ bt
  intro kA ka ck fp
  refine ww 3 ?_
  rotate_left
 any_goals
  refine uw 3 ?_
  refine nA ?_
  refine bp [15] (by kernel_rfl) rfl ?_
  refine uN (news:=[.string ax,zI Y,.string aa,zI Z,.slice a4 aA.length ba,zI 0]) rfl uK rfl rfl (cd rfl fp) (fun h=>by cases h) (fun u hu=>eE.one (kH (s:=ax) (n:=0) ⟨by decide,by decide⟩ (aP (k:=Y) (s:=aa) (n:=Z) dK (aC a2 bZ ck))) u hu) (n1:=(m++ [(⟨ax,(.mk Y aa Z aA:Ty),0⟩:Pl)]).length) (by(try simp only[ll])<;>omega) (by(try dsimp only);(try simp only[ll]);omega) rfl rfl ?_ bt
  intro gm hl eF d4 ik il im io
  have i8:aL Pl.Cs eF (m++ [(⟨ax,(.mk Y aa Z aA:Ty),0⟩:Pl)]) (au++ [.string ax,zI Y,.string aa,zI Z,.slice a4 aA.length ba,zI 0]):=bg eE d4 (c6 (bg eE ck dC) (c4 (kH (s:=ax) (n:=0) ⟨by decide,by decide⟩ (aP (k:=Y) (s:=aa) (n:=Z) dK (aC a2 bZ ck)))))
  refine bm [16,17,1018] rfl (by kernel_rfl) id (du (by kernel_rfl) (br 3 rfl (xp (bA rfl rfl (by omega)) rfl (an 2 rfl ?_))))
  refine dI (eF,aY+1,(bv+1),(m++ [(⟨ax,(.mk Y aa Z aA:Ty),0⟩:Pl)]),(au++ [.string ax,zI Y,.string aa,zI Z,.slice a4 aA.length ba,zI 0]),gm,hl,ts_19,xa_19) rfl rfl rfl [1,0,1] rfl ?_ ?_
  exact⟨L.trans (ai ck d4),⟨i8,io,ik,il,im⟩,by(try dsimp only);omega,trivial,⟨by(try dsimp only);(try simp only[ll]);omega,by(try dsimp only);(try simp only[ll]);omega⟩,(bg a2 (ai ck d4) cv),cc⟩
  (try dsimp only);omega
 any_goals
  refine uw 4 ?_
  refine nA ?_
  refine bp [13] (by kernel_rfl) rfl ?_
  refine uN (news:=[.string aU,zI aG,.string aI,zI aH,.slice bh aO.length bF,zI am]) rfl uK rfl rfl (cd rfl fo) (fun h=>by cases h) (fun u hu=>eE.one (kH (s:=aU) (n:=am) ⟨by omega,by omega⟩ (aP (k:=aG) (s:=aI) (n:=aH) fE (aC a2 fQ cj))) u hu) (n1:=(T++ [(⟨aU,(.mk aG aI aH aO:Ty),am⟩:Pl)]).length) (by(try simp only[ll])<;>omega) (by(try dsimp only);(try simp only[ll]);omega) rfl rfl ?_ bt
  intro gk hi eB d2 h9 ia ib ie
  have i6:aL Pl.Cs eB (T++ [(⟨aU,(.mk aG aI aH aO:Ty),am⟩:Pl)]) (bP++ [.string aU,zI aG,.string aI,zI aH,.slice bh aO.length bF,zI am]):=bg eE d2 (c6 (bg eE (ai dc cj) fn) (c4 (kH (s:=aU) (n:=am) ⟨by omega,by omega⟩ (aP (k:=aG) (s:=aI) (n:=aH) fE (aC a2 fQ cj)))))
  refine bm [14,15,1016] rfl (by kernel_rfl) id (du (by kernel_rfl) (br 3 rfl (xp (bA rfl rfl (by omega)) rfl (an 2 rfl ?_))))
  refine dI (eB,aX+1,(T++ [(⟨aU,(.mk aG aI aH aO:Ty),am⟩:Pl)]),(bP++ [.string aU,zI aG,.string aI,zI aH,.slice bh aO.length bF,zI am]),gk,hi,bN,aM) rfl rfl rfl [1,0,1] rfl ?_ ?_
  exact⟨az.trans (ai (ai dc cj) d2),⟨i6,ie,h9,ia,ib⟩,by(try dsimp only);omega,trivial,by(try dsimp only);(try simp only[ll]);omega,(bg a2 (ai (ai dc cj) d2) cu),bK⟩
  (try dsimp only);omega
 any_goals
  refine uw 5 ?_
  refine bp [8] (by kernel_rfl) rfl ?_
  refine iy rfl (j5 (eK (made:=a0) cb (aC eM cf (ai X az))) (aP (k:=cI) (s:=cQ) (n:=cM) dL b1)) j6 rfl rfl (fun _ _ h=>by cases h) ?_ bt
  rintro _ ke fW ⟨⟨ed,eq,el,lL⟩,_,rfl,⟨j0,kp,rfl,dH,bX⟩,d9⟩
  replace bX:=a8.1 bX
  refine ww 8 ?_
  rotate_left
 any_goals
  refine uw 6 ?_
  refine bp [8] (by kernel_rfl) rfl ?_
  refine iy rfl (j5 (eK (made:=bu) dE (aC eM dX cl)) (aP (k:=cH) (s:=cO) (n:=cL) dJ bY)) j6 rfl rfl (fun _ _ h=>by cases h) ?_ bt
  rintro _ j7 fS ⟨⟨ec,ep,ek,lJ⟩,_,rfl,⟨jX,km,rfl,dG,bW⟩,d7⟩
  replace bW:=a8.1 bW
  refine ww 7 ?_
  rotate_left
 any_goals
  refine uw 7 ?_
  refine bp [9] (by kernel_rfl) rfl ?_
  refine iy rfl (pG (aP (k:=ec) (s:=ep) (n:=ek) dG bW) (qk d7)) ql rfl rfl (fun _ _ h=>by cases h) ?_ bt
  rintro _ eC fU ⟨⟨f0,gb,f6,gh⟩,_,f4,rfl,⟨ev,eR,rfl,fB,cg⟩,d8⟩
  replace cg:=a8.1 cg
  refine bm [10,11,12,1014,15] rfl (by kernel_rfl) id (du (by kernel_rfl) (ww 9 ?_))
  rotate_left
 any_goals
  refine uw 8 ?_
  refine bp [9] (by kernel_rfl) rfl ?_
  refine iy rfl (pG (aP (k:=ed) (s:=eq) (n:=el) dH bX) (qk d9)) ql rfl rfl (fun _ _ h=>by cases h) ?_ bt
  rintro _ eJ fX ⟨⟨f1,gc,f7,gj⟩,_,f5,rfl,⟨ex,eS,rfl,fC,ci⟩,ea⟩
  replace ci:=a8.1 ci
  refine bm [10,11,12,1014,15] rfl (by kernel_rfl) id (du (by kernel_rfl) (ww 10 ?_))
  rotate_left
 any_goals
  refine uw 9 ?_
  exact ry (eC,f0,gb,f6,gh,ev,eR,f4) rfl rfl rfl [1,1,1] rfl (⟨(ai fS fU),⟨fB,cg⟩,d8.1,d8.2⟩)
 any_goals
  refine uw 10 ?_
  exact ry (eJ,f1,gc,f7,gj,ex,eS,f5) rfl rfl rfl [1,1] rfl (⟨(ai fW fX),⟨fC,ci⟩,ea.1,ea.2⟩)
theorem Of:aF 13:=by unfold aF;kernel_rfl
section
variable{C:eF}{Kb:Nat→Bool}{HH:Hp}{S0:St}{R0:Wd}{aq:Nat→Nat}{ops:Array Oper}{Q:Exit→Act→Wd→Prop}{ay d:Nat}{aN:Array Bool}{sl:List (Nat×AV)}{bx:List Bx}{rw:List bU}{R:Wd}{X:Hx}{ty:TypeId}{pos:String}{af:Array Edge}
theorem Og{i:Nat}(j:ops[i]?=some ⟨some d,.call {callee:= .value (.func bk),args:=c8,argTypes:=fi},ty,pos,af,some (ae,ca)⟩)
 (l:(ops[ae]?).bind (·.dst)=some ao) (p:look sl ao=some (.val (.bool hE))) (g:(hE==ca)=true) (o:bd bk aj R hF) (c:aF bk) (q:fb ⟨sl,bx,rw⟩ c8 (aj.map .val)) (h:Nat.blt d C.N=true) (f:∀ca ob,HH ca=some ob→X.K ca=some ob)
 (k:∀v R',Sub R R'→hF v R'→cQ C Kb HH S0 R0 aq ops Q ay (aN.setIfInBounds i true) ⟨(d,.val v)::sl,bx,rw⟩ R' X)
 (n:dV C Kb HH S0 R0 aq ops Q ay aN ⟨sl,bx,rw⟩ R X aI):dV C Kb HH S0 R0 aq ops Q ay aN ⟨sl,bx,rw⟩ R X (i::aI):=
 uA j l p g (cJ.wk o) c q h f (fun v r R' X' a b ⟨s,e,e1,e2,m⟩=>by cases e;subst e1 e2;exact k v R' a m) (fun ch r R' X' a b ⟨s,e,_⟩=>by cases e) n
end
theorem DV{X:Hx}(cL:Md.Cs ah ak aj)(cB:Ex.Cs ah aM bj)(bk:ak.Ok)(cn:ak.rs.length≤40)(ct:(ak.rs.map gP).sum≤12100)(dH:aM.size≤100000):cJ 6 [.agg aj.toArray,.agg bj.toArray] [] ah X (ic X fun u R'=>∃(cY cZ:Int) (ys:BA) (b6:OA) (cU cl:Nat) (k p q:Int),u= .tuple #[.agg #[zI cY,.string ys,zI cZ,.slice b6 cU cl],zI k,.agg #[zI p,zI q]]):=by
 obtain⟨J,L⟩:=ak
 obtain⟨E,H,F,I,rfl,aX,a0,aY,a1⟩:=cL
 obtain⟨B,C,ne,M,A,z⟩:=aM
 obtain⟨N,P,rfl,bN,a4⟩:=cB
 have cT:oP (.mk B C ne M A z:Ex).size:=ym _
 (try dsimp only at aX a0 aY a1)
 replace a4:=c9.1 a4
 try dsimp only
 refine eh func6 rfl ntmps6 rfl fun w G ad=> ?_
 refine cG 2 rfl (ow 0 [(26,[.slice E J.length H,.slice F L.length I])] rfl rfl rfl rfl rfl (ow 1 [(26,[.slice E J.length H,.slice F L.length I]),(31,[zI B,.string C,zI ne,.slice N M.length P,zI A,zI z])] rfl rfl rfl rfl rfl (ag N2 rfl (an 1 rfl (ag N3 rfl (an 5 rfl ?_))))))
 refine dP (Oe (ez aX (aC eI a0 (Sub.refl _)) aY (aC dt a1 (Sub.refl _))) bk cn ct) Of rfl rfl ?_ ?_
 rintro dK cW df di aG -⟨rfl,be,dJ,aM,cS⟩
 try dsimp only
 cases aM
 replace be:=be.symm
 subst be
 obtain⟨_,aI,bX,S,T,rfl,⟨b5,cj,rfl,dy,cO⟩,dB⟩:=cS
 try dsimp only
 refine an 4 rfl (ag N4 rfl (an 2 rfl (aa E4 rfl (an 9 rfl ?_))))
 cases dq:(bX !=0)
 try dsimp only
 refine aE 7 rfl (xp (bJ (vs:=[]) (v:= .agg #[.bool false,zI 0,zI 0]) rfl (fun W=>by kernel_rfl)) rfl (an 1 rfl ?_))
 refine kQ (q7 (ez aX (aC eI a0 aG) aY (aC dt a1 aG)) (fu (bad:=false) (l:=0) (c:=0)) (a6.nil:a6 b7 1 _ _ ([]:List BA)) (de (k:=B) (s:=C) (n:=ne) (l:=A) (c:=z) bN (aC bM a4 aG)) bk (by(try dsimp only);(try simp only[List.length_append,List.length_cons,List.length_nil]);omega)) oe rfl rfl ?_
 rintro _ c7 a7 ⟨⟨ci,ab,Y⟩,_,rfl,rfl⟩
 try dsimp only
 refine ag N5 rfl (aa E5 rfl (an 8 rfl ?_))
 cases dx:(ci)
 refine aE 6 rfl ?_
 refine DN 6 (DB (ez aX (aC eI a0 (ai aG a7)) aY (aC dt a1 (ai aG a7))) bk) DT rfl rfl rfl ?_
 rintro _ bz bT ⟨Am,ms,cq,rfl,cH,cN,_⟩
 try dsimp only
 refine an 12 rfl ?_
 refine lg 75 6 ?_
 try dsimp only
 refine A8 (ι:=Wd×Nat×(List Pl)×LV×OA×Nat) (fun(az,R,a,am,y,d)=>(⟨[(3,.ptr 1 0),(4,.ptr 2 0),(5,.val (zI 0)),(6,.ptr 3 0),(11,.ptr 6 0),(41,.val (.slice b5 aI.length cj)),(42,.val (zI (aI.length:Nat))),(43,.val (zI (R:Nat)))],[(26,[.slice E J.length H,.slice F L.length I]),(31,[zI B,.string C,zI ne,.slice N M.length P,zI A,zI z]),(36,[zI 0,.string ⟨#[]⟩,zI 0,zS]),(29,[zI 0,zI 0]),(29,[zI S,zI T]),(58,[.bool false,zI ab,zI Y]),(73,[zS,zI 0,.slice y a.length d,.slice Am ms.length cq,zS,zS,zI 0,zI 0,zI 0])],[⟨.slice y a.length d,a.length,am,75,6⟩]⟩,az,X,Sub bz az∧(aL Pl.Cs az a am∧Src az 6 y a.length am∧a.length≤d∧d≤9223372036854775807∧(y=none→d=0))∧R≤aI.length∧a.length≤R,aI.length -R)) (bz,0,[],[],none,0) rfl rfl rfl [1] rfl ?_ ?_
 try dsimp only
 exact⟨Sub.refl _,⟨gr,⟨rfl,.inl rfl⟩,a9 _,by decide,fun _=>rfl⟩,b2 _,b2 _⟩
 rintro⟨az,R,a,am,y,d⟩ ⟨ba,⟨bK,cP,cK,cA,cp⟩,dz,dA⟩
 show VX _ _ _ ⟨_,_,_⟩ az X
 refine aE 6 rfl ?_
 cases bF:(decide (((R:Nat):Int)<((aI.length:Nat):Int)))
 have cE:=of_decide_eq_false bF;simp only[Int.ofNat_lt,Nat.not_lt] at cE
 try dsimp only
 refine aE 10 rfl ?_
 refine pQ 135 6 ?_
 refine oT (rs:=[⟨.slice y a.length d,a.length,am,75,6⟩]) (cT (f:=⟨y,a,d,Am,ms,cq,none,[],0⟩) (t:=⟨none,[],0,0,none,[],0,([]),0,0,0⟩) ⟨⟨⟨cK,cA,by(try dsimp only);(try simp only[List.length_append,List.length_cons,List.length_nil]);omega,cp⟩,(aC eE (cz cP bK) (Sub.refl _))⟩,⟨cH,(aC eE cN ba)⟩,eg,ew _⟩ ⟨⟨eg,(ew _)⟩,Good.nil,by(try dsimp only);(try simp only[List.length_append,List.length_cons,List.length_nil]);omega,dL.nil⟩ ⟨by(try dsimp only);(try simp only[List.length_append,List.length_cons,List.length_nil]);omega,by(try dsimp only);(try simp only[List.length_append,List.length_cons,List.length_nil]);omega,by(try dsimp only);(try simp only[List.length_append,List.length_cons,List.length_nil]);omega⟩ (by(try dsimp only);(try simp only[List.length_append,List.length_cons,List.length_nil]);omega) (de (k:=B) (s:=C) (n:=ne) (l:=A) (c:=z) bN (aC bM a4 (ai (ai (ai aG a7) bT) ba))) (Nat.le_refl _)) iS rfl rfl rfl rfl ?_
 rintro _ _ _ c5 _ ⟨⟨aw,aH,aA,ac,ao,al,ap,cX,K,V,U⟩,rfl,rfl,⟨⟨aR,aS⟩,cC,cM,⟨bI,bU,bP,bG,bC⟩⟩,⟨bV,cQ,cR,bW⟩,⟨Z,af,ae,aJ⟩,_,rfl,⟨ax,aB,rfl,bi,aV⟩⟩
 dsimp only at aR aS cC cM bI bU bP bG bC bV cQ cR bW
 (try simp only[List.length_nil] at bV bW)
 replace aV:=a8.1 aV
 try dsimp only
 refine ag N7 rfl (aa E7 rfl (an 6 rfl ?_))
 refine oT (ts:=[]) (rs:=_) (AC aR (aC eM aS (Sub.refl _)) ⟨bP,bG,by omega,bC⟩ (aC ho (cz bU bI) (Sub.refl _))) DU rfl rfl rfl rfl ?_
 rintro _ _ _ b8 aF ⟨rfl,rfl,au,av,cf,rfl⟩
 try dsimp only
 refine an 3 rfl (ag N8 rfl (aa E8 rfl (an 8 rfl ?_)))
 cases dr:(cf)
 refine aE 5 rfl (ww 1 ?_)
 rotate_left
 refine aE 4 rfl ?_
 refine oT (ts:=[]) (rs:=_) (h6 (ts:=[]) 3 au av) h7 rfl rfl rfl rfl ?_
 rintro _ _ _ b9 dF ⟨dC,rfl,⟨K,V,U,rfl⟩,_,_,rfl,-⟩
 subst b9
 try dsimp only
 refine an 4 rfl (ww 1 ?_)
 rotate_left
 have aZ:=of_decide_eq_true bF
 simp only[Int.ofNat_lt] at aZ
 refine aE 7 rfl ?_
 obtain⟨ce,cV,dm,co,bD,cy⟩:=a5.get kG (aC kG cO (ai (ai a7 bT) ba)) R aZ
 obtain⟨cm,cr⟩:∃x,x=aI[R]'aZ:=⟨_,rfl⟩
 rw[←cr] at bD
 obtain⟨m,cc,g,⟨e,r,j,D⟩⟩:=cm
 obtain⟨_,rfl,bE,⟨O,Q,rfl,bh,aU⟩⟩:=bD
 replace aU:=a8.1 aU
 (try dsimp only at bh aU)
 refine xp (a3 (b:=ce) (o:=cV) (i:=R) co rfl rfl aZ tE) rfl (xp (jY (cs:=[.string m,zI cc,zI g,zI e,.string r,zI j,.slice O D.length Q]) rfl Nz cy) rfl (ag N7 rfl (aa E7 rfl (an 2 rfl ?_))))
 refine dM mixed (fun k=>k==7) bH (fun _ _ h=>by cases h) fun aq=> ?_
 refine bm [0,1,2,3,5,6,7,8,9,10,11,12] rfl (by kernel_rfl) id (xt 13 rfl (bJ (vs:=[(0,.string m),(1,.agg #[zI e,.string r,zI j,.slice O D.length Q]),(2,zI g)]) (v:= .agg #[.string m,zI e,.string r,zI j,.slice O D.length Q,zI g]) rfl (fun W=>by kernel_rfl)) rfl (by kernel_rfl) id (bp [4,14] (by kernel_rfl) rfl ?_))
 refine dh rfl ?_ ?_
 refine bp [14] (by kernel_rfl) rfl ?_
 refine jm (vs:=[.agg #[.string m,zI e,.string r,zI j,.slice O D.length Q,zI g]]) (cs:=[.string m,zI e,.string r,zI j,.slice O D.length Q,zI g]) rfl lT rfl rfl rfl rfl rfl rfl rfl ?_ bt
 intro dn c2 aW bL
 try dsimp only
 refine ww 3 ?_
 rotate_left
 refine jm (vs:=[.agg #[.string m,zI e,.string r,zI j,.slice O D.length Q,zI g]]) (cs:=[.string m,zI e,.string r,zI j,.slice O D.length Q,zI g]) rfl lT rfl rfl rfl rfl rfl rfl rfl ?_ bt
 intro dp c3 aW bL
 try dsimp only
 refine dd 4 (by kernel_rfl) rfl (ww 3 ?_)
 rotate_left
 refine aE 2 rfl ?_
 refine dM mixed (fun k=>k==5) bH (fun _ _ h=>by cases h) fun aq=> ?_
 refine xt 0 rfl (bJ (vs:=[]) (v:= .agg #[zI 0,.string ⟨#[]⟩,zI 0,zS]) rfl (fun W=>by kernel_rfl)) rfl (by kernel_rfl) id (bm [1,2] rfl (by kernel_rfl) id (bp [3] (by kernel_rfl) rfl ?_))
 refine pS [(26,[.slice E J.length H,.slice F L.length I]),(31,[zI B,.string C,zI ne,.slice N M.length P,zI A,zI z]),(36,[zI 0,.string ⟨#[]⟩,zI 0,zS]),(29,[zI 0,zI 0]),(29,[zI S,zI T]),(58,[.bool true,zI ab,zI Y])] rfl rfl rfl rfl cD rfl rfl rfl rfl rfl ?_ bt
 refine bm [4] rfl (by kernel_rfl) id (db 5 E3 (by kernel_rfl) rfl (du (by kernel_rfl) (br 3 rfl ?_)))
 exact kk results6 (aK rfl rfl cD) (aT rfl) (aK rfl rfl gp) (eH _) ⟨rfl,rfl,_,rfl,_,_,_,_,_,_,2,ab,Y,rfl⟩
 try dsimp only
 refine aE 2 rfl ?_
 refine dM mixed (fun k=>k==4) bH (fun _ _ h=>by cases h) fun aq=> ?_
 refine xt 0 rfl (bJ (vs:=[]) (v:= .agg #[zI 0,.string ⟨#[]⟩,zI 0,zS]) rfl (fun W=>by kernel_rfl)) rfl (by kernel_rfl) id (bm [1,2] rfl (by kernel_rfl) id (bp [3] (by kernel_rfl) rfl ?_))
 refine pS [(26,[.slice E J.length H,.slice F L.length I]),(31,[zI B,.string C,zI ne,.slice N M.length P,zI A,zI z]),(36,[zI 0,.string ⟨#[]⟩,zI 0,zS]),(29,[zI 0,zI 0]),(29,[zI S,zI T])] rfl rfl rfl rfl cD rfl rfl rfl rfl rfl ?_ bt
 refine bm [4] rfl (by kernel_rfl) id (db 5 E3 (by kernel_rfl) rfl (du (by kernel_rfl) (br 3 rfl ?_)))
 exact kk results6 (aK rfl rfl cD) (aT rfl) (aK rfl rfl gp) (eH _) ⟨rfl,rfl,_,rfl,_,_,_,_,_,_,bX,S,T,rfl⟩
 rintro ch cW dg dj _ _ ⟨_,_,_,aM,_⟩
 try dsimp only
 cases aM
 any_goals
  refine uw 1 ?_
  refine dM mixed (fun k=>k==6||k==7) bH (fun _ _ h=>by cases h) fun aq=> ?_
  refine bm [0,1,2,3,4,5] rfl (by kernel_rfl) id ?_
  cases ds:(K==0)
  try dsimp only
  refine bm [6,7,8,9,10,11,12,13] rfl (by kernel_rfl) id (du (by kernel_rfl) (br 14 rfl (ww 2 ?_)))
  rotate_left
  try dsimp only
  refine bm [6,7,8,9,10] rfl (by kernel_rfl) id (bp [11] (by kernel_rfl) rfl ?_)
  refine Og rfl rfl rfl rfl (ni (eK (made:=ac) aR (aC eM aS aF)) (aP (k:=Z) (s:=af) (n:=ae) bi (aC a2 aV aF))) nj rfl rfl (fun _ _ h=>by cases h) ?_ bt
  rintro _ cb -⟨dE,⟨cg,rfl,_⟩⟩
  subst cb
  try dsimp only
  refine bm [12,13] rfl (by kernel_rfl) id (du (by kernel_rfl) (br 1 rfl ?_))
  cases dv:(cg)
  refine aE 5 rfl ?_
  refine oT (ts:=[]) (rs:=_) (h6 (ts:=[]) 3 A z) h7 rfl rfl rfl rfl ?_
  rintro _ _ _ ca dG ⟨dD,rfl,⟨K,V,U,rfl⟩,_,_,rfl,-⟩
  subst ca
  try dsimp only
  refine an 12 rfl (ww 2 ?_)
  rotate_left
  refine aE 13 rfl (ww 2 ?_)
  rotate_left
 any_goals
  refine uw 2 ?_
  cases dw:(K !=0)
  try dsimp only
  refine aE 3 rfl ?_
  refine tR (ι:=Wd×Int×BA×Int×List Ty×OA×Nat×Int) (fun(aO,bb,bd,bc,aN,ay,aQ,bq)=>(⟨[(4,.ptr 2 0),(5,.val (zI 0)),(6,.ptr 3 0),(17,.ptr 9 0)],[(26,[.slice E J.length H,.slice F L.length I]),(31,[zI B,.string C,zI ne,.slice N M.length P,zI A,zI z]),(36,[zI 0,.string ⟨#[]⟩,zI 0,zS]),(29,[zI 0,zI 0]),(29,[zI S,zI T]),(58,[.bool false,zI ab,zI Y]),(73,[.slice aw aH.length aA,zI ac,.slice y a.length d,.slice Am ms.length cq,zS,.slice ao al.length ap,zI K,zI V,zI U]),(36,[zI Z,.string af,zI ae,.slice ax aJ.length aB]),(29,[zI au,zI av]),(36,[zI bb,.string bd,zI bc,.slice ay aN.length aQ])],[⟨.slice ao al.length ap,al.length,cX,135,6⟩,⟨.slice y a.length d,a.length,am,75,6⟩]⟩,aO,X,Sub b8 aO∧(cF ay aN.length aQ∧a5 Ty.Cs 4 aO ay aN)∧0≤bq∧bq≤1000)) ?_ ?_
  refine dM mixed (fun k=>k==6||k==7) bH (fun _ _ h=>by cases h) fun aq=> ?_
  refine bm [0,1,2,3,4] rfl (by kernel_rfl) id (bp [5,10] (by kernel_rfl) rfl ?_)
  refine iy rfl (j5 (eK (made:=ac) aR (aC eM aS aF)) (aP (k:=Z) (s:=af) (n:=ae) bi (aC a2 aV aF))) j6 rfl rfl (fun _ _ h=>by cases h) ?_ ?_
  rintro _ c8 bR ⟨⟨bo,bu,bs,dN⟩,_,rfl,⟨c0,dk,rfl,bf,ar⟩,bl⟩
  replace ar:=a8.1 ar
  try dsimp only
  refine bp [6,10] (by kernel_rfl) rfl ?_
  refine iy rfl (pG (aP (k:=bo) (s:=bu) (n:=bs) bf (aC a2 ar (Sub.refl _))) (qk bl)) ql rfl rfl (fun _ _ h=>by cases h) ?_ ?_
  rintro _ bx bS ⟨⟨bY,b1,b0,b3⟩,_,bZ,rfl,⟨bv,bB,rfl,bO,aD⟩,bn⟩
  replace aD:=a8.1 aD
  try dsimp only
  refine bm [7,8,9] rfl (by kernel_rfl) id (bp [10] (by kernel_rfl) rfl ?_)
  refine uO 9 [(26,[.slice E J.length H,.slice F L.length I]),(31,[zI B,.string C,zI ne,.slice N M.length P,zI A,zI z]),(36,[zI 0,.string ⟨#[]⟩,zI 0,zS]),(29,[zI 0,zI 0]),(29,[zI S,zI T]),(58,[.bool false,zI ab,zI Y]),(73,[.slice aw aH.length aA,zI ac,.slice y a.length d,.slice Am ms.length cq,zS,.slice ao al.length ap,zI K,zI V,zI U]),(36,[zI Z,.string af,zI ae,.slice ax aJ.length aB]),(29,[zI au,zI av]),(36,[zI 0,.string ⟨#[]⟩,zI 0,zS])] rfl vF rfl rfl rfl rfl ?_ bt
  refine db 11 E9 (by kernel_rfl) rfl (bm [12] rfl (by kernel_rfl) id (du (by kernel_rfl) (ww 5 ?_)))
  rotate_left
  refine uO 9 [(26,[.slice E J.length H,.slice F L.length I]),(31,[zI B,.string C,zI ne,.slice N M.length P,zI A,zI z]),(36,[zI 0,.string ⟨#[]⟩,zI 0,zS]),(29,[zI 0,zI 0]),(29,[zI S,zI T]),(58,[.bool false,zI ab,zI Y]),(73,[.slice aw aH.length aA,zI ac,.slice y a.length d,.slice Am ms.length cq,zS,.slice ao al.length ap,zI K,zI V,zI U]),(36,[zI Z,.string af,zI ae,.slice ax aJ.length aB]),(29,[zI au,zI av]),(36,[zI 0,.string ⟨#[]⟩,zI 0,zS])] rfl vF rfl rfl rfl rfl ?_ bt
  refine ww 4 ?_
  rotate_left
  refine uO 9 [(26,[.slice E J.length H,.slice F L.length I]),(31,[zI B,.string C,zI ne,.slice N M.length P,zI A,zI z]),(36,[zI 0,.string ⟨#[]⟩,zI 0,zS]),(29,[zI 0,zI 0]),(29,[zI S,zI T]),(58,[.bool false,zI ab,zI Y]),(73,[.slice aw aH.length aA,zI ac,.slice y a.length d,.slice Am ms.length cq,zS,.slice ao al.length ap,zI K,zI V,zI U]),(36,[zI Z,.string af,zI ae,.slice ax aJ.length aB]),(29,[zI au,zI av]),(36,[zI 0,.string ⟨#[]⟩,zI 0,zS])] rfl vF rfl rfl rfl rfl ?_ bt
  refine bp [5] (by kernel_rfl) rfl ?_
  refine iy rfl (j5 (eK (made:=ac) aR (aC eM aS aF)) (aP (k:=Z) (s:=af) (n:=ae) bi (aC a2 aV aF))) j6 rfl rfl (fun _ _ h=>by cases h) ?_ bt
  rintro _ da bR ⟨⟨bo,bu,bs,dO⟩,_,rfl,⟨c1,dl,rfl,bf,ar⟩,bl⟩
  replace ar:=a8.1 ar
  try dsimp only
  refine ww 4 ?_
  rotate_left
  rintro⟨aO,bb,bd,bc,aN,ay,aQ,bq⟩ _
  show VX _ _ _ ⟨_,_,_⟩ aO X
  refine aE 3 rfl (xp (bJ (vs:=[]) (v:= .agg #[zI 0,zI 0]) rfl (fun W=>by kernel_rfl)) rfl (aa E2 rfl (an 1 rfl (rq [(26,[.slice E J.length H,.slice F L.length I]),(31,[zI B,.string C,zI ne,.slice N M.length P,zI A,zI z]),(36,[zI bb,.string bd,zI bc,.slice ay aN.length aQ]),(29,[zI 0,zI 0]),(29,[zI S,zI T]),(58,[.bool false,zI ab,zI Y]),(73,[.slice aw aH.length aA,zI ac,.slice y a.length d,.slice Am ms.length cq,zS,.slice ao al.length ap,zI K,zI V,zI U]),(36,[zI Z,.string af,zI ae,.slice ax aJ.length aB]),(29,[zI au,zI av]),(36,[zI bb,.string bd,zI bc,.slice ay aN.length aQ])] rfl rfl rfl gp rfl rfl rfl rfl (an 3 rfl ?_)))))
  exact kk results6 (aK rfl rfl cD) (aT rfl) (aK rfl rfl gp) (eH _) ⟨rfl,rfl,_,rfl,_,_,_,_,_,_,0,0,0,rfl⟩
  try dsimp only
  refine aE 2 rfl ?_
  refine dM mixed (fun k=>k==6) bH (fun _ _ h=>by cases h) fun aq=> ?_
  refine xt 0 rfl (bJ (vs:=[]) (v:= .agg #[zI 0,.string ⟨#[]⟩,zI 0,zS]) rfl (fun W=>by kernel_rfl)) rfl (by kernel_rfl) id (bm [1,2,3,4,5,6,7,8] rfl (by kernel_rfl) id (bp [9] (by kernel_rfl) rfl ?_))
  refine pS [(26,[.slice E J.length H,.slice F L.length I]),(31,[zI B,.string C,zI ne,.slice N M.length P,zI A,zI z]),(36,[zI 0,.string ⟨#[]⟩,zI 0,zS]),(29,[zI 0,zI 0]),(29,[zI S,zI T]),(58,[.bool false,zI ab,zI Y]),(73,[.slice aw aH.length aA,zI ac,.slice y a.length d,.slice Am ms.length cq,zS,.slice ao al.length ap,zI K,zI V,zI U]),(36,[zI Z,.string af,zI ae,.slice ax aJ.length aB]),(29,[zI au,zI av])] rfl rfl rfl rfl cD rfl rfl rfl rfl rfl ?_ bt
  refine bm [10] rfl (by kernel_rfl) id (db 11 E3 (by kernel_rfl) rfl (du (by kernel_rfl) (br 3 rfl ?_)))
  exact kk results6 (aK rfl rfl cD) (aT rfl) (aK rfl rfl gp) (eH _) ⟨rfl,rfl,_,rfl,_,_,_,_,_,_,K,V,U,rfl⟩
 any_goals
  refine uw 3 ?_
  refine nA ?_
  refine bp [15] (by kernel_rfl) rfl ?_
  refine uN (news:=[.string m,zI e,.string r,zI j,.slice O D.length Q,zI g]) rfl uK rfl rfl (cd rfl bL) (fun h=>by cases h) (fun u hu=>eE.one (kH (s:=m) (n:=g) bE (aP (k:=e) (s:=r) (n:=j) bh (aC a2 aU aW))) u hu) (n1:=(a++ [(⟨m,(.mk e r j D:Ty),g⟩:Pl)]).length) (by(try simp only[List.length_append,List.length_cons,List.length_nil])<;>omega) (by(try dsimp only);(try simp only[List.length_append,List.length_cons,List.length_nil]);omega) rfl rfl ?_ bt
  intro b4 ck bw bQ cu cv cw cx
  have cI:aL Pl.Cs bw (a++ [(⟨m,(.mk e r j D:Ty),g⟩:Pl)]) (am++ [.string m,zI e,.string r,zI j,.slice O D.length Q,zI g]):=bg eE bQ (c6 (bg eE aW bK) (c4 (kH (s:=m) (n:=g) bE (aP (k:=e) (s:=r) (n:=j) bh (aC a2 aU aW)))))
  try dsimp only
  refine bm [16,17] rfl (by kernel_rfl) id (dc 18 E6 E2 (by kernel_rfl) rfl (du (by kernel_rfl) (br 3 rfl (xp (bA rfl rfl (by omega)) rfl (an 2 rfl ?_)))))
  refine dI (bw,R+1,(a++ [(⟨m,(.mk e r j D:Ty),g⟩:Pl)]),(am++ [.string m,zI e,.string r,zI j,.slice O D.length Q,zI g]),b4,ck) rfl rfl rfl [1] rfl ?_ ?_
  try dsimp only
  exact⟨ba.trans (ai aW bQ),⟨cI,eL cx (Sub.refl _),cu,cv,cw⟩,by omega,by simp;omega⟩
  (try dsimp only);omega
 any_goals
  refine uw 4 ?_
  refine bp [6] (by kernel_rfl) rfl ?_
  refine iy rfl (pG (aP (k:=bo) (s:=bu) (n:=bs) bf (aC a2 ar (Sub.refl _))) (qk bl)) ql rfl rfl (fun _ _ h=>by cases h) ?_ bt
  rintro _ bx bS ⟨⟨bY,b1,b0,b3⟩,_,bZ,rfl,⟨bv,bB,rfl,bO,aD⟩,bn⟩
  replace aD:=a8.1 aD
  try dsimp only
  refine bm [7,8,9] rfl (by kernel_rfl) id (db 11 E9 (by kernel_rfl) rfl (bm [12] rfl (by kernel_rfl) id (du (by kernel_rfl) (ww 5 ?_))))
  rotate_left
 any_goals
  refine uw 5 ?_
  exact ry (bx,bY,b1,b0,b3,bv,bB,bZ) rfl rfl rfl [1,1] rfl (⟨(ai bR bS),⟨bO,(aC a2 aD (Sub.refl _))⟩,bn.1,bn.2⟩)
theorem DW:aF 6:=by unfold aF;kernel_rfl
theorem Oh:aF 12:=by unfold aF;kernel_rfl
theorem Oi(x:Dt):Dt.eo x≤py x:=by
 have:(x.cs.map Cn.eo).sum=m9 x.cs:=rfl
 unfold Dt.eo py
 omega
theorem Oj(x:Rl):Rl.eo x≤gP x:=by unfold Rl.eo gP;omega
theorem yr{α:Type}{f g:α→Nat}(h:∀x,f x≤g x):∀l:List α,(l.map f).sum≤(l.map g).sum
 |[]=>a9 _
 |a::r=>by simp only[List.map_cons,List.sum_cons];have:=h a;have:=yr h r;omega
theorem Ol{n:Nat}(h:j3 ak.ds+jD ak.rs≤8*n+8)(c:n≤1500):ak.Ok∧(ak.rs.map gP).sum≤12100:=by
 have a:(ak.ds.map Dt.eo).sum≤j3 ak.ds:=yr Oi ak.ds
 have b:(ak.rs.map Rl.eo).sum≤jD ak.rs:=yr Oj ak.rs
 have h3:(ak.rs.map gP).sum=jD ak.rs:=rfl
 unfold Md.Ok Md.eo
 omega
def Om (R:World) (u:Value):Prop:=∃(m:Md) (b:List Value) (e:Ex) (a:List Value) (ok:Bool),u= .tuple #[.agg b.toArray,.agg a.toArray,.bool ok]∧Md.Cs R m b∧Ex.Cs R e a∧(ok=true→m.rs.length≤40∧m.Ok∧(m.rs.map gP).sum≤12100∧e.size≤40010)
theorem DY{X:Hx}(x:aY.size≤1048576)(y:im.size≤1048576):cJ 5 [.string aY,.string im] [] ah X (ic X fun u R'=>Om R' u):=by
 refine eh func5 rfl ntmps5 rfl fun w G ad=> ?_
 refine cG 10 rfl ?_
 refine kQ (Gi ah aY x) Oh rfl rfl ?_
 rintro _ n _ ⟨m,_,A,Y,ab,rfl,⟨D,N,F,P,rfl,f,j,g,l⟩,_,z⟩
 refine an 14 rfl ?_
 refine kQ (Gp n im y) Ds rfl rfl ?_
 rintro _ I b ⟨e,_,B,Z,ac,rfl,c,U⟩
 obtain⟨E,O,rfl,q,v⟩:=fo c
 have hm:=ez f (aC eI j b) g (aC dt l b)
 refine an 17 rfl ?_
 cases R:(A !=0)
 refine an 4 rfl ?_
 cases S:(B !=0)
 refine an 6 rfl ?_
 cases o:(decide (((m.rs.length:Nat):Int)>40))
 have t:=o
 refine an 5 rfl ?_
 cases p:(decide (((aY.size:Nat):Int)>1500))
 have s:=p
 refine an 6 rfl ?_
 cases T:(decide (((im.size:Nat):Int)>300))
 refine aE 7 rfl ?_
 have i:m.rs.length≤40:=by have:=of_decide_eq_false t;omega
 have r:aY.size≤1500:=by have:=of_decide_eq_false s;omega
 have a:=Ol z r
 refine dP (DV (X:=X) hm c a.1 i a.2 (by omega)) DW rfl rfl ?_ ?_
 rintro _ C J L d -⟨rfl,rfl,_,e,ag,aj,af,H,W,Q,V,aa,ae,rfl⟩
 cases e
 refine an 12 rfl ?_
 refine dM mixed (fun k=>k==2||k==4) bH (fun _ _ h=>by cases h) fun aq=> ?_
 refine bm [0,1,2,3,1004,1005,6] rfl (by kernel_rfl) id (du (by kernel_rfl) (br 2 rfl ?_))
 exact kk results5 (aK rfl rfl tq) (aK rfl rfl cY) (aT rfl) (eH _) ⟨rfl,rfl,_,rfl,m,_,e,_,_,rfl,(ez f (aC eI j (ai b d)) g (aC dt l (ai b d))),(rG q (aC bM v d)),fun _=>⟨i,a.1,a.2,by omega⟩⟩
 rintro ch C K M _ _ ⟨_,_,_,e,_⟩
 cases e
 refine aE 2 rfl (ww 1 ?_)
 rotate_left
 refine an 8 rfl (ww 1 ?_)
 rotate_left
 refine an 13 rfl (ww 1 ?_)
 rotate_left
 refine an 19 rfl (ww 1 ?_)
 rotate_left
 refine an 23 rfl (ww 1 ?_)
 rotate_left
 any_goals
  refine uw 1 ?_
  refine dM mixed (fun k=>k==2||k==4) bH (fun _ _ h=>by cases h) fun aq=> ?_
  refine bm [0,1,1002,1003,4] rfl (by kernel_rfl) id (du (by kernel_rfl) (br 3 rfl ?_))
  exact kk results5 (aK rfl rfl tq) (aK rfl rfl cY) (aT rfl) (eH _) ⟨rfl,rfl,_,rfl,m,_,e,_,_,rfl,hm,c,fun h=>by cases h⟩
theorem On:aF 4:=by unfold aF;kernel_rfl
theorem DZ:aF 5:=by unfold aF;kernel_rfl
theorem yt:aF 7:=by unfold aF;kernel_rfl
theorem Oo:aF 8:=by unfold aF;kernel_rfl
theorem Oq(x y:Ex):(fa x y).size=x.size+y.size+1:=by
 unfold fa
 rw[Ex.size_mk]
 simp[aO]
theorem Ot(h:ak.Ok):∀r∈ak.rs,r.eo≤100000:=fun r b=>by
 have c:r.eo≤(ak.rs.map Rl.eo).sum:=by
  obtain⟨i,a,rfl⟩:=List.getElem_of_mem b
  exact vM Rl.eo a
 unfold Md.Ok Md.eo at h
 omega
theorem yu(h:sd ah ga az):∃a,az= .tuple #[a,zI (codeF ga)]∧(codeF ga=0→∃acc met,ga=some (acc,met)∧a6 fw 5 ah a (acc.map Prod.snd)):=by
 cases ga with
 |none=>exact⟨_,h,fun e=>by cases e⟩
 |some x=>
  obtain⟨acc,met⟩:=x
  unfold sd at h
  simp only at h
  by_cases e:gj met=0
  ·rw[if_pos e] at h
   obtain⟨a,b,c⟩:=h
   exact⟨a,by rw[b];show _=Value.tuple #[a,zI (gj met)];rw[e],fun _=>⟨_,_,rfl,c⟩⟩
  ·rw[if_neg e] at h
   exact⟨_,h,fun q=>absurd q e⟩
theorem Ou(j:∀p t ct,nI p (.ok (t,ct))→iR t)(h:e9 nI ct ae jS dl ga):
 (∀q∈jS,iR q.2)→∀b f,ga=some (b,f)→∀q∈b,iR q.2:=by
 induction h with
 |fin=>intro h b f e;cases e;exact h
 |kY=>intro h b f e;cases e
 |hn g d h a=>
  intro i
  refine a fun q k=> ?_
  rcases fM.1 k with c|c
  ·exact i q c
  ·rw[List.mem_singleton.1 c];exact j _ _ _ d
 |more g d l h a=>exact a
 |stop g d l h a=>exact a
theorem Ov(h:aG (fun g=>hv (aB aD g) gI aM) ap (.ok (bC,aW))):iR bC:=jO h fun g a=>by
 unfold hv at a
 replace a:=cp a
 obtain⟨c,b6,_,a⟩:=a
 replace a:=cp a
 obtain⟨u,dD,b,a⟩:=a
 obtain⟨rfl,rfl⟩:=dG a
 refine LN ?_
 replace b:=cp b
 obtain⟨s,e,_,b⟩:=b
 replace b:=cp b
 obtain⟨x,f,d,b⟩:=b
 obtain⟨rfl,rfl⟩:=dG b
 exact xB d (by simp)
theorem Ow{n:Nat}(h:e9 (fun p r=>aG (fun g=>hv (aB aD g) gI aM) ⟨ue,n,p⟩ r) [[]] 0 [] (fun _=>false) (some (jS,dl))):∀t∈jS.map Prod.snd,iR t:=fun t b=>by
 obtain⟨q,a,rfl⟩:=List.mem_map.1 b
 exact Ou (fun p t s h=>Ov h) h (fun q a=>by cases a) _ _ rfl q a
theorem Ox(d:D0=b4++qm)(a:0+b4.length+qm.length≤ae)(c:ae≤9223372036854775807)(h3:aA=none→ae=0)(f:D0.length≤490000000)(b:Src ah 5 aA (0+b4.length+qm.length) ([]++aj++bj))(g:aL fw ah b4 aj)(h:aL fw ah qm bj):
 a6 fw 5 ah (.slice aA (0+b4.length+qm.length) ae) D0:=by
 subst d
 have e:0+b4.length+qm.length=(b4++qm).length:=by simp
 rw[e] at a b⊢
 exact⟨aA,ae,rfl,⟨a,c,f,h3⟩,_,b,c6 g h⟩
theorem D1{a b c:Int}(h:a≠0∨b≠0→c≠0∨a=6∨b=6)(d:(a !=0)=true∨(b !=0)=true)(f:(c !=0)=false)(h3:(a==6)=false):(b==6)=true:=by
 have e:a≠0∨b≠0:=d.imp (fun q=>by simpa using q) (fun q=>by simpa using q)
 have g:¬c≠0:=by simpa using f
 have i:¬a=6:=by simpa using h3
 have:=((h e).resolve_left g).resolve_left i
 simpa using this
theorem or_false{a b c:Int}(h:a=0→b=0→c=6∨(c=0∧tm))(d:(a !=0)=false)(f:(b !=0)=false)(h3:(c==6)=false)(j:(c==0)=false):False:=by
 have e:a=0:=by simpa using d
 have g:b=0:=by simpa using f
 have i:¬c=6:=by simpa using h3
 have k:¬c=0:=by simpa using j
 rcases h e g with q|q
 ·exact i q
 ·exact k q.1
theorem Oy{R:Wd}{a b c:BA}(Y:a.size≤1048576)(az:b.size≤1048576)(aB:c.size≤1048576):cJ 3 [.string a,.string b,.string c] [] R ⟨bH,bH⟩ (ic ⟨bH,bH⟩ fun v _=>v= .bool true):=by
 refine eh func3 rfl ntmps3 rfl fun w G ad=> ?_
 refine cG 8 rfl ?_
 refine dP Nl On rfl rfl ?_ ?_
 rintro _ d bn bw _ -⟨rfl,rfl,_,e,rfl⟩
 cases e
 refine an 10 rfl ?_
 refine dP (DY Y az) DZ rfl rfl ?_ ?_
 rintro _ d bo bx _ -⟨rfl,rfl,_,e,m,_,x,_,yb,rfl,⟨bh,bN,bj,bP,rfl,z,C,A,D⟩,a8,aW⟩
 cases e
 obtain⟨ao,aq,rfl,ak,am⟩:=fo a8
 refine an 15 rfl ?_
 refine dP (DY Y aB) DZ rfl rfl ?_ ?_
 rintro _ d bp bz g -⟨rfl,rfl,_,e,bW,_,y,_,bb,rfl,⟨bi,bO,bk,bQ,rfl,-⟩,a9,aX⟩
 cases e
 obtain⟨ap,ar,rfl,al,E⟩:=fo a9
 refine an 17 rfl ?_
 cases aa:(yb)
 subst aa
 refine an 23 rfl (ww 4 ?_)
 rotate_left
 subst aa
 refine an 4 rfl ?_
 cases ae:(bb)
 subst ae
 refine an 19 rfl (ww 4 ?_)
 rotate_left
 subst ae
 refine an 5 rfl ?_
 cases aI:(x.k==8)
 have aQ:=aI
 refine an 6 rfl ?_
 cases aJ:(y.k==8)
 have aS:=aJ
 refine aE 7 rfl ?_
 refine fc cZ rfl ?_
 intro I S f aO
 refine xp (bJ (vs:=[(0,zI 5),(1,.string ⟨#[63]⟩),(3,.slice (some ⟨I,0,none⟩) 2 2)]) (v:= .agg #[zI 5,.string ⟨#[63]⟩,zI 0,.slice (some ⟨I,0,none⟩) 2 2,zI 0,zI 0]) rfl (fun W=>by kernel_rfl)) rfl (an 9 rfl ?_)
 have o:=aW rfl
 have aA:=aX rfl
 have U:Ex.Cs S (fa x y) [zI 5,.string ⟨#[63]⟩,zI 0,.slice (some ⟨I,0,none⟩) 2 2,zI 0,zI 0]:=de (po (by simp)) (c9.1 (td (c1:=[zI x.k,.string x.s,zI x.n,.slice ao x.ys.length aq,zI x.l,zI x.c]) (c2:=[zI y.k,.string y.s,zI y.n,.slice ap y.ys.length ar,zI y.l,zI y.c]) (rG ak (a5.sub bM am (Sub.trans g f))) (rG al (a5.sub bM E f)) aO))
 have V:(fa x y).size≤100000:=by rw[Oq];omega
 refine dP (DV (X:=⟨bH,bH⟩) (ez z (aC eI C (ai g f)) A (aC dt D (ai g f))) U o.2.1 o.1 o.2.2.1 V) DW rfl rfl ?_ ?_
 rintro _ d S bA h -⟨rfl,rfl,_,e,b7,b8,b3,bl,b0,bT,ba,b1,b2,rfl⟩
 cases e
 refine an 17 rfl ?_
 cases bU:(ba !=0)
 refine aE 7 rfl ?_
 have P:∀r∈m.rs,r.eo≤100000:=Ot o.2.1
 have O:m.rs.length≤1000:=by have:=o.1;omega
 refine dP (xM (uB uG) (ez z (aC eI C (ai (ai g f) h)) A (aC dt D (ai (ai g f) h))) P O (rG ak (aC bM am (ai (ai g f) h))) (by simpa using aQ) (Nat.le_trans o.2.2.2 (by decide)) 1000 [.dF (fa x y) Env.nil] Gh.sh aR.sh) yt rfl rfl ?_ ?_
 rintro _ d br bC p -⟨rfl,rfl,u,_,e,aM,a4⟩
 cases e
 obtain⟨b5,rfl,ax⟩:=yu a4
 refine an 11 rfl ?_
 refine dP (xM (uB uG) (ez z (aC eI C (ai (ai (ai g f) h) p)) A (aC dt D (ai (ai (ai g f) h) p))) P O (rG al (aC bM E (ai (ai f h) p))) (by simpa using aS) (Nat.le_trans aA.2.2.2 (by decide)) 1000 [.dF (fa x y) Env.nil] Gh.sh aR.sh) yt rfl rfl ?_ ?_
 rintro _ d bs bD q -⟨rfl,rfl,T,_,e,aN,a7⟩
 cases e
 obtain⟨b6,rfl,ay⟩:=yu a7
 refine an 11 rfl ?_
 refine dP (xM (uB uG) (ez z (aC eI C (ai (ai (ai (ai g f) h) p) q)) A (aC dt D (ai (ai (ai (ai g f) h) p) q))) P O (Ex.Cs.sub U (ai (ai h p) q)) (show (5:Int)≠8 by decide) V 2000 [] Gh.ret fun _=>aR.ret ()) yt rfl rfl ?_ ?_
 rintro _ d bq bB F -⟨rfl,rfl,t,_,e,aj,a3⟩
 cases e
 obtain⟨b4,rfl,aw⟩:=yu a3
 have B:=Mb (rs:=hd m) (x:=x) (y:=y) aM aN aj
 refine an 13 rfl ?_
 cases J:((codeF u) !=0)
 refine an 5 rfl ?_
 cases K:((codeF T) !=0)
 refine aE 8 rfl ?_
 cases ab:((codeF t)==6)
 refine an 3 rfl ?_
 cases ac:((codeF t)==0)
 refine an 12 rfl ?_
 exact dm results3 (aT rfl) ⟨rfl,rfl,_,rfl,(or_false B.2 J K ab ac).elim⟩
 have Z:codeF u=0:=by simpa using J
 have ah:codeF T=0:=by simpa using K
 obtain⟨-,bG,bY,bI,bZ,bF,bX,rfl,rfl,rfl,aK⟩:=(B.2 Z ah).resolve_left (by simpa using ab)
 obtain⟨_,_,e,aU⟩:=ax Z
 cases e
 obtain⟨_,_,e,aV⟩:=ay ah
 cases e
 obtain⟨_,_,e,N⟩:=aw (by simpa using ac)
 cases e
 have bV:=a6.sub ig N sR
 obtain⟨Bx,bK,rfl,L,bc,a0,af⟩:=aU
 obtain⟨bm,bL,rfl,M,bd,a1,ag⟩:=aV
 refine an 2 rfl (eX rfl rfl rfl ?_)
 refine pQ 91 5 ?_
 refine jH (news:=bc) r9 rfl rfl (eL a0 (ai q F)) L.2.2.2 (aL.one ig af) (by have au:=L.2.2.1;have av:=M.2.2.1;omega) rfl rfl ?_
 intro be bR bu H _ _ _ _
 refine an 1 rfl (eX rfl rfl rfl ?_)
 refine jH (news:=bd) r9 rfl rfl (eL a1 (ai F H)) M.2.2.2 (aL.one ig ag) (by have au:=L.2.2.1;have av:=M.2.2.1;omega) rfl rfl ?_
 intro bf bS bv Q aY aZ E a2
 refine eX rfl rfl rfl ?_
 have aP:=Ox aK aY aZ E (a6.len N) a2 (bg ig (ai (ai (ai q F) H) Q) af) (bg ig (ai (ai F H) Q) ag)
 refine dP (LW (X:=⟨bH,bH⟩) (Ow aj) (a6.sub ig N (ai H Q)) aP) Oo rfl rfl ?_ ?_
 rintro _ d bt bE _ -⟨rfl,rfl,_,e,rfl⟩
 cases e
 refine an 6 rfl (ww 4 ?_)
 rotate_left
 rintro ch d i j _ _ ⟨_,_,_,e,_⟩
 cases e
 refine an 15 rfl (ww 4 ?_)
 rotate_left
 refine aE 6 rfl ?_
 cases aG:((codeF t) !=0)
 refine an 4 rfl ?_
 cases aH:((codeF u)==6)
 refine an 8 rfl ?_
 exact dm results3 (aT rfl) ⟨rfl,rfl,_,rfl,(congrArg Value.bool (D1 B.1 (.inr K) aG aH))⟩
 refine ww 2 ?_
 rotate_left
 refine ww 1 ?_
 rotate_left
 refine an 11 rfl ?_
 cases aD:((codeF t) !=0)
 refine an 4 rfl ?_
 cases aF:((codeF u)==6)
 refine an 8 rfl ?_
 exact dm results3 (aT rfl) ⟨rfl,rfl,_,rfl,(congrArg Value.bool (D1 B.1 (.inl J) aD aF))⟩
 refine ww 2 ?_
 rotate_left
 refine ww 1 ?_
 rotate_left
 rintro ch d i j _ _ ⟨_,_,_,_,e,_⟩
 cases e
 rintro ch d i j _ _ ⟨_,_,_,_,e,_⟩
 cases e
 rintro ch d i j _ _ ⟨_,_,_,_,e,_⟩
 cases e
 refine ww 3 ?_
 rotate_left
 rintro ch d i j _ _ ⟨_,_,_,e,_⟩
 cases e
 refine ww 3 ?_
 rotate_left
 refine an 14 rfl (ww 4 ?_)
 rotate_left
 rintro ch d i j _ _ ⟨_,_,_,e,_⟩
 cases e
 rintro ch d i j _ _ ⟨_,_,_,e,_⟩
 cases e
 rintro ch d i j _ _ ⟨_,_,_,e,_⟩
 cases e
 any_goals
  refine uw 1 ?_
  refine an 12 rfl (ww 4 ?_)
  rotate_left
 any_goals
  refine uw 2 ?_
  refine an 8 rfl (ww 4 ?_)
  rotate_left
 any_goals
  refine uw 3 ?_
  refine aE 8 rfl (ww 4 ?_)
  rotate_left
 any_goals
  refine uw 4 ?_
  exact dm results3 (aT rfl) ⟨rfl,rfl,_,rfl,rfl⟩
end Go.Proofs.YthnogncknmhgoaaGreat.Vm
namespace Go.Proofs.YthnogncknmhgoaaGreat.Vm
open ChangeShapes WideShapes ChangeAt RowKit bq Data
theorem Oz{W:Wd}{a b c:BA}(l:a.size≤1048576)(d:b.size≤1048576)(m:c.size≤1048576):Calls prog 3 #[.string a,.string b,.string c] W fun E W'=>E= .returned (.bool true)∧Below W.heap.size W W':=by
 refine(Oy (R:=W) l d m W ?_ ?_).mono ?_
 ·exact⟨fun k T cs f=>(by cases f),fun i j n=>absurd n (Nat.not_lt_zero _),fun r e=>(by cases e),fun r e=>(by cases e),List.Pairwise.nil,fun b o u hu=>⟨hu,fun k f=>absurd f (Nat.not_lt_zero _),fun r e=>(by cases e)⟩⟩
 ·exact⟨fun b ob d=>(by cases d),fun b ob d=>(by cases d),fun b d=>rfl,fun b d k f=>absurd f (Nat.not_lt_zero _),fun b d r e=>(by cases e),fun b d=>absurd rfl d⟩
 ·rintro E W' ⟨p,R',X',-,g,-,-,-,-,-,-,rfl,-,v,rfl,rfl⟩
  exact⟨rfl,g.os,g.tape,g.output,g.size,fun k f=>g.g6 k f (by rintro(h|⟨r,e,-⟩);exact h rfl;cases e)⟩
end Go.Proofs.YthnogncknmhgoaaGreat.Vm
namespace Go.Proofs.YthnogncknmhgoaaGreat.modelOrs
open ChangeShapes WideShapes ChangeAt RowKit bq Vm
theorem OB(H:Type)(enc:TypeId×Vl→H)(W:Wd)(base:Nat)(args:Array Vl)(ds gs:List (DataW H))(before:List MemPlace)
 (d:∀(j:Nat) t v,Tryz.f3.params[j]?=some t→args[j]?=some v→Value.okWide prog W .any base t v)
 (l:DataW.Whole enc prog Tryz.f3.params.toList Rows.modelOrsSpec.vars false W args.toList ds gs before)
 (m:Rows.uptoSmall H (ds++gs)=true):
 Calls prog 3 args W fun e W'=>∃v,e= .returned v∧Rows.modelOrsSpec.post enc prog Tryz.f3 false true false false W args v W':=by
 have z:=l
 obtain⟨p,q,x,y,rfl,K,L⟩:=l
 have k:DataW.TrodAll enc prog W 0 (fun _=>true) true Tryz.f3.params.toList args.toList ds p:=x
 rw[params3] at k d
 obtain⟨n,S,d0,F,M,P,J,rfl,rfl,s,D⟩:=trodAll_cons k
 obtain⟨o,T,d1,G,N,Q,rfl,rfl,rfl,u,r1⟩:=trodAll_cons D
 obtain⟨r,U,d2,I,O,R,rfl,rfl,rfl,w,r2⟩:=trodAll_cons r1
 obtain⟨rfl,rfl,rfl⟩:=trodAll_nil r2
 obtain rfl:args=#[n,o,r]:=by cases args;simp_all
 obtain⟨rfl,-⟩:=trodVars_none (show DataW.TrodVars enc prog W _ [] gs q from y)
 have B:Rows.uptoBulkAll [d0,d1,d2]≤1048576:=by have h:=of_decide_eq_true m;simpa only[List.append_nil] using h
 clear m
 obtain⟨f,rfl,rfl,rfl,-⟩:=Go.ChangeMaps.open_string underlying9 (d 0 9 n rfl rfl) s
 obtain⟨g,rfl,rfl,rfl,-⟩:=Go.ChangeMaps.open_string underlying9 (d 1 9 o rfl rfl) u
 obtain⟨i,rfl,rfl,rfl,-⟩:=Go.ChangeMaps.open_string underlying9 (d 2 9 r rfl rfl) w
 simp only[Rows.uptoBulkAll,Rows.uptoBulk,Array.length_toList] at B
 have V:f.data.size=f.size:=rfl
 have X:g.data.size=g.size:=rfl
 have Y:i.data.size=i.size:=rfl
 refine(Oz (W:=W) (a:=f) (b:=g) (c:=i) (by omega) (by omega) (by omega)).mono fun e E ⟨C,A⟩=> ?_
 exact⟨_,C,D3 laidOut z rfl (by kernel_rfl) 4 underlying4 rfl (fun _=>rfl) A⟩
theorem lifted(os:Os)(started:os.Started)(H:Type)(enc:TypeId×Vl→H)(F:Stop.Interp):
 ReturnsInHanded {} Tryz.checked os 3 .any ((Rows.OpenSpec.upto Rows.modelOrsSpec).pre6 enc prog Tryz.f3 Rows.modelOrsUptoRow.domain false) (((Rows.OpenSpec.upto Rows.modelOrsSpec).at F).post enc prog Tryz.f3 false true false false):=by
 refine returnsInHanded_of_cond (C:=Tryz.checked) (s:=Rows.OpenSpec.upto Rows.modelOrsSpec) (k:=Rows.uptoSmall) rfl own started (by kernel_rfl) func3
  (OpenSpec.witness (enc:=enc) (C:=Tryz.checked) (s:=Rows.OpenSpec.upto Rows.modelOrsSpec) (k:=Rows.uptoSmall) rfl false ⟨#[],#[.string ⟨#[]⟩,.string ⟨#[]⟩,.string ⟨#[]⟩],[]⟩ 8 (by kernel_rfl) (by kernel_rfl) (by kernel_rfl)
    (x:=([.lit (.string []),.lit (.string []),.lit (.string [])],[],[])) (by kernel_rfl) rfl (by kernel_rfl)) ?_
 intro W base args ds gs before c a _ b _
 exact OB H enc W base args ds gs before c a b
theorem OC:Rows.modelOrsUptoRow.holds Tryz.pinned (Rows.OpenSpec.upto Rows.modelOrsSpec):=
 OpenClaim.holds_of_cond 3 Tryz.f3 rfl rfl rfl rfl rfl rfl rfl ⟨rfl,rfl,rfl,rfl,rfl⟩ rfl rfl rfl rfl rfl (by kernel_rfl) func3 (by kernel_rfl)
  (of_decide_eq_true (by kernel_rfl)) (by unfold Func.isWrapper;first|(rw[if_pos (by decide+kernel)];kernel_rfl)|(rw[if_neg (by decide+kernel)];exact⟨rfl,rfl⟩))
  (fun os started H enc _ F=>lifted os started H enc F)
theorem proved:Rows.ModelOrsUptoSaid:=
 OC
#print axioms proved
end Go.Proofs.YthnogncknmhgoaaGreat.modelOrs
