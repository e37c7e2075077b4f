/- Lemmas for ModelOrs (9 of 15). No conditions. -/
import Derived.Test.YthnogncknmhgoaaGreatM7
set_option linter.all false
set_option maxRecDepth 100000
set_option maxHeartbeats 485000000
open Go.Proofs.Tryz
namespace Go.Proofs.YthnogncknmhgoaaGreat.Vm
open ChangeShapes WideShapes ChangeAt RowKit bq Data Mo
variable{bQ:Array Bool}{dk:Array Oper}{aY:BA}{dj:eF}{b3 wH:Env}{aM:Ex}{dy:Exit→Act→Wd→Prop}{cI:cT}{b1:Hp}{aJ:Hx}{aj:LV}{bu:List (Nat×AV)}{cv:List Ex}{cC:List Int}{aI gA:List Nat}{gb:List Oper}{ue:List PC}{dY:List Rl}{jP:Mo.ei Env}{gh:Mo.ei Nat}{ae ao:Nat}{dl:Nat→Bool}{rN:Nat→M Nat}{a0 rj:Nat→Nat}{B2:Nat→PC→M Env}{fH:Obj}{l1:PC}{ap aW iz:PS}{jM:Rl}{aD:cU}{bI:St}{hs:tS}{cW:Type}{aH:TypeId}{az cM:Vl}{ah bR:Wd}
theorem l8:aF 113:=by unfold aF;kernel_rfl
theorem wR:aF 135:=by unfold aF;kernel_rfl
theorem uc:aF 140:=by unfold aF;kernel_rfl
theorem IJ{n k:Nat}(h:pick n ap=some (.ok (k,aW))):aW.cells=ap.cells∧k<n∧aW.ay=ap.ay:=by
 unfold pick at h
 split at h
 ·cases h
 ·split at h
  ·cases h
  ·rename_i a
   cases h
   exact⟨rfl,by omega,rfl⟩
theorem BP{d:Nat}(h:aW.cells=ap.cells){i:Nat}(a:In d ap i):In d aW i:=⟨a.1,by unfold PS.len;rw[h];exact a.2⟩
theorem wS{R:Wd}{K:Hp}{bl:Nat→Nat}(b:Bool):dv R K bl (jK b) (wI b):=⟨rfl,rfl,a6.nil⟩
theorem IK{c k:Nat}(h:ap.at c= .unknown)(a:pick 2 ap=some (.ok (k,aW))):aG (fun _=>branch c) ap (.ok (if k==0 then 1 else 2,{aW with cells:=aW.cells.set c (jK (k==0))})):=by
 refine gG ?_
 rw[h]
 exact bB (b8 a) (bB (b8 rfl) fD)
theorem IL{c:Nat}(h:ap.at c= .unknown)(a:pick 2 ap=some (.error hs)):aG (fun _=>branch c) ap (.error hs):=by
 refine gG ?_
 rw[h]
 exact ej (b8 a)
theorem wT{c:Nat}(h:ap.at c= .cw aY aI)(a:(if aY=iN then M.ret 1 else if aY=ox then M.ret 2 else stop 3:M Nat) ap=some gh):aG (fun _=>branch c) ap gh:=by
 refine gG ?_
 rw[h]
 exact b8 a
theorem ud{c:Nat}(a:ap.at c≠ .unknown)(b:∀s l,ap.at c≠ .cw s l):aG (fun _=>branch c) ap (.error (3,0)):=by
 refine gG ?_
 cases e:ap.at c with
 |unknown=>exact absurd e a
 |cw s l=>exact absurd e (b s l)
 |_=>exact b8 rfl
theorem IM{i c:Nat}{n:Int}(a:later aM b3 ap=some (.ok (i,aW)))(b:aG (fun g=>(aB aD g).force i) aW (.ok (c,iz)))(h3:iz.at c= .num n):aG (fun g=>gQ (aB aD g) aM b3) ap (.ok (n,iz)):=
 bB (b8 a) (bB b (gG (by rw[h3];exact fD)))
theorem rK{i c:Nat}(a:later aM b3 ap=some (.ok (i,aW)))(b:aG (fun g=>(aB aD g).force i) aW (.ok (c,iz)))(h3:∀n,iz.at c≠ .num n):aG (fun g=>gQ (aB aD g) aM b3) ap (.error (3,0)):=
 bB (b8 a) (bB b (gG (by
  cases aM:iz.at c with
  |num n=>exact absurd aM (h3 n)
  |_=>exact b8 rfl)))
theorem IN{i:Nat}(a:later aM b3 ap=some (.ok (i,aW)))(b:aG (fun g=>(aB aD g).force i) aW (.error hs)):aG (fun g=>gQ (aB aD g) aM b3) ap (.error hs):=
 bB (b8 a) (ej b)
theorem IP{c:Nat}:aG (fun g=>apply (aB aD g) c []) ap (.ok (c,ap)):=fD
theorem BQ{c:Nat}(b:gA≠ [])(h:ap.at c= .fn aY aI)(d:aG (fun g=>(aB aD g).func aY (aI++gA)) ap gh):aG (fun g=>apply (aB aD g) c gA) ap gh:=by
 cases gA with
 |nil=>exact absurd rfl b
 |cons a gA=>
  refine gG (k:=fun g x=>match x with| .fn aY aI=>(aB aD g).func aY (aI++(a::gA))|_=>stop 3) ?_
  rw[h]
  exact d
theorem rM{c:Nat}(b:aI≠ [])(h:∀s l,ap.at c≠ .fn s l):aG (fun g=>apply (aB aD g) c aI) ap (.error (3,0)):=by
 cases aI with
 |nil=>exact absurd rfl b
 |cons a aI=>
  refine gG (k:=fun g x=>match x with| .fn s l=>(aB aD g).func s (l++(a::aI))|_=>stop 3) ?_
  cases e:ap.at c with
  |fn s l=>exact absurd e (h s l)
  |_=>exact b8 rfl
theorem wU{i:Nat}(h:b3 aY=some i)(a:aG (fun g=>((aB aD g).force i).bind fun c=>apply (aB aD g) c aI) ap gh):aG (fun g=>name (aB aD g) aY b3 aI) ap gh:=by
 have e:(fun g=>name (aB aD g) aY b3 aI)=fun g=>((aB aD g).force i).bind fun c=>apply (aB aD g) c aI:=by
  funext g
  unfold name
  rw[h]
 rw[e]
 exact a
theorem BR(h:b3 aY=none)(a:aG (fun g=>(aB aD g).func aY aI) ap gh):aG (fun g=>name (aB aD g) aY b3 aI) ap gh:=by
 have e:(fun g=>name (aB aD g) aY b3 aI)=fun g=>(aB aD g).func aY aI:=by
  funext g
  unfold name
  rw[h]
 rw[e]
 exact a
theorem IQ{d wb:Nat}{bl:Nat→Nat}{R:Wd}{c:Nat}(aA:WF aD d ap)(h:dq d wb aD bl ap R aJ)(D:In d ap c):cJ 131 [bP wb,bP (bl c)] [] R aJ (Out d wb aD bl ap (fun k _ v _ _ _=>v=zI (k:Nat)) (fun _=>branch c)):=by
 refine eh func131 rfl ntmps131 rfl fun w G ad=> ?_
 obtain⟨⟨aN,f,g,i,n,o,p,u,z,n1,A,b⟩,x,y⟩:=h.cell c D
 cases a:ap.at c with
 |dF e v=>
  rw[a] at y
  simp only[dv] at y
  obtain⟨rfl,_⟩:=y
  refine cG 11 rfl (bz (bw (cs:=[zI 0,f,g,i,n,o,p,u,z,n1,A,b]) rfl (.inr (x)) bG rfl) rfl (an 13 rfl (bz (bw (cs:=[zI 0,f,g,i,n,o,p,u,z,n1,A,b]) rfl (.inr (x)) bG rfl) rfl (an 17 rfl (bz (bw (cs:=[zI 0,f,g,i,n,o,p,u,z,n1,A,b]) rfl (.inr (x)) bG rfl) rfl (an 17 rfl ?_))))))
  refine eS (eV 3) eU rfl rfl (fun B C=> ?_)
  refine br 1 rfl ?_
  exact cL ⟨rfl,.error (3,0),ud (by rw[a];intro q;cases q) (by rw[a];intro s l q;cases q),rfl⟩
 |link j=>
  rw[a] at y
  simp only[dv] at y
  obtain⟨rfl,rfl⟩:=y
  refine cG 11 rfl (bz (bw (cs:=[zI 1,f,g,i,n,o,p,u,_,n1,A,b]) rfl (.inr (x)) bG rfl) rfl (an 13 rfl (bz (bw (cs:=[zI 1,f,g,i,n,o,p,u,_,n1,A,b]) rfl (.inr (x)) bG rfl) rfl (an 17 rfl (bz (bw (cs:=[zI 1,f,g,i,n,o,p,u,_,n1,A,b]) rfl (.inr (x)) bG rfl) rfl (an 17 rfl ?_))))))
  refine eS (eV 3) eU rfl rfl (fun B C=> ?_)
  refine br 1 rfl ?_
  exact cL ⟨rfl,.error (3,0),ud (by rw[a];intro q;cases q) (by rw[a];intro s l q;cases q),rfl⟩
 |unknown=>
  rw[a] at y
  simp only[dv] at y
  subst y
  refine cG 11 rfl (bz (bw (cs:=[zI 2,f,g,i,n,o,p,u,z,n1,A,b]) rfl (.inr (x)) bG rfl) rfl (an 7 rfl ?_))
  refine dP (wJ h 2) wR rfl rfl ?_ ?_
  rintro aQ F al am _ aM ⟨rfl,r,P,E⟩
  rcases r with t|⟨L,aO⟩
  cases E
  obtain⟨J,v,af,I,e,az⟩:=E
  cases e
  subst az
  have ac:=pU aA (cR P)
  have ae:=IJ (cR P)
  obtain⟨⟨ah,T,U,V,W,X,Y,Z,ai,aj,ak,S⟩,O,-⟩:=af.cell c (BP ae.1 D)
  rw[I c D] at O
  have Q:=af.set ac.1.wf (BP ae.1 D) (wS (R:=al) (K:=am.K) (bl:=J) (L==0))
  rw[I c D] at Q
  have ag:=IK a (cR P)
  obtain M|M:L=0∨L=1:=by have:=ac.2;omega
  subst M
  refine an 1 rfl ?_
  refine dP (tV true) uc rfl rfl ?_ ?_
  rintro aR F aC aG ax -⟨rfl,rfl,e⟩
  cases e
  refine an 1 rfl ?_
  refine ke (cs:=[ah,T,U,V,W,X,Y,Z,ai,aj,ak,S]) [zI 4,zI 0,.string ⟨#[]⟩,zI 0,zS,zI 0,zI 0,.map none,.pointer none,zI 0,.string ⟨#[84,114,117,101]⟩,zS] rfl rfl O rF rfl rfl rfl rfl ?_
  intro aH ao aa
  refine an 9 rfl (bz (bw (cs:=[zI 4,zI 0,.string ⟨#[]⟩,zI 0,zS,zI 0,zI 0,.map none,.pointer none,zI 0,.string ⟨#[84,114,117,101]⟩,zS]) rfl (.inr (aa)) bG rfl) rfl (an 5 rfl (eX rfl rfl rfl (bz (bw (cs:=[zI 4,zI 0,.string ⟨#[]⟩,zI 0,zS,zI 0,zI 0,.map none,.pointer none,zI 0,.string ⟨#[84,114,117,101]⟩,zS]) rfl (.inr (aa)) fx rfl) rfl (an 5 rfl ?_)))))
  cases ar:((⟨#[84,114,117,101]⟩:BA).toList==(⟨#[84,114,117,101]⟩:BA).toList)
  exact absurd rfl (hW ar)
  refine aE 9 rfl ?_
  subst ao
  exact dm results131 (aT rfl) ⟨rfl,.ok (1,_),ag,J,_,Q.mono ax (eC.refl _),I,rfl,rfl⟩
  rintro ch F R' X' _ _ ⟨_,_,e⟩
  cases e
  subst M
  refine an 1 rfl ?_
  refine dP (tV false) uc rfl rfl ?_ ?_
  rintro aS F aF aI ay -⟨rfl,rfl,e⟩
  cases e
  refine an 1 rfl ?_
  refine ke (cs:=[ah,T,U,V,W,X,Y,Z,ai,aj,ak,S]) [zI 4,zI 0,.string ⟨#[]⟩,zI 0,zS,zI 0,zI 0,.map none,.pointer none,zI 0,.string ⟨#[70,97,108,115,101]⟩,zS] rfl rfl O rF rfl rfl rfl rfl ?_
  intro aK aq H
  refine an 9 rfl (bz (bw (cs:=[zI 4,zI 0,.string ⟨#[]⟩,zI 0,zS,zI 0,zI 0,.map none,.pointer none,zI 0,.string ⟨#[70,97,108,115,101]⟩,zS]) rfl (.inr (H)) bG rfl) rfl (an 5 rfl (eX rfl rfl rfl (bz (bw (cs:=[zI 4,zI 0,.string ⟨#[]⟩,zI 0,zS,zI 0,zI 0,.map none,.pointer none,zI 0,.string ⟨#[70,97,108,115,101]⟩,zS]) rfl (.inr (H)) fx rfl) rfl (an 5 rfl ?_)))))
  cases au:((⟨#[70,97,108,115,101]⟩:BA).toList==(⟨#[84,114,117,101]⟩:BA).toList)
  refine aE 6 rfl (bz (bw (cs:=[zI 4,zI 0,.string ⟨#[]⟩,zI 0,zS,zI 0,zI 0,.map none,.pointer none,zI 0,.string ⟨#[70,97,108,115,101]⟩,zS]) rfl (.inr (H)) bG rfl) rfl (an 5 rfl (eX rfl rfl rfl (bz (bw (cs:=[zI 4,zI 0,.string ⟨#[]⟩,zI 0,zS,zI 0,zI 0,.map none,.pointer none,zI 0,.string ⟨#[70,97,108,115,101]⟩,zS]) rfl (.inr (H)) fx rfl) rfl (an 5 rfl ?_)))))
  cases av:((⟨#[70,97,108,115,101]⟩:BA).toList==(⟨#[70,97,108,115,101]⟩:BA).toList)
  exact absurd rfl (hW av)
  refine aE 9 rfl ?_
  subst aq
  exact dm results131 (aT rfl) ⟨rfl,.ok (2,_),ag,J,_,Q.mono ay (eC.refl _),I,rfl,rfl⟩
  exact absurd (ki au) (by simp)
  rintro ch F R' X' _ _ ⟨_,_,e⟩
  cases e
  rintro ch F B C _ _ ⟨rfl,r,aw,E⟩
  rcases r with t|⟨aL,aP⟩
  cases E
  refine br 1 rfl ?_
  exact cL ⟨rfl,.error t,IL a (cR aw),rfl⟩
  obtain⟨_,_,_,_,e,_⟩:=E
  cases e
 |num m=>
  rw[a] at y
  simp only[dv] at y
  obtain⟨rfl,rfl⟩:=y
  refine cG 11 rfl (bz (bw (cs:=[zI 3,f,g,i,n,o,p,u,z,zI m,A,b]) rfl (.inr (x)) bG rfl) rfl (an 13 rfl (bz (bw (cs:=[zI 3,f,g,i,n,o,p,u,z,zI m,A,b]) rfl (.inr (x)) bG rfl) rfl (an 17 rfl (bz (bw (cs:=[zI 3,f,g,i,n,o,p,u,z,zI m,A,b]) rfl (.inr (x)) bG rfl) rfl (an 17 rfl ?_))))))
  refine eS (eV 3) eU rfl rfl (fun B C=> ?_)
  refine br 1 rfl ?_
  exact cL ⟨rfl,.error (3,0),ud (by rw[a];intro q;cases q) (by rw[a];intro s l q;cases q),rfl⟩
 |cw sm aB=>
  rw[a] at y
  simp only[dv] at y
  obtain⟨rfl,rfl,_⟩:=y
  refine cG 11 rfl (bz (bw (cs:=[zI 4,f,g,i,n,o,p,u,z,n1,.string sm,b]) rfl (.inr (x)) bG rfl) rfl (an 13 rfl (bz (bw (cs:=[zI 4,f,g,i,n,o,p,u,z,n1,.string sm,b]) rfl (.inr (x)) bG rfl) rfl (an 5 rfl (eX rfl rfl rfl (bz (bw (cs:=[zI 4,f,g,i,n,o,p,u,z,n1,.string sm,b]) rfl (.inr (x)) fx rfl) rfl (an 5 rfl ?_)))))))
  cases N:(sm.toList==(⟨#[84,114,117,101]⟩:BA).toList)
  refine aE 6 rfl (bz (bw (cs:=[zI 4,f,g,i,n,o,p,u,z,n1,.string sm,b]) rfl (.inr (x)) bG rfl) rfl (an 5 rfl (eX rfl rfl rfl (bz (bw (cs:=[zI 4,f,g,i,n,o,p,u,z,n1,.string sm,b]) rfl (.inr (x)) fx rfl) rfl (an 5 rfl ?_)))))
  cases ab:(sm.toList==(⟨#[70,97,108,115,101]⟩:BA).toList)
  refine aE 6 rfl ?_
  refine eS (eV 3) eU rfl rfl (fun B C=> ?_)
  refine br 1 rfl ?_
  exact cL ⟨rfl,.error (3,0),wT a (by rw[if_neg (hW N:sm≠iN),if_neg (hW ab:sm≠ox)];rfl),rfl⟩
  refine aE 9 rfl ?_
  exact dm results131 (aT rfl) ⟨rfl,.ok (2,ap),wT a (by rw[if_neg (hW N:sm≠iN),if_pos (ki ab:sm=ox)];rfl),bl,_,h,g0 _,rfl,rfl⟩
  refine aE 9 rfl ?_
  exact dm results131 (aT rfl) ⟨rfl,.ok (1,ap),wT a (by rw[if_pos (ki N:sm=iN)];rfl),bl,_,h,g0 _,rfl,rfl⟩
 |fn sm aB=>
  rw[a] at y
  simp only[dv] at y
  obtain⟨rfl,rfl,_⟩:=y
  refine cG 11 rfl (bz (bw (cs:=[zI 5,f,g,i,n,o,p,u,z,n1,.string sm,b]) rfl (.inr (x)) bG rfl) rfl (an 13 rfl (bz (bw (cs:=[zI 5,f,g,i,n,o,p,u,z,n1,.string sm,b]) rfl (.inr (x)) bG rfl) rfl (an 17 rfl (bz (bw (cs:=[zI 5,f,g,i,n,o,p,u,z,n1,.string sm,b]) rfl (.inr (x)) bG rfl) rfl (an 17 rfl ?_))))))
  refine eS (eV 3) eU rfl rfl (fun B C=> ?_)
  refine br 1 rfl ?_
  exact cL ⟨rfl,.error (3,0),ud (by rw[a];intro q;cases q) (by rw[a];intro s l q;cases q),rfl⟩
theorem IR{d wb:Nat}(Q:l5 d wb aD ae):Bp d wb aD ae:=by
 intro bl st R X ap e aw v L h I Y Z J P
 have U:=I
 obtain⟨ag,ao,rfl,_⟩:=fo I
 refine eh func136 rfl ntmps136 rfl fun w G ad=> ?_
 refine cG 11 rfl ?_
 refine dP (mF L h U Y Z J) mG rfl rfl ?_ ?_
 rintro au F ah aj _ _ ⟨rfl,r,f,c⟩
 rcases r with t|⟨am,ar⟩
 cases c
 obtain⟨al,v,W,S,e,aa⟩:=c
 cases e
 subst aa
 have B:=hV L J (cR f)
 refine dP (Q B.1.wf W B.2 (dS B.1.le.ay P)) l8 rfl rfl ?_ ?_
 rintro av F ai ak _ _ ⟨rfl,r,y,c⟩
 rcases r with t|⟨H,M⟩
 cases c
 obtain⟨N,v,K,T,e,ab⟩:=c
 cases e
 subst ab
 have V:=kU B.1.wf B.2 y
 refine an 5 rfl ?_
 obtain⟨⟨aq,i,k,l,o,p,s,u,C,n1,D,g⟩,x,a⟩:=K.cell H V.2.1
 cases b:M.at H with
 |dF e v=>
  rw[b] at a
  simp only[dv] at a
  obtain⟨rfl,_⟩:=a
  refine aE 4 rfl (bz (bw (cs:=[zI 0,i,k,l,o,p,s,u,C,n1,D,g]) rfl (.inr (x)) bG rfl) rfl (an 5 rfl ?_))
  refine eS (eV 3) eU rfl rfl (fun z A=> ?_)
  refine br 1 rfl ?_
  exact cL ⟨rfl,.error (3,0),rK (cR f) y (by rw[b];intro n q;cases q),rfl⟩
 |link j=>
  rw[b] at a
  simp only[dv] at a
  obtain⟨rfl,rfl⟩:=a
  refine aE 4 rfl (bz (bw (cs:=[zI 1,i,k,l,o,p,s,u,_,n1,D,g]) rfl (.inr (x)) bG rfl) rfl (an 5 rfl ?_))
  refine eS (eV 3) eU rfl rfl (fun z A=> ?_)
  refine br 1 rfl ?_
  exact cL ⟨rfl,.error (3,0),rK (cR f) y (by rw[b];intro n q;cases q),rfl⟩
 |unknown=>
  rw[b] at a
  simp only[dv] at a
  subst a
  refine aE 4 rfl (bz (bw (cs:=[zI 2,i,k,l,o,p,s,u,C,n1,D,g]) rfl (.inr (x)) bG rfl) rfl (an 5 rfl ?_))
  refine eS (eV 3) eU rfl rfl (fun z A=> ?_)
  refine br 1 rfl ?_
  exact cL ⟨rfl,.error (3,0),rK (cR f) y (by rw[b];intro n q;cases q),rfl⟩
 |num m=>
  rw[b] at a
  simp only[dv] at a
  obtain⟨rfl,rfl⟩:=a
  refine aE 4 rfl (bz (bw (cs:=[zI 3,i,k,l,o,p,s,u,C,zI m,D,g]) rfl (.inr (x)) bG rfl) rfl (an 11 rfl (bz (bw (cs:=[zI 3,i,k,l,o,p,s,u,C,zI m,D,g]) rfl (.inr (x)) bG rfl) rfl (an 4 rfl ?_))))
  exact dm results136 (aT rfl) ⟨rfl,.ok (m,M),IM (cR f) y b,N,_,K,S.trans T B.1.le,rfl,rfl⟩
 |cw sm ac=>
  rw[b] at a
  simp only[dv] at a
  obtain⟨rfl,rfl,_⟩:=a
  refine aE 4 rfl (bz (bw (cs:=[zI 4,i,k,l,o,p,s,u,C,n1,.string sm,g]) rfl (.inr (x)) bG rfl) rfl (an 5 rfl ?_))
  refine eS (eV 3) eU rfl rfl (fun z A=> ?_)
  refine br 1 rfl ?_
  exact cL ⟨rfl,.error (3,0),rK (cR f) y (by rw[b];intro n q;cases q),rfl⟩
 |fn sm ac=>
  rw[b] at a
  simp only[dv] at a
  obtain⟨rfl,rfl,_⟩:=a
  refine aE 4 rfl (bz (bw (cs:=[zI 5,i,k,l,o,p,s,u,C,n1,.string sm,g]) rfl (.inr (x)) bG rfl) rfl (an 5 rfl ?_))
  refine eS (eV 3) eU rfl rfl (fun z A=> ?_)
  refine br 1 rfl ?_
  exact cL ⟨rfl,.error (3,0),rK (cR f) y (by rw[b];intro n q;cases q),rfl⟩
 rintro ch F z A _ _ ⟨rfl,r,E,c⟩
 rcases r with t|⟨O,af⟩
 cases c
 refine br 1 rfl ?_
 exact cL ⟨rfl,.error t,IN (cR f) E,rfl⟩
 obtain⟨_,_,_,_,e,_⟩:=c
 cases e
 rintro ch F z A _ _ ⟨rfl,r,E,c⟩
 rcases r with t|⟨O,af⟩
 cases c
 refine br 1 rfl ?_
 exact(mH (cR E)).elim
 obtain⟨_,_,_,_,e,_⟩:=c
 cases e
theorem wV:aF 125:=by unfold aF;kernel_rfl
theorem BS:aF 128:=by unfold aF;kernel_rfl
theorem IS{d:Nat}{c:Nat}(w:WF aD d ap)(e:In d ap c)(h:ap.at c= .fn aY aI):aI.length<ar aD aY∧di d ap aI:=by
 have:=w.ok c e
 rw[h] at this
 obtain⟨a,r,q,b,h3⟩:=this
 refine⟨?_,a⟩
 unfold ar
 rw[b]
 exact h3
theorem BT(a:a6 fE 1 ah az aI)(b:a6 fE 1 ah cM gA)(c:∀j u,[az,cM][j]?=some u→ah.cell? ⟨ae,j,none⟩=some u):a6 wP 1 ah (.slice (some ⟨ae,0,none⟩) 2 2) [aI,gA]:=
 ⟨some ⟨ae,0,none⟩,2,rfl,⟨Nat.le_refl _,by decide,by simp,fun h=>by cases h⟩,a5.new (l:=[aI,gA]) (xs:=[az,cM]) ub ⟨[az],[cM],rfl,⟨az,rfl,a⟩,[cM],[],rfl,⟨cM,rfl,b⟩,rfl⟩ c⟩
theorem wW:∀es:List Ex,es.length≤aO es
 |[]=>b2 _
 |e::r=>by
  have:=wW r
  have a:1≤e.size:=by cases e;rw[Ex.size];omega
  rw[aO,List.length_cons]
  omega
theorem IT{d wb:Nat}(h:dq d wb aD a0 ap ah aJ)(s:BA):ar aD s≤100000:=by
 obtain⟨j,pv,_,c,_⟩:=h.world
 obtain⟨i,es,g,f,_,_,_,b⟩:=c
 unfold ar
 cases e:aD s with
 |nil=>exact b2 _
 |cons r q=>
  have a:=(b s).2 r (by rw[e];exact List.mem_cons_self ..)
  have k:=wW r.ps
  unfold Rl.eo at a
  show r.ps.length≤100000
  omega
theorem a6.len{P:Wd→cW→LV→Prop}{l:List cW}(h:a6 P ae ah az l):l.length≤490000000:=by
 obtain⟨A,cap,_,a,_⟩:=h
 exact a.2.2.1
theorem IU{d wb:Nat}(aa:∀T,T<ao→rJ d wb aD ae T):pX d wb aD ae ao:=by
 intro bl st R X c aV l S h O _ P ac aN aO Z
 have J:=P
 obtain⟨Al,dA,rfl,aL,aQ⟩:=P
 refine eh func125 rfl ntmps125 rfl fun w G ad=> ?_
 by_cases b:l=[]
 subst b
 refine cG 22 rfl ?_
 exact dm results125 (aT rfl) ⟨rfl,.ok (c,st),IP,bl,_,h,g0 _,rfl,rfl⟩
 obtain⟨⟨aR,k,n,o,p,u,x,y,B,n1,K,H⟩,z,a⟩:=h.cell c O
 cases f:st.at c with
 |dF e v=>
  rw[f] at a
  simp only[dv] at a
  obtain⟨rfl,_⟩:=a
  refine cG 13 rfl ?_
  cases A:((((l.map bl).length:Nat):Int)==0)
  refine aE 9 rfl (bz (bw (cs:=[zI 0,k,n,o,p,u,x,y,B,n1,K,H]) rfl (.inr (z)) bG rfl) rfl (an 5 rfl ?_))
  refine eS (eV 3) eU rfl rfl (fun E F=> ?_)
  refine br 1 rfl ?_
  exact cL ⟨rfl,.error (3,0),rM b (by rw[f];intro s l q;cases q),rfl⟩
  exact absurd A (by simpa using b)
 |link j=>
  rw[f] at a
  simp only[dv] at a
  obtain⟨rfl,rfl⟩:=a
  refine cG 13 rfl ?_
  cases A:((((l.map bl).length:Nat):Int)==0)
  refine aE 9 rfl (bz (bw (cs:=[zI 1,k,n,o,p,u,x,y,_,n1,K,H]) rfl (.inr (z)) bG rfl) rfl (an 5 rfl ?_))
  refine eS (eV 3) eU rfl rfl (fun E F=> ?_)
  refine br 1 rfl ?_
  exact cL ⟨rfl,.error (3,0),rM b (by rw[f];intro s l q;cases q),rfl⟩
  exact absurd A (by simpa using b)
 |unknown=>
  rw[f] at a
  simp only[dv] at a
  subst a
  refine cG 13 rfl ?_
  cases A:((((l.map bl).length:Nat):Int)==0)
  refine aE 9 rfl (bz (bw (cs:=[zI 2,k,n,o,p,u,x,y,B,n1,K,H]) rfl (.inr (z)) bG rfl) rfl (an 5 rfl ?_))
  refine eS (eV 3) eU rfl rfl (fun E F=> ?_)
  refine br 1 rfl ?_
  exact cL ⟨rfl,.error (3,0),rM b (by rw[f];intro s l q;cases q),rfl⟩
  exact absurd A (by simpa using b)
 |num m=>
  rw[f] at a
  simp only[dv] at a
  obtain⟨rfl,rfl⟩:=a
  refine cG 13 rfl ?_
  cases A:((((l.map bl).length:Nat):Int)==0)
  refine aE 9 rfl (bz (bw (cs:=[zI 3,k,n,o,p,u,x,y,B,zI m,K,H]) rfl (.inr (z)) bG rfl) rfl (an 5 rfl ?_))
  refine eS (eV 3) eU rfl rfl (fun E F=> ?_)
  refine br 1 rfl ?_
  exact cL ⟨rfl,.error (3,0),rM b (by rw[f];intro s l q;cases q),rfl⟩
  exact absurd A (by simpa using b)
 |cw sm g=>
  rw[f] at a
  simp only[dv] at a
  obtain⟨rfl,rfl,_⟩:=a
  refine cG 13 rfl ?_
  cases A:((((l.map bl).length:Nat):Int)==0)
  refine aE 9 rfl (bz (bw (cs:=[zI 4,k,n,o,p,u,x,y,B,n1,.string sm,H]) rfl (.inr (z)) bG rfl) rfl (an 5 rfl ?_))
  refine eS (eV 3) eU rfl rfl (fun E F=> ?_)
  refine br 1 rfl ?_
  exact cL ⟨rfl,.error (3,0),rM b (by rw[f];intro s l q;cases q),rfl⟩
  exact absurd A (by simpa using b)
 |fn sm g=>
  rw[f] at a
  simp only[dv] at a
  obtain⟨rfl,rfl,C⟩:=a
  have ag:=C
  obtain⟨Am,cq,rfl,_⟩:=C
  have C:=ag
  obtain⟨aM,al⟩:=IS S O f
  have M:g.length≤100000:=by have:=IT h sm;omega
  have aP:l.length≠0:=fun q=>b (mR q)
  have am:(g++l).length -ar aD sm<ao:=by rw[List.length_append];omega
  have ak:(g++l).length≤ar aD sm+100000:=by rw[List.length_append];omega
  have af:di d st (g++l):=fun i aj=>(fM.1 aj).elim (al i) (ac i)
  refine cG 13 rfl ?_
  cases A:((((l.map bl).length:Nat):Int)==0)
  refine aE 9 rfl (bz (bw (cs:=[zI 5,k,n,o,p,u,x,y,B,n1,.string sm,.slice Am (g.map bl).length cq]) rfl (.inr (z)) bG rfl) rfl (an 7 rfl ?_))
  refine dM mixed (fun ao=>false) bH (fun _ _ h=>by cases h) fun aq=> ?_
  refine bm [0,1,2,3,5,6,7,9] rfl (by kernel_rfl) id (bp [4,8] (by kernel_rfl) rfl ?_)
  refine fT rfl (bw (cs:=[zI 5,k,n,o,p,u,x,y,B,n1,.string sm,.slice Am (g.map bl).length cq]) rfl (.inr (z)) fx rfl) rfl ?_ ?_
  refine bp [8] (by kernel_rfl) rfl ?_
  refine fT rfl (bw (cs:=[zI 5,k,n,o,p,u,x,y,B,n1,.string sm,.slice Am (g.map bl).length cq]) rfl (.inr (z)) gH rfl) rfl ?_ bt
  refine ww 1 ?_
  rotate_left
  refine fT rfl (bw (cs:=[zI 5,k,n,o,p,u,x,y,B,n1,.string sm,.slice Am (g.map bl).length cq]) rfl (.inr (z)) gH rfl) rfl ?_ bt
  refine bp [4,10] (by kernel_rfl) rfl ?_
  refine fT rfl (bw (cs:=[zI 5,k,n,o,p,u,x,y,B,n1,.string sm,.slice Am (g.map bl).length cq]) rfl (.inr (z)) fx rfl) rfl ?_ ?_
  refine ww 1 ?_
  rotate_left
  refine jn ua rfl ?_ bt
  intro aK aF D ah
  have L:=BT (a6.sub fZ C D) (a6.sub fZ J D) ah
  refine bp [4,11] (by kernel_rfl) rfl ?_
  refine fT rfl (bw (cs:=[zI 5,k,n,o,p,u,x,y,B,n1,.string sm,.slice Am (g.map bl).length cq]) rfl (.inr (z)) fx rfl) rfl ?_ ?_
  refine ww 2 ?_
  rotate_left
  refine iy rfl (BC L (by have:=a6.len C;have:=a6.len J;have:=M;simp only[List.flatten_cons,List.flatten_nil,List.append_nil,List.length_append,List.length_map];omega)) Bz rfl rfl (fun _ _ h=>by cases h) ?_ bt
  intro aB U Q ap
  have N:a6 fE 1 U aB ((g++l).map bl):=by simpa using ap
  refine bp [4] (by kernel_rfl) rfl ?_
  refine fT rfl (bw (cs:=[zI 5,k,n,o,p,u,x,y,B,n1,.string sm,.slice Am (g.map bl).length cq]) rfl (.inr (z)) fx rfl) rfl ?_ bt
  refine ww 3 ?_
  rotate_left
  exact absurd A (by simpa using b)
  any_goals
   refine uw 1 ?_
   refine bp [10] (by kernel_rfl) rfl ?_
   refine jn ua rfl ?_ bt
   intro g2 aG D ai
   have L:=BT (a6.sub fZ C D) (a6.sub fZ J D) ai
   refine ww 2 ?_
   rotate_left
  any_goals
   refine uw 2 ?_
   refine bp [11] (by kernel_rfl) rfl ?_
   refine iy rfl (BC L (by have:=a6.len C;have:=a6.len J;have:=M;simp only[List.flatten_cons,List.flatten_nil,List.append_nil,List.length_append,List.length_map];omega)) Bz rfl rfl (fun _ _ h=>by cases h) ?_ bt
   intro aC V Q au
   have N:a6 fE 1 V aC ((g++l).map bl):=by simpa using au
   refine ww 3 ?_
   rotate_left
  any_goals
   refine uw 3 ?_
   refine bp [12] (by kernel_rfl) rfl ?_
   refine fY rfl (aa _ am S (h.mono (D.trans Q) (eC.refl _)) N af ak (a9 _) Z) BS rfl rfl (fun _ _ h=>by cases h) ?_ ?_ ?_
   rintro aU aA aH aI _ _ ⟨rfl,r,aw,I⟩
   rcases r with t|⟨Y,az⟩
   cases I
   obtain⟨W,v,ax,ab,e,ay⟩:=I
   cases e
   refine bm [13] rfl (by kernel_rfl) id (du (by kernel_rfl) (br 2 rfl ?_))
   exact dm results125 (aT rfl) ⟨rfl,.ok (Y,az),BQ b f aw,W,_,ax,ab,rfl,ay⟩
   rintro ch aA E F _ _ ⟨rfl,r,av,I⟩
   rcases r with t|⟨aJ,aS⟩
   cases I
   refine br 1 rfl ?_
   exact cL ⟨rfl,.error t,BQ b f av,rfl⟩
   obtain⟨_,_,_,_,e,_⟩:=I
   cases e
   exact bt
theorem IV{d wb:Nat}(O:l5 d wb aD ae)(N:∀k,pX d wb aD ae k)(P:∀k,rJ d wb aD ae k):wL d wb aD ae:=by
 intro bl st R X s aj ak v l u h Y E S o T n
 have F:=S
 obtain⟨ah,es,ag,rfl,C,D⟩:=Y
 refine eh func124 rfl ntmps124 rfl fun w G ad=> ?_
 cases b:v s with
 |none=>
  refine cG 10 rfl (bz (jl (r:= .tuple #[.pointer none,.bool false]) rfl rfl (.inl C) D pW (by simp[hc,b])) rfl (an 20 rfl ?_))
  refine dP (P _ u h F o (by omega) (a9 _) n) BS rfl rfl ?_ ?_
  rintro ab j J K _ _ ⟨rfl,r,g,a⟩
  rcases r with t|⟨A,H⟩
  cases a
  obtain⟨z,v,p,m,e,q⟩:=a
  cases e
  refine an 4 rfl ?_
  exact dm results124 (aT rfl) ⟨rfl,.ok (A,H),BR b g,z,_,p,m,rfl,q⟩
  rintro ch j x y _ _ ⟨rfl,r,f,a⟩
  rcases r with t|⟨B,I⟩
  cases a
  refine br 1 rfl ?_
  exact cL ⟨rfl,.error t,BR b f,rfl⟩
  obtain⟨_,_,_,_,e,_⟩:=a
  cases e
 |some i=>
  refine cG 10 rfl (bz (jl (r:= .tuple #[bP (bl i),.bool true]) rfl rfl (.inl C) D pW (by simp[hc,b])) rfl (an 18 rfl ?_))
  refine dP (O u h (E s i b) n) l8 rfl rfl ?_ ?_
  rintro ab j J K W _ ⟨rfl,r,g,a⟩
  rcases r with t|⟨A,H⟩
  cases a
  obtain⟨z,v,p,m,e,q⟩:=a
  cases e
  subst q
  have c:=kU u (E s i b) g
  refine an 1 rfl ?_
  refine dP (N _ c.1.wf p c.2.1 c.2.2 (by rw[l3 o m];exact a6.sub fZ F W) (o.le c.1.le) T (Nat.le_refl _) (Nat.le_trans c.1.le.ay n)) wV rfl rfl ?_ ?_
  rintro ai j ac af _ _ ⟨rfl,r,U,a⟩
  rcases r with t|⟨M,aa⟩
  cases a
  obtain⟨L,v,V,Q,e,Z⟩:=a
  cases e
  refine an 5 rfl ?_
  exact dm results124 (aT rfl) ⟨rfl,.ok (M,aa),wU b (bB g U),L,_,V,(m.trans Q c.1.le),rfl,Z⟩
  rintro ch j x y _ _ ⟨rfl,r,f,a⟩
  rcases r with t|⟨B,I⟩
  cases a
  refine br 2 rfl ?_
  exact cL ⟨rfl,.error t,wU b (bB g f),rfl⟩
  obtain⟨_,_,_,_,e,_⟩:=a
  cases e
  rintro ch j x y _ _ ⟨rfl,r,f,a⟩
  rcases r with t|⟨B,I⟩
  cases a
  refine br 2 rfl ?_
  exact cL ⟨rfl,.error t,wU b (ej f),rfl⟩
  obtain⟨_,_,_,_,e,_⟩:=a
  cases e
theorem wX:cr 194 false 1:=by unfold cr;kernel_rfl
theorem IW:aF 133:=by unfold aF;kernel_rfl
theorem kj:kc 194 .string (zS):=⟨9,24,by kernel_rfl,by kernel_rfl,fun W=>by rfl⟩
theorem wY{x:Mo.ei Nat}(h:aG (fun g=>hb aD (aB aD g) aY aI) ap x):aG (fun g=>(aB aD g).func aY aI) ap x:=aG.step h
theorem BU(h:aD aY=[]):aG (fun g=>(aB aD g).func aY aI) ap (.error (3,0)):=by
 refine wY ?_
 have e:(fun g=>hb aD (aB aD g) aY aI)=fun g=>stop 3:=by
  funext g
  unfold hb
  rw[h]
 rw[e]
 exact b8 rfl
theorem IX(h:aD aY=jM::dY)(a:aI.length<jM.ps.length):aG (fun g=>(aB aD g).func aY aI) ap (.ok (ap.len,{ap with cells:=ap.cells++ [.fn aY aI]})):=by
 refine wY ?_
 have e:(fun g=>hb aD (aB aD g) aY aI)=fun g=>new (.fn aY aI):=by
  funext g
  unfold hb
  rw[h]
  exact if_pos a
 rw[e]
 exact b8 rfl
theorem wZ{x:Mo.ei Nat}(h:aD aY=jM::dY)(a:¬aI.length<jM.ps.length)(b:aG (fun g=>(ha (aB aD g) (jM::dY) (aI.take jM.ps.length)).bind fun c=>apply (aB aD g) c (aI.drop jM.ps.length)) ap x):aG (fun g=>(aB aD g).func aY aI) ap x:=by
 refine wY ?_
 have e:(fun g=>hb aD (aB aD g) aY aI)=fun g=>(ha (aB aD g) (jM::dY) (aI.take jM.ps.length)).bind fun c=>apply (aB aD g) c (aI.drop jM.ps.length):=by
  funext g
  unfold hb
  rw[h]
  exact if_neg a
 rw[e]
 exact b
theorem IY{d:Nat}(w:WF aD d ap)(b:di d ap aI)(h:aG (fun g=>ha (aB aD g) dY aI) ap (.ok (ae,aW))):Mo.Good aD d ap aW∧In d aW ae∧fg (aW.at ae):=jO h fun g a=>Bg (eT.aB aD d g) w b a
theorem BV{d wb:Nat}(al:tX d wb aD ae)(ak:pX d wb aD ae ao):rJ d wb aD ae ao:=by
 intro bl st R X s a9 l K h Z A a1 a2 O
 have aC:=Z
 obtain⟨Al,dA,rfl,C,aa⟩:=Z
 obtain⟨aZ,pv,J,az,_⟩:=h.world
 obtain⟨y,es,aY,f,rfl,z,B,U⟩:=az
 have j:=(U s).1
 have V:=(U s).2
 refine eh func128 rfl ntmps128 rfl fun w G ad=> ?_
 cases g:f s with
 |none=>
  have b:aD s=[]:=by rw[g] at j;exact j
  refine cG 10 rfl (bz (bw (cs:=[.map (some y),pv,zI (st.ay:Nat)]) rfl (.inr (J)) wX rfl) rfl (an 1 rfl (bz (jl (r:=zS) rfl rfl (.inl z) B kj (by simp[g])) rfl (an 13 rfl ?_))))
  refine eS (eV 3) eU rfl rfl (fun o m=> ?_)
  refine br 1 rfl ?_
  exact cL ⟨rfl,.error (3,0),BU b,rfl⟩
 |some u=>
  rw[g] at j
  replace j:a6 Rl.Cs 11 R u (aD s):=j
  obtain⟨af,M,rfl,D,n⟩:=j
  cases b:aD s with
  |nil=>
   simp only[b,List.length_nil] at g D n
   refine cG 10 rfl (bz (bw (cs:=[.map (some y),pv,zI (st.ay:Nat)]) rfl (.inr (J)) wX rfl) rfl (an 1 rfl (bz (jl (r:= .slice af 0 M) rfl rfl (.inl z) B kj (by simp[g])) rfl (an 13 rfl ?_))))
   refine eS (eV 3) eU rfl rfl (fun o m=> ?_)
   refine br 1 rfl ?_
   exact cL ⟨rfl,.error (3,0),BU b,rfl⟩
  |cons r q=>
   simp only[b,List.length_cons] at g D n V
   obtain⟨x,ab,N,rfl,⟨ac,ai,aO,aX,aW,rfl,_⟩,aB⟩:=a5.get dt n 0 (by simp)
   have aA:R.cell? ⟨x,ab+0*11+1,none⟩=some (.slice ac r.ps.length ai):=aB 1 _ rfl
   refine cG 10 rfl (bz (bw (cs:=[.map (some y),pv,zI (st.ay:Nat)]) rfl (.inr (J)) wX rfl) rfl (an 1 rfl (bz (jl (r:= .slice (some ⟨x,ab,none⟩) (q.length+1) M) rfl rfl (.inl z) B kj (by simp[g])) rfl (an 11 rfl ?_))))
   cases aw:((((q.length+1):Nat):Int)==0)
   refine aE 6 rfl (xp (a3 (i:=0) rfl rfl rfl (Nat.succ_pos _) hk) rfl (an 1 rfl (xp (dT rfl FR aA) rfl (an 13 rfl ?_))))
   cases T:(decide ((((l.map bl).length:Nat):Int)<((r.ps.length:Nat):Int)))
   have F:¬l.length<r.ps.length:=by have:=of_decide_eq_false T;simp only[List.length_map] at this;omega
   refine aE 4 rfl ?_
   refine dM mixed (fun ao=>false) bH (fun _ _ h=>by cases h) fun aq=> ?_
   refine bm [0,1,2,3,4] rfl (by kernel_rfl) id (xt 5 rfl (pA (i:=r.ps.length) rfl rfl (by have:=C.1;simp only[List.length_map] at this;omega) jr rfl) rfl (by kernel_rfl) id (bm [7,8] rfl (by kernel_rfl) id (xt 9 rfl (od (i:=r.ps.length) rfl rfl (by(try simp only[List.length_map]);omega) jr rfl) rfl (by kernel_rfl) id (bp [6] (by kernel_rfl) rfl ?_))))
   have aJ:a6 fE 1 R (sliced Al 0 r.ps.length dA 1) ((l.take r.ps.length).map bl):=by rw[List.map_take];exact a6.take fZ C aa (by(try simp only[List.length_map]);omega) (.inl rfl)
   have ax:a6 fE 1 R (sliced Al r.ps.length (l.map bl).length dA 1) ((l.drop r.ps.length).map bl):=by rw[List.map_drop];exact a6.drop fZ C aa (by(try simp only[List.length_map]);omega)
   have S:di d st (l.take r.ps.length):=fun i E=>A i (List.mem_of_mem_take E)
   have P:di d st (l.drop r.ps.length):=fun i E=>A i (List.mem_of_mem_drop E)
   have a0:ar aD s=r.ps.length:=by unfold ar;rw[b]
   refine fY rfl (al K h (rules:=r::q) ⟨_,_,rfl,D,n⟩ (by simp) V aJ S O) IW rfl rfl (fun _ _ h=>by cases h) ?_ ?_ ?_
   rintro a7 L aP aR aI _ ⟨rfl,r,I,a⟩
   rcases r with t|⟨aV,a4⟩
   cases a
   obtain⟨aU,v,aG,Q,e,aK⟩:=a
   cases e
   subst aK
   have k:=IY K S I
   refine bp [10] (by kernel_rfl) rfl ?_
   refine fY rfl (ak k.1.wf aG k.2.1 k.2.2 (by rw[l3 P Q];exact a6.sub fZ ax aI) (P.le k.1.le) (by rw[List.length_drop];omega) (by rw[List.length_drop];omega) (Nat.le_trans k.1.le.ay O)) wV rfl rfl (fun _ _ h=>by cases h) ?_ ?_ ?_
   rintro a8 L aQ aS _ _ ⟨rfl,r,aF,a⟩
   rcases r with t|⟨ah,aM⟩
   cases a
   obtain⟨ag,v,aH,ap,e,aL⟩:=a
   cases e
   refine bm [11] rfl (by kernel_rfl) id (du (by kernel_rfl) (br 2 rfl ?_))
   exact dm results128 (aT rfl) ⟨rfl,.ok (ah,aM),wZ b F (bB I aF),ag,_,aH,Q.trans ap k.1.le,rfl,aL⟩
   rintro ch L o m _ _ ⟨rfl,r,H,a⟩
   rcases r with t|⟨N,aN⟩
   cases a
   refine br 1 rfl ?_
   exact cL ⟨rfl,.error t,wZ b F (bB I H),rfl⟩
   obtain⟨_,_,_,_,e,_⟩:=a
   cases e
   exact bt
   rintro ch L o m _ _ ⟨rfl,r,H,a⟩
   rcases r with t|⟨N,aN⟩
   cases a
   refine br 1 rfl ?_
   exact cL ⟨rfl,.error t,wZ b F (ej H),rfl⟩
   obtain⟨_,_,_,_,e,_⟩:=a
   cases e
   exact bt
   have Y:l.length<r.ps.length:=by have:=of_decide_eq_true T;simp only[List.length_map] at this;omega
   refine aE 5 rfl (xp (bJ (vs:=[(0,zI 5),(5,.string s),(6,.slice Al (l.map bl).length dA)]) (v:= .agg #[zI 5,zI 0,.string ⟨#[]⟩,zI 0,zS,zI 0,zI 0,.map none,.pointer none,zI 0,.string s,.slice Al (l.map bl).length dA]) rfl (fun W=>by kernel_rfl)) rfl (an 6 rfl ?_))
   refine nr (bs:=[]) rfl rfl ?_
   rintro x m -av rfl
   obtain⟨ef,am,aj,au⟩:=h.new K av (p:= .fn s l) ⟨A,r,q,b,Y⟩ (c:=⟨zI 5,zI 0,.string ⟨#[]⟩,zI 0,zS,zI 0,zI 0,.map none,.pointer none,zI 0,.string s,.slice Al (l.map bl).length dA⟩) ⟨rfl,rfl,aC⟩
   exact dm results128 (aT rfl) ⟨rfl,.ok (_,_),IX b Y,ef,_,am,aj,rfl,(congrArg bP au).symm⟩
   exact absurd aw (by simp;omega)
theorem BW:aF 136:=by unfold aF;kernel_rfl
theorem IZ:aF 137:=by unfold aF;kernel_rfl
theorem I0:aF 139:=by unfold aF;kernel_rfl
def pZ (s:ByteArray) (a b:Int):M Nat:=
 if(hq (Mo.e7 s) a b).2=7 then stop 4 else if(hq (Mo.e7 s) a b).2≠0 then stop 3
 else if Mo.e7 s=4∨Mo.e7 s=5 then new (jK ((hq (Mo.e7 s) a b).1==1)) else new (.num (hq (Mo.e7 s) a b).1)
theorem w1{k n l c:Int}{x y:Ex}(b:aY=sQ)(a:aG (fun g=>(pick 2).bind fun k=>(later (if k=0 then x else y) b3).bind fun i=>(aB aD g).force i) ap gh):aG (fun g=>oper (aB aD g) (.mk k aY n [x,y] l c) b3) ap gh:=by
 have e:(fun g=>oper (aB aD g) (.mk k aY n [x,y] l c) b3)=fun g=>(pick 2).bind fun k=>(later (if k=0 then x else y) b3).bind fun i=>(aB aD g).force i:=by
  funext g
  unfold oper
  exact if_pos b
 rw[e]
 exact a
theorem p0{k n l c:Int}{x y:Ex}(f:aY≠sQ)(d:aG (fun g=>(gQ (aB aD g) x b3).bind fun a=>(gQ (aB aD g) y b3).bind fun b=>pZ aY a b) ap gh):aG (fun g=>oper (aB aD g) (.mk k aY n [x,y] l c) b3) ap gh:=by
 have e:(fun g=>oper (aB aD g) (.mk k aY n [x,y] l c) b3)=fun g=>(gQ (aB aD g) x b3).bind fun a=>(gQ (aB aD g) y b3).bind fun b=>pZ aY a b:=by
  funext g
  unfold oper
  exact if_neg f
 rw[e]
 exact d
theorem BX{d:Nat}{n:Int}(w:WF aD d ap)(b:ed d ap b3)(h:aG (fun g=>gQ (aB aD g) aM b3) ap (.ok (n,aW))):Mo.Good aD d ap aW:=jO h fun g a=>wF (eT.aB aD d g) w b a
theorem BY(n:Nat):Prim.oB (n:Int)=true↔n=4∨n=5:=by
 unfold Prim.oB
 simp only[Bool.or_eq_true,beq_iff_eq]
 omega
theorem I2(s:BA):Mo.e7 s≤5:=by
 unfold Mo.e7
 repeat' split
 all_goals omega
theorem w2{x y:Ex}(h:ae< [x,y].length): [x,y][ae]=if ae=0 then x else y:=by
 cases ae with
 |zero=>rfl
 |succ ae=>
  cases ae with
  |zero=>rfl
  |succ ae=>simp at h;omega
theorem I5{k n l c:Int}{x y:Ex}(h:(Ex.mk k aY n [x,y] l c).size≤100000):x.size≤100000∧y.size≤100000:=by
 rw[Ex.size,aO,aO,aO] at h
 omega
theorem I6{d wb:Nat}(aQ:l5 d wb aD ae)(am:Bp d wb aD ae):Bo d wb aD ae:=by
 intro bl st R X bS e b7 v ai h aX bf a4 ah C U
 obtain⟨aw,b,ne,aA,ax,al⟩:=e
 obtain⟨x,y,rfl⟩:∃x y,aA=[x,y]:=by
  match aA,a4 with
  |[x,y],_=>exact⟨x,y,rfl⟩
 obtain⟨bd,be⟩:=I5 bf
 obtain⟨bo,ak,rfl,bU,K⟩:=aX
 replace K:=c9.1 K
 obtain⟨aj,az,aM,rfl,N,aZ⟩:=a5.get bM K 0 (by simp)
 obtain⟨bI,bW,aN,aO,O,a0⟩:=a5.get bM K 1 (by simp)
 cases aO
 replace N:Ex.Cs R x aM:=N
 replace O:Ex.Cs R y aN:=O
 have aV:=N
 have aW:=O
 obtain⟨aC,aK,rfl,_⟩:=fo N
 obtain⟨aF,aL,rfl,_⟩:=fo O
 refine eh func130 rfl ntmps130 rfl fun w G ad=> ?_
 refine cG 14 rfl ?_
 cases z:(b.toList==(⟨#[63]⟩:BA).toList)
 refine aE 8 rfl (xp (a3 (i:=0) rfl rfl rfl (by simp) cZ) rfl (xp (jY (cs:=[zI x.k,.string x.s,zI x.n,.slice aC x.ys.length aK,zI x.l,zI x.c]) rfl cY aZ) rfl (an 1 rfl ?_)))
 refine dP (am ai h aV bd ah C U) BW rfl rfl ?_ ?_
 rintro b5 m bx bF av a2 ⟨rfl,r,H,a⟩
 rcases r with t|⟨f,bZ⟩
 cases a
 obtain⟨bO,v,ba,Y,e,bj⟩:=a
 cases e
 subst bj
 have D:=BX ai C H
 refine an 8 rfl (xp (a3 (i:=1) rfl rfl rfl (by simp) cZ) rfl (xp (jY (cs:=[zI y.k,.string y.s,zI y.n,.slice aF y.ys.length aL,zI y.l,zI y.c]) rfl cY (fun j u hu=>av _ _ _ (a0 j u hu))) rfl (an 1 rfl ?_)))
 refine dP (am D.wf ba (aW.sub av) be ((ah.mono a2).jN C Y) (C.le D.le) (dS D.le.ay U)) BW rfl rfl ?_ ?_
 rintro b6 m bz bG _ bV ⟨rfl,r,J,a⟩
 rcases r with t|⟨g,b0⟩
 cases a
 obtain⟨bQ,v,au,ap,e,bk⟩:=a
 cases e
 subst bk
 have Q:=BX D.wf (C.le D.le) J
 refine an 7 rfl ?_
 refine ru (BJ b) BI rfl rfl ?_
 rintro _ rfl
 refine an 2 rfl ?_
 refine ru (ID (I2 b) f g) IZ rfl rfl ?_
 rintro _ rfl
 refine an 16 rfl ?_
 cases M:(((hq (Mo.e7 b) f g).2)==7)
 refine aE 8 rfl ?_
 cases ab:(((hq (Mo.e7 b) f g).2) !=0)
 refine aE 5 rfl ?_
 refine ru (BJ b) BI rfl rfl ?_
 rintro _ rfl
 refine ru (IE (Mo.e7 b)) I0 rfl rfl ?_
 rintro _ rfl
 refine an 3 rfl ?_
 cases ac:(Prim.oB ((Mo.e7 b:Nat):Int))
 refine aE 7 rfl (xp (bJ (vs:=[(0,zI 3),(4,zI ((hq (Mo.e7 b) f g).1))]) (v:= .agg #[zI 3,zI 0,.string ⟨#[]⟩,zI 0,zS,zI 0,zI 0,.map none,.pointer none,zI ((hq (Mo.e7 b) f g).1),.string ⟨#[]⟩,zS]) rfl (fun W=>by kernel_rfl)) rfl (an 5 rfl ?_))
 refine nr (bs:=[(31,[zI aw,.string b,zI ne,.slice (some ⟨aj,az,none⟩) 2 ak,zI ax,zI al])]) rfl rfl ?_
 rintro aH B -aa rfl
 obtain⟨ef,V,T,Z⟩:=au.new Q.wf aa (p:= .num (hq (Mo.e7 b) f g).1) trivial (c:=⟨zI 3,zI 0,.string ⟨#[]⟩,zI 0,zS,zI 0,zI 0,.map none,.pointer none,zI ((hq (Mo.e7 b) f g).1),.string ⟨#[]⟩,zS⟩) ⟨rfl,rfl⟩
 exact dm results130 (aT rfl) ⟨rfl,.ok (_,_),p0 (hW z) (bB H (bB J (b8 (by unfold pZ;rw[if_neg (by simpa using M),if_neg (by simpa using ab),if_neg (fun q=>by rw[(BY _).2 q] at ac;cases ac)];rfl)))),ef,_,V,(Y.trans (ap.trans T Q.le) D.le),rfl,(congrArg bP Z).symm⟩
 refine aE 5 rfl ?_
 refine dP (tV (((hq (Mo.e7 b) f g).1)==1)) uc rfl rfl ?_ ?_
 rintro b1 m bq bA bb -⟨rfl,rfl,e⟩
 cases e
 refine an 12 rfl ?_
 refine nr (bs:=[(31,[zI aw,.string b,zI ne,.slice (some ⟨aj,az,none⟩) 2 ak,zI ax,zI al])]) rfl rfl ?_
 rintro aH B -aa rfl
 obtain⟨ef,V,T,Z⟩:=(au.mono bb (eC.refl _)).new Q.wf aa (p:=jK (((hq (Mo.e7 b) f g).1)==1)) rC (c:=⟨zI 4,zI 0,.string ⟨#[]⟩,zI 0,zS,zI 0,zI 0,.map none,.pointer none,zI 0,.string (if(((hq (Mo.e7 b) f g).1)==1)=true then iN else ox),zS⟩) (wS (((hq (Mo.e7 b) f g).1)==1))
 exact dm results130 (aT rfl) ⟨rfl,.ok (_,_),p0 (hW z) (bB H (bB J (b8 (by unfold pZ;rw[if_neg (by simpa using M),if_neg (by simpa using ab),if_pos ((BY _).1 ac)];rfl)))),ef,_,V,(Y.trans (ap.trans T Q.le) D.le),rfl,(congrArg bP Z).symm⟩
 rintro ch m R' X' _ _ ⟨_,_,e⟩
 cases e
 refine aE 2 rfl ?_
 refine eS (eV 3) eU rfl rfl (fun F B=> ?_)
 refine br 2 rfl ?_
 exact cL ⟨rfl,.error (3,0),p0 (hW z) (bB H (bB J (b8 (by unfold pZ;rw[if_neg (by simpa using M),if_pos (by simpa using ab)];rfl)))),rfl⟩
 refine aE 2 rfl ?_
 refine eS (eV 4) eU rfl rfl (fun F B=> ?_)
 refine br 2 rfl ?_
 exact cL ⟨rfl,.error (4,0),p0 (hW z) (bB H (bB J (b8 (by unfold pZ;rw[if_pos (by simpa using M)];rfl)))),rfl⟩
 rintro ch m F B _ _ ⟨rfl,r,A,a⟩
 rcases r with t|⟨L,S⟩
 cases a
 refine br 1 rfl ?_
 exact cL ⟨rfl,.error t,p0 (hW z) (bB H (ej A)),rfl⟩
 obtain⟨_,_,_,_,e,_⟩:=a
 cases e
 rintro ch m F B _ _ ⟨rfl,r,A,a⟩
 rcases r with t|⟨L,S⟩
 cases a
 refine br 1 rfl ?_
 exact cL ⟨rfl,.error t,p0 (hW z) (ej A),rfl⟩
 obtain⟨_,_,_,_,e,_⟩:=a
 cases e
 refine aE 2 rfl ?_
 refine dM mixed (fun k=>k==0) bH (fun _ _ h=>by cases h) fun aq=> ?_
 refine bm [0,1,2,3,7] rfl (by kernel_rfl) id (bp [4] (by kernel_rfl) rfl ?_)
 refine fY rfl (wJ h 2) wR rfl rfl (fun _ _ h=>by cases h) ?_ ?_ ?_
 rintro b2 m bu bC bc a1 ⟨rfl,r,af,a⟩
 rcases r with t|⟨o,bX⟩
 cases a
 obtain⟨bL,v,a7,ao,e,bg⟩:=a
 cases e
 subst bg
 have E:=pU ai (cR af)
 have I:o< [x,y].length:=E.2
 obtain⟨bK,ok,bT,aP,ar,aY⟩:=a5.get bM K o I
 cases aP
 have aU:=ar
 obtain⟨aB,aJ,rfl,_⟩:=fo ar
 refine xt 5 rfl (a3 (i:=o) rfl rfl rfl I cZ) rfl (by kernel_rfl) id (xt 6 rfl (jY (cs:=[zI ([x,y][o].k),.string [x,y][o].s,zI ([x,y][o].n),.slice aB [x,y][o].ys.length aJ,zI ([x,y][o].l),zI ([x,y][o].c)]) rfl cY aY) rfl (by kernel_rfl) id (bp [8] (by kernel_rfl) rfl ?_))
 refine fY rfl (mF E.1.wf a7 (aU.sub bc) (by rw[w2 I];split<;>assumption) ((ah.mono a1).jN C ao) (C.le E.1.le)) mG rfl rfl (fun _ _ h=>by cases h) ?_ ?_ ?_
 rintro b3 m bv bD _ _ ⟨rfl,r,ag,a⟩
 rcases r with t|⟨bR,bY⟩
 cases a
 obtain⟨bN,v,a8,aR,e,bh⟩:=a
 cases e
 subst bh
 have P:=hV E.1.wf (C.le E.1.le) (cR ag)
 refine bp [9] (by kernel_rfl) rfl ?_
 refine fY rfl (aQ P.1.wf a8 P.2 (dS (dS P.1.le.ay E.1.le.ay) U)) l8 rfl rfl (fun _ _ h=>by cases h) ?_ ?_ ?_
 rintro b4 m bw bE _ _ ⟨rfl,r,a6,a⟩
 rcases r with t|⟨aI,bn⟩
 cases a
 obtain⟨aG,v,a9,aS,e,bi⟩:=a
 cases e
 refine bm [10] rfl (by kernel_rfl) id (du (by kernel_rfl) (br 3 rfl ?_))
 exact dm results130 (aT rfl) ⟨rfl,.ok (aI,bn),w1 (ki z) (bB (b8 (cR af)) (bB (b8 (by rw[←w2 I];exact cR ag)) a6)),aG,_,a9,(ao.trans (aR.trans aS P.1.le) E.1.le),rfl,bi⟩
 rintro ch m F B _ _ ⟨rfl,r,A,a⟩
 rcases r with t|⟨L,S⟩
 cases a
 refine br 2 rfl ?_
 exact cL ⟨rfl,.error t,w1 (ki z) (bB (b8 (cR af)) (bB (b8 (by rw[←w2 I];exact cR ag)) A)),rfl⟩
 obtain⟨_,_,_,_,e,_⟩:=a
 cases e
 exact bt
 rintro ch m F B _ _ ⟨rfl,r,A,a⟩
 rcases r with t|⟨L,S⟩
 cases a
 refine br 2 rfl ?_
 exact(mH (cR A)).elim
 obtain⟨_,_,_,_,e,_⟩:=a
 cases e
 exact bt
 rintro ch m F B _ _ ⟨rfl,r,A,a⟩
 rcases r with t|⟨L,S⟩
 cases a
 refine br 2 rfl ?_
 exact cL ⟨rfl,.error t,w1 (ki z) (ej (b8 (cR A))),rfl⟩
 obtain⟨_,_,_,_,e,_⟩:=a
 cases e
 exact bt
theorem I7:aF 130:=by unfold aF;kernel_rfl
theorem I8:aF 131:=by unfold aF;kernel_rfl
theorem I9{bx bs:List Bx}{rw:List bU}(m:bx=bs++ [(aH,aj)])(r:Nat.ble dj.nb bs.length=true)(q:Nat.ble bI.boxes.length bs.length=true)
 (k:∀b X',aJ.K b=none→aJ.H b=none→X'=⟨aJ.K,aQ aJ.H b (.cells aj.toArray aH (0,0))⟩→cQ dj dl b1 bI bR a0 dk dy ae bQ ⟨kL bs.length b bu,bs,rw⟩ ah X'):cQ dj dl b1 bI bR a0 dk dy ae bQ ⟨bu,bx,rw⟩ ah aJ:=by
 subst m
 intro ad a W h d
 obtain⟨g,f,h3⟩:=h.tN (hP r)
 have p:=hP q
 refine k _ _ g f rfl ad a W h3 ⟨d.ad,fun j n=> ?_,d.sub,p,fun b ob l=> ?_⟩
 ·have i:=d.bx j n
  by_cases o:j<bs.length
  ·rw[←i]
   exact(List.getElem?_append_left o).symm
  ·show bs[j]?=_
   rw[List.getElem?_eq_none (by omega),List.getElem?_eq_none (by omega)]
 ·rcases d.hh b ob l with c|c
  ·exact .inl c
  ·refine .inr ((bh _ _ (fun e=> ?_)).trans c)
   subst e
   rw[f] at c
   cases c
theorem Ja{rs:cU}{n l c:Int}{s:BA}{ys:List Ex}{v:Env}(a:new (.num n) ap=some gh):aG (fun g=>other (aB rs g) (.mk 3 s n ys l c) v) ap gh:=b8 (m:=new (.num n)) a
theorem li(h:∀g,other (aB aD g) aM b3=rN g)(a:aG rN ap gh):aG (fun g=>other (aB aD g) aM b3) ap gh:=by
 have:(fun g=>other (aB aD g) aM b3)=rN:=funext h
 rw[this]
 exact a
theorem Jb{c k:Nat}(h:branch c ap=some (.ok (k,aW))):k=1∨k=2:=by
 replace h:=cp h
 obtain⟨x,b6,a,h⟩:=h
 revert h
 show dW _ _ _ _ _
 split<;>intro h
 ·replace h:=cp h
  obtain⟨y,b,_,h⟩:=h
  replace h:=cp h
  obtain⟨u,d,_,h⟩:=h
  obtain⟨rfl,_⟩:=dG h
  split<;>simp
 ·revert h
  show dW _ _ _ _ _
  split<;>intro h
  ·obtain⟨rfl,_⟩:=dG h
   exact .inl rfl
  ·revert h
   show dW _ _ _ _ _
   split<;>intro h
   ·obtain⟨rfl,_⟩:=dG h
    exact .inr rfl
   ·exact(hr h).elim
 ·exact(hr h).elim
theorem BZ{x y z:Ex}(h:ae< [x,y,z].length)(a:ae=1∨ae=2): [x,y,z][ae]=if ae=1 then y else z:=by
 rcases a with rfl|rfl<;>rfl
theorem rO{k n l c:Int}(h:(Ex.mk k aY n cv l c).size≤100000)(a:aM∈cv):aM.size≤100000:=by
 have:=rH a
 rw[Ex.size] at h
 omega
theorem Jc{d wb:Nat}{rs:cU}(bN:l5 d wb rs ae)(bR:Bo d wb rs ae)(aL:rI d wb rs ae):wM d wb rs ae:=by
 intro bl st R X cp e cy v Q h bh ag ah I ao
 have b2:=bh
 obtain⟨M,o,ne,b,E,B⟩:=e
 obtain⟨bu,aJ,rfl,cu,L⟩:=bh
 replace L:=c9.1 L
 refine eh func126 rfl ntmps126 rfl fun w G ad=> ?_
 by_cases aS:M=3
 subst aS
 have aR:=fun(r:Mo.ei Nat) (A:new (.num ne) st=some r)=>Ja (rs:=rs) (l:=E) (c:=B) (s:=o) (ys:=b) (v:=v) A
 replace aR:=aR _ rfl
 refine cG 29 rfl (xp (bJ (vs:=[(0,zI 3),(4,zI ne)]) (v:= .agg #[zI 3,zI 0,.string ⟨#[]⟩,zI 0,zS,zI 0,zI 0,.map none,.pointer none,zI ne,.string ⟨#[]⟩,zS]) rfl (fun W=>by kernel_rfl)) rfl (an 7 rfl ?_))
 refine nr (bs:=[(31,[zI 3,.string o,zI ne,.slice bu b.length aJ,zI E,zI B])]) rfl rfl ?_
 rintro bc N -aM rfl
 obtain⟨ef,bS,bL,bV⟩:=h.new Q aM (p:= .num ne) trivial (c:=⟨zI 3,zI 0,.string ⟨#[]⟩,zI 0,zS,zI 0,zI 0,.map none,.pointer none,zI ne,.string ⟨#[]⟩,zS⟩) ⟨rfl,rfl⟩
 exact dm results126 (aT rfl) ⟨rfl,.ok (_,_),aR,ef,_,bS,bL,rfl,(congrArg bP bV).symm⟩
 by_cases aU:M=5
 subst aU
 by_cases D:b.length=2
 obtain⟨x,y,rfl⟩:∃x y,b=[x,y]:=by
  match b,D with
  |[x,y],_=>exact⟨x,y,rfl⟩
 obtain⟨ak,aw,T,rfl,f,ab⟩:=a5.get bM L 0 (by simp)
 replace f:Ex.Cs R x T:=f
 have aa:=f
 obtain⟨V,Y,rfl,_⟩:=fo f
 obtain⟨a8,bk,am,e1,C,aP⟩:=a5.get bM L 1 (by simp)
 cases e1
 replace C:Ex.Cs R y am:=C
 have aO:=C
 obtain⟨aI,aK,rfl,_⟩:=fo C
 have j:∀g,other (aB rs g) (.mk 5 o ne [x,y] E B) v=oper (aB rs g) (.mk 5 o ne [x,y] E B) v:=fun g=>rfl
 refine cG 43 rfl ?_
 refine dP (bR Q h b2 ag rfl ah I ao) I7 rfl rfl ?_ ?_
 rintro bq q a4 a6 _ _ ⟨rfl,r,J,a⟩
 rcases r with t|⟨ax,aH⟩
 cases a
 obtain⟨al,v,au,U,e,av⟩:=a
 cases e
 refine an 6 rfl ?_
 exact dm results126 (aT rfl) ⟨rfl,.ok (ax,aH),li j (J),al,_,au,U,rfl,av⟩
 rintro ch q S N _ _ ⟨rfl,r,A,a⟩
 rcases r with t|⟨Z,ai⟩
 cases a
 refine br 3 rfl ?_
 exact cL ⟨rfl,.error t,li j (A),rfl⟩
 obtain⟨_,_,_,_,e,_⟩:=a
 cases e
 have j:∀g,other (aB rs g) (.mk 5 o ne b E B) v=stop 3:=by
  intro g
  unfold other
  match b,D with
  |[],_=>simp[Ex.k,Ex.ys]
  |[_],_=>simp[Ex.k,Ex.ys]
  |_::_::_::_,_=>simp[Ex.k,Ex.ys]
 refine cG 37 rfl ?_
 cases P:(((b.length:Nat):Int)==2)
 refine aE 45 rfl (ww 2 ?_)
 rotate_left
 refine ww 3 ?_
 rotate_left
 by_cases aV:M=6
 subst aV
 by_cases D:b.length=3
 obtain⟨x,y,z,rfl⟩:∃x y z,b=[x,y,z]:=by
  match b,D with
  |[x,y,z],_=>exact⟨x,y,z,rfl⟩
 obtain⟨ak,aw,T,rfl,f,ab⟩:=a5.get bM L 0 (by simp)
 replace f:Ex.Cs R x T:=f
 have aa:=f
 obtain⟨V,Y,rfl,_⟩:=fo f
 obtain⟨a8,bk,am,e1,C,aP⟩:=a5.get bM L 1 (by simp)
 cases e1
 replace C:Ex.Cs R y am:=C
 have aO:=C
 obtain⟨aI,aK,rfl,_⟩:=fo C
 obtain⟨cm,cw,bI,e2,aC,ct⟩:=a5.get bM L 2 (by simp)
 cases e2
 replace aC:Ex.Cs R z bI:=aC
 have cr:=aC
 obtain⟨cj,co,rfl,_⟩:=fo aC
 have j:∀g,other (aB rs g) (.mk 6 o ne [x,y,z] E B) v=(later x v).bind fun i=>((aB rs g).force i).bind fun c=>(branch c).bind fun k=>(aB rs g).eval (if k=1 then y else z) v:=fun g=>rfl
 refine cG 52 rfl ?_
 refine dM mixed (fun k=>k==0) bH (fun _ _ h=>by cases h) fun aq=> ?_
 refine bm [0,1,2,3,4,5,6] rfl (by kernel_rfl) id (xt 7 rfl (a3 (i:=0) rfl rfl rfl (by simp) cZ) rfl (by kernel_rfl) id (xt 8 rfl (jY (cs:=[zI x.k,.string x.s,zI x.n,.slice V x.ys.length Y,zI x.l,zI x.c]) rfl cY ab) rfl (by kernel_rfl) id (bm [9,15] rfl (by kernel_rfl) id (bp [10] (by kernel_rfl) rfl ?_))))
 refine fY rfl (mF Q h aa (rO ag (by simp)) ah I) mG rfl rfl (fun _ _ h=>by cases h) ?_ ?_ ?_
 rintro bq q a4 a6 aG ar ⟨rfl,r,J,a⟩
 rcases r with t|⟨ax,aH⟩
 cases a
 obtain⟨al,v,au,U,e,av⟩:=a
 cases e
 subst av
 have u:=hV Q I (cR J)
 refine bp [11] (by kernel_rfl) rfl ?_
 refine fY rfl (bN u.1.wf au u.2 (dS u.1.le.ay ao)) l8 rfl rfl (fun _ _ h=>by cases h) ?_ ?_ ?_
 rintro cg q bw bC bi aY ⟨rfl,r,ac,a⟩
 rcases r with t|⟨bd,bn⟩
 cases a
 obtain⟨a9,v,aZ,az,e,a1⟩:=a
 cases e
 subst a1
 have O:=kU u.1.wf u.2 ac
 refine bp [12] (by kernel_rfl) rfl ?_
 refine fY rfl (IQ O.1.wf aZ O.2.1) I8 rfl rfl (fun _ _ h=>by cases h) ?_ ?_ ?_
 rintro ci q bx bD cd b7 ⟨rfl,r,af,a⟩
 rcases r with t|⟨F,bo⟩
 cases a
 obtain⟨ba,v,a0,aA,e,a2⟩:=a
 cases e
 subst a2
 have aD:=Bd O.1.wf O.2.1 (cR af)
 have aN:=Jb (cR af)
 have ap:F< [x,y,z].length:=by rcases aN with be|be<;>rw[be]<;>simp
 obtain⟨cn,ok,cq,bK,bg,b5⟩:=a5.get bM L F ap
 cases bK
 have b1:=bg
 obtain⟨bv,bG,rfl,_⟩:=fo bg
 refine xt 13 rfl (a3 (i:=F) rfl rfl rfl ap cZ) rfl (by kernel_rfl) id (xt 14 rfl (jY (cs:=[zI ([x,y,z][F].k),.string [x,y,z][F].s,zI ([x,y,z][F].n),.slice bv [x,y,z][F].ys.length bG,zI ([x,y,z][F].l),zI ([x,y,z][F].c)]) rfl cY b5) rfl (by kernel_rfl) id (bp [16] (by kernel_rfl) rfl ?_))
 refine fY rfl (aL aD.wf a0 (b1.sub ((aG.trans bi).trans cd)) (rO ag (fL ap)) ((ah.mono ((eC.trans ar aY).trans b7)).jN I (U.trans (az.trans aA O.1.le) u.1.le)) (I.le ((u.1.le.trans O.1.le).trans aD.le)) (dS ((u.1.le.trans O.1.le).trans aD.le).ay ao)) tW rfl rfl (fun _ _ h=>by cases h) ?_ ?_ ?_
 rintro cx q ck cl _ _ ⟨rfl,r,b9,a⟩
 rcases r with t|⟨bF,cf⟩
 cases a
 obtain⟨bE,v,ca,bU,e,ce⟩:=a
 cases e
 refine bm [17] rfl (by kernel_rfl) id (du (by kernel_rfl) (br 4 rfl ?_))
 exact dm results126 (aT rfl) ⟨rfl,.ok (bF,cf),li j (bB (b8 (cR J)) (bB ac (bB (b8 (cR af)) (by rw[←BZ ap aN];exact b9)))),bE,_,ca,((U.trans (az.trans aA O.1.le) u.1.le).trans bU ((u.1.le.trans O.1.le).trans aD.le)),rfl,ce⟩
 rintro ch q S N _ _ ⟨rfl,r,A,a⟩
 rcases r with t|⟨Z,ai⟩
 cases a
 refine br 3 rfl ?_
 exact cL ⟨rfl,.error t,li j (bB (b8 (cR J)) (bB ac (bB (b8 (cR af)) (by rw[←BZ ap aN];exact A)))),rfl⟩
 obtain⟨_,_,_,_,e,_⟩:=a
 cases e
 exact bt
 rintro ch q S N _ _ ⟨rfl,r,A,a⟩
 rcases r with t|⟨Z,ai⟩
 cases a
 refine br 3 rfl ?_
 exact cL ⟨rfl,.error t,li j (bB (b8 (cR J)) (bB ac (ej (b8 (cR A))))),rfl⟩
 obtain⟨_,_,_,_,e,_⟩:=a
 cases e
 exact bt
 rintro ch q S N _ _ ⟨rfl,r,A,a⟩
 rcases r with t|⟨Z,ai⟩
 cases a
 refine br 3 rfl ?_
 exact cL ⟨rfl,.error t,li j (bB (b8 (cR J)) (ej A)),rfl⟩
 obtain⟨_,_,_,_,e,_⟩:=a
 cases e
 exact bt
 refine ww 1 ?_
 rotate_left
 exact bt
 have j:∀g,other (aB rs g) (.mk 6 o ne b E B) v=stop 3:=by
  intro g
  unfold other
  match b,D with
  |[],_=>simp[Ex.k,Ex.ys]
  |[_],_=>simp[Ex.k,Ex.ys]
  |[_,_],_=>simp[Ex.k,Ex.ys]
  |_::_::_::_::_,_=>simp[Ex.k,Ex.ys]
 refine cG 50 rfl ?_
 cases P:(((b.length:Nat):Int)==3)
 refine aE 32 rfl (ww 2 ?_)
 rotate_left
 exact absurd (by have:=P;simp at this;omega:b.length=3) D
 by_cases aW:M=7
 subst aW
 by_cases D:b.length=2
 obtain⟨x,y,rfl⟩:∃x y,b=[x,y]:=by
  match b,D with
  |[x,y],_=>exact⟨x,y,rfl⟩
 obtain⟨ak,aw,T,rfl,f,ab⟩:=a5.get bM L 0 (by simp)
 replace f:Ex.Cs R x T:=f
 have aa:=f
 obtain⟨V,Y,rfl,_⟩:=fo f
 obtain⟨a8,bk,am,e1,C,aP⟩:=a5.get bM L 1 (by simp)
 cases e1
 replace C:Ex.Cs R y am:=C
 have aO:=C
 obtain⟨aI,aK,rfl,_⟩:=fo C
 have j:∀g,other (aB rs g) (.mk 7 o ne [x,y] E B) v=(later x v).bind fun i=>(aB rs g).eval y (v.up o i):=fun g=>rfl
 refine cG 65 rfl ?_
 refine dM mixed (fun k=>k==0) bH (fun _ _ h=>by cases h) fun aq=> ?_
 refine bm [0,1,2] rfl (by kernel_rfl) id (xt 3 rfl (a3 (i:=1) rfl rfl rfl (by simp) cZ) rfl (by kernel_rfl) id (xt 4 rfl (jY (cs:=[zI y.k,.string y.s,zI y.n,.slice aI y.ys.length aK,zI y.l,zI y.c]) rfl cY aP) rfl (by kernel_rfl) id (bm [5,6,7,8,9] rfl (by kernel_rfl) id (xt 10 rfl (a3 (i:=0) rfl rfl rfl (by simp) cZ) rfl (by kernel_rfl) id (xt 11 rfl (jY (cs:=[zI x.k,.string x.s,zI x.n,.slice V x.ys.length Y,zI x.l,zI x.c]) rfl cY ab) rfl (by kernel_rfl) id (bm [12] rfl (by kernel_rfl) id (bp [13] (by kernel_rfl) rfl ?_)))))))
 refine fY rfl (mF Q h aa (rO ag (by simp)) ah I) mG rfl rfl (fun _ _ h=>by cases h) ?_ ?_ ?_
 rintro bq q a4 a6 aG ar ⟨rfl,r,J,a⟩
 rcases r with t|⟨ax,aH⟩
 cases a
 obtain⟨al,v,au,U,e,av⟩:=a
 cases e
 subst av
 have u:=hV Q I (cR J)
 refine bp [14] (by kernel_rfl) rfl ?_
 refine fY rfl (BO (bl:=al) ((ah.mono ar).jN I U) o ax) BL rfl rfl (fun _ _ h=>by cases h) ?_ ?_ ?_
 rintro cC q bA a7 bi aY ⟨rfl,rfl,bQ,-,cA,e,b4⟩
 cases e
 have cc:dq d wb rs al aH bA a7:=by
  have:=au.mono (K':=a7.K) sR aY
  rw[←bQ] at this
  exact this
 refine bp [15] (by kernel_rfl) rfl ?_
 refine fY rfl (aL u.1.wf cc (aO.sub aG) (rO ag (by simp)) b4 ((I.le u.1.le).up u.2) (Nat.le_trans u.1.le.ay ao)) tW rfl rfl (fun _ _ h=>by cases h) ?_ ?_ ?_
 rintro ci q bx bD _ _ ⟨rfl,r,af,a⟩
 rcases r with t|⟨F,bo⟩
 cases a
 obtain⟨ba,v,a0,aA,e,a2⟩:=a
 cases e
 refine bm [16] rfl (by kernel_rfl) id (du (by kernel_rfl) (br 4 rfl ?_))
 exact dm results126 (aT rfl) ⟨rfl,.ok (F,bo),li j (bB (b8 (cR J)) af),ba,_,a0,(U.trans aA u.1.le),rfl,a2⟩
 rintro ch q S N _ _ ⟨rfl,r,A,a⟩
 rcases r with t|⟨Z,ai⟩
 cases a
 refine br 3 rfl ?_
 exact cL ⟨rfl,.error t,li j (bB (b8 (cR J)) A),rfl⟩
 obtain⟨_,_,_,_,e,_⟩:=a
 cases e
 exact bt
 rintro ch q R' X' _ _ ⟨_,_,_,_,_,e,_⟩
 cases e
 exact bt
 refine ww 1 ?_
 rotate_left
 exact bt
 have j:∀g,other (aB rs g) (.mk 7 o ne b E B) v=stop 3:=by
  intro g
  unfold other
  match b,D with
  |[],_=>simp[Ex.k,Ex.ys]
  |[_],_=>simp[Ex.k,Ex.ys]
  |_::_::_::_,_=>simp[Ex.k,Ex.ys]
 refine cG 63 rfl ?_
 cases P:(((b.length:Nat):Int)==2)
 refine aE 19 rfl (ww 2 ?_)
 rotate_left
 refine ww 3 ?_
 rotate_left
 by_cases aX:M=8
 subst aX
 by_cases D:b.length=1
 obtain⟨x,rfl⟩:∃x,b=[x]:=by
  match b,D with
  |[x],_=>exact⟨x,rfl⟩
 obtain⟨ak,aw,T,rfl,f,ab⟩:=a5.get bM L 0 (by simp)
 replace f:Ex.Cs R x T:=f
 have aa:=f
 obtain⟨V,Y,rfl,_,cv⟩:=fo f
 have j:∀g,other (aB rs g) (.mk 8 o ne [x] E B) v=(new .unknown).bind fun i=>(aB rs g).eval x (v.up o i):=fun g=>rfl
 refine cG 78 rfl ?_
 refine dM mixed (fun k=>k==0) bH (fun _ _ h=>by cases h) fun aq=> ?_
 refine bm [0,1,2] rfl (by kernel_rfl) id (xt 3 rfl (a3 (i:=0) rfl rfl rfl (by simp) cZ) rfl (by kernel_rfl) id (xt 4 rfl (jY (cs:=[zI x.k,.string x.s,zI x.n,.slice V x.ys.length Y,zI x.l,zI x.c]) rfl cY ab) rfl (by kernel_rfl) id (bm [5,6,7] rfl (by kernel_rfl) id (xt 8 rfl (bJ (vs:=[(0,zI 2)]) (v:= .agg #[zI 2,zI 0,.string ⟨#[]⟩,zI 0,zS,zI 0,zI 0,.map none,.pointer none,zI 0,.string ⟨#[]⟩,zS]) rfl (fun W=>by kernel_rfl)) rfl (by kernel_rfl) id (bp [9] (by kernel_rfl) rfl ?_)))))
 refine A5 1 [(31,[zI 8,.string o,zI ne,.slice (some ⟨ak,aw,none⟩) 1 aJ,zI E,zI B]),(204,[zI 2,zI 0,.string ⟨#[]⟩,zI 0,zS,zI 0,zI 0,.map none,.pointer none,zI 0,.string ⟨#[]⟩,zS])] rfl rfl rfl rfl rfl rfl rfl ?_ bt
 refine I9 (bs:=[(31,[zI 8,.string o,zI ne,.slice (some ⟨ak,aw,none⟩) 1 aJ,zI E,zI B])]) rfl rfl rfl ?_
 rintro bc N -aM rfl
 obtain⟨bb,bT,bf,bW⟩:=h.new Q aM (p:= .unknown) trivial (c:=⟨zI 2,zI 0,.string ⟨#[]⟩,zI 0,zS,zI 0,zI 0,.map none,.pointer none,zI 0,.string ⟨#[]⟩,zS⟩) rfl
 obtain⟨aF,b6,-⟩:=kg (c:= .unknown) Q trivial (rfl:new .unknown st=some (.ok (_,_)))
 refine bp [10] (by kernel_rfl) rfl ?_
 have bj:=BO (R:=R) (X:=⟨X.K,aQ X.H bc (mE ⟨zI 2,zI 0,.string ⟨#[]⟩,zI 0,zS,zI 0,zI 0,.map none,.pointer none,zI 0,.string ⟨#[]⟩,zS⟩)⟩) (bl:=bb) (ah.jN I bf) o st.len
 rw[bW] at bj
 refine fY rfl bj BL rfl rfl (fun _ _ h=>by cases h) ?_ ?_ ?_
 rintro cB q bz aj aG ar ⟨rfl,rfl,bO,-,cz,e,b3⟩
 cases e
 have cb:dq d wb rs bb {st with cells:=st.cells++ [.unknown]} bz aj:=by
  have:=bT.mono (K':=aj.K) sR ar
  rw[show aj=⟨aj.K,aj.H⟩ from rfl,bO]
  exact this
 refine bp [11] (by kernel_rfl) rfl ?_
 refine fY rfl (aL aF.wf cb aa (rO ag (by simp)) b3 ((I.le aF.le).up b6) (Nat.le_trans aF.le.ay ao)) tW rfl rfl (fun _ _ h=>by cases h) ?_ ?_ ?_
 rintro cg q bw bC _ _ ⟨rfl,r,ac,a⟩
 rcases r with t|⟨bd,bn⟩
 cases a
 obtain⟨a9,v,aZ,az,e,a1⟩:=a
 cases e
 refine bm [12] rfl (by kernel_rfl) id (du (by kernel_rfl) (br 4 rfl ?_))
 exact dm results126 (aT rfl) ⟨rfl,.ok (bd,bn),li j (bB (b8 (m:=new .unknown) rfl) ac),a9,_,aZ,(bf.trans az aF.le),rfl,a1⟩
 rintro ch q S N _ _ ⟨rfl,r,A,a⟩
 rcases r with t|⟨Z,ai⟩
 cases a
 refine br 3 rfl ?_
 exact cL ⟨rfl,.error t,li j (bB (b8 (m:=new .unknown) rfl) A),rfl⟩
 obtain⟨_,_,_,_,e,_⟩:=a
 cases e
 exact bt
 rintro ch q R' X' _ _ ⟨_,_,_,_,_,e,_⟩
 cases e
 exact bt
 have j:∀g,other (aB rs g) (.mk 8 o ne b E B) v=stop 3:=by
  intro g
  unfold other
  match b,D with
  |[],_=>simp[Ex.k,Ex.ys]
  |_::_::_,_=>simp[Ex.k,Ex.ys]
 refine cG 76 rfl ?_
 cases P:(((b.length:Nat):Int)==1)
 refine aE 6 rfl (ww 2 ?_)
 rotate_left
 exact absurd (by have:=P;simp at this;omega:b.length=1) D
 have j:∀g,other (aB rs g) (.mk M o ne b E B) v=stop 3:=by
  intro g
  unfold other
  simp[Ex.k,aS,aU,aV,aW,aX]
 refine cG 24 rfl ?_
 cases P:(M==3)
 refine aE 7 rfl ?_
 cases bX:(M==5)
 refine an 13 rfl ?_
 cases bY:(M==6)
 refine an 13 rfl ?_
 cases bZ:(M==7)
 refine an 13 rfl ?_
 cases b0:(M==8)
 refine an 12 rfl (ww 2 ?_)
 rotate_left
 exact absurd (by simpa using b0) aX
 exact absurd (by simpa using bZ) aW
 exact absurd (by simpa using bY) aV
 exact absurd (by simpa using bX) aU
 exact absurd (by simpa using P) aS
 any_goals
  refine uw 1 ?_
  rintro ch q S N _ _ ⟨rfl,r,A,a⟩
  rcases r with t|⟨Z,ai⟩
  cases a
  refine br 3 rfl ?_
  exact(mH (cR A)).elim
  obtain⟨_,_,_,_,e,_⟩:=a
  cases e
 any_goals
  refine uw 2 ?_
  refine eS (eV 3) eU rfl rfl (fun S N=> ?_)
  refine br 1 rfl ?_
  exact cL ⟨rfl,.error (3,0),li j (b8 rfl),rfl⟩
 any_goals
  refine uw 3 ?_
  exact absurd (by have:=P;simp at this;omega:b.length=2) D
theorem w3:aF 123:=by unfold aF;kernel_rfl
theorem Jd:aF 124:=by unfold aF;kernel_rfl
theorem Je:aF 126:=by unfold aF;kernel_rfl
def lj (f:cT) (e:Ex) (v:Env):M Nat:=
 if(bV e).k=2 then(fz v (cA e)).bind fun l=>new (.cw (bV e).s l)
 else if(bV e).k=1 then(fz v (cA e)).bind fun l=>name f (bV e).s v l
 else match cA e with
  |[]=>other f e v
  |x::r=>(later (bV e) v).bind fun i=>(f.force i).bind fun c=>(fz v (x::r)).bind fun l=>apply f c l
theorem Jf(h:ap.ay=0):aG (fun g=>(aB aD g).eval aM b3) ap (.error (5,0)):=aG.step (ej (b8 (by unfold tick;rw[if_pos h])))
theorem nu(a:aG (fun g=>lj (aB aD g) aM b3) ⟨ue,ae,cC⟩ gh):aG (fun g=>(aB aD g).eval aM b3) ⟨ue,ae+1,cC⟩ gh:=
 aG.step (bB (m:=fun _=>tick) (b8 (by unfold tick;rw[if_neg (by simp)];rfl)) a)
theorem nv(h:∀g,lj (aB aD g) aM b3=rN g)(a:aG rN ap gh):aG (fun g=>lj (aB aD g) aM b3) ap gh:=by
 have:(fun g=>lj (aB aD g) aM b3)=rN:=funext h
 rw[this]
 exact a
theorem Jg(h:(bV aM).k=2):lj cI aM b3=(fz b3 (cA aM)).bind fun l=>new (.cw (bV aM).s l):=if_pos h
theorem B0(h:(bV aM).k=1):lj cI aM b3=(fz b3 (cA aM)).bind fun l=>name cI (bV aM).s b3 l:=by
 unfold lj
 rw[if_neg (by omega),if_pos h]
theorem w4(b:(bV aM).k≠2)(a:(bV aM).k≠1)(d:cA aM≠ []):lj cI aM b3=(later (bV aM) b3).bind fun i=>(cI.force i).bind fun c=>(fz b3 (cA aM)).bind fun l=>apply cI c l:=by
 unfold lj
 rw[if_neg b,if_neg a]
 cases hh:cA aM with
 |nil=>exact absurd hh d
 |cons x r=>rfl
theorem B1(b:(bV aM).k≠2)(a:(bV aM).k≠1)(c:cA aM=[]):lj cI aM b3=other cI aM b3:=by
 unfold lj
 rw[if_neg b,if_neg a,c]
theorem Jh(e:Ex):(bV e).size≤e.size:=by
 cases e with
 |mk k s n ys l c=>
  cases ys with
  |nil=>exact a9 _
  |cons h r=>
   show (if k=4 then h else _).size≤_
   split
   ·rw[Ex.size,aO];omega
   ·exact a9 _
theorem Ji{e x:Ex}(h:x∈cA e):x.size≤e.size:=by
 cases e with
 |mk k s n ys l c=>
  cases ys with
  |nil=>cases h
  |cons a r=>
   have b:x∈(if k=4 then r else []):=h
   split at b
   ·have:=rH b
    rw[Ex.size,aO]
    omega
   ·cases b
theorem Jj(e:Ex):(cA e).length≤e.size:=by
 cases e with
 |mk k s n ys l c=>
  cases ys with
  |nil=>exact b2 _
  |cons a r=>
   show (if k=4 then r else []).length≤_
   split
   ·have:=wW r
    rw[Ex.size,aO]
    omega
   ·exact b2 _
theorem Jk{d wb:Nat}(a3:∀i,i<ae→wL d wb aD i)(a2:∀i,i<ae→l5 d wb aD i)(a1:∀i k,i<ae→pX d wb aD i k)(a4:∀i,i<ae→wM d wb aD i):rI d wb aD ae:=by
 intro bl st R X cB e b7 v aP h aI T bR bj av
 have aJ:=aI
 obtain⟨al,ap,rfl,_⟩:=fo aI
 obtain⟨L,pv,O,bi,aM⟩:=h.world
 obtain⟨V,au,ak⟩:=st
 replace av:au≤ae:=av
 simp only at O aM
 refine eh func117 rfl ntmps117 rfl fun w G ad=> ?_
 cases au with
 |zero=>
  refine cG 12 rfl (bz (bw (cs:=[L,pv,zI 0]) rfl (.inr (O)) bG rfl) rfl (an 5 rfl ?_))
  refine eS (eV 5) eU rfl rfl (fun C u=> ?_)
  refine br 1 rfl ?_
  exact cL ⟨rfl,.error (5,0),Jf rfl,rfl⟩
 |succ f=>
  have Q:f<ae:=by omega
  have cD:f+1≤65536:=h.ay
  have A:WF aD d ⟨V,f,ak⟩:=⟨aP.le,aP.ok⟩
  have g:ed d ⟨V,f,ak⟩ v:=bj
  have ah:∀x∈cA e,x.size≤100000:=fun x b1=>dS (Ji b1) T
  have aL:(cA e).length≤100000:=dS (Jj e) T
  have bQ:(bV e).size≤100000:=dS (Jh e) T
  refine cG 12 rfl (bz (bw (cs:=[L,pv,zI ((f+1:Nat):Int)]) rfl (.inr (O)) bG rfl) rfl (an 3 rfl ?_))
  cases be:(((f+1:Nat):Int)==0)
  refine aE 8 rfl (bz (bw (cs:=[L,pv,zI ((f+1:Nat):Int)]) rfl (.inr (O)) bG rfl) rfl (xp (h0 (c:=((f+1 -1:Nat):Int)) rfl rfl (by omega) (by omega) (by omega)) rfl (an 2 rfl ?_)))
  refine ke (cs:=[L,pv,zI ((f+1:Nat):Int)]) [L,pv,zI ((f+1 -1:Nat):Int)] rfl rfl O bG rfl rfl rfl rfl ?_
  intro ao aw cC
  have H:dq d wb aD bl ⟨V,f,ak⟩ R ao:=by
   subst aw
   exact h.ko (dS (Nat.le_succ f) h.ay) bi aM
  have I:ia ao.K bl b7 v:=by
   subst aw
   exact bR
  refine an 5 rfl ?_
  refine kQ (BK aJ) BH rfl rfl ?_
  rintro _ ci aO ⟨ch,cU,rfl,aH,aC⟩
  replace H:=H.mono aO (eC.refl _)
  have bg:=aH
  obtain⟨am,ar,rfl,_⟩:=fo aH
  have Y:=aC
  obtain⟨b9,cz,rfl,_⟩:=aC
  have bh:=aJ.sub aO
  refine an 18 rfl ?_
  cases aF:(((bV e).k)==2)
  have N:(bV e).k≠2:=by simpa using aF
  refine aE 9 rfl ?_
  cases aG:(((bV e).k)==1)
  have M:(bV e).k≠1:=by simpa using aG
  refine aE 9 rfl ?_
  cases Z:(decide ((((cA e).length:Nat):Int)>0))
  have bH:cA e=[]:=mR (by have:=of_decide_eq_false Z;omega)
  refine aE 9 rfl ?_
  refine dP (a4 f Q A H bh T I g (a9 _)) Je rfl rfl ?_ ?_
  rintro cO b cd cm _ _ ⟨rfl,r,bv,a⟩
  rcases r with t|⟨aY,b5⟩
  cases a
  obtain⟨aV,v,bE,a8,e,bW⟩:=a
  cases e
  refine an 4 rfl ?_
  exact dm results117 (aT rfl) ⟨rfl,.ok (aY,b5),nu (nv (fun _=>B1 N M bH) (bv)),aV,_,bE,a8,rfl,bW⟩
  rintro ch b C u _ _ ⟨rfl,r,m,a⟩
  rcases r with t|⟨J,P⟩
  cases a
  refine br 1 rfl ?_
  exact cL ⟨rfl,.error t,nu (nv (fun _=>B1 N M bH) (m)),rfl⟩
  obtain⟨_,_,_,_,e,_⟩:=a
  cases e
  have ab:cA e≠ []:=fun q=>by rw[q] at Z;simp at Z
  refine aE 7 rfl ?_
  refine dP (mF A H bg bQ I g) mG rfl rfl ?_ ?_
  rintro cT b cg cq bO bq ⟨rfl,r,S,a⟩
  rcases r with t|⟨cy,cJ⟩
  cases a
  obtain⟨ct,v,bL,aB,e,bZ⟩:=a
  cases e
  subst bZ
  have j:=hV A g (cR S)
  refine dP (a2 f Q j.1.wf bL j.2 j.1.le.ay) l8 rfl rfl ?_ ?_
  rintro cK b ca cj bN bn ⟨rfl,r,ac,a⟩
  rcases r with t|⟨U,cE⟩
  cases a
  obtain⟨aR,v,bA,ax,e,bS⟩:=a
  cases e
  subst bS
  have o:=kU j.1.wf j.2 ac
  refine an 2 rfl ?_
  refine dP (wK o.1.wf bA (a6.sub bM Y (ai bO bN)) ah ((I.mono (eC.trans bq bn)).jN g (aB.trans ax j.1.le)) (g.le (j.1.le.trans o.1.le))) w3 rfl rfl ?_ ?_
  rintro cM b cb ck _ _ ⟨rfl,r,af,a⟩
  rcases r with t|⟨cv,cF⟩
  cases a
  obtain⟨aS,v,bC,az,e,bT⟩:=a
  cases e
  have z:=l2 o.1.wf (g.le (j.1.le.trans o.1.le)) (cR af)
  have bf:aS U=aR U:=az U o.2.1
  rw[←bf]
  refine dP (a1 f _ Q z.1.wf bC (o.2.1.le z.1.le) ((z.1.le.cell _ o.2.1.2).fg o.2.2) bT z.2.1 (by rw[z.2.2];exact aL) (Nat.le_refl _) (Nat.le_trans z.1.le.ay (Nat.le_trans o.1.le.ay j.1.le.ay))) wV rfl rfl ?_ ?_
  rintro cN b cc cl _ _ ⟨rfl,r,bu,a⟩
  rcases r with t|⟨aX,b4⟩
  cases a
  obtain⟨aU,v,bD,a7,e,bU⟩:=a
  cases e
  refine an 6 rfl ?_
  exact dm results117 (aT rfl) ⟨rfl,.ok (aX,b4),nu (nv (fun _=>w4 N M ab) (bB (b8 (cR S)) (bB ac (bB (b8 (cR af)) bu)))),aU,_,bD,((aB.trans ax j.1.le).trans (az.trans a7 z.1.le) (j.1.le.trans o.1.le)),rfl,bU⟩
  rintro ch b C u _ _ ⟨rfl,r,m,a⟩
  rcases r with t|⟨J,P⟩
  cases a
  refine br 3 rfl ?_
  exact cL ⟨rfl,.error t,nu (nv (fun _=>w4 N M ab) (bB (b8 (cR S)) (bB ac (bB (b8 (cR af)) m)))),rfl⟩
  obtain⟨_,_,_,_,e,_⟩:=a
  cases e
  refine ww 1 ?_
  rotate_left
  rintro ch b C u _ _ ⟨rfl,r,m,a⟩
  rcases r with t|⟨J,P⟩
  cases a
  refine br 3 rfl ?_
  exact cL ⟨rfl,.error t,nu (nv (fun _=>w4 N M ab) (bB (b8 (cR S)) (ej m))),rfl⟩
  obtain⟨_,_,_,_,e,_⟩:=a
  cases e
  rintro ch b C u _ _ ⟨rfl,r,m,a⟩
  rcases r with t|⟨J,P⟩
  cases a
  refine br 3 rfl ?_
  exact(mH (cR m)).elim
  obtain⟨_,_,_,_,e,_⟩:=a
  cases e
  have aK:(bV e).k=1:=by simpa using aG
  refine aE 2 rfl ?_
  refine dM mixed (fun k=>k==1) bH (fun _ _ h=>by cases h) fun aq=> ?_
  refine bm [0,1,2,3,4,5] rfl (by kernel_rfl) id (bp [6] (by kernel_rfl) rfl ?_)
  refine fY rfl (wK A H Y ah I g) w3 rfl rfl (fun _ _ h=>by cases h) ?_ ?_ ?_
  rintro cQ b ce co _ bo ⟨rfl,r,ag,a⟩
  rcases r with t|⟨cx,cI⟩
  cases a
  obtain⟨cr,v,bI,aA,e,bX⟩:=a
  cases e
  have F:=l2 A g (cR ag)
  refine bp [7] (by kernel_rfl) rfl ?_
  refine fY rfl (a3 f Q F.1.wf bI ((I.mono bo).jN g aA) (g.le F.1.le) bX F.2.1 (by rw[F.2.2];exact aL) F.1.le.ay) Jd rfl rfl (fun _ _ h=>by cases h) ?_ ?_ ?_
  rintro cS b cf cp _ _ ⟨rfl,r,bx,a⟩
  rcases r with t|⟨aZ,b6⟩
  cases a
  obtain⟨aW,v,bK,bb,e,bY⟩:=a
  cases e
  refine bm [8] rfl (by kernel_rfl) id (du (by kernel_rfl) (br 4 rfl ?_))
  exact dm results117 (aT rfl) ⟨rfl,.ok (aZ,b6),nu (nv (fun _=>B0 aK) (bB (b8 (cR ag)) bx)),aW,_,bK,(aA.trans bb F.1.le),rfl,bY⟩
  rintro ch b C u _ _ ⟨rfl,r,m,a⟩
  rcases r with t|⟨J,P⟩
  cases a
  refine br 3 rfl ?_
  exact cL ⟨rfl,.error t,nu (nv (fun _=>B0 aK) (bB (b8 (cR ag)) m)),rfl⟩
  obtain⟨_,_,_,_,e,_⟩:=a
  cases e
  exact bt
  refine ww 1 ?_
  rotate_left
  exact bt
  have bk:(bV e).k=2:=by simpa using aF
  refine aE 2 rfl ?_
  refine dM mixed (fun k=>k==1) bH (fun _ _ h=>by cases h) fun aq=> ?_
  refine bm [0,1,2,3] rfl (by kernel_rfl) id (bp [4] (by kernel_rfl) rfl ?_)
  refine fY rfl (wK A H Y ah I g) w3 rfl rfl (fun _ _ h=>by cases h) ?_ ?_ ?_
  rintro cP b aQ cn _ _ ⟨rfl,r,aN,a⟩
  rcases r with t|⟨y,cH⟩
  cases a
  obtain⟨D,v,bF,ba,e,aj⟩:=a
  cases e
  have aa:=l2 A g (cR aN)
  obtain⟨B,E,b0,b2,b3⟩:=aj
  subst b0
  have aj:a6 fE 1 aQ (.slice B (y.map D).length E) (y.map D):=⟨B,E,rfl,b2,b3⟩
  refine xt 5 rfl (bJ (vs:=[(0,zI 4),(5,.string (bV e).s),(6,.slice B (y.map D).length E)]) (v:= .agg #[zI 4,zI 0,.string ⟨#[]⟩,zI 0,zS,zI 0,zI 0,.map none,.pointer none,zI 0,.string (bV e).s,.slice B (y.map D).length E]) rfl (fun W=>by kernel_rfl)) rfl (by kernel_rfl) id (bp [6] (by kernel_rfl) rfl ?_)
  refine A5 2 [(31,[zI e.k,.string e.s,zI e.n,.slice al e.ys.length ap,zI e.l,zI e.c]),(31,[zI ((bV e).k),.string (bV e).s,zI ((bV e).n),.slice am (bV e).ys.length ar,zI ((bV e).l),zI ((bV e).c)]),(204,[zI 4,zI 0,.string ⟨#[]⟩,zI 0,zS,zI 0,zI 0,.map none,.pointer none,zI 0,.string (bV e).s,.slice B (y.map D).length E])] rfl rfl rfl rfl rfl rfl rfl ?_ bt
  refine bm [7] rfl (by kernel_rfl) id (du (by kernel_rfl) (br 4 rfl ?_))
  refine nr (bs:=[(31,[zI e.k,.string e.s,zI e.n,.slice al e.ys.length ap,zI e.l,zI e.c]),(31,[zI ((bV e).k),.string (bV e).s,zI ((bV e).n),.slice am (bV e).ys.length ar,zI ((bV e).l),zI ((bV e).c)])]) rfl rfl ?_
  rintro cu u -bd rfl
  obtain⟨ef,a5,a0,bc⟩:=bF.new aa.1.wf bd (p:= .cw (bV e).s y) aa.2.1 (c:=⟨zI 4,zI 0,.string ⟨#[]⟩,zI 0,zS,zI 0,zI 0,.map none,.pointer none,zI 0,.string (bV e).s,.slice B (y.map D).length E⟩) ⟨rfl,rfl,aj⟩
  exact dm results117 (aT rfl) ⟨rfl,.ok (_,_),nu (nv (fun _=>Jg bk) (bB (b8 (cR aN)) (b8 rfl))),ef,_,a5,(ba.trans a0 aa.1.le),rfl,(congrArg bP bc).symm⟩
  refine ww 1 ?_
  rotate_left
  exact bt
  exact absurd be (by simp;omega)
  any_goals
   refine uw 1 ?_
   rintro ch b C u _ _ ⟨rfl,r,m,a⟩
   rcases r with t|⟨J,P⟩
   cases a
   refine br 3 rfl ?_
   exact(Bm (cR m)).elim
   obtain⟨_,_,_,_,e,_⟩:=a
   cases e
theorem w5:aF 142:=by unfold aF;kernel_rfl
def lm (f:cT) (p:Ex) (c:Nat) (v:Env):M Env:=
 if p.k=3 then(cell c).bind fun
  | .unknown=>stop 3
  | .num n=>if n=p.n then M.ret v else stop 2
  |_=>stop 2
 else(cell c).bind fun
  | .unknown=>(news (cA p).length).bind fun l=>(put c (.cw (bV p).s l)).bind fun _=>dB f (cA p) l v
  | .cw s l=>if s=(bV p).s∧l.length=(cA p).length then dB f (cA p) l v else stop 2
  |_=>stop 2
section
variable{rs:cU}{p:Ex}{c c1:Nat}{v:Env}{st b6:PS}
theorem w6{m:Nat→M Env}(h:∀g,h9 (aB rs g) p c v=m g)(a:aG m st jP):aG (fun g=>(aB rs g).fU p c v) st jP:=by
 refine aG.step (m:=fun g=>(aB rs g).fU p c v) ?_
 have:(fun g=>(aB rs (g+1)).fU p c v)=m:=funext h
 rw[this]
 exact a
theorem Jl(h:p.k=1):aG (fun g=>(aB rs g).fU p c v) st (.ok (v.up p.s c,st)):=w6 (m:=fun _=>M.ret (v.up p.s c)) (fun g=>if_pos h) fD
theorem Jm(a:p.k≠1)(b:p.k=9):aG (fun g=>(aB rs g).fU p c v) st (.ok (v,st)):=w6 (m:=fun _=>M.ret v) (fun g=>by unfold h9;rw[if_neg a,if_pos b]) aG.ret
theorem jt(a:p.k≠1)(b:p.k≠9)(d:aG (fun g=>((aB rs g).force c).bind fun c=>lm (aB rs g) p c v) st jP):aG (fun g=>(aB rs g).fU p c v) st jP:=w6 (fun g=>by
 unfold h9
 rw[if_neg a,if_neg b]
 rfl) d
theorem oG(h:∀g,lm (aB rs g) p c v=(cell c).bind (B2 g))(a:aG (fun g=>B2 g (st.at c)) st jP):aG (fun g=>lm (aB rs g) p c v) st jP:=by
 have:(fun g=>lm (aB rs g) p c v)=fun g=>(cell c).bind (B2 g):=funext h
 rw[this]
 exact gG a
theorem Jn(h3:p.k=3)(a:st.at c= .unknown):aG (fun g=>lm (aB rs g) p c v) st (.error (3,0)):=oG (fun g=>if_pos h3) (by rw[a];exact b8 rfl)
theorem B3(h3:p.k=3){n:Int}(a:st.at c= .num n)(b:(if n=p.n then M.ret v else stop 2:M Env) st=some jP):aG (fun g=>lm (aB rs g) p c v) st jP:=oG (fun g=>if_pos h3) (by rw[a];exact b8 b)
theorem uf(h3:p.k=3)(hu:st.at c≠ .unknown)(a:∀n,st.at c≠ .num n):aG (fun g=>lm (aB rs g) p c v) st (.error (2,0)):=oG (fun g=>if_pos h3) (by
 cases e:st.at c with
 |unknown=>exact absurd e hu
 |num n=>exact absurd e (a n)
 |_=>exact b8 rfl)
theorem Jo(h3:p.k≠3)(a:st.at c= .unknown)(b:news (cA p).length st=some (.ok (aI,b6)))(d:aG (fun g=>dB (aB rs g) (cA p) aI v) {b6 with cells:=b6.cells.set c (.cw (bV p).s aI)} jP):aG (fun g=>lm (aB rs g) p c v) st jP:=oG (fun g=>if_neg h3) (by
 rw[a]
 exact bB (b8 b) (bB (m:=fun _=>put c (.cw (bV p).s aI)) (b8 rfl) d))
theorem Jp(h3:p.k≠3)(a:st.at c= .cw aY aI)(e:aY=(bV p).s)(b:aI.length=(cA p).length)(d:aG (fun g=>dB (aB rs g) (cA p) aI v) st jP):aG (fun g=>lm (aB rs g) p c v) st jP:=oG (fun g=>if_neg h3) (by
 rw[a]
 have:(fun g=>(if aY=(bV p).s∧aI.length=(cA p).length then dB (aB rs g) (cA p) aI v else stop 2:M Env))=fun g=>dB (aB rs g) (cA p) aI v:=funext fun g=>if_pos ⟨e,b⟩
 show aG (fun g=>(if aY=(bV p).s∧aI.length=(cA p).length then dB (aB rs g) (cA p) aI v else stop 2:M Env)) st jP
 rw[this]
 exact d)
theorem Jq(h3:p.k≠3)(b:st.at c= .cw aY aI)(a:¬(aY=(bV p).s∧aI.length=(cA p).length)):aG (fun g=>lm (aB rs g) p c v) st (.error (2,0)):=oG (fun g=>if_neg h3) (by
 rw[b]
 have:(fun g=>(if aY=(bV p).s∧aI.length=(cA p).length then dB (aB rs g) (cA p) aI v else stop 2:M Env))=fun _=>stop 2:=funext fun g=>if_neg a
 show aG (fun g=>(if aY=(bV p).s∧aI.length=(cA p).length then dB (aB rs g) (cA p) aI v else stop 2:M Env)) st _
 rw[this]
 exact b8 rfl)
theorem ug(h3:p.k≠3)(hu:st.at c≠ .unknown)(a:∀s l,st.at c≠ .cw s l):aG (fun g=>lm (aB rs g) p c v) st (.error (2,0)):=oG (fun g=>if_neg h3) (by
 cases e:st.at c with
 |unknown=>exact absurd e hu
 |cw s l=>exact absurd e (a s l)
 |_=>exact b8 rfl)
theorem p1{i:Nat}(b:i<cv.length)(a:i<aI.length)(c:aG (fun g=>((aB rs g).fU cv[i] aI[i] v).bind fun v=>dB (aB rs g) (cv.drop (i+1)) (aI.drop (i+1)) v) st jP):aG (fun g=>dB (aB rs g) (cv.drop i) (aI.drop i) v) st jP:=by
 have:(fun g=>dB (aB rs g) (cv.drop i) (aI.drop i) v)=fun g=>((aB rs g).fU cv[i] aI[i] v).bind fun v=>dB (aB rs g) (cv.drop (i+1)) (aI.drop (i+1)) v:=by
  funext g
  rw[List.drop_eq_getElem_cons b,List.drop_eq_getElem_cons a,dB]
 rw[this]
 exact c
theorem rP(h:cv=[]∨aI=[]):aG (fun g=>dB (aB rs g) cv aI v) st (.ok (v,st)):=by
 have:(fun g=>dB (aB rs g) cv aI v)=fun _=>M.ret v:=by
  funext g
  rcases h with rfl|rfl
  ·unfold dB;rfl
  ·cases cv<;>(unfold dB;rfl)
 rw[this]
 exact fD
end
theorem p2{e x:Ex}(h:x∈cA e):x.size<e.size:=by
 cases e with
 |mk k s n ys l c=>
  cases ys with
  |nil=>cases h
  |cons a r=>
   have b:x∈(if k=4 then r else []):=h
   split at b
   ·have:=rH b
    rw[Ex.size,aO]
    omega
   ·cases b
theorem B4:∀{i:Nat} {st b:PS} {ids:List Nat},news i st=some (.ok (ids,b))→news (i+1) st=some (.ok (ids++ [b.len],{b with cells:=b.cells++ [.unknown]}))
 |0,st,b,ids,h=>by cases h;rfl
 |i+1,st,b,ids,h=>by
  replace h:=cp h
  obtain⟨a,b6,c,h⟩:=h
  replace h:=cp h
  obtain⟨l,dD,d,h⟩:=h
  obtain⟨rfl,rfl⟩:=dG h
  have h3:=B4 d
  cases c
  show (new .unknown).bind _ st=_
  simp only[M.bind,new,h3]
  rfl
theorem Jr{c:Nat}{m x:PC}(a:c<ap.len):({ap with cells:=ap.cells++ [x]}:PS).cells.set c m=ap.cells.set c m++ [x]:=List.set_append_left c m a
theorem p3(h:b1 ae=none):dH b1 (hT ae fH)=aQ b1 ae fH:=by
 funext c
 unfold dH hT aQ bH
 by_cases e:c=ae
 ·subst e;rw[h]
 ·rw[if_neg e,if_neg e]
  cases b1 c<;>rfl
theorem w7(h:b1 ae=none):∀c,b1 c≠none→hT ae fH c=none:=fun c a=>if_neg (fun e=>a (by rw[e];exact h))
theorem w8(h:∀c,b1 c≠none→hT ae fH c=none):b1 ae=none:=by
 cases e:b1 ae with
 |none=>rfl
 |some x=>
  have:=h ae (by rw[e];simp)
  rw[show hT ae fH ae=some fH from if_pos rfl] at this
  cases this
theorem oH{o p:Obj}(h:ae≠ao):aQ (aQ b1 ae o) ao p=aQ (aQ b1 ao p) ae o:=by
 funext c
 unfold aQ
 by_cases e:c=ao
 ·subst e;rw[if_pos rfl,if_neg (fun q=>h q.symm),if_pos rfl]
 ·rw[if_neg e]
  by_cases e2:c=ae
  ·rw[if_pos e2,if_pos e2]
  ·rw[if_neg e2,if_neg e2,if_neg e]
def Js (d wb:Nat) (rs:cU) (bl:Nat→Nat) (st:PS) (a:Nat) (m:Nat→M Env):ka:=fun E ts R' X'=>
 ts=[]∧∃r,aG m st r∧match r with
  | .ok (c,a1)=>∃ef Hc es b,X'.H=aQ Hc a (.map es b)∧Hc a=none∧dq d wb rs ef a1 R' ⟨X'.K,Hc⟩∧fF d st bl ef∧g9 es (hc ef c)∧E= .returned (.tuple #[])
  | .error t=>E= .panicked (oy t)
def rQ (d wb:Nat) (rs:cU) (F N:Nat):Prop:=∀{bl:Nat→Nat} {st:PS} {R:World} {K Hc:Hp} {a e:Nat} {es:Array MapEntry} {b:List Value} {p:Ex} {c:Nat} {v:Env},WF rs d st→dq d wb rs bl st R ⟨K,Hc⟩→Hc a=none→Ex.Cs R p b→p.size≤100000→p.size≤N→In d st c→g9 es (hc bl v)→ed d st v→st.ay≤F→
 cJ 142 [bP wb,.agg b.toArray,bP (bl c),.map (some a)] [] R ⟨K,aQ Hc a (.map es e)⟩ (Js d wb rs bl st a (fun g=>(aB rs g).fU p c v))
theorem w9{d:Nat}{p:Ex}{c:Nat}(w:WF aD d ap)(a:In d ap c)(e:ed d ap b3)(h:aG (fun g=>(aB aD g).fU p c b3) ap (.ok (wH,aW))):Mo.Good aD d ap aW∧ed d aW wH:=jO h fun g b=>(eT.aB aD d g).fU w a e b
theorem B5{d:Nat}(b:ed d ap b3)(a:fF d ap a0 rj):hc rj b3=hc a0 b3:=by
 funext s
 unfold hc
 cases e:b3 s with
 |none=>rfl
 |some i=>simp only[Option.map_some];rw[a i (b s i e)]
theorem xa{bx bs:List Bx}{rw:List bU}(d:bx=bs++ [(aH,aj)])(e:Nat.ble dj.nb bs.length=true)
 (k:∀b X',aJ.K b=none→aJ.H b=none→X'=⟨aJ.K,aQ aJ.H b (.cells aj.toArray aH (0,0))⟩→bN dj dk dy gb ⟨kL bs.length b bu,bs,rw⟩ ah X'):bN dj dk dy gb ⟨bu,bx,rw⟩ ah aJ:=by
 subst d
 exact Hu (hP e) fun b a c=>k b _ a c rfl
def fG (st:PS) (c:Nat) (m:PC):PS:={st with cells:=st.cells.set c m}
theorem Jt(st:PS)(c:Nat)(m x:PC):fG (fG st c m) c x=fG st c x:=by unfold fG;simp[List.set_set]
theorem Ju{c:Nat}{m x:PC}(a:c<ap.len):fG {ap with cells:=ap.cells++ [x]} c m={fG ap c m with cells:=(fG ap c m).cells++ [x]}:=by
 unfold fG
 rw[Jr a]
theorem xb(st:PS)(c:Nat)(m:PC):(fG st c m).len=st.len:=jq
theorem p4{d:Nat}{c:Nat}{i:Nat}:In d (fG ap c l1) i↔In d ap i:=by unfold In;rw[xb]
theorem B6{d:Nat}{c:Nat}{s:BA}{l:List Nat}(w:WF aD d ap)(e:In d ap c)(f:di d ap l)(h:ap.at c= .unknown):WF aD d (fG ap c (.cw s l))∧Le ap (fG ap c (.cw s l)):=by
 obtain⟨a,b,_⟩:=pV (c:= .cw s l) w (Le.refl ap) e f (fun _=>by rw[h];exact .inr ⟨_,_,rfl⟩) (fun _=>trivial) (rfl:put c (.cw s l) ap=some (.ok ((),_)))
 exact⟨a,b⟩
theorem Jv{d wb:Nat}{rs:cU}(dx:l5 d wb rs ae)(cv:∀cj,cj<ao→rQ d wb rs ae cj):rQ d wb rs ae ao:=by
 intro bl st R K Hc C aH es eL p c v da h be cY c7 eQ cH bK cT bn
 have ea:=cY
 obtain⟨dc,dl,rfl,_⟩:=fo cY
 refine eh func142 rfl ntmps142 rfl fun w G ad=> ?_
 refine cG 13 rfl ?_
 cases cI:(p.k==1)
 refine aE 10 rfl ?_
 cases bv:(p.k==1)
 have N:=cc bv
 refine an 6 rfl ?_
 cases cO:(p.k==9)
 have aa:=cc cO
 refine aE 7 rfl ?_
 refine kP (Hc:=Hc) (Hf:=hT C (.map es aH)) (ts:=[]) (rs:=[]) (dx da h cH bn) l8 rfl rfl (p3 be).symm (w7 be) rfl ?_ ?_
 rintro e0 a4 eG az el _ dR ⟨rfl,r,ab,F⟩
 rcases r with t|⟨b,ac⟩
 cases F
 obtain⟨B,eZ,aK,a9,e,ep⟩:=F
 cases e
 subst ep
 have O:=w8 dR
 rw[p3 O]
 have L:=kU da cH ab
 have bL:g9 es (hc B v):=by rw[B5 cT a9];exact bK
 have bY:=cT.le L.1.le
 have eb:=ea.sub el
 refine an 11 rfl ?_
 cases cP:(p.k==3)
 have Y:=cc cP
 refine aE 6 rfl ?_
 refine kQ (BK eb) BH rfl rfl ?_
 rintro _ aO en ⟨ch,e1,rfl,dP,dH⟩
 replace aK:=aK.mono en (eC.refl _)
 obtain⟨dd,dm,rfl,_⟩:=fo dP
 obtain⟨eE,eK,rfl,bW,bb⟩:=dH
 have eW:(cA p).length≤490000000:=bW.2.2.1
 refine an 10 rfl ?_
 obtain⟨⟨ev,P,Q,S,T,U,V,X,al,n1,aA,ai⟩,a,x⟩:=aK.cell b L.2.1
 cases y:ac.at b with
 |dF e v=>
  rw[y] at x
  simp only[dv] at x
  obtain⟨rfl,dY,eu,dX⟩:=x
  have o:B b≠C:=fun q=>by rw[q,O] at a;cases a
  refine aE 4 rfl (bz (bw (cs:=[zI 0,P,Q,S,T,U,V,X,al,n1,aA,ai]) rfl (.inr ((bh _ _ o).trans a)) bG rfl) rfl (an 8 rfl ?_))
  refine dM mixed (fun k=>k==1) _ (fun _ _ h=> .inr h) fun aq=> ?_
  refine bm [0,1,2] rfl (by kernel_rfl) id (lh 3 rfl (ja rfl ((bh _ _ o).trans a) bG rfl) rfl (by kernel_rfl) id (bm [4,5,6,7,8,9,10,11,12,13,14,15,16,17,18,19,20,21,22,23] rfl (by kernel_rfl) id (du (by kernel_rfl) (br 3 rfl ?_))))
  refine eS (eV 2) eU rfl rfl (fun D au=> ?_)
  refine br 1 rfl ?_
  exact cL ⟨rfl,.error (2,0),jt N aa (bB ab (ug Y (by rw[y];intro q;cases q) (by rw[y];intro s l q;cases q))),rfl⟩
 |link j=>
  rw[y] at x
  simp only[dv] at x
  obtain⟨rfl,rfl⟩:=x
  have o:B b≠C:=fun q=>by rw[q,O] at a;cases a
  refine aE 4 rfl (bz (bw (cs:=[zI 1,P,Q,S,T,U,V,X,_,n1,aA,ai]) rfl (.inr ((bh _ _ o).trans a)) bG rfl) rfl (an 8 rfl ?_))
  refine dM mixed (fun k=>k==1) _ (fun _ _ h=> .inr h) fun aq=> ?_
  refine bm [0,1,2] rfl (by kernel_rfl) id (lh 3 rfl (ja rfl ((bh _ _ o).trans a) bG rfl) rfl (by kernel_rfl) id (bm [4,5,6,7,8,9,10,11,12,13,14,15,16,17,18,19,20,21,22,23] rfl (by kernel_rfl) id (du (by kernel_rfl) (br 3 rfl ?_))))
  refine eS (eV 2) eU rfl rfl (fun D au=> ?_)
  refine br 1 rfl ?_
  exact cL ⟨rfl,.error (2,0),jt N aa (bB ab (ug Y (by rw[y];intro q;cases q) (by rw[y];intro s l q;cases q))),rfl⟩
 |unknown=>
  rw[y] at x
  simp only[dv] at x
  subst x
  have o:B b≠C:=fun q=>by rw[q,O] at a;cases a
  refine aE 4 rfl (bz (bw (cs:=[zI 2,P,Q,S,T,U,V,X,al,n1,aA,ai]) rfl (.inr ((bh _ _ o).trans a)) bG rfl) rfl (an 9 rfl (xp (bJ (vs:=[(0,zI 4),(5,.string (bV p).s)]) (v:= .agg #[zI 4,zI 0,.string ⟨#[]⟩,zI 0,zS,zI 0,zI 0,.map none,.pointer none,zI 0,.string (bV p).s,zS]) rfl (fun W=>by kernel_rfl)) rfl (an 1 rfl ?_))))
  refine ke (cs:=[zI 2,P,Q,S,T,U,V,X,al,n1,aA,ai]) [zI 4,zI 0,.string ⟨#[]⟩,zI 0,zS,zI 0,zI 0,.map none,.pointer none,zI 0,.string (bV p).s,zS] rfl rfl ((bh _ _ o).trans a) rF rfl rfl rfl rfl ?_
  intro eJ dC eP
  have em:=aK.set L.1.wf L.2.1 (p:= .cw (bV p).s []) (c:=⟨zI 4,zI 0,.string ⟨#[]⟩,zI 0,zS,zI 0,zI 0,.map none,.pointer none,zI 0,.string (bV p).s,zS⟩) ⟨rfl,rfl,a6.nil⟩
  subst dC
  rw[oH o.symm]
  refine pQ 202 1 ?_
  refine an 10 rfl ?_
  refine eA (ι:=Nat×(Nat→Nat)×PS×Wd×Hp×(List Nat)×(List Nat)×LV×OA×Nat) [0,2,3,5,8,9,71] 2 rfl (fun(i,am,z,D,ax,ids,bs,xs,A,cap)=>(⟨[(72,.val (zI (i:Nat)))],[],[⟨.slice A bs.length cap,bs.length,xs,202,1⟩]⟩,D,⟨az.K,aQ ax C (.map es aH)⟩,i≤(cA p).length∧WF rs d z∧dq d wb rs am (fG z b (.cw (bV p).s ids)) D ⟨az.K,ax⟩∧ax C=none∧ax (B b)=some (mE ⟨zI 4,zI 0,.string ⟨#[]⟩,zI 0,zS,zI 0,zI 0,.map none,.pointer none,zI 0,.string (bV p).s,.slice A bs.length cap⟩)∧Le ac z∧z.at b= .unknown∧fF d ac B am∧Sub aO D∧bs=ids.map am∧ids.length=i∧di d z ids∧dL fE 1 D A bs cap xs∧news i ac=some (.ok (ids,z)),(cA p).length -i)) (0,B,ac,aO,(aQ az.H (B b) (mE ⟨zI 4,zI 0,.string ⟨#[]⟩,zI 0,zS,zI 0,zI 0,.map none,.pointer none,zI 0,.string (bV p).s,zS⟩)),[],[],[],none,0) rfl rfl rfl [1] rfl ?_ ?_
  exact⟨b2 _,L.1.wf,em,(bh _ _ o.symm).trans O,b0 _ _ _,Le.refl _,y,g0 _,sR,rfl,rfl,fun i d1=>(by cases d1),dL.nil,rfl⟩
  rintro⟨i,am,z,D,ax,ids,bs,xs,A,cap⟩ ⟨eT,ce,c2,c9,aF,aT,b9,ba,c5,aU,bX,aR,⟨bD,eo,_,_,eN⟩,cV⟩
  show VX _ _ _ ⟨_,_,_⟩ D ⟨az.K,aQ ax C (.map es aH)⟩
  have eX:bs.length=i:=by rw[aU,List.length_map,bX]
  have aS:=L.2.1.le aT
  refine aE 6 rfl ?_
  cases cR:(decide (((i:Nat):Int)<(((cA p).length:Nat):Int)))
  have cS:i=(cA p).length:=by have:=of_decide_eq_false cR;omega
  refine aE 8 rfl ?_
  refine dM mixed (fun k=>k==1) _ (fun _ _ h=> .inr h) fun aq=> ?_
  refine bm [0,1,2] rfl (by kernel_rfl) id (lh 3 rfl (ja rfl ((bh _ _ o).trans aF) bG rfl) rfl (by kernel_rfl) id (bm [4,5,6,7,8] rfl (by kernel_rfl) id (rz 9 rfl rfl rfl rfl (ja rfl ((bh _ _ o).trans aF) fx rfl) rfl (by kernel_rfl) id (bm [10,11,12,13,14] rfl (by kernel_rfl) id ?_))))
  cases dN:(((bV p).s).toList==((bV p).s).toList)
  exact absurd rfl (hW dN)
  refine bm [15,16,17] rfl (by kernel_rfl) id (rz 18 rfl rfl rfl rfl (ja rfl ((bh _ _ o).trans aF) gH rfl) rfl (by kernel_rfl) id (bm [19,20,21,22,23] rfl (by kernel_rfl) id (du (by kernel_rfl) (br 1 rfl ?_))))
  cases dO:(((bs.length:Nat):Int) !=(((cA p).length:Nat):Int))
  refine aE 8 rfl (bz (bw (cs:=[zI 4,zI 0,.string ⟨#[]⟩,zI 0,zS,zI 0,zI 0,.map none,.pointer none,zI 0,.string (bV p).s,.slice A bs.length cap]) rfl (.inr ((bh _ _ o).trans aF)) gH rfl) rfl (an 11 rfl ?_))
  obtain⟨cf,b4⟩:=B6 (s:=(bV p).s) (l:=ids) ce aS aR b9
  have bZ:ed d (fG z b (.cw (bV p).s ids)) v:=(bY.le aT).le b4
  have bN:g9 es (hc am v):=by rw[B5 bY ba];exact bL
  have aJ:di d (fG z b (.cw (bV p).s ids)) ids:=fun j ag=>p4.2 (aR j ag)
  have a0:∀r,aG (fun g=>dB (aB rs g) (cA p) ids v) (fG z b (.cw (bV p).s ids)) r→aG (fun g=>(aB rs g).fU p c v) st r:=fun r I=>jt N aa (bB ab (Jo Y y (by rw[←cS];exact cV) I))
  have bo:(fG z b (.cw (bV p).s ids)).ay≤ae:=dS b4.ay (dS aT.ay (dS L.1.le.ay bn))
  have eY:ids.length=(cA p).length:=by rw[bX];exact cS
  have b6:a5 fE 1 D A (ids.map am):=by rw[←aU];exact cz eo bD
  have c8:Sub aO D:=c5
  have dG:fF d st (bl) am:=a9.trans ba L.1.le
  generalize hzz:fG z b (.cw (bV p).s ids)=stz at*
  have aX:fF d st bl am∧Le st stz:=⟨dG,L.1.le.trans (aT.trans b4)⟩
  refine eA (ι:=Nat×(Nat→Nat)×PS×Wd×Hp×Hp×(Array MapEntry)×Nat×Env) [0,3,10,115,116] 2 rfl (fun(k,aj,J,ar,ap,ah,av,aC,af)=>(⟨[(117,.val (zI (k:Nat)))],[],[]⟩,ar,⟨ap,aQ ah C (.map av aC)⟩,k≤(cA p).length∧WF rs d J∧dq d wb rs aj J ar ⟨ap,ah⟩∧ah C=none∧Le stz J∧fF d stz am aj∧Sub D ar∧eC az.K ap∧g9 av (hc aj af)∧ed d J af∧∀r,aG (fun g=>dB (aB rs g) ((cA p).drop k) ((ids).drop k) af) J r→aG (fun g=>dB (aB rs g) (cA p) (ids) v) stz r,(cA p).length -k)) (0,am,stz,D,az.K,ax,es,aH,v) rfl rfl rfl [] rfl ?_ ?_
  exact⟨b2 _,cf,c2,c9,Le.refl _,g0 _,sR,eC.refl _,bN,bZ,fun r I=>I⟩
  rintro⟨k,aj,J,ar,ap,ah,av,aC,af⟩ ⟨d2,a2,aZ,a1,aw,aI,aD,b1,aW,aY,aM⟩
  show VX _ _ _ ⟨_,_,_⟩ ar ⟨ap,aQ ah C (.map av aC)⟩
  refine aE 6 rfl ?_
  cases cJ:(decide (((k:Nat):Int)<(((cA p).length:Nat):Int)))
  have d0:k=(cA p).length:=by have:=of_decide_eq_false cJ;omega
  refine aE 5 rfl (wl ?_)
  have bI:=aM _ (rP (v:=af) (st:=J) (.inl (List.drop_eq_nil_of_le (by omega))))
  exact kS results142 ⟨rfl,.ok (af,J),a0 _ bI,aj,ah,av,aC,rfl,a1,aZ,aX.1.trans aI aX.2,aW,rfl⟩
  have M:k<(cA p).length:=by have:=of_decide_eq_true cJ;omega
  have Z:k<(ids).length:=by omega
  refine aE 8 rfl ?_
  have ec:=bb
  obtain⟨bx,ew,dr,bj,aV,bS⟩:=a5.get bM bb k M
  cases bj
  have bE:=aV.sub c8
  obtain⟨de,dn,rfl,_⟩:=fo aV
  refine xp (a3 rfl rfl rfl M cZ) rfl (xp (cl rfl (fun j u hu=>(c8.trans aD) _ _ _ (bS j u hu)) rfl) rfl (an 5 rfl ?_))
  refine dM mixed (fun k=>k==2) bH (fun _ _ h=>by cases h) fun aq=> ?_
  refine bm [0,1,2,3] rfl (by kernel_rfl) id ?_
  obtain⟨dk,ex,ds,bk,bF,bU⟩:=a5.get fZ b6 k (by rw[List.length_map];exact Z)
  cases bk
  have bT:=bU 0 (bP (am ids[k])) (by rw[bF,List.getElem_map];rfl)
  refine xt 4 rfl (a3 rfl rfl rfl (by rw[aU,List.length_map];exact Z) jr) rfl (by kernel_rfl) id (xt 5 rfl (dT rfl ns (aD _ _ _ bT)) rfl (by kernel_rfl) id (bm [6] rfl (by kernel_rfl) id (bp [7] (by kernel_rfl) rfl ?_)))
  have bC:aj ids[k]=am ids[k]:=aI _ (aJ _ (fL Z))
  rw[←bC]
  refine fY rfl (cv (p.size -1) (by have:=p2 (fL M);omega) (v:=af) a2 aZ a1 (bE.sub aD) (dS (Nat.le_of_lt (p2 (fL M))) c7) (by have:=p2 (fL M);omega) ((aJ _ (fL Z)).le aw) aW aY (dS aw.ay bo)) w5 rfl rfl (fun _ _ h=>by cases h) ?_ ?_ ?_
  rintro e2 a4 df bf ei d6 ⟨rfl,r,c0,F⟩
  rcases r with t|⟨eB,ey⟩
  cases F
  obtain⟨dh,cg,ct,co,dy,eq,ef,dD,dU,e⟩:=F
  cases e
  have bO:=w9 a2 ((aJ _ (fL Z)).le aw) aY c0
  rw[show bf=⟨bf.K,aQ cg C (.map ct co)⟩ from by rw[←dy]]
  refine du (by kernel_rfl) (br 3 rfl (xp (bA rfl rfl (by omega)) rfl (an 2 rfl ?_)))
  refine dI (k+1,dh,ey,df,bf.K,cg,ct,co,eB) rfl rfl rfl [] rfl ?_ ?_
  refine⟨by omega,bO.1.wf,ef,eq,aw.trans bO.1.le,aI.trans dD aw,aD.trans ei,b1.trans d6,dU,bO.2,fun r I=>aM r (p1 M Z (bB c0 I))⟩
  show (cA p).length -(k+1)<(cA p).length -k;omega
  rintro ch a4 cm cn _ _ ⟨rfl,r,I,F⟩
  rcases r with t|⟨cr,db⟩
  cases F
  refine br 4 rfl ?_
  exact cL ⟨rfl,.error t,a0 _ (aM _ (p1 M Z (ej I))),rfl⟩
  obtain⟨_,_,_,_,_,_,_,_,_,e⟩:=F
  cases e
  exact bt
  exact absurd dO (by simp;omega)
  have M:i<(cA p).length:=by have:=of_decide_eq_true cR;omega
  refine aE 10 rfl (bz (bw (cs:=[zI 4,zI 0,.string ⟨#[]⟩,zI 0,zS,zI 0,zI 0,.map none,.pointer none,zI 0,.string (bV p).s,.slice A bs.length cap]) rfl (.inr ((bh _ _ o).trans aF)) gH rfl) rfl (xp (bJ (vs:=[(0,zI 2)]) (v:= .agg #[zI 2,zI 0,.string ⟨#[]⟩,zI 0,zS,zI 0,zI 0,.map none,.pointer none,zI 0,.string ⟨#[]⟩,zS]) rfl (fun W=>by kernel_rfl)) rfl (an 1 rfl ?_)))
  refine xa (bs:=[(31,[zI p.k,.string p.s,zI p.n,.slice dc p.ys.length dl,zI p.l,zI p.c]),(31,[zI ((bV p).k),.string (bV p).s,zI ((bV p).n),.slice dd (bV p).ys.length dm,zI ((bV p).l),zI ((bV p).c)])]) rfl rfl ?_
  rintro ak au -bq rfl
  have cW:ak≠C:=fun q=>by
   rw[q] at bq
   exact absurd bq (by show aQ ax C _ C≠none;rw[b0];simp)
  have cX:=cW.symm
  have cE:ax ak=none:=(bh _ _ cW).symm.trans bq
  have d9:B b≠ak:=fun q=>by rw[q,cE] at aF;cases aF
  rw[oH cX]
  obtain⟨ca,_⟩:=B6 (s:=(bV p).s) (l:=ids) ce aS aR b9
  obtain⟨a7,b7,a8,cF⟩:=c2.new ca cE (p:= .unknown) trivial (c:=⟨zI 2,zI 0,.string ⟨#[]⟩,zI 0,zS,zI 0,zI 0,.map none,.pointer none,zI 0,.string ⟨#[]⟩,zS⟩) rfl
  obtain⟨bR,d3,-⟩:=kg (c:= .unknown) ce trivial (rfl:new .unknown z=some (.ok (_,_)))
  refine fc jr rfl ?_
  intro eM eF bc dZ
  refine lZ _ (List.Perm.swap _ _ _) ?_
  refine jH (news:=[bP ak]) oz rfl rfl (cd rfl dZ) (fun h=>by cases h) (fun u hu=>by simp at hu;subst hu;rfl) (by have:=bW.2.2.1;omega) rfl rfl ?_
  intro aN aP ck bd cx cy cB cC
  rw[show bs.length+1=(bs++ [ak]).length by simp]
  replace b7:=b7.mono (bc.trans bd) (eC.refl _)
  have et:=(kg (c:= .unknown) ca trivial (rfl:new .unknown (fG z b (.cw (bV p).s ids))=some (.ok (_,_)))).1.wf
  have dQ:In d {fG z b (.cw (bV p).s ids) with cells:=(fG z b (.cw (bV p).s ids)).cells++ [.unknown]} b:=(p4.2 aS).le (kg (c:= .unknown) ca trivial (rfl:new .unknown (fG z b (.cw (bV p).s ids))=some (.ok (_,_)))).1.le
  have dK:a7 b=B b:=(a8 b (p4.2 aS)).trans (ba b L.2.1)
  have d8:a6 fE 1 ck (.slice aN (bs++ [ak]).length aP) ((ids++ [(fG z b (.cw (bV p).s ids)).len]).map a7):=by
   rw[List.map_append,List.map_cons,List.map_nil,l3 (st:=fG z b (.cw (bV p).s ids)) (fun j ag=>p4.2 (aR j ag)) a8,cF,←aU]
   exact⟨aN,aP,rfl,⟨by simpa using cx,cy,by have:=bW.2.2.1;simp;omega,cB⟩,cz (by simpa using cC) (aL.append (aL.sub fZ (bc.trans bd) bD) (aL.single rfl))⟩
  refine an 2 rfl ?_
  refine ke (cs:=[zI 4,zI 0,.string ⟨#[]⟩,zI 0,zS,zI 0,zI 0,.map none,.pointer none,zI 0,.string (bV p).s,.slice A bs.length cap]) [zI 4,zI 0,.string ⟨#[]⟩,zI 0,zS,zI 0,zI 0,.map none,.pointer none,zI 0,.string (bV p).s,.slice aN (bs++ [ak]).length aP] rfl rfl ((bh _ _ o).trans ((bh _ _ d9).trans aF)) gH rfl rfl rfl rfl ?_
  intro eI dA eO
  have c3:=b7.set et dQ (p:= .cw (bV p).s (ids++ [(fG z b (.cw (bV p).s ids)).len])) (c:=⟨zI 4,zI 0,.string ⟨#[]⟩,zI 0,zS,zI 0,zI 0,.map none,.pointer none,zI 0,.string (bV p).s,.slice aN (bs++ [ak]).length aP⟩) ⟨rfl,rfl,d8⟩
  rw[dK] at c3
  subst dA
  rw[oH o.symm]
  refine an 4 rfl (xp (bA rfl rfl (by omega)) rfl (an 2 rfl ?_))
  refine dI (i+1,a7,{z with cells:=z.cells++ [.unknown]},ck,aQ (aQ ax ak (mE ⟨zI 2,zI 0,.string ⟨#[]⟩,zI 0,zS,zI 0,zI 0,.map none,.pointer none,zI 0,.string ⟨#[]⟩,zS⟩)) (B b) (mE ⟨zI 4,zI 0,.string ⟨#[]⟩,zI 0,zS,zI 0,zI 0,.map none,.pointer none,zI 0,.string (bV p).s,.slice aN (bs++ [ak]).length aP⟩),ids++ [z.len],bs++ [ak],xs++ [bP ak],aN,aP) rfl rfl rfl [1] rfl ?_ ?_
  refine⟨by omega,bR.wf,?_,?_,b0 _ _ _,aT.trans bR.le,(rB b aS.2).trans b9,?_,c5.trans (bc.trans bd),?_,by simp[bX],?_,?_,B4 cV⟩
  have dw:(fG {z with cells:=z.cells++ [.unknown]} b (.cw (bV p).s (ids++ [z.len])))=fG {fG z b (.cw (bV p).s ids) with cells:=(fG z b (.cw (bV p).s ids)).cells++ [.unknown]} b (.cw (bV p).s (ids++ [(fG z b (.cw (bV p).s ids)).len])):=by
   rw[←Ju aS.2,Jt,xb]
  rw[dw]
  exact c3
  exact(bh _ _ o.symm).trans ((bh _ _ cX).trans c9)
  exact fun j ag=>(a8 j (p4.2 (ag.le aT))).trans (ba j ag)
  rw[aU,List.map_append,List.map_cons,List.map_nil,l3 (st:=fG z b (.cw (bV p).s ids)) (fun j ag=>p4.2 (aR j ag)) a8]
  rw[show a7 z.len=ak from by rw[←xb z b (.cw (bV p).s ids)];exact cF]
  intro j ag
  rcases fM.1 ag with ag|ag
  exact(aR j ag).le bR.le
  rcases tO.1 ag with rfl
  exact d3
  exact⟨c6 (bg fZ (bc.trans bd) bD) (c4 rfl),by simpa using cC,by simpa using cx,cy,cB⟩
  show (cA p).length -(i+1)<(cA p).length -i;omega
 |num m=>
  rw[y] at x
  simp only[dv] at x
  obtain⟨rfl,rfl⟩:=x
  have o:B b≠C:=fun q=>by rw[q,O] at a;cases a
  refine aE 4 rfl (bz (bw (cs:=[zI 3,P,Q,S,T,U,V,X,al,zI m,aA,ai]) rfl (.inr ((bh _ _ o).trans a)) bG rfl) rfl (an 8 rfl ?_))
  refine dM mixed (fun k=>k==1) _ (fun _ _ h=> .inr h) fun aq=> ?_
  refine bm [0,1,2] rfl (by kernel_rfl) id (lh 3 rfl (ja rfl ((bh _ _ o).trans a) bG rfl) rfl (by kernel_rfl) id (bm [4,5,6,7,8,9,10,11,12,13,14,15,16,17,18,19,20,21,22,23] rfl (by kernel_rfl) id (du (by kernel_rfl) (br 3 rfl ?_))))
  refine eS (eV 2) eU rfl rfl (fun D au=> ?_)
  refine br 1 rfl ?_
  exact cL ⟨rfl,.error (2,0),jt N aa (bB ab (ug Y (by rw[y];intro q;cases q) (by rw[y];intro s l q;cases q))),rfl⟩
 |cw sm E=>
  rw[y] at x
  simp only[dv] at x
  obtain⟨rfl,rfl,dJ⟩:=x
  have o:B b≠C:=fun q=>by rw[q,O] at a;cases a
  obtain⟨Am,cq,rfl,eR,ee⟩:=dJ
  refine aE 4 rfl (bz (bw (cs:=[zI 4,P,Q,S,T,U,V,X,al,n1,.string sm,.slice Am (E.map B).length cq]) rfl (.inr ((bh _ _ o).trans a)) bG rfl) rfl (an 8 rfl ?_))
  refine dM mixed (fun k=>k==1) _ (fun _ _ h=> .inr h) fun aq=> ?_
  refine bm [0,1,2] rfl (by kernel_rfl) id (lh 3 rfl (ja rfl ((bh _ _ o).trans a) bG rfl) rfl (by kernel_rfl) id (bm [4,5,6,7,8] rfl (by kernel_rfl) id (rz 9 rfl rfl rfl rfl (ja rfl ((bh _ _ o).trans a) fx rfl) rfl (by kernel_rfl) id (bm [10,11,12,13,14] rfl (by kernel_rfl) id ?_))))
  cases cK:(sm.toList==((bV p).s).toList)
  have b8:sm≠(bV p).s:=hW cK
  have cD:¬(sm=(bV p).s∧E.length=(cA p).length):=fun q=>b8 q.1
  refine bm [15,16,17,18,19,20,21,22,23] rfl (by kernel_rfl) id (du (by kernel_rfl) (br 3 rfl (ww 1 ?_)))
  rotate_left
  have b8:sm=(bV p).s:=ki cK
  refine bm [15,16,17] rfl (by kernel_rfl) id (rz 18 rfl rfl rfl rfl (ja rfl ((bh _ _ o).trans a) gH rfl) rfl (by kernel_rfl) id (bm [19,20,21,22,23] rfl (by kernel_rfl) id (du (by kernel_rfl) (br 1 rfl ?_))))
  cases cM:((((E.map B).length:Nat):Int) !=(((cA p).length:Nat):Int))
  have b3:E.length=(cA p).length:=by simp at cM;omega
  refine aE 8 rfl (bz (bw (cs:=[zI 4,P,Q,S,T,U,V,X,al,n1,.string sm,.slice Am (E.map B).length cq]) rfl (.inr ((bh _ _ o).trans a)) gH rfl) rfl (an 11 rfl ?_))
  have aJ:di d ac E:=by have:=L.1.wf.ok b L.2.1;rw[y] at this;exact this
  have a0:∀r,aG (fun g=>dB (aB rs g) (cA p) E v) ac r→aG (fun g=>(aB rs g).fU p c v) st r:=fun r I=>jt N aa (bB ab (Jp Y y b8 b3 I))
  have bo:ac.ay≤ae:=dS L.1.le.ay bn
  have b6:a5 fE 1 aO Am (E.map B):=ee
  have aX:fF d st bl B∧Le st ac:=⟨a9,L.1.le⟩
  have cf:=L.1.wf
  have bZ:=bY
  have bN:=bL
  refine eA (ι:=Nat×(Nat→Nat)×PS×Wd×Hp×Hp×(Array MapEntry)×Nat×Env) [0,3,10,115,116] 2 rfl (fun(k,aj,J,ar,ap,ah,av,aC,af)=>(⟨[(117,.val (zI (k:Nat)))],[],[]⟩,ar,⟨ap,aQ ah C (.map av aC)⟩,k≤(cA p).length∧WF rs d J∧dq d wb rs aj J ar ⟨ap,ah⟩∧ah C=none∧Le ac J∧fF d ac B aj∧Sub aO ar∧eC az.K ap∧g9 av (hc aj af)∧ed d J af∧∀r,aG (fun g=>dB (aB rs g) ((cA p).drop k) ((E).drop k) af) J r→aG (fun g=>dB (aB rs g) (cA p) (E) v) ac r,(cA p).length -k)) (0,B,ac,aO,az.K,az.H,es,aH,v) rfl rfl rfl [] rfl ?_ ?_
  exact⟨b2 _,cf,aK,O,Le.refl _,g0 _,sR,eC.refl _,bN,bZ,fun r I=>I⟩
  rintro⟨k,aj,J,ar,ap,ah,av,aC,af⟩ ⟨d2,a2,aZ,a1,aw,aI,aD,b1,aW,aY,aM⟩
  show VX _ _ _ ⟨_,_,_⟩ ar ⟨ap,aQ ah C (.map av aC)⟩
  refine aE 6 rfl ?_
  cases cN:(decide (((k:Nat):Int)<(((cA p).length:Nat):Int)))
  have d0:k=(cA p).length:=by have:=of_decide_eq_false cN;omega
  refine aE 5 rfl (wl ?_)
  have bI:=aM _ (rP (v:=af) (st:=J) (.inl (List.drop_eq_nil_of_le (by omega))))
  exact kS results142 ⟨rfl,.ok (af,J),a0 _ bI,aj,ah,av,aC,rfl,a1,aZ,aX.1.trans aI aX.2,aW,rfl⟩
  have M:k<(cA p).length:=by have:=of_decide_eq_true cN;omega
  have Z:k<(E).length:=by omega
  refine aE 8 rfl ?_
  have ec:=bb
  obtain⟨bx,ew,dr,bj,aV,bS⟩:=a5.get bM bb k M
  cases bj
  have bE:=aV
  obtain⟨de,dn,rfl,_⟩:=fo aV
  refine xp (a3 rfl rfl rfl M cZ) rfl (xp (cl rfl (fun j u hu=>aD _ _ _ (bS j u hu)) rfl) rfl (an 5 rfl ?_))
  refine dM mixed (fun k=>k==2) bH (fun _ _ h=>by cases h) fun aq=> ?_
  refine bm [0,1,2,3] rfl (by kernel_rfl) id ?_
  obtain⟨dk,ex,ds,bk,bF,bU⟩:=a5.get fZ b6 k (by rw[List.length_map];exact Z)
  cases bk
  have bT:=bU 0 (bP (B E[k])) (by rw[bF,List.getElem_map];rfl)
  refine xt 4 rfl (a3 rfl rfl rfl (by rw[List.length_map];exact Z) jr) rfl (by kernel_rfl) id (xt 5 rfl (dT rfl ns (aD _ _ _ bT)) rfl (by kernel_rfl) id (bm [6] rfl (by kernel_rfl) id (bp [7] (by kernel_rfl) rfl ?_)))
  have bC:aj E[k]=B E[k]:=aI _ (aJ _ (fL Z))
  rw[←bC]
  refine fY rfl (cv (p.size -1) (by have:=p2 (fL M);omega) (v:=af) a2 aZ a1 (bE.sub aD) (dS (Nat.le_of_lt (p2 (fL M))) c7) (by have:=p2 (fL M);omega) ((aJ _ (fL Z)).le aw) aW aY (dS aw.ay bo)) w5 rfl rfl (fun _ _ h=>by cases h) ?_ ?_ ?_
  rintro e3 a4 dg bi ek d7 ⟨rfl,r,c1,F⟩
  rcases r with t|⟨eD,ez⟩
  cases F
  obtain⟨dj,ci,cu,cp,dz,er,eg,dE,dV,e⟩:=F
  cases e
  have bQ:=w9 a2 ((aJ _ (fL Z)).le aw) aY c1
  rw[show bi=⟨bi.K,aQ ci C (.map cu cp)⟩ from by rw[←dz]]
  refine du (by kernel_rfl) (br 3 rfl (xp (bA rfl rfl (by omega)) rfl (an 2 rfl ?_)))
  refine dI (k+1,dj,ez,dg,bi.K,ci,cu,cp,eD) rfl rfl rfl [] rfl ?_ ?_
  refine⟨by omega,bQ.1.wf,eg,er,aw.trans bQ.1.le,aI.trans dE aw,aD.trans ek,b1.trans d7,dV,bQ.2,fun r I=>aM r (p1 M Z (bB c1 I))⟩
  show (cA p).length -(k+1)<(cA p).length -k;omega
  rintro ch a4 cm cn _ _ ⟨rfl,r,I,F⟩
  rcases r with t|⟨cr,db⟩
  cases F
  refine br 4 rfl ?_
  exact cL ⟨rfl,.error t,a0 _ (aM _ (p1 M Z (ej I))),rfl⟩
  obtain⟨_,_,_,_,_,_,_,_,_,e⟩:=F
  cases e
  exact bt
  have b3:E.length≠(cA p).length:=fun q=>by simp[q] at cM
  have cD:¬(sm=(bV p).s∧E.length=(cA p).length):=fun q=>b3 q.2
  refine aE 2 rfl (ww 1 ?_)
  rotate_left
  any_goals
   refine uw 1 ?_
   refine eS (eV 2) eU rfl rfl (fun D au=> ?_)
   refine br 1 rfl ?_
   exact cL ⟨rfl,.error (2,0),jt N aa (bB ab (Jq Y y cD)),rfl⟩
 |fn sm E=>
  rw[y] at x
  simp only[dv] at x
  obtain⟨rfl,rfl,_⟩:=x
  have o:B b≠C:=fun q=>by rw[q,O] at a;cases a
  refine aE 4 rfl (bz (bw (cs:=[zI 5,P,Q,S,T,U,V,X,al,n1,.string sm,ai]) rfl (.inr ((bh _ _ o).trans a)) bG rfl) rfl (an 8 rfl ?_))
  refine dM mixed (fun k=>k==1) _ (fun _ _ h=> .inr h) fun aq=> ?_
  refine bm [0,1,2] rfl (by kernel_rfl) id (lh 3 rfl (ja rfl ((bh _ _ o).trans a) bG rfl) rfl (by kernel_rfl) id (bm [4,5,6,7,8,9,10,11,12,13,14,15,16,17,18,19,20,21,22,23] rfl (by kernel_rfl) id (du (by kernel_rfl) (br 3 rfl ?_))))
  refine eS (eV 2) eU rfl rfl (fun D au=> ?_)
  refine br 1 rfl ?_
  exact cL ⟨rfl,.error (2,0),jt N aa (bB ab (ug Y (by rw[y];intro q;cases q) (by rw[y];intro s l q;cases q))),rfl⟩
 have Y:=cb cP
 refine aE 3 rfl ?_
 obtain⟨⟨ev,P,Q,S,T,U,V,X,al,n1,aA,ai⟩,a,x⟩:=aK.cell b L.2.1
 cases y:ac.at b with
 |dF e v=>
  rw[y] at x
  simp only[dv] at x
  obtain⟨rfl,dY,eu,dX⟩:=x
  have o:B b≠C:=fun q=>by rw[q,O] at a;cases a
  refine aE 4 rfl (bz (bw (cs:=[zI 0,P,Q,S,T,U,V,X,al,n1,aA,ai]) rfl (.inr ((bh _ _ o).trans a)) bG rfl) rfl (an 8 rfl ?_))
  refine dM mixed (fun k=>k==0) _ (fun _ _ h=> .inr h) fun aq=> ?_
  refine bm [0,1,2] rfl (by kernel_rfl) id (lh 3 rfl (ja rfl ((bh _ _ o).trans a) bG rfl) rfl (by kernel_rfl) id (bm [4,5,6,7,8,9,10,11,12,13] rfl (by kernel_rfl) id (du (by kernel_rfl) (br 3 rfl ?_))))
  refine eS (eV 2) eU rfl rfl (fun D au=> ?_)
  refine br 2 rfl ?_
  exact cL ⟨rfl,.error (2,0),jt N aa (bB ab (uf Y (by rw[y];intro q;cases q) (by rw[y];intro n q;cases q))),rfl⟩
 |link j=>
  rw[y] at x
  simp only[dv] at x
  obtain⟨rfl,rfl⟩:=x
  have o:B b≠C:=fun q=>by rw[q,O] at a;cases a
  refine aE 4 rfl (bz (bw (cs:=[zI 1,P,Q,S,T,U,V,X,_,n1,aA,ai]) rfl (.inr ((bh _ _ o).trans a)) bG rfl) rfl (an 8 rfl ?_))
  refine dM mixed (fun k=>k==0) _ (fun _ _ h=> .inr h) fun aq=> ?_
  refine bm [0,1,2] rfl (by kernel_rfl) id (lh 3 rfl (ja rfl ((bh _ _ o).trans a) bG rfl) rfl (by kernel_rfl) id (bm [4,5,6,7,8,9,10,11,12,13] rfl (by kernel_rfl) id (du (by kernel_rfl) (br 3 rfl ?_))))
  refine eS (eV 2) eU rfl rfl (fun D au=> ?_)
  refine br 2 rfl ?_
  exact cL ⟨rfl,.error (2,0),jt N aa (bB ab (uf Y (by rw[y];intro q;cases q) (by rw[y];intro n q;cases q))),rfl⟩
 |unknown=>
  rw[y] at x
  simp only[dv] at x
  subst x
  have o:B b≠C:=fun q=>by rw[q,O] at a;cases a
  refine aE 4 rfl (bz (bw (cs:=[zI 2,P,Q,S,T,U,V,X,al,n1,aA,ai]) rfl (.inr ((bh _ _ o).trans a)) bG rfl) rfl (an 5 rfl ?_))
  refine eS (eV 3) eU rfl rfl (fun D au=> ?_)
  refine br 2 rfl ?_
  exact cL ⟨rfl,.error (3,0),jt N aa (bB ab (Jn Y y)),rfl⟩
 |num m=>
  rw[y] at x
  simp only[dv] at x
  obtain⟨rfl,rfl⟩:=x
  have o:B b≠C:=fun q=>by rw[q,O] at a;cases a
  refine aE 4 rfl (bz (bw (cs:=[zI 3,P,Q,S,T,U,V,X,al,zI m,aA,ai]) rfl (.inr ((bh _ _ o).trans a)) bG rfl) rfl (an 8 rfl ?_))
  refine dM mixed (fun k=>k==0) _ (fun _ _ h=> .inr h) fun aq=> ?_
  refine bm [0,1,2] rfl (by kernel_rfl) id (lh 3 rfl (ja rfl ((bh _ _ o).trans a) bG rfl) rfl (by kernel_rfl) id (bm [4,5,6,7,8] rfl (by kernel_rfl) id (rz 9 rfl rfl rfl rfl (ja rfl ((bh _ _ o).trans a) bG rfl) rfl (by kernel_rfl) id (bm [10,11,12,13] rfl (by kernel_rfl) id (du (by kernel_rfl) (br 1 rfl ?_))))))
  cases cQ:(m !=p.n)
  have b5:m=p.n:=by simpa using cQ
  refine aE 5 rfl ?_
  exact kS results142 ⟨rfl,.ok (v,ac),jt N aa (bB ab (B3 Y y (by rw[if_pos b5];rfl))),B,az.H,es,aH,rfl,O,aK,a9,bL,rfl⟩
  have b5:m≠p.n:=by simpa using cQ
  refine aE 2 rfl ?_
  refine eS (eV 2) eU rfl rfl (fun D au=> ?_)
  refine br 2 rfl ?_
  exact cL ⟨rfl,.error (2,0),jt N aa (bB ab (B3 Y y (by rw[if_neg b5];rfl))),rfl⟩
 |cw sm E=>
  rw[y] at x
  simp only[dv] at x
  obtain⟨rfl,rfl,_⟩:=x
  have o:B b≠C:=fun q=>by rw[q,O] at a;cases a
  refine aE 4 rfl (bz (bw (cs:=[zI 4,P,Q,S,T,U,V,X,al,n1,.string sm,ai]) rfl (.inr ((bh _ _ o).trans a)) bG rfl) rfl (an 8 rfl ?_))
  refine dM mixed (fun k=>k==0) _ (fun _ _ h=> .inr h) fun aq=> ?_
  refine bm [0,1,2] rfl (by kernel_rfl) id (lh 3 rfl (ja rfl ((bh _ _ o).trans a) bG rfl) rfl (by kernel_rfl) id (bm [4,5,6,7,8,9,10,11,12,13] rfl (by kernel_rfl) id (du (by kernel_rfl) (br 3 rfl ?_))))
  refine eS (eV 2) eU rfl rfl (fun D au=> ?_)
  refine br 2 rfl ?_
  exact cL ⟨rfl,.error (2,0),jt N aa (bB ab (uf Y (by rw[y];intro q;cases q) (by rw[y];intro n q;cases q))),rfl⟩
 |fn sm E=>
  rw[y] at x
  simp only[dv] at x
  obtain⟨rfl,rfl,_⟩:=x
  have o:B b≠C:=fun q=>by rw[q,O] at a;cases a
  refine aE 4 rfl (bz (bw (cs:=[zI 5,P,Q,S,T,U,V,X,al,n1,.string sm,ai]) rfl (.inr ((bh _ _ o).trans a)) bG rfl) rfl (an 8 rfl ?_))
  refine dM mixed (fun k=>k==0) _ (fun _ _ h=> .inr h) fun aq=> ?_
  refine bm [0,1,2] rfl (by kernel_rfl) id (lh 3 rfl (ja rfl ((bh _ _ o).trans a) bG rfl) rfl (by kernel_rfl) id (bm [4,5,6,7,8,9,10,11,12,13] rfl (by kernel_rfl) id (du (by kernel_rfl) (br 3 rfl ?_))))
  refine eS (eV 2) eU rfl rfl (fun D au=> ?_)
  refine br 2 rfl ?_
  exact cL ⟨rfl,.error (2,0),jt N aa (bB ab (uf Y (by rw[y];intro q;cases q) (by rw[y];intro n q;cases q))),rfl⟩
 rintro ch a4 cm cn _ _ _ ⟨rfl,r,I,F⟩
 rcases r with t|⟨cr,db⟩
 cases F
 refine br 1 rfl ?_
 exact cL ⟨rfl,.error t,jt N aa (ej I),rfl⟩
 obtain⟨_,_,_,_,e,_⟩:=F
 cases e
 have d5:=cb cO
 refine aE 3 rfl ?_
 exact kS results142 ⟨rfl,.ok (v,st),Jm N d5,bl,Hc,es,aH,rfl,be,h,g0 _,bK,rfl⟩
 rw[cI] at bv
 cases bv
 refine aE 6 rfl ?_
 refine A2 (f:=hc bl v) rfl rfl rfl (b0 _ _ _) bK pW ?_
 rintro dt dp eH dW rfl
 refine an 9 rfl ?_
 cases bu:(p.k==1)
 rw[cI] at bu
 cases bu
 have d4:=cb bu
 refine an 9 rfl ?_
 exact kS results142 ⟨rfl,.ok (v.up p.s c,st),Jl d4,bl,Hc,dt,dp,by simp only[iM],be,h,fF.refl _,by rw[BM];exact dW,rfl⟩
end Go.Proofs.YthnogncknmhgoaaGreat.Vm
