/- Lemmas for ModelOrs (6 of 15). No conditions. -/
import Derived.Test.YthnogncknmhgoaaGreatM4
set_option linter.all false
set_option maxRecDepth 100000
set_option maxHeartbeats 485000000
open Go.Proofs.Tryz
namespace Go.Proofs.YthnogncknmhgoaaGreat.Vm
open Data
variable{aY:BA}{bi c0:Int}{bD:List Bi}{b4:List Ty}{bC fC:Ty}
theorem Ac:∀(A B:List Bi) (t:Ty),dE (A++B) t=dE B (dE A t)
 |[],B,t=>rfl
 |a::r,B,t=>Ac r B _
mutual
theorem Ad(n:Int)(b:Ty):∀t:Ty,fv t≤fv (fS n b t)
 | .mk k s m ys=>by
   by_cases a:k=1
   ·rw[ra a];exact oj _
   ·rw[fS,if_neg a,mB a,mB a]
    have:=Ae n b ys
    omega
theorem Ae(n:Int)(b:Ty):∀l:List Ty,fe l≤fe (jF n b l)
 |[]=>by rw[jF];exact Nat.le_refl _
 |t::r=>by
  rw[jF,fe,fe]
  have:=Ad n b t
  have:=Ae n b r
  omega
end
theorem Ag:∀(L:List Bi) (t:Ty),fv t≤fv (dE L t)
 |[],t=>a9 _
 |b::r,t=>dS (Ad b.n b.t t) (Ag r _)
theorem Ah(L ext:List Bi)(t:Ty):full L t≤full (L++ext) t:=by
 unfold full
 rw[Ac]
 exact Ag _ _
theorem wa{f g:Ty→Ty}(h:∀t,fv (f t)≤fv (g t)):∀(l:List Ty) (i:Nat),fe ((l.map f).take i)≤fe ((l.map g).take i)
 |[],i=>by simp
 |t::r,0=>by simp
 |t::r,i+1=>by
  simp only[List.map_cons,List.take_succ_cons,fe]
  have:=h t
  have:=wa h r i
  omega
theorem Ai(t:Ty):∀i,i≤bD.length→(∀j (b:j<i) (a:j<bD.length),¬hI (bD[j]).n t)→dE bD t=dE (bD.drop i) t:=by
 intro i
 induction i with
 |zero=>intro _ _;rfl
 |succ i c=>
  intro d h
  rw[c (by omega) (fun j b a=>h j (by omega) a),tz (show i<bD.length by omega),z3 _ (h i (by omega) (by omega))]
theorem G7(h:Good bD){i:Nat}(c:bi=1)(b:i<bD.length)(l:(bD[i]).n=c0)(g:∀j (a:j<i),(bD[j]'(by omega)).n≠c0):full bD (.mk bi aY c0 b4)=full bD (bD[i]).t:=by
 unfold full
 have e:dE bD (.mk bi aY c0 b4)=dE (bD.drop i) (.mk bi aY c0 b4):=Ai _ i (by omega) (fun j a k d=>g j a (by rw[pF c] at d;exact d.symm))
 have f:dE bD (bD[i]).t=dE (bD.drop (i+1)) (bD[i]).t:=Ai _ (i+1) (by omega) (fun j a k=>h i b j (by omega))
 rw[e,f,tz b]
 subst l
 rw[pC c]
inductive Part (L:List Bi) (w:Ty):Ty→Nat→Prop
 |refl:Part L w w 0
 |tD {k m:Int} {s:ByteArray} {ys:List Ty} {p i:Nat} (h:Part L w (.mk k s m ys) p) (hk:k=1) (hi:i<L.length) (hn:(L[i]).n=m) (hf:∀j (hj:j<i),(L[j]'(by omega)).n≠m):Part L w (L[i]).t p
 |arg {k m:Int} {s:ByteArray} {ys:List Ty} {p i:Nat} (h:Part L w (.mk k s m ys) p) (hk:k≠1) (hi:i<ys.length):Part L w ys[i] (p+1+fe ((ys.map (dE L)).take i))
theorem Aj(a:bi≠1):full bD (.mk bi aY c0 b4)=fe (b4.map (dE bD))+1:=by
 unfold full
 rw[tx a,mB a]
theorem Part.le(e:Good bD){p:Nat}(h:Part bD bC fC p):p+full bD fC≤full bD bC:=by
 induction h with
 |refl=>omega
 |tD h c b f d a=>rw[G7 e c b f d] at a;exact a
 | @arg k m s ys p i h c b a=>
   rw[Aj c] at a
   have g:=pE (dE bD) b
   have j:=ol (ys.map (dE bD)) (i+1)
   unfold full at a⊢
   omega
theorem Part.mono{p:Nat}(h:Part bD bC fC p)(ext:List Bi):∃a,p≤a∧Part (bD++ext) bC fC a:=by
 induction h with
 |refl=>exact⟨0,a9 _,.refl⟩
 | @tD k m s ys p i h d c t o l=>
   obtain⟨a,n,b⟩:=l
   have q:i<(bD++ext).length:=by rw[List.length_append];omega
   have e:(bD++ext)[i]=bD[i]:=List.getElem_append_left c
   refine⟨a,n,?_⟩
   rw[←e]
   exact b.tD d q (by rw[e];exact t) (fun j r=>by rw[List.getElem_append_left (show j<bD.length by omega)];exact o j r)
 | @arg k m s ys p i h d c l=>
   obtain⟨a,n,b⟩:=l
   refine⟨_,?_,b.arg d c⟩
   have:=wa (f:=dE bD) (g:=dE (bD++ext)) (fun fC=>Ah bD ext fC) ys i
   omega
theorem Part.Ak(r:Good bD){p:Nat}(h:Part bD bC fC p):Part bD bC (fX bD fC) p:=by
 have w:∀i,i≤bD.length→Part bD bC (fX (bD.take i) fC) p∧∀k s m ys,fX (bD.take i) fC= .mk k s m ys→k=1→∀j (b:j<i) (l:j<bD.length),(bD[j]).n≠m:=by
  intro i
  induction i with
  |zero=>exact fun _=>⟨h,fun _ _ _ _ _ _ j b=>by omega⟩
  |succ i x=>
   intro C
   have o:i<bD.length:=by omega
   obtain⟨d,f⟩:=x (by omega)
   rw[v7 o]
   generalize fX (bD.take i) fC=u at d f
   obtain⟨k,s,m,ys⟩:=u
   by_cases a:k=1∧(bD[i]).n=m
   ·have e:lR (bD[i]) (.mk k s m ys)=(bD[i]).t:=if_pos a
    rw[e]
    refine⟨d.tD a.1 o a.2 (fun j b=>f k s m ys rfl a.1 j b (by omega)),?_⟩
    intro y A z B g c j b l q
    have:=r i o j (by omega)
    rw[g,pF c] at this
    exact this q.symm
   ·have e:lR (bD[i]) (.mk k s m ys)= .mk k s m ys:=if_neg a
    rw[e]
    refine⟨d,?_⟩
    intro y A z B g c j b l
    obtain⟨rfl,rfl,rfl,rfl⟩:=Ty.mk.inj g
    by_cases v:j=i
    ·subst v;exact fun q=>a ⟨c,q⟩
    ·exact f k s m ys rfl c j (by omega) l
 have:=(w bD.length (a9 _)).1
 rwa[List.take_length] at this
end Go.Proofs.YthnogncknmhgoaaGreat.Vm
namespace Go.Proofs.YthnogncknmhgoaaGreat.Vm
open ChangeShapes WideShapes ChangeAt RowKit bq Data
variable{cj:Act}{aj bj:LV}{aI:List Nat}{ae ao aX eO:Nat}{a0:Nat→Nat}{aA:OA}{cW:Type}{ah:Wd}
section
variable{C:er}{S:St}{R:Wd}{ty:TypeId}{d:Nat}
theorem Rel.G8(h:Rel C S R a0 cj ah)(e:TypeId)(cells:Array Vl)(cs:LV)(l:∀(j:Nat) (u:Vl),cs[j]?=some u→cells[j]?=some u):
 Rel C S (add R ah.heap.size cs) a0 cj (ah.alloc (.cells cells e))∧Sub R (add R ah.heap.size cs):=by
 have g:=iG.alloc ah (.cells cells e)
 have c:=h.own.k5 g
 have n:∀o,R.cell? ⟨ah.heap.size,o,none⟩=none:=by
  intro o
  cases i:R.cell? ⟨ah.heap.size,o,none⟩ with
  |none=>rfl
  |some u=>
   have:=World.block_lt_of_cell? ah _ (h.own.b9 _ _ _ i).1
   simp only at this
   omega
 have d:Sub R (add R ah.heap.size cs):=by
  intro b o u hu
  rw[hO]
  by_cases a:b=ah.heap.size
  ·subst a;rw[n] at hu;cases hu
  ·rw[if_neg a];exact hu
 refine⟨⟨h.size,h.defers,h.slot,h.lt,⟨c.box,c.inj,c.row,c.apart,c.rows,?_⟩,?_,h.fO,h.rowAt,h.nb,h.fP⟩,d⟩
 ·intro b o u hu
  rw[hO] at hu
  by_cases a:b=ah.heap.size
  ·subst a
   rw[if_pos rfl] at hu
   refine⟨?_,fun k m e1=> ?_,fun r p e1=> ?_⟩
   ·have:=heap_alloc_new ah (.cells cells e)
    unfold World.cell?
    simp only[this]
    simpa using l _ _ hu
   ·have:=h.own.ii m
    omega
   ·have:=iH (h.own.row r p) e1
    omega
  ·rw[if_neg a] at hu
   exact c.b9 b o u hu
 ·have f:=h.cg.k5 g
  refine⟨f.os,f.tape,f.output,f.size,f.g6,fun b o u a hu=> ?_,f.sub.trans d⟩
  rw[hO] at hu
  have:b≠ah.heap.size:=by have:=h.cg.size;omega
  rw[if_neg this] at hu
  exact h.cg.fN b o u a hu
theorem An{x y:Operand}{n:Nat}{g m c:Nat}(I:dO ae ao aX eO)(O:ev S x=some (.val (.slice aA n n)))(Q:ev S y=some (.val (.slice (some ⟨g,0,none⟩) m c)))
 (l:Src R aX aA n aj) (F:aA=none→n=0) (p:Src R aX (some ⟨g,0,none⟩) m bj) (A:0<m) (E:n+m≤1000000000) (Y:eO≤100000) (H:d<C.N):
 jA C S R (some d) (.call {callee:= .builtin .append,args:=#[x,y],argTypes:=#[ae,ae]}) ty fun S' R'=>∃v cap,S'={S with bW:=(d,.val (.slice (some ⟨v,0,none⟩) (n+m) cap))::S.bW}∧
  n+m≤cap∧cap≤9223372036854775807∧Src R' aX (some ⟨v,0,none⟩) (n+m) (aj++bj):=by
 intro ad a W pos af V h
 obtain⟨i,z,hu,w,D,_,_,M,X⟩:=I.spec
 have e1:=h.eval O
 have e2:=h.eval Q
 simp only[AV.den] at e1 e2
 subst M
 have B:∀j u,bj[j]?=some u→W.cell? ((⟨g,0,none⟩:Addr).add j)=some u:=by
  intro j u e
  rcases p.2 with f|⟨b,o,e3,q⟩
  ·exact absurd f (Nat.ne_of_gt A)
  ·cases e3
   rw[kp]
   exact(h.own.b9 _ _ _ (q j u e)).1
 have L:(n+m)*i.bytes≤1000000000*100000:=Nat.mul_le_mul E (by omega)
 have K:(aj++bj).length=(n+m)*i.size:=by rw[List.length_append,l.1,p.1,Nat.add_mul]
 have s:∃cells:Array Vl,(Builtin.append_ #[ae,ae] ty #[.slice aA n n,.slice (some ⟨g,0,none⟩) m c]).run prog W= .ok (.slice (some ⟨W.heap.size,0,none⟩) (n+m) (grownCap W (n+m) n ao)) (W.drew.alloc (.cells cells ao))∧∀(j:Nat) (u:Vl),(aj++bj)[j]?=some u→cells[j]?=some u:=by
  cases aA with
  |none=>
   have f:=F rfl
   subst f
   have r:aj=[]:=List.eq_nil_of_length_eq_zero (by rw[l.1,Nat.zero_mul])
   subst r
   rw[Nat.zero_add] at L⊢
   refine⟨_,run_append_nil (P:=prog) W ae ty ao i z hu w D _ m c bj p.1 B A (by omega) (by omega),fun j u e=> ?_⟩
   rw[List.nil_append] at e
   rw[Array.getElem?_append_left (by simpa using(List.getElem?_eq_some_iff.1 e).1)]
   simpa using e
  |some t=>
   have holds:∀j u,aj[j]?=some u→W.cell? (t.add j)=some u:=by
    intro j u e
    rcases l.2 with f|⟨b,o,e3,q⟩
    ·have r:aj=[]:=List.eq_nil_of_length_eq_zero (by rw[l.1,f,Nat.zero_mul])
     subst r
     simp at e
    ·cases e3
     rw[kp]
     exact(h.own.b9 _ _ _ (q j u e)).1
   refine⟨_,run_append_grow (P:=prog) W ae ty ao i z hu w D t n n aj l.1 holds _ m c bj p.1 B (by omega) (by omega) (growslice_fits (by omega) (by omega)),fun j u e=> ?_⟩
   rw[Array.getElem?_append_left (by have:=(List.getElem?_eq_some_iff.1 e).1;simpa using this)]
   have ao:aj.toArray++bj.toArray=(aj++bj).toArray:=by simp
   rw[ao]
   simpa using e
 obtain⟨cells,s,G⟩:=s
 obtain⟨T,U⟩:=(h.drew).G8 ao cells (aj++bj) G
 have J:=grownCap_ge W (n+m) n ao
 have hle:=grownCap_le_maxLen W (n+m) n ao (by unfold maxLen;omega)
 unfold maxLen at hle
 refine⟨.value (.slice (some ⟨W.heap.size,0,none⟩) (n+m) (grownCap W (n+m) n ao)),W.drew.alloc (.cells cells ao),a.put (some d) (.slice (some ⟨W.heap.size,0,none⟩) (n+m) (grownCap W (n+m) n ao)),?_,.inl ⟨_,rfl,rfl⟩,_,add R W.heap.size (aj++bj),ad,⟨W.heap.size,_,rfl,J,by omega,K,.inr ⟨_,0,rfl,fun j u e=> ?_⟩⟩,U,T.put (x:= .val (.slice (some ⟨W.heap.size,0,none⟩) (n+m) (grownCap W (n+m) n ao))) H (fun k o ao=>by cases ao),fun _ _=>rfl⟩
 ·simp[execOp,resolve,invoke,builtin,e1,e2,s,Result.andThen]
 ·rw[hO,if_pos rfl,Nat.zero_add];exact e
end
section
variable{C:er}{ops:Array Oper}{Q:Exit→Act→Wd→Prop}{sl:List (Nat×AV)}{bx:List Bx}{rw:List bU}{R:Wd}{d:Nat}{ty:TypeId}{pos:String}{af:Array Edge}{K:HK}{S0:St}{R0:Wd}{aq:Nat→Nat}{ay:Nat}{aN:Array Bool}
theorem Ao{i:Nat}{x y:Operand}{n:Nat}{nk:LV}{g m c:Nat}{news:LV}(q:ops[i]?=some ⟨some d,.call {callee:= .builtin .append,args:=#[x,y],argTypes:=#[ae,ae]},ty,pos,af,none⟩)
 (p:dO ae ao aX eO) (w:ev ⟨sl,bx,rw⟩ x=some (.val (.slice aA n n))) (z:ev ⟨sl,bx,rw⟩ y=some (.val (.slice (some ⟨g,0,none⟩) m c)))
 (u:Src R aX aA n nk) (j:aA=none→n=0) (v:Src R aX (some ⟨g,0,none⟩) m news) (r:0<m) {n1:Nat} (s:n1=n+m) (h:n1≤1000000000) (l:Nat.ble eO 100000=true) (o:Nat.blt d C.N=true)
 (k:∀a cap R',Sub R R'→n1≤cap→cap≤9223372036854775807→Src R' aX (some ⟨a,0,none⟩) n1 (nk++news)→
   VA C K S0 R0 aq ops Q ay (aN.setIfInBounds i true) ⟨(d,.val (.slice (some ⟨a,0,none⟩) n1 cap))::sl,bx,rw⟩ R')
 (t:fq C K S0 R0 aq ops Q ay aN ⟨sl,bx,rw⟩ R aI):fq C K S0 R0 aq ops Q ay aN ⟨sl,bx,rw⟩ R (i::aI):=by
 subst s
 refine o7 (S:=⟨sl,bx,rw⟩) q (An (S:=⟨sl,bx,rw⟩) p w z u j v r h (Nat.le_of_ble_eq_true l) (dn o)) ?_ ?_ t
 ·rintro S' R' ⟨a,cap,rfl,b⟩
  exact⟨a9 _,fun _ _=>rfl⟩
 ·rintro S' R' ⟨a,cap,rfl,b,h3,e⟩ f
  exact k a cap R' f b h3 e
end
theorem a6.clip{P:Wd→cW→LV→Prop}{l:List cW}{c:Nat}(E:eR P ae)(h:cF aA l.length c)(m:a5 P ae ah aA l):
 ∃a,sliced aA 0 l.length l.length ae= .slice a l.length l.length∧(a=none→l.length=0)∧a5 P ae ah a l:=by
 obtain⟨xs,f,j⟩:=m
 obtain⟨n,_,h3,i⟩:=h
 refine⟨if l.length=0 then aA else aA.map (·.add (0*ae)),rfl,fun e=> ?_,xs,⟨f.1,?_⟩,j⟩
 ·have:aA=none:=by
   split at e
   ·exact e
   ·simpa using e
  have:=i this
  omega
 ·rcases f.2 with g|⟨b,o,e,k⟩
  ·exact .inl g
  ·by_cases d:l.length=0
   ·exact .inl d
   ·rw[if_neg d]
    refine .inr ⟨b,o,by rw[e];simp only[Option.map_some,kp,Nat.zero_mul,Nat.add_zero],k⟩
end Go.Proofs.YthnogncknmhgoaaGreat.Vm
namespace Go.Proofs.YthnogncknmhgoaaGreat.Vm
open ChangeShapes WideShapes ChangeAt RowKit bq Data Lx
variable{aj:LV}{ak:Md}{bC:Ty}{az:Vl}{ah:Wd}
theorem tE:c7 54 65 7:=by unfold c7;kernel_rfl
theorem Ap:dO 54 65 7 88:=by unfold dO;kernel_rfl
structure Sg where
 s:ByteArray
 a:Int
 n:Int
 t:Ty
def Sg.Cs (R:World) (x:Sg) (c:List Value):Prop:=∃b,c= .string x.s:: .int .i64 x.a:: .int .i64 x.n::b∧(0≤x.n∧x.n≤490000000)∧x.t.Cs R b
theorem tF{s:BA}{a n:Int}(b:0≤n∧n≤490000000)(h:bC.Cs ah aj):Sg.Cs ah ⟨s,a,n,bC⟩ (.string s::zI a::zI n::aj):=⟨aj,rfl,b,h⟩
theorem kG:eR Sg.Cs 7:=by
 refine⟨fun h d=> ?_,fun h=> ?_,fun h u hu=> ?_⟩
 ·obtain⟨b,c,e,a⟩:=h;exact⟨b,c,e,Ty.Cs.sub a d⟩
 ·obtain⟨b,rfl,-,a⟩:=h;simp[a.len]
 ·obtain⟨b,rfl,-,a⟩:=h
  simp only[List.mem_cons] at hu
  rcases hu with rfl|rfl|rfl|hu
  ·rfl
  ·rfl
  ·rfl
  ·exact a.one u hu
theorem rf(h:ak.Ok)(j:Nat):hl ((q4 ak).take j)≤100002:=by
 have a:=vW (q4 ak) j
 have b:hl (q4 ak)=2+hl ak.ds:=by unfold q4 hl;simp
 have h3:=q8 h ak.ds.length
 rw[List.take_length] at h3
 omega
theorem G9(co:Md.Cs ah ak aj)(U:ak.Ok):bd 43 [.agg aj.toArray] ah (fun v R'=>∃(bs:Vl) (o:List Sg),v=bs∧a6 Sg.Cs 7 R' bs o∧(o.length≤100002)):=by
 obtain⟨cY,du⟩:=ak
 obtain⟨cv,cO,cx,cQ,rfl,aZ,bh,a0,bi⟩:=co
 (try dsimp only at aZ bh a0 bi)
 try dsimp only
 refine b5 func43 rfl ntmps43 rfl rfl fun w G ad=> ?_
 refine sV 15 rfl ?_
 refine cN (vN (ez aZ bh a0 bi) U) vL rfl rfl ?_
 rintro _ aI _ ⟨_,O,rfl,⟨cw,cP,rfl,ce,cq⟩,ao⟩
 refine rL 5 rfl ?_
 refine gN 65 7 ?_
 have c3:=fR ce
 refine lK (ι:=Wd×Nat×List Sg×LV×OA×Nat) [2,14,15] 1 rfl (fun(x,b,g,ac,H,z)=>(⟨[(3,.val (.slice H g.length z)),(16,.val (zI b))],[],[⟨.slice H g.length z,g.length,ac,65,7⟩]⟩,x,Sub aI x∧(aL Sg.Cs x g ac∧Src x 7 H g.length ac∧g.length≤z∧z≤9223372036854775807∧(H=none→z=0))∧b≤O.length∧True∧(g.length≤hl (O.take b)),O.length -b)) (aI,0,[],[],none,0) rfl rfl [1] rfl ?_ ?_
 exact⟨sR,⟨gr,⟨rfl,.inl rfl⟩,Nat.le_refl _,by decide,fun _=>rfl⟩,Nat.zero_le _,trivial,(by simp)⟩
 rintro⟨x,b,g,ac,H,z⟩ ⟨bq,⟨aS,br,ba,aR,aM⟩,_,_,dj⟩
 show V _ _ _ ⟨_,_,_⟩ x
 refine rV 6 rfl ?_
 cases b1:(decide ((b:Int)<(O.length:Int)))
 refine rV 13 rfl ?_
 exact cH results43 (aT rfl) ⟨rfl,_,_,rfl,(dp ⟨ba,aR,by(have f:=rf U b;rw[←ao] at f;omega),aM⟩ (cz br aS)),(by have f:=rf U b;rw[←ao] at f;omega)⟩
 have aE:=cX b1
 refine rV 7 rfl ?_
 obtain⟨cK,ds,_,bE,⟨aG,d,au,dn,cW⟩,bK,⟨cA,cT,cu,cM,rfl,al,bk,aY,be⟩,b4⟩:=cn eI (aC eI cq bq) b aE
 (try dsimp only at al bk aY be)
 refine vp (a3 bE rfl rfl aE pz) rfl (vp (cl rfl b4 rfl) rfl (rL 8 rfl (vp (bJ (vs:=[(0,zI 2),(1,.string aG)]) (v:= .agg #[zI 2,.string aG,zI 0,zS]) rfl (fun W=>by kernel_rfl)) rfl (rL 14 rfl ?_))))
 refine gN 36 4 ?_
 refine fl _ (List.Perm.swap _ _ _) ?_
 refine fl _ (List.Perm.swap _ _ _) ?_
 have c8:=fR al
 refine lK (ι:=Wd×Nat×List Ty×LV×OA×Nat) [2,3,5,6,14,15,16,25] 2 rfl (fun(y,t,c,F,K,B)=>(⟨[(26,.val (zI t))],[(36,[zI 2,.string aG,zI 0,.slice K c.length B])],[⟨.slice K c.length B,c.length,F,36,4⟩,⟨.slice H g.length z,g.length,ac,65,7⟩]⟩,y,Sub x y∧(aL Ty.Cs y c F∧Src y 4 K c.length F∧c.length≤B∧B≤9223372036854775807∧(K=none→B=0))∧t≤d.length∧c.length≤t,d.length -t)) (x,0,[],[],none,0) rfl rfl [1,1] rfl ?_ ?_
 refine ww 3 ?_
 rotate_left
 rintro⟨y,t,c,F,K,B⟩ ⟨Y,⟨aW,ct,cm,b9,bI⟩,df,di⟩
 show V _ _ _ ⟨_,_,_⟩ y
 refine rV 6 rfl ?_
 cases aQ:(decide ((t:Int)<(d.length:Int)))
 have dc:=cS aQ
 refine rV 15 rfl ?_
 refine fl _ (List.Perm.swap _ _ _) ?_
 have c9:hl (O.take (b+1))=hl (O.take b)+au.length:=by have f:=zW aE;rw[←bK] at f;exact f
 have ca:=rf U (b+1);rw[←ao] at ca
 have c5:=fR aY
 refine lK (ι:=Wd×Nat×List Sg×LV×OA×Nat) [2,5,6,14,15,16,38,39] 3 rfl (fun(r,C,Lx,E,I,A)=>(⟨[(3,.val (.slice I Lx.length A)),(40,.val (zI C))],[],[⟨.slice I Lx.length A,Lx.length,E,65,7⟩,⟨.slice K c.length B,c.length,F,36,4⟩]⟩,r,Sub y r∧(aL Sg.Cs r Lx E∧Src r 7 I Lx.length E∧Lx.length≤A∧A≤9223372036854775807∧(I=none→A=0))∧C≤au.length∧True∧(Lx.length≤hl (O.take b)+C),au.length -C)) (y,0,g,ac,H,z) rfl rfl [1,1] rfl ?_ ?_
 exact⟨sR,⟨bg kG Y aS,eL br Y,ba,aR,aM⟩,b2 _,trivial,(by omega)⟩
 rintro⟨r,C,Lx,E,I,A⟩ ⟨an,⟨aU,cr,cj,b7,bG⟩,dd,_,dk⟩
 show V _ _ _ ⟨_,_,_⟩ r
 refine rV 6 rfl ?_
 cases aN:(decide ((C:Int)<(au.length:Int)))
 have da:=cS aN
 refine rV 8 rfl (vp (bA rfl rfl (by omega)) rfl (rL 2 rfl ?_))
 refine dR (r,b+1,Lx,E,I,A) rfl rfl [1] rfl ?_ ?_
 exact⟨bq.trans (ai Y an),⟨aU,cr,cj,b7,bG⟩,by omega,trivial,by omega⟩
 (try dsimp only);omega
 have bb:=cX aN
 refine rV 7 rfl ?_
 obtain⟨cJ,dr,_,bD,⟨m,e,dm,cV⟩,_,⟨cy,cR,rfl,a1,bj⟩,b3⟩:=cn j2 (aC j2 be (ai Y an)) C bb
 (try dsimp only at a1 bj)
 refine vp (a3 bD rfl rfl bb px) rfl (vp (cl rfl b3 rfl) rfl (rL 19 rfl ?_))
 refine gN 36 4 ?_
 refine fl _ ((List.Perm.swap _ _ _).trans (List.Perm.cons _ (List.Perm.swap _ _ _))) ?_
 refine fl _ ((List.Perm.swap _ _ _).trans (List.Perm.cons _ (List.Perm.swap _ _ _))) ?_
 refine fl _ ((List.Perm.swap _ _ _).trans (List.Perm.cons _ (List.Perm.swap _ _ _))) ?_
 have c7:=fR a1
 refine lK (ι:=Wd×Nat×List Ty×LV×OA×Nat) [2,3,5,6,9,14,15,16,38,39,40,45,46] 4 rfl (fun(S,D,i,ae,ag,T)=>(⟨[(10,.val (.slice ag i.length T)),(47,.val (zI D))],[],[⟨.slice ag i.length T,i.length,ae,36,4⟩,⟨.slice I Lx.length A,Lx.length,E,65,7⟩,⟨.slice K c.length B,c.length,F,36,4⟩]⟩,S,Sub r S∧(aL Ty.Cs S i ae∧Src S 4 ag i.length ae∧i.length≤T∧T≤9223372036854775807∧(ag=none→T=0))∧D≤e.length∧i.length≤D,e.length -D)) (r,0,[],[],none,0) rfl rfl [1,1,1] rfl ?_ ?_
 refine ww 3 ?_
 rotate_left
 rintro⟨S,D,i,ae,ag,T⟩ ⟨X,⟨aV,cs,ck,b8,bH⟩,de,dh⟩
 show V _ _ _ ⟨_,_,_⟩ S
 refine rV 6 rfl ?_
 cases aO:(decide ((D:Int)<(e.length:Int)))
 have db:=cS aO
 refine rV 6 rfl ?_
 refine bZ mixed (fun k=>k==1||k==2||k==3) fun aq=> ?_
 refine bL [0,1,2,3,4,5,6,7,8,9,10] rfl (by kernel_rfl) id (a7 [11] (by kernel_rfl) rfl ?_)
 refine dK rfl (tw (dp ⟨ck,b8,by(have f:=rf U b;rw[←ao] at f;omega),bH⟩ (cz cs aV)) (aP ⟨cm,b9,by(have f:=rf U b;rw[←ao] at f;omega),bI⟩ (aC a2 (cz ct aW) (ai an X)))) q9 rfl rfl ?_ bf
 rintro _ cF bo ⟨⟨j,p,l,q⟩,_,rfl,⟨J,L,rfl,a5,ax⟩⟩
 replace ax:=a8.1 ax
 refine vt 12 rfl (bJ (vs:=[(0,zI d.length),(1,.agg #[zI j,.string p,zI l,.slice J q.length L])]) (v:= .agg #[zI d.length,zI j,.string p,zI l,.slice J q.length L]) rfl (fun W=>by kernel_rfl)) rfl (by kernel_rfl) id (vt 13 rfl (bJ (vs:=[(0,.string m),(1,zI e.length),(2,.agg #[zI d.length,zI j,.string p,zI l,.slice J q.length L])]) (v:= .agg #[.string m,zI e.length,zI d.length,zI j,.string p,zI l,.slice J q.length L]) rfl (fun W=>by kernel_rfl)) rfl (by kernel_rfl) id (a7 [14] (by kernel_rfl) rfl ?_))
 refine eW tE rfl ?_ bf
 intro c1 cG az cc
 refine Ft _ ((List.Perm.swap _ _ _).trans (List.Perm.cons _ (List.Perm.swap _ _ _))) ?_
 refine a7 [15] (by kernel_rfl) rfl ?_
 refine fW (news:=[.string m,zI e.length,zI d.length,zI j,.string p,zI l,.slice J q.length L]) rfl Ap rfl rfl (cd rfl cc) (fun h=>by cases h) (fun u hu=>kG.one (tF (s:=m) (a:=(e.length:Int)) (n:=(d.length:Int)) (by have f:=al.2.2.1;omega) (aP a5 (aC a2 ax az))) u hu) (n1:=(Lx++ [(⟨m,(e.length:Int),(d.length:Int),(.mk j p l q:Ty)⟩:Sg)]).length) (by(try simp only[ll])<;>omega) (by(try simp only[ll]);omega) rfl rfl ?_ bf
 intro bv bC aK bp bW bX bY b0
 have ci:aL Sg.Cs aK (Lx++ [(⟨m,(e.length:Int),(d.length:Int),(.mk j p l q:Ty)⟩:Sg)]) (E++ [.string m,zI e.length,zI d.length,zI j,.string p,zI l,.slice J q.length L]):=bg kG bp (c6 (bg kG (ai (ai X bo) az) aU) (c4 (tF (s:=m) (a:=(e.length:Int)) (n:=(d.length:Int)) (by have f:=al.2.2.1;omega) (aP a5 (aC a2 ax az)))))
 refine bL [16] rfl (by kernel_rfl) id (bS (by kernel_rfl) (rD 3 rfl (vp (bA rfl rfl (by omega)) rfl (rL 2 rfl ?_))))
 refine dR (aK,C+1,(Lx++ [(⟨m,(e.length:Int),(d.length:Int),(.mk j p l q:Ty)⟩:Sg)]),(E++ [.string m,zI e.length,zI d.length,zI j,.string p,zI l,.slice J q.length L]),bv,bC) rfl rfl [1,0,0,1] rfl ?_ ?_
 exact⟨an.trans (ai (ai (ai X bo) az) bp),⟨ci,b0,bW,bX,bY⟩,by omega,trivial,by simp only[ll];omega⟩
 (try dsimp only);omega
 have bc:=cX aO
 refine rV 7 rfl ?_
 obtain⟨cL,dt,_,bF,⟨dl,dv,dq,dw⟩,_,⟨cB,cU,rfl,cf,aF⟩,b6⟩:=cn a2 (aC a2 bj X) D bc
 replace aF:=a8.1 aF
 refine vp (a3 bF rfl rfl bc e6) rfl (vp (cl rfl b6 rfl) rfl (rL 9 rfl ?_))
 refine cN (GK (aP cf aF) (dp al (aC bT bk (ai (ai Y an) X)))) vX rfl rfl ?_
 rintro _ cD bm ⟨⟨Z,ab,aa,af⟩,_,rfl,⟨aA,aB,rfl,a4,aw⟩⟩
 replace aw:=a8.1 aw
 refine et e6 rfl ?_
 intro c0 cE ay cb
 refine gO ?_
 refine j4 (news:=[zI Z,.string ab,zI aa,.slice aA af.length aB]) m8 rfl rfl (cd rfl cb) (fun h=>by cases h) (fun u hu=>a2.one (aP a4 (aC a2 aw ay)) u hu) (n1:=(i++ [(.mk Z ab aa af:Ty)]).length) (by(try simp only[ll])<;>omega) (by(try simp only[ll]);omega) rfl rfl ?_
 intro bu bB aJ bn bQ bR bU bV
 have ch:aL Ty.Cs aJ (i++ [(.mk Z ab aa af:Ty)]) (ae++ [zI Z,.string ab,zI aa,.slice aA af.length aB]):=bg a2 bn (c6 (bg a2 (ai bm ay) aV) (c4 (aP a4 (aC a2 aw ay))))
 refine rL 5 rfl (vp (bA rfl rfl (by omega)) rfl (rL 2 rfl ?_))
 refine dR (aJ,D+1,(i++ [(.mk Z ab aa af:Ty)]),(ae++ [zI Z,.string ab,zI aa,.slice aA af.length aB]),bu,bB) rfl rfl [1,0,1,1] rfl ?_ ?_
 exact⟨X.trans (ai (ai bm ay) bn),⟨ch,bV,bQ,bR,bU⟩,by omega,by simp;omega⟩
 (try dsimp only);omega
 have dg:=cX aQ
 refine rV 11 rfl ?_
 refine bZ mixed (fun k=>false) fun aq=> ?_
 refine bL [0,2] rfl (by kernel_rfl) id (a7 [1,3] (by kernel_rfl) rfl ?_)
 refine av rfl ?_ ?_
 refine a7 [3] (by kernel_rfl) rfl ?_
 refine dK rfl (lS (t:Int)) lc rfl rfl ?_ bf
 rintro _ bx -⟨cp,⟨⟨N,Q,P,R⟩,_,rfl,⟨ap,ar,rfl,aD,M⟩,_⟩⟩
 subst bx
 replace M:=a8.1 M
 refine ww 1 ?_
 rotate_left
 refine dK rfl (lS (t:Int)) lc rfl rfl ?_ bf
 rintro _ bw -⟨cp,⟨⟨N,Q,P,R⟩,_,rfl,⟨ap,ar,rfl,aD,M⟩,_⟩⟩
 subst bw
 replace M:=a8.1 M
 refine a7 [1,4] (by kernel_rfl) rfl ?_
 refine av rfl ?_ ?_
 refine ww 1 ?_
 rotate_left
 refine eW e6 rfl ?_ bf
 intro cZ cC am aX
 refine bL [1001] rfl (by kernel_rfl) id (ww 2 ?_)
 rotate_left
 any_goals
  refine uw 1 ?_
  refine a7 [4] (by kernel_rfl) rfl ?_
  refine eW e6 rfl ?_ bf
  intro c2 cI am aX
  refine ww 2 ?_
  rotate_left
 any_goals
  refine uw 2 ?_
  refine iJ ?_
  refine a7 [5] (by kernel_rfl) rfl ?_
  refine fW (news:=[zI N,.string Q,zI P,.slice ap R.length ar]) rfl m8 rfl rfl (cd rfl aX) (fun h=>by cases h) (fun u hu=>a2.one (aP aD (aC a2 M am)) u hu) (n1:=(c++ [(.mk N Q P R:Ty)]).length) (by(try simp only[ll])<;>omega) (by(try simp only[ll]);omega) rfl rfl ?_ bf
  intro bt bz aH bl bM bN bO bP
  have cg:aL Ty.Cs aH (c++ [(.mk N Q P R:Ty)]) (F++ [zI N,.string Q,zI P,.slice ap R.length ar]):=bg a2 bl (c6 (bg a2 am aW) (c4 (aP aD (aC a2 M am))))
  refine bL [6,1007] rfl (by kernel_rfl) id (bS (by kernel_rfl) (rD 3 rfl (vp (bA rfl rfl (by omega)) rfl (rL 2 rfl ?_))))
  refine dR (aH,t+1,(c++ [(.mk N Q P R:Ty)]),(F++ [zI N,.string Q,zI P,.slice ap R.length ar]),bt,bz) rfl rfl [1,0,1] rfl ?_ ?_
  exact⟨Y.trans (ai am bl),⟨cg,bP,bM,bN,bO⟩,by omega,by simp;omega⟩
  (try dsimp only);omega
 any_goals
  refine uw 3 ?_
  exact⟨sR,⟨gr,⟨rfl,.inl rfl⟩,a9 _,by decide,fun _=>rfl⟩,b2 _,b2 _⟩
theorem Aq:cr 75 true 6:=by unfold cr;kernel_rfl
theorem lT:c7 66 75 6:=by unfold c7;kernel_rfl
structure Pl where
 s:ByteArray
 t:Ty
 n:Int
def Pl.Cs (R:World) (x:Pl) (c:List Value):Prop:=∃a,c= .string x.s::(a++ [.int .i64 x.n])∧(0≤x.n∧x.n≤490000000)∧x.t.Cs R a
theorem kH{s:BA}{n:Int}(a:0≤n∧n≤490000000)(h:bC.Cs ah aj):Pl.Cs ah ⟨s,bC,n⟩ (.string s::(aj++ [zI n])):=⟨aj,rfl,a,h⟩
theorem eE:eR Pl.Cs 6:=by
 refine⟨fun h d=> ?_,fun h=> ?_,fun h u hu=> ?_⟩
 ·obtain⟨b,c,e,a⟩:=h;exact⟨b,c,e,Ty.Cs.sub a d⟩
 ·obtain⟨b,rfl,-,a⟩:=h;simp[a.len]
 ·obtain⟨b,rfl,-,a⟩:=h
  rcases dX.1 hu with rfl|hu
  ·rfl
  ·rcases fM.1 hu with hu|hu
   ·exact a.one u hu
   ·rw[List.mem_singleton] at hu;subst hu;rfl
variable{hS:List Pl}
theorem tG(o:a6 Pl.Cs 6 ah az hS)(s:BA):bd 72 [az,.string s] ah (fun v R'=>R'=ah∧∃(r:Pl) (e:LV) (b:Bool),v= .tuple #[.agg e.toArray,.bool b]∧Pl.Cs ah r e):=by
 obtain⟨Al,dA,rfl,m,p⟩:=o
 have y:hS.length≤490000000:=m.2.2.1
 refine b5 func72 rfl ntmps72 rfl rfl fun w G ad=> ?_
 refine sV 11 rfl (vp (h0 rfl rfl rfl (by omega) (by omega)) rfl (rL 4 rfl ?_))
 refine lK (ι:=Nat) [0,1,4,5] 1 rfl (fun(a)=>(⟨[(6,.val (zI ((a:Int) -1)))],[],[]⟩,ah,(a≤hS.length),a)) (hS.length) rfl rfl [] rfl ?_ ?_
 exact(a9 _)
 rintro a B
 show V _ _ _ ⟨_,_,_⟩ ah
 refine rV 7 rfl ?_
 cases l:(decide (((a:Int) -1)≥0))
 refine rV 8 rfl (vp (bJ (vs:=[]) (v:= .agg #[.string ⟨#[]⟩,zI 0,.string ⟨#[]⟩,zI 0,zS,zI 0]) rfl (fun W=>by kernel_rfl)) rfl (rL 5 rfl ?_))
 exact cB results72 (aK rfl rfl Aq) (aT rfl) ⟨rfl,rfl,_,_,false,rfl,(kH (s:=(⟨#[]⟩:BA)) (n:=0) ⟨by decide,by decide⟩ (aP eg (ew (P:=Ty.Cs) (size:=4) _)))⟩
 have A:=of_decide_eq_true l
 obtain⟨d,rfl⟩:∃j,a=j+1:=⟨a -1,by omega⟩
 rw[show(((d+1:Nat):Int) -1)=(d:Int) by omega]
 refine rV 9 rfl ?_
 obtain⟨u,E,_,f,⟨i,⟨C,F,D,H⟩,q⟩,_,⟨_,rfl,k,⟨t,x,rfl,h,c⟩⟩,g⟩:=cn eE p d (by omega)
 replace c:=a8.1 c
 (try dsimp only at h c)
 refine vp (a3 f rfl rfl (by omega) lT) rfl (rL 1 rfl (vp (dT rfl fx (g 0 _ rfl)) rfl (rL 4 rfl ?_)))
 cases z:(i.toList==s.toList)
 refine rV 6 rfl (vp (h0 rfl rfl rfl (by omega) (by omega)) rfl (rL 2 rfl ?_))
 refine dR (d) rfl rfl [] rfl ?_ ?_
 exact by omega
 (try dsimp only);omega
 refine rV 5 rfl (vp (a3 f rfl rfl (by omega) lT) rfl (vp (cl rfl g rfl) rfl (rL 10 rfl ?_)))
 exact cB results72 (aK rfl rfl Aq) (aT rfl) ⟨rfl,rfl,_,_,true,rfl,(kH (s:=i) (n:=q) k (aP h c))⟩
end Go.Proofs.YthnogncknmhgoaaGreat.Vm
namespace Go.Proofs.YthnogncknmhgoaaGreat.Vm
open ChangeShapes WideShapes ChangeAt RowKit bq Data
variable{bQ:Array Bool}{ky:Array Edge}{dk:Array Oper}{c8:Array Operand}{fi:Array TypeId}{hB:er}{dy:Exit→Act→Wd→Prop}{dx:Func}{bk:FuncId}{il:HK}{aj bj:LV}{bu:List (Nat×AV)}{aS lF:List Bx}{aI:List Nat}{gb:List Oper}{aV:List bU}{ae ao:Nat}{a0:Nat→Nat}{bI:St}{kx:String}{aH ci:TypeId}{lU:Vl→LV→List bU→Wd→Prop}{ah bR:Wd}
section
variable{S:St}{R:Wd}{K:Nat→Bool}{ty:TypeId}
theorem tH{x:Operand}(b:ev S x=some (.ptr ae ao)):bO K S R (.nilCheck x) ty (.ptr ae ao):=by
 refine⟨fun h i e=> ?_,fun ad a W dst pos af f d g=> ?_⟩
 ·cases e
  cases x with
  |tmp t=>exact .inr ⟨t,.inr ⟨ao,b⟩⟩
  |_=>cases b
 ·have c:=d.eval b
  simp only[AV.den] at c
  simp[execOp,c,AV.den]
end
def iL (F:FuncId) (args:List Value) (T:Nat) (cs:List Value) (ts:List bU) (R:World) (eP:Value→List Value→List bU→World→Prop):Prop:=
 Spec F (.ptr 0 0::args.map .val) [(T,cs)] ts R fun v bs b R'=>∃a,bs=[(T,a)]∧eP v a b R'
theorem kI{c:Code}(e:prog.funcs[bk]?=some dx)(d:dx.body=some c)(f:dx.ntmps=ae)(b:Nat.ble (aj.length+1) ae=true)
 (g:ij 1 (ik (.ptr 0 0::aj.map .val) 0)=true) (h:∀(w:Wd) (G:Nat→Prop) (ad:Nat→Nat),V ⟨ae,w,ah,G,1,ad⟩ c (bodyPost prog dx (End ⟨ae,w,ah,G,1,ad⟩ fun v bs i R'=>∃a,bs=[(ao,a)]∧lU v a i R')) ⟨ik (.ptr 0 0::aj.map .val) 0,[(ao,bj)],aV⟩ ah):iL bk aj ao bj aV ah lU:=
 sM e d f (by rw[List.length_cons,List.length_map];exact Nat.le_of_ble_eq_true b) rfl g h
theorem ep{rw:List bU}{d:Nat}{kb T:Nat}{ts rs:List bU}(m:iL bk aj T bj ts ah lU)(g:aF bk)(n:fb ⟨bu,aS,rw⟩ c8 (.ptr kb 0::aj.map .val))
 (j:aS[kb]?=some (T,bj)) (l:rw=ts++rs) (i:Nat.blt d hB.N=true)
 (k:∀v a b R',Sub ah R'→lU v a b R'→VL hB dk dy gb ⟨(d,.val v)::bu,aS.set kb (T,a),b++rs⟩ R'):VL hB dk dy (⟨some d,.call {callee:= .value (.func bk),args:=c8,argTypes:=fi},aH,kx,ky,none⟩::gb) ⟨bu,aS,rw⟩ ah:=by
 refine EO (S:=⟨bu,aS,rw⟩) (kb:=kb) m g ?_ j l (dn i) (fun v x b R' c f=> ?_)
 have e:(AV.ptr 0 0::aj.map AV.val).map (AV.at kb)= .ptr kb 0::aj.map .val:=by
  rw[List.map_cons,List.map_map]
  rfl
 rw[e]
 exact n
 obtain⟨a,e,h⟩:=c
 cases e
 exact k v a b R' f h
theorem Ha{rw:List bU}{d:Nat}{i:Nat}(m:Nat)(cm:List Bx)(g:dk[i]?=some ⟨some d,.alloc ci,aH,kx,ky,none⟩)(n:eQ ci aj)(j:aS.length=m)(c:aS++ [(ci,aj)]=cm)(f:Nat.blt d hB.N=true)(b:hold il (bQ.setIfInBounds i true) m=false)
 (o:VA hB il bI bR a0 dk dy ae (bQ.setIfInBounds i true) ⟨(d,.ptr m 0)::bu,cm,rw⟩ ah) (l:fq hB il bI bR a0 dk dy ae bQ ⟨bu,aS,rw⟩ ah aI):fq hB il bI bR a0 dk dy ae bQ ⟨bu,aS,rw⟩ ah (i::aI):=by
 subst j c
 refine o7 (S:=⟨bu,aS,rw⟩) g (sI (S:=⟨bu,aS,rw⟩) n (dn f)) ?_ ?_ l
 ·rintro S' R' ⟨rfl,rfl⟩
  refine⟨by simp,fun k a=> ?_⟩
  have p:k≠aS.length:=fun e=>by subst e;rw[b] at a;cases a
  by_cases h:k<aS.length
  ·exact List.getElem?_append_left h
  ·show(aS++ [(ci,aj)])[k]?=aS[k]?
   rw[List.getElem?_eq_none (by simp;omega),List.getElem?_eq_none (by omega)]
 ·rintro S' R' ⟨rfl,rfl⟩ _
  exact o
theorem kJ{rw:List bU}{ay i d m:Nat}(h:s3 dk hB.N (fun L k=>hold il L k) i bQ aS=some (d,m,lF))(g:VA hB il bI bR a0 dk dy ay (bQ.setIfInBounds i true) ⟨(d,.ptr m 0)::bu,lF,rw⟩ ah)(f:fq hB il bI bR a0 dk dy ay bQ ⟨bu,aS,rw⟩ ah aI):fq hB il bI bR a0 dk dy ay bQ ⟨bu,aS,rw⟩ ah (i::aI):=by
 obtain⟨T,ty,pos,af,cs,g1,g2,a,b,c,e⟩:=za h
 exact Ha m _ g1 g2 a b c e g f
end Go.Proofs.YthnogncknmhgoaaGreat.Vm
namespace Go.Proofs.YthnogncknmhgoaaGreat.Vm
open ChangeShapes WideShapes ChangeAt RowKit bq Data Lx
variable{aY:BA}{aM:Ex}{bi c0 iX iY:Int}{aj bj og vV Hk:LV}{ec tL:List BA}{bD j7:List Bi}{cC:List Int}{hS:List Pl}{b4:List Ty}{ae ao:Nat}{aA h5:OA}{tm:Prop}{gu:Su}{bC fC we Aw:Ty}{az cM fp hz je:Vl}{ah:Wd}
theorem nl{ts:List bU}(i:0≤bi)(j:bi≤1000000000000000):iL 36 [] 73 [az,zI bi,cM,fp,hz,je,zI c0,zI iX,zI iY] ts ah (fun v c f R'=>R'=ah∧f=ts∧c=[az,zI (bi+1),cM,fp,hz,je,zI c0,zI iX,zI iY]∧∃(t:Ty) (b:LV),v= .agg b.toArray∧Ty.Cs ah t b∧t= .mk 1 ⟨#[]⟩ bi []):=by
 refine kI func36 rfl ntmps36 rfl rfl fun w G ad=> ?_
 refine sV 12 rfl (vp (kv rfl rfl rfl (by omega) (by omega)) rfl (rL 13 rfl (vp (h0 rfl rfl rfl (by omega) (by omega)) rfl ?_)))
 refine be (lS ((bi+1) -1)) lc rfl rfl ?_
 rintro _ ⟨⟨k,m,l,n⟩,_,rfl,⟨g,h,rfl,d,a⟩,e⟩
 replace a:=a8.1 a
 refine rL 4 rfl ?_
 refine dN results36 (aK rfl rfl cD) (ts:=ts) (List.Sublist.refl _) ⟨_,rfl,rfl,rfl,rfl,_,_,rfl,(aP d a),?_⟩
 rw[e,show bi+1 -1=bi by omega]
theorem h6{ts:List bU}(k pl b:Int):iL 18 [zI k,.agg #[zI pl,zI b]] 73 [az,zI bi,cM,fp,hz,je,zI c0,zI iX,zI iY] ts ah (fun v e g R'=>R'=ah∧g=ts∧(∃f d c:Int,e=[az,zI bi,cM,fp,hz,je,zI f,zI d,zI c])∧∃(t:Ty) (a:LV),v= .agg a.toArray∧Ty.Cs ah t a):=by
 refine kI func18 rfl ntmps18 rfl rfl fun w G ad=> ?_
 refine sV 16 rfl ?_
 cases h:(c0==0)
 refine rV 5 rfl (vp (bJ (vs:=[]) (v:= .agg #[zI 0,.string ⟨#[]⟩,zI 0,zS]) rfl (fun W=>by kernel_rfl)) rfl (rL 4 rfl ?_))
 exact dN results18 (aK rfl rfl cD) (ts:=ts) (List.Sublist.refl _) ⟨_,rfl,rfl,rfl,⟨c0,iX,iY,rfl⟩,_,_,rfl,(aP eg (ew (P:=Ty.Cs) (size:=4) _))⟩
 refine rV 1 rfl ?_
 refine bZ mixed (fun k=>k==1) fun aq=> ?_
 refine bL [0,1,2,3,4,5,1006,7,8,1009] rfl (by kernel_rfl) id (bS (by kernel_rfl) (rD 3 rfl (vp (bJ (vs:=[]) (v:= .agg #[zI 0,.string ⟨#[]⟩,zI 0,zS]) rfl (fun W=>by kernel_rfl)) rfl (rL 4 rfl ?_))))
 exact dN results18 (aK rfl rfl cD) (ts:=ts) (List.Sublist.refl _) ⟨_,rfl,rfl,rfl,⟨k,pl,b,rfl⟩,_,_,rfl,(aP eg (ew (P:=Ty.Cs) (size:=4) _))⟩
theorem Ar:dO 67 140 5 64:=by unfold dO;kernel_rfl
theorem j6:aF 21:=by unfold aF;kernel_rfl
theorem Au:aF 93:=by unfold aF;kernel_rfl
theorem wc:aF 104:=by unfold aF;kernel_rfl
theorem tI:aF 105:=by unfold aF;kernel_rfl
theorem Av(h: .mk bi aY c0 b4=iu bC)(b:bi≠1):bC= .mk bi aY c0 b4:=by
 obtain⟨c,e,d,f⟩:=bC
 by_cases a:c=1
 ·rw[tA a] at h
  exact absurd (Ty.mk.inj h).1 b
 ·rw[tB a] at h
  exact h.symm
theorem Hb{p:Nat}(a:Good bD)(e:full bD bC≤1000)(b:Part bD bC fC p)(h:1001 -p≤0):tm:=by
 have c:=b.le a
 have d:1≤full bD fC:=oj _
 omega
theorem Hd{a ext b:List Bi}{p B i:Nat}(h:Good a)(k:Part a bC fC p)(f: .mk bi aY c0 b4=iu (fX a fC))(e:bi≠1)(g:b=a++ext)(m:a.length≤B+p)(n:ext.length≤fe ((b4.map (dE b)).take i))(j:i<b4.length):
 ∃c,p+1≤c∧Part b bC b4[i] c∧b.length≤B+c:=by
 subst g
 have d:=k.Ak h
 rw[Av f e] at d
 obtain⟨o,l,h3⟩:=d.mono ext
 refine⟨_,?_,h3.arg e j,?_⟩
 ·omega
 ·rw[List.length_append];omega
theorem He{e ext c b a:List Bi}{i:Nat}{x:Ty}(h:b=e++ext)(d:a=b++c)(h3:ext.length≤fe ((b4.map (dE b)).take i))(j:c.length≤full a x)(k:i<b4.length)(l:x=b4[i]):
 a=e++(ext++c)∧(ext++c).length≤fe ((b4.map (dE a)).take (i+1)):=by
 refine⟨by rw[d,h,List.append_assoc],?_⟩
 rw[pE (dE a) k,←l,List.length_append]
 have m:=wa (f:=dE b) (g:=dE a) (fun t=>by rw[d];exact Ah b c t) b4 i
 unfold full at j
 omega
theorem Hg{a ext b:List Bi}{i:Nat}(h:Good a)(f: .mk bi aY c0 b4=iu (fX a bC))(d:bi≠1)(g:b=a++ext)(j:Good b)(m:ext.length≤fe ((b4.map (dE b)).take i)):ext.length≤full b bC:=by
 subst g
 have c:=(Part.refl (L:=a) (w:=bC)).Ak h
 rw[Av f d] at c
 obtain⟨n,k,h3⟩:=c.mono ext
 have e:=h3.le j
 rw[Aj d] at e
 have l:=ol (b4.map (dE (a++ext))) i
 omega
theorem pH(a:(full bD fC≤1000∧bC=dE bD (iu fC))∨(1000<full bD fC∧bC= .mk 0 ⟨#[]⟩ 0 [])):fv bC≤1000:=by
 rcases a with⟨h,rfl⟩|⟨-,rfl⟩
 ·rw[z2];exact h
 ·rw[mB (by decide),fe];omega
theorem Hh{n:Int}(a:Good bD)(c:(full bD fC≤1000∧bC=dE bD (iu fC))∨(1000<full bD fC∧bC= .mk 0 ⟨#[]⟩ 0 []))(g:∀x,x∈cC↔x∈([]:List Int)∨hI x bC)(b:∀x∈cC.take ae,x≠n)(f:cC.length≤ae)(d:j7=bD++ [⟨n,bC⟩]):Good j7:=by
 subst d
 rw[List.take_of_length_le f] at b
 refine a.append (fun i e=> ?_) (fun h=>b n ((g n).2 (.inr h)) rfl)
 rcases c with⟨-,rfl⟩|⟨-,rfl⟩
 ·exact a.full _ i e
 ·intro h;rw[rb (by decide),iv] at h;exact h
theorem Hi(N:Nat):∀{R:Wd} {cs:LV} {s:Su} (cL:Su.Cs R s cs) {bu:LV} {a:Ty} (ck:Ty.Cs R a bu) {bx:LV} {b:Ty} (cm:Ty.Cs R b bx) {bB:LV} {wh:Ty} (cR:Ty.Cs R wh bB) {bz:LV} {a4:Ty} (cG:Ty.Cs R a4 bz) {B p:Nat} (C:Good s.l) (aj:full s.l wh≤1000) (ar:full s.l a4≤1000) (aw:Part s.l wh a p) (bk:s.l.length≤B+p) (bD:B≤485000000) (bb:1001 -p≤N),bd 93 [.agg cs.toArray,.agg bu.toArray,.agg bx.toArray,.agg bB.toArray,.agg bz.toArray] R (fun v R'=>∃(r:Su) (ci:LV) (k:Bool),v= .tuple #[.agg ci.toArray,.bool k]∧Su.Cs R' r ci∧((k=true→∃ext,r.l=s.l++ext∧Good r.l∧full r.l wh≤1000∧full r.l a4≤1000∧ext.length≤full r.l a)∧r.made=s.made)):=by
 induction N with
 |zero=>
  intros
  rename_i C aj ar aw bk bD bb;exact Hb C aj aw bb
 |succ N eZ=>
  intro R cs s cL bu a ck bx b cm bB wh cR bz a4 cG B p C aj ar aw bk bD bb
  obtain⟨j,a1⟩:=s
  obtain⟨c9,ds,rfl,f,g⟩:=cL
  obtain⟨b0,sa,b2,b3⟩:=a
  obtain⟨fh,fz,rfl,cA,bm⟩:=ck
  obtain⟨kb,e8,nb,fa⟩:=b
  obtain⟨fi,fA,rfl,eo,bQ⟩:=cm
  obtain⟨aD,aG,aE,aI⟩:=wh
  obtain⟨aN,aV,rfl,bK,aY⟩:=cR
  obtain⟨aB,aF,not,aH⟩:=a4
  obtain⟨aJ,aS,rfl,cC,bn⟩:=cG
  (try dsimp only at f g)
  replace bm:=a8.1 bm
  replace bQ:=a8.1 bQ
  replace aY:=a8.1 aY
  replace bn:=a8.1 bn
  dsimp only at C aj ar aw bk
  have f1:=aw.le C
  have ez:=oj (dE j (.mk b0 sa b2 b3:Ty))
  have f2:1≤full j (.mk b0 sa b2 b3:Ty):=ez
  refine b5 func93 rfl ntmps93 rfl rfl fun w G ad=> ?_
  refine sV 11 rfl ?_
  refine cK (ι:=Int×BA×Int×List Ty×OA×Nat×Int×BA×Int×List Ty×OA×Nat) [5,6,7,8,9,10,11] 1 rfl (fun(m,al,e,o,am,aR,q,ae,d,D,af,ao)=>(⟨[],[(36,[zI m,.string al,zI e,.slice am o.length aR]),(36,[zI q,.string ae,zI d,.slice af D.length ao]),(36,[zI aD,.string aG,zI aE,.slice aN aI.length aV]),(36,[zI aB,.string aF,zI not,.slice aJ aH.length aS]),(69,[zS,zI 0])],[]⟩,R,(cF am o.length aR∧a5 Ty.Cs 4 R am o)∧(cF af D.length ao∧a5 Ty.Cs 4 R af D)∧((.mk m al e o:Ty)=iu (fX j (.mk b0 sa b2 b3:Ty))∧(.mk q ae d D:Ty)=iu (fX j (.mk kb e8 nb fa:Ty))))) ?_ ?_
  refine bZ mixed (fun k=>k==0) fun aq=> ?_
  refine bL [0,3] rfl (by kernel_rfl) id (a7 [1,4] (by kernel_rfl) rfl ?_)
  refine av rfl ?_ ?_
  refine a7 [2,4] (by kernel_rfl) rfl ?_
  refine dK rfl (v9 (eK f g) (aP cA bm)) wc rfl rfl ?_ ?_
  rintro _ dc -⟨ax,⟨⟨cW,cZ,cY,c7⟩,_,rfl,⟨b8,ch,rfl,cD,az⟩,cU⟩⟩
  subst dc
  replace az:=a8.1 az
  refine bL [1004] rfl (by kernel_rfl) id (a7 [5] (by kernel_rfl) rfl (ww 11 ?_))
  rotate_left
  refine av rfl ?_ bf
  refine a7 [2] (by kernel_rfl) rfl (ww 9 ?_)
  rotate_left
  refine av rfl ?_ bf
  refine bL [1001] rfl (by kernel_rfl) id (a7 [2] (by kernel_rfl) rfl (ww 9 ?_))
  rotate_left
  rintro⟨m,al,e,o,am,aR,q,ae,d,D,af,ao⟩ ⟨⟨au,ay⟩,⟨bi,aX⟩,cV⟩
  show V _ _ _ ⟨_,_,_⟩ R
  refine rV 7 rfl ?_
  cases cu:(m !=1)
  have eB:m=1:=by simpa using cu
  refine rL 17 rfl ?_
  cases d2:(m==1)
  have bM:=cc d2
  refine rV 7 rfl ?_
  refine be (tt (aP au ay)) tI rfl rfl ?_
  rintro _ ⟨dj,rfl⟩
  refine rL 2 rfl ?_
  cases fP:(dj)
  refine ww 6 ?_
  rotate_left
  refine rL 1 rfl (dJ rfl rfl rfl ?_)
  refine be (tt (aP bi aX)) tI rfl rfl ?_
  rintro _ ⟨dk,rfl⟩
  refine rL 4 rfl ?_
  cases fQ:(dk)
  refine ww 7 ?_
  rotate_left
  refine rV 12 rfl ?_
  cases fS:(m !=q)
  refine rL 7 rfl ?_
  cases fT:(al.toList==ae.toList)
  refine rL 27 rfl (ww 17 ?_)
  rotate_left
  refine rL 7 rfl ?_
  cases fU:(e !=d)
  refine rL 10 rfl ?_
  cases cx:((o.length:Int) !=(D.length:Int))
  refine ww 3 ?_
  rotate_left
  refine rV 10 rfl (ww 17 ?_)
  rotate_left
  refine rL 20 rfl (ww 17 ?_)
  rotate_left
  refine rL 34 rfl (ww 17 ?_)
  rotate_left
  refine rV 8 rfl ?_
  cases ct:(q==1)
  refine ww 1 ?_
  rotate_left
  refine rL 8 rfl ?_
  cases fO:(d==e)
  refine rV 7 rfl (ww 2 ?_)
  rotate_left
  refine ww 20 ?_
  rotate_left
  have eB:m≠1:=by simpa using cu
  refine rL 6 rfl ?_
  cases cw:(q==1)
  have bN:=cc cw
  refine rV 11 rfl ?_
  cases d3:(m==1)
  have bM:=cc d3
  refine rV 7 rfl ?_
  refine be (tt (aP au ay)) tI rfl rfl ?_
  rintro _ ⟨dp,rfl⟩
  refine rL 2 rfl ?_
  cases fV:(dp)
  refine ww 6 ?_
  rotate_left
  refine rL 1 rfl (dJ rfl rfl rfl ?_)
  refine be (tt (aP bi aX)) tI rfl rfl ?_
  rintro _ ⟨dq,rfl⟩
  refine rL 4 rfl ?_
  cases fW:(dq)
  refine ww 7 ?_
  rotate_left
  refine rV 12 rfl ?_
  cases d6:(m !=q)
  have f3:m=q:=by simpa using d6
  refine rL 7 rfl ?_
  cases fY:(al.toList==ae.toList)
  refine rL 27 rfl (ww 18 ?_)
  rotate_left
  refine rL 7 rfl ?_
  cases fZ:(e !=d)
  refine rL 10 rfl ?_
  cases cx:((o.length:Int) !=(D.length:Int))
  refine ww 3 ?_
  rotate_left
  refine rV 10 rfl (ww 18 ?_)
  rotate_left
  refine rL 20 rfl (ww 18 ?_)
  rotate_left
  refine rL 34 rfl (ww 18 ?_)
  rotate_left
  refine rV 8 rfl ?_
  cases ct:(q==1)
  refine ww 1 ?_
  rotate_left
  have eA:=cb ct
  exact absurd eA bN
  have bN:=cb cw
  refine rV 16 rfl ?_
  cases d5:(q==1)
  have eC:=cc d5
  exact absurd bN eC
  refine rV 8 rfl ?_
  cases fM:(m==1)
  refine rL 15 rfl ?_
  refine cN (j5 (eK f g) (aP au ay)) j6 rfl rfl ?_
  rintro _ fp ac ⟨⟨u,z,y,A⟩,_,rfl,⟨ag,ah,rfl,bj,ab⟩,Q⟩
  replace ab:=a8.1 ab
  refine rL 7 rfl ?_
  refine nW 3 1 ?_
  refine kC (tC dL.nil (aP bj ab) (by have E:=pH Q;simp only[List.length_nil];omega)) re rfl rfl ?_
  rintro _ _ br F ⟨b6,I,cf,c3,rfl,rfl,⟨ei,eJ,ev,ed,dN⟩,ak⟩
  refine rL 5 rfl ?_
  have fL:I.length≤490000000:=(show cF _ I.length _ from⟨ev,ed,by have E:=pH Q;have ap:=ak.2;simp only[List.length_nil] at ap;omega,dN⟩).2.2.1
  refine lK (ι:=Nat) [5,6,7,8,9,10,11,50,51] 6 rfl (fun(c)=>(⟨[(52,.val (zI c))],[],[⟨.slice b6 I.length cf,I.length,c3,3,1⟩]⟩,br,c≤I.length∧(∀x∈I.take c,x≠d),I.length -c)) (0) rfl rfl [1] rfl ?_ ?_
  exact⟨Nat.zero_le _,(fun x h=>by simp at h)⟩
  rintro c ⟨_,t⟩
  show V _ _ _ ⟨_,_,_⟩ br
  refine rV 6 rfl ?_
  cases cr:(decide ((c:Int)<(I.length:Int)))
  have bI:=cS cr
  refine rV 6 rfl ?_
  refine cK (ι:=Wd×List Bi×OA×Nat) [5,6,7,8,9,10,11] 0 rfl (fun(L,K,aa,an)=>(⟨[],[(69,[.slice aa K.length an,zI a1]),(36,[zI q,.string ae,zI d,.slice af D.length ao]),(36,[zI u,.string z,zI y,.slice ag A.length ah]),(36,[zI aD,.string aG,zI aE,.slice aN aI.length aV]),(36,[zI aB,.string aF,zI not,.slice aJ aH.length aS]),(69,[zS,zI 0])],[⟨.slice b6 I.length cf,I.length,c3,3,1⟩]⟩,L,Sub br L∧(cF aa K.length an∧a5 Bi.Cs 5 L aa K)∧(K=j++ [⟨d,(.mk u z y A:Ty)⟩]))) ?_ ?_
  refine ww 4 ?_
  rotate_left
  refine ww 5 ?_
  rotate_left
  have O:=cX cr
  refine rV 7 rfl ?_
  obtain⟨fv,gg,fE,dG,bC,bE,dQ,ea⟩:=cn cP (cz eJ ei) c O
  obtain rfl:=dQ
  refine vp (a3 dG rfl rfl O gE) rfl (vp (dT rfl bG (ea 0 _ rfl)) rfl (rL 11 rfl ?_))
  cases cp:(bC==d)
  refine ww 12 ?_
  rotate_left
  refine ww 14 ?_
  rotate_left
  refine rL 8 rfl ?_
  cases fN:(e==d)
  refine rV 7 rfl ?_
  refine cN (j5 (eK f g) (aP au ay)) j6 rfl rfl ?_
  rintro _ fn ac ⟨⟨u,z,y,A⟩,_,rfl,⟨ag,ah,rfl,bj,ab⟩,Q⟩
  replace ab:=a8.1 ab
  refine rL 7 rfl ?_
  refine nW 3 1 ?_
  refine kC (tC dL.nil (aP bj ab) (by have E:=pH Q;simp only[List.length_nil];omega)) re rfl rfl ?_
  rintro _ _ bq F ⟨b4,H,ce,c2,rfl,rfl,⟨eh,eI,eu,ec,dM⟩,ak⟩
  refine rL 5 rfl ?_
  have fI:H.length≤490000000:=(show cF _ H.length _ from⟨eu,ec,by have E:=pH Q;have ap:=ak.2;simp only[List.length_nil] at ap;omega,dM⟩).2.2.1
  refine lK (ι:=Nat) [5,6,7,8,9,10,11,50,51] 6 rfl (fun(c)=>(⟨[(52,.val (zI c))],[],[⟨.slice b4 H.length ce,H.length,c2,3,1⟩]⟩,bq,c≤H.length∧(∀x∈H.take c,x≠d),H.length -c)) (0) rfl rfl [1] rfl ?_ ?_
  exact⟨Nat.zero_le _,(fun x h=>by simp at h)⟩
  rintro c ⟨_,t⟩
  show V _ _ _ ⟨_,_,_⟩ bq
  refine rV 6 rfl ?_
  cases co:(decide ((c:Int)<(H.length:Int)))
  have bI:=cS co
  refine rV 6 rfl ?_
  refine cK (ι:=Wd×List Bi×OA×Nat) [5,6,7,8,9,10,11] 0 rfl (fun(aO,a0,ba,bw)=>(⟨[],[(69,[.slice ba a0.length bw,zI a1]),(36,[zI q,.string ae,zI d,.slice af D.length ao]),(36,[zI u,.string z,zI y,.slice ag A.length ah]),(36,[zI aD,.string aG,zI aE,.slice aN aI.length aV]),(36,[zI aB,.string aF,zI not,.slice aJ aH.length aS]),(69,[zS,zI 0])],[⟨.slice b4 H.length ce,H.length,c2,3,1⟩]⟩,aO,Sub bq aO∧(cF ba a0.length bw∧a5 Bi.Cs 5 aO ba a0)∧(a0=j++ [⟨d,(.mk u z y A:Ty)⟩]))) ?_ ?_
  refine ww 4 ?_
  rotate_left
  rintro⟨aO,a0,ba,bw⟩ ⟨bp,⟨M,P⟩,bY⟩
  show V _ _ _ ⟨_,_,_⟩ aO
  refine rV 1 rfl ?_
  refine bZ mixed (fun k=>k==0||k==3||k==4) fun aq=> ?_
  refine bL [0,1,2] rfl (by kernel_rfl) id (a7 [3] (by kernel_rfl) rfl ?_)
  refine dK rfl (ni (eK M P) (aP bK (aC a2 aY (ai (ai ac F) bp)))) nj rfl rfl ?_ bf
  rintro _ dg -⟨ax,⟨dl,rfl,aA⟩⟩
  subst dg
  refine bL [4] rfl (by kernel_rfl) id ?_
  cases cq:(dl)
  refine ww 15 ?_
  rotate_left
  refine ww 10 ?_
  rotate_left
  have O:=cX co
  refine rV 7 rfl ?_
  obtain⟨fu,gf,fD,dD,bC,bE,dP,d9⟩:=cn cP (cz eI eh) c O
  obtain rfl:=dP
  refine vp (a3 dD rfl rfl O gE) rfl (vp (dT rfl bG (d9 0 _ rfl)) rfl (rL 11 rfl ?_))
  cases cp:(bC==d)
  refine ww 12 ?_
  rotate_left
  refine ww 14 ?_
  rotate_left
  refine ww 20 ?_
  rotate_left
  any_goals
   refine uw 1 ?_
   refine rL 15 rfl (ww 2 ?_)
   rotate_left
  any_goals
   refine uw 2 ?_
   refine cN (j5 (eK f g) (aP bi aX)) j6 rfl rfl ?_
   rintro _ fq ac ⟨⟨T,Y,X,Z⟩,_,rfl,⟨aM,aU,rfl,cE,bo⟩,Q⟩
   replace bo:=a8.1 bo
   refine rL 7 rfl ?_
   refine nW 3 1 ?_
   refine kC (tC dL.nil (aP cE bo) (by have E:=pH Q;simp only[List.length_nil];omega)) re rfl rfl ?_
   rintro _ _ bs F ⟨b7,J,cg,c5,rfl,rfl,⟨ej,eL,ew,ee,dO⟩,ak⟩
   refine rL 5 rfl ?_
   have fK:J.length≤490000000:=(show cF _ J.length _ from⟨ew,ee,by have E:=pH Q;have ap:=ak.2;simp only[List.length_nil] at ap;omega,dO⟩).2.2.1
   refine lK (ι:=Nat) [5,6,7,8,9,10,11,50,51] 6 rfl (fun(c)=>(⟨[(52,.val (zI c))],[],[⟨.slice b7 J.length cg,J.length,c5,3,1⟩]⟩,bs,c≤J.length∧(∀x∈J.take c,x≠e),J.length -c)) (0) rfl rfl [1] rfl ?_ ?_
   exact⟨Nat.zero_le _,(fun x h=>by simp at h)⟩
   rintro c ⟨_,t⟩
   show V _ _ _ ⟨_,_,_⟩ bs
   refine rV 6 rfl ?_
   cases cv:(decide ((c:Int)<(J.length:Int)))
   have bI:=cS cv
   refine rV 6 rfl ?_
   refine cK (ι:=Wd×List Bi×OA×Nat) [5,6,7,8,9,10,11] 0 rfl (fun(L,K,aa,an)=>(⟨[],[(69,[.slice aa K.length an,zI a1]),(36,[zI m,.string al,zI e,.slice am o.length aR]),(36,[zI T,.string Y,zI X,.slice aM Z.length aU]),(36,[zI aD,.string aG,zI aE,.slice aN aI.length aV]),(36,[zI aB,.string aF,zI not,.slice aJ aH.length aS]),(69,[zS,zI 0])],[⟨.slice b7 J.length cg,J.length,c5,3,1⟩]⟩,L,Sub bs L∧(cF aa K.length an∧a5 Bi.Cs 5 L aa K)∧(K=j++ [⟨e,(.mk T Y X Z:Ty)⟩]))) ?_ ?_
   refine u4 mixed ((fun k=>k==0||k==1||k==2),[(16,0)]) rfl fun aq=> ?_
   refine bL [0,1,2,3,4,5,6,7] rfl (by kernel_rfl) id ?_
   obtain⟨fd,eO,dI,eE⟩:=a6.clip eM f (aC eM g (ai ac F))
   refine vt 8 rfl (vR (i:=j.length) rfl rfl rfl (by have:=f.1;omega) mC eO) rfl (by kernel_rfl) id (bL [9,10,11] rfl (by kernel_rfl) id (vt 12 rfl (bJ (vs:=[(0,zI e),(1,.agg #[zI T,.string Y,zI X,.slice aM Z.length aU])]) (v:= .agg #[zI e,zI T,.string Y,zI X,.slice aM Z.length aU]) rfl (fun W=>by kernel_rfl)) rfl (by kernel_rfl) id (a7 [13] (by kernel_rfl) rfl ?_)))
   refine eW mC rfl ?_ bf
   intro fH fr bX el
   refine a7 [14] (by kernel_rfl) rfl ?_
   obtain⟨c1,eH,eg⟩:=(aC eM eE bX)
   refine Ao (nk:=c1) (news:=[zI e,zI T,.string Y,zI X,.slice aM Z.length aU]) rfl Ar rfl rfl eH dI (cd rfl el) (by decide) (n1:=(j++ [(⟨e,(.mk T Y X Z:Ty)⟩:Bi)]).length) (by simp only[ll]) (by(try simp only[ll]);omega) rfl rfl ?_ bf
   intro dz dv ca cQ dX dY dZ
   have et:aL Bi.Cs ca (j++ [(⟨e,(.mk T Y X Z:Ty)⟩:Bi)]) (c1++ [zI e,zI T,.string Y,zI X,.slice aM Z.length aU]):=bg eM cQ (c6 eg (c4 (z8 (n:=e) (aP cE (aC a2 bo (ai F bX))))))
   refine bL [15,1016] rfl (by kernel_rfl) id (bS (by kernel_rfl) ?_)
   exact dC (ca,(j++ [(⟨e,(.mk T Y X Z:Ty)⟩:Bi)]),(some ⟨dz,0,none⟩),dv) rfl rfl [0,1] rfl (⟨(ai bX cQ),⟨⟨dX,dY,by(try simp only[ll]);omega,fun h=>by cases h⟩,(cz dZ et)⟩,rfl⟩)
   refine ww 5 ?_
   rotate_left
   have O:=cX cv
   refine rV 7 rfl ?_
   obtain⟨fw,gh,fF,dH,dw,bE,dS,eb⟩:=cn cP (cz eL ej) c O
   obtain rfl:=dS
   refine vp (a3 dH rfl rfl O gE) rfl (vp (dT rfl bG (eb 0 _ rfl)) rfl (rL 11 rfl ?_))
   cases d4:(dw==e)
   have cI:=cc d4
   refine ww 13 ?_
   rotate_left
   refine ww 16 ?_
   rotate_left
  any_goals
   refine uw 3 ?_
   have f4:(o.length:Int)=(D.length:Int):=by simpa using cx
   refine rV 18 rfl ?_
   have fJ:=fR au
   refine lK (ι:=Wd×Bool×Nat×List Bi×OA×Nat×Int) [5,6,7,8,9,10,11,134] 0 rfl (fun(aQ,bt,S,U,a9,bv,b1)=>(⟨[(14,.val (.bool bt)),(135,.val (zI S))],[(69,[.slice a9 U.length bv,zI b1]),(36,[zI m,.string al,zI e,.slice am o.length aR]),(36,[zI q,.string ae,zI d,.slice af D.length ao]),(36,[zI aD,.string aG,zI aE,.slice aN aI.length aV]),(36,[zI aB,.string aF,zI not,.slice aJ aH.length aS]),(69,[zS,zI 0])],[]⟩,aQ,Sub R aQ∧(cF a9 U.length bv∧a5 Bi.Cs 5 aQ a9 U)∧S≤o.length∧(bt=true∧b1=a1∧∃ext,U=j++ext∧Good U∧full U (.mk aD aG aE aI:Ty)≤1000∧full U (.mk aB aF not aH:Ty)≤1000∧ext.length≤fe ((o.map (dE U)).take S)),o.length -S)) (R,true,0,j,c9,ds,a1) rfl rfl [] rfl ?_ ?_
   exact⟨sR,⟨f,g⟩,Nat.zero_le _,(⟨rfl,rfl,[],by simp,C,aj,ar,by simp⟩)⟩
   rintro⟨aQ,bt,S,U,a9,bv,b1⟩ ⟨aZ,⟨cy,cJ⟩,_,t⟩
   show V _ _ _ ⟨_,_,_⟩ aQ
   refine rV 6 rfl ?_
   cases d0:(decide ((S:Int)<(o.length:Int)))
   refine rV 14 rfl ?_
   exact cB results93 (aK rfl rfl kF) (aT rfl) ⟨rfl,_,_,true,rfl,(eK cy cJ),(by obtain⟨-,ex,ext,aW,bc,bF,bH,bh⟩:=t;exact⟨fun _=>⟨ext,aW,bc,bF,bH,Hg C cV.1 bM aW bc bh⟩,ex⟩)⟩
   have bl:=cX d0
   refine rV 12 rfl ?_
   refine bZ mixed (fun k=>k==1||k==2||k==3||k==4) fun aq=> ?_
   refine bL [1,2,3] rfl (by kernel_rfl) id ?_
   obtain⟨fs,gd,_,dA,⟨f5,gi,f9,gm⟩,cj,⟨ff,fx,rfl,em,bO⟩,d7⟩:=cn a2 (aC a2 ay aZ) S bl
   replace bO:=a8.1 bO
   refine vt 4 rfl (a3 dA rfl rfl bl e6) rfl (by kernel_rfl) id (vt 5 rfl (cl rfl d7 rfl) rfl (by kernel_rfl) id (bL [6,7,8] rfl (by kernel_rfl) id ?_))
   obtain⟨ft,ge,_,dB,⟨f6,gj,ga,gn⟩,_,⟨fg,fy,rfl,en,bP⟩,d8⟩:=cn a2 (aC a2 aX aZ) S (by omega)
   replace bP:=a8.1 bP
   refine vt 9 rfl (a3 dB rfl rfl (by omega) e6) rfl (by kernel_rfl) id (vt 10 rfl (cl rfl d8 rfl) rfl (by kernel_rfl) id (bL [11,12,1000] rfl (by kernel_rfl) id (a7 [13] (by kernel_rfl) rfl ?_)))
   obtain⟨ext,aW,bc,bF,bH,bh⟩:=t.2.2
   obtain⟨e5,f0,cH,ey⟩:=Hd C aw cV.1 bM aW bk bh bl
   rw[←cj] at cH
   refine dK rfl (eZ (eK cy cJ) (aP em bO) (aP en bP) (aP bK (aC a2 aY aZ)) (aP cC (aC a2 bn aZ)) (B:=B) (p:=e5) bc bF bH cH ey bD (by have ap:=bb;omega)) Au rfl rfl ?_ bf
   rintro _ db eF ⟨⟨e2,e3⟩,_,e0,rfl,⟨c8,dr,rfl,M,P⟩,aA⟩
   (try dsimp only at M P)
   refine bL [14,15,16,1017,18] rfl (by kernel_rfl) id (bS (by kernel_rfl) (rD 7 rfl ?_))
   cases d1:(e0)
   refine rV 14 rfl (ww 19 ?_)
   rotate_left
   refine rV 5 rfl (vp (bA rfl rfl (by omega)) rfl (rL 2 rfl ?_))
   obtain⟨dx,eR,eS,eT,eU,eV⟩:=aA.1 d1
   obtain⟨eX,eY⟩:=He aW eR bh eV bl cj
   refine dR (db,true,S+1,e2,c8,dr,e3) rfl rfl [] rfl ?_ ?_
   exact⟨aZ.trans eF,⟨M,P⟩,by omega,⟨rfl,aA.2.trans t.2.1,ext++dx,eX,eS,eT,eU,eY⟩⟩
   (try dsimp only);omega
  any_goals
   refine uw 4 ?_
   refine u4 mixed ((fun k=>k==0||k==1||k==2),[(16,0)]) rfl fun aq=> ?_
   refine bL [0,1,2,3,4,5,6,7] rfl (by kernel_rfl) id ?_
   obtain⟨fc,eN,dF,eD⟩:=a6.clip eM f (aC eM g (ai ac F))
   refine vt 8 rfl (vR (i:=j.length) rfl rfl rfl (by have:=f.1;omega) mC eN) rfl (by kernel_rfl) id (bL [9,10,11] rfl (by kernel_rfl) id (vt 12 rfl (bJ (vs:=[(0,zI d),(1,.agg #[zI u,.string z,zI y,.slice ag A.length ah])]) (v:= .agg #[zI d,zI u,.string z,zI y,.slice ag A.length ah]) rfl (fun W=>by kernel_rfl)) rfl (by kernel_rfl) id (a7 [13] (by kernel_rfl) rfl ?_)))
   refine eW mC rfl ?_ bf
   intro fG fo bW ek
   refine a7 [14] (by kernel_rfl) rfl ?_
   obtain⟨c0,eG,ef⟩:=(aC eM eD bW)
   refine Ao (nk:=c0) (news:=[zI d,zI u,.string z,zI y,.slice ag A.length ah]) rfl Ar rfl rfl eG dF (cd rfl ek) (by decide) (n1:=(j++ [(⟨d,(.mk u z y A:Ty)⟩:Bi)]).length) (by simp only[ll]) (by(try simp only[ll]);omega) rfl rfl ?_ bf
   intro dy du b9 cO dU dV dW
   have es:aL Bi.Cs b9 (j++ [(⟨d,(.mk u z y A:Ty)⟩:Bi)]) (c0++ [zI d,zI u,.string z,zI y,.slice ag A.length ah]):=bg eM cO (c6 ef (c4 (z8 (n:=d) (aP bj (aC a2 ab (ai F bW))))))
   refine bL [15,1016] rfl (by kernel_rfl) id (bS (by kernel_rfl) ?_)
   exact dC (b9,(j++ [(⟨d,(.mk u z y A:Ty)⟩:Bi)]),(some ⟨dy,0,none⟩),du) rfl rfl [0,1] rfl (⟨(ai bW cO),⟨⟨dU,dV,by(try simp only[ll]);omega,fun h=>by cases h⟩,(cz dW es)⟩,rfl⟩)
  any_goals
   refine uw 5 ?_
   rintro⟨L,K,aa,an⟩ ⟨bp,⟨M,P⟩,bY⟩
   show V _ _ _ ⟨_,_,_⟩ L
   refine rV 1 rfl ?_
   refine bZ mixed (fun k=>k==0||k==3||k==4) fun aq=> ?_
   refine bL [0,1,2] rfl (by kernel_rfl) id (a7 [3] (by kernel_rfl) rfl ?_)
   refine dK rfl (ni (eK M P) (aP bK (aC a2 aY (ai (ai ac F) bp)))) nj rfl rfl ?_ bf
   rintro _ di -⟨ax,⟨dn,rfl,aA⟩⟩
   subst di
   refine bL [4] rfl (by kernel_rfl) id ?_
   cases cq:(dn)
   refine ww 15 ?_
   rotate_left
   refine ww 10 ?_
   rotate_left
  any_goals
   refine uw 6 ?_
   refine rL 8 rfl (ww 8 ?_)
   rotate_left
  any_goals
   refine uw 7 ?_
   refine rV 2 rfl (ww 8 ?_)
   rotate_left
  any_goals
   refine uw 8 ?_
   refine bZ mixed (fun k=>k==0||k==1||k==2) fun aq=> ?_
   refine bL [0,1,2,4,5] rfl (by kernel_rfl) id (a7 [3] (by kernel_rfl) rfl ?_)
   refine dK rfl (j5 (eK f g) (aP au ay)) j6 rfl rfl ?_ bf
   rintro _ fl bV ⟨⟨f7,gk,gb,go⟩,_,rfl,⟨fj,fB,rfl,ep,bR⟩,_⟩
   replace bR:=a8.1 bR
   refine a7 [6] (by kernel_rfl) rfl ?_
   refine dK rfl (j5 (eK f (aC eM g bV)) (aP bi (aC a2 aX bV))) j6 rfl rfl ?_ bf
   rintro _ fm cM ⟨⟨f8,gl,gc,gp⟩,_,rfl,⟨fk,fC,rfl,eq,bT⟩,_⟩
   replace bT:=a8.1 bT
   refine a7 [7] (by kernel_rfl) rfl ?_
   refine dK rfl (GP (aP ep (aC a2 bR cM)) (aP eq bT)) zZ rfl rfl ?_ bf
   rintro _ dd -⟨ax,⟨e7,rfl⟩⟩
   subst dd
   refine bL [1008,9] rfl (by kernel_rfl) id (bS (by kernel_rfl) (rD 3 rfl ?_))
   exact cB results93 (aK rfl rfl kF) (aT rfl) ⟨rfl,_,_,e7,rfl,(eK f (aC eM g (ai bV cM))),⟨fun _=>⟨[],by simp,C,aj,ar,Nat.zero_le _⟩,rfl⟩⟩
  any_goals
   refine uw 9 ?_
   refine dK rfl (v9 (eK f g) (aP cA bm)) wc rfl rfl ?_ bf
   rintro _ df -⟨ax,⟨⟨cW,cZ,cY,c7⟩,_,rfl,⟨b8,ch,rfl,cD,az⟩,cU⟩⟩
   subst df
   replace az:=a8.1 az
   refine a7 [5] (by kernel_rfl) rfl (ww 11 ?_)
   rotate_left
  any_goals
   refine uw 10 ?_
   refine bL [5,6] rfl (by kernel_rfl) id (a7 [7] (by kernel_rfl) rfl ?_)
   refine q5 rfl rfl rfl rfl (ni (eK M P) (aP cC (aC a2 bn (ai (ai ac F) bp)))) nj rfl rfl ?_ bf
   rintro _ dh -⟨ax,⟨dm,rfl,eQ⟩⟩
   subst dh
   refine bL [8,1009,10] rfl (by kernel_rfl) id (bS (by kernel_rfl) (rD 3 rfl ?_))
   exact cB results93 (aK rfl rfl kF) (aT rfl) ⟨rfl,_,_,dm,rfl,(eK M P),⟨fun h=>⟨_,bY,Hh C Q ak.1 t bI bY,aA.1 cq,eQ.1 h,oj _⟩,rfl⟩⟩
  any_goals
   refine uw 11 ?_
   refine dK rfl (v9 (eK f g) (aP eo bQ)) wc rfl rfl ?_ bf
   rintro _ de -⟨ax,⟨⟨e1,e9,e4,fb⟩,_,rfl,⟨da,dt,rfl,er,bU⟩,eP⟩⟩
   subst de
   replace bU:=a8.1 bU
   refine bL [1006,1007] rfl (by kernel_rfl) id (bS (by kernel_rfl) ?_)
   exact dC (cW,cZ,cY,c7,b8,ch,e1,e9,e4,fb,da,dt) rfl rfl [] rfl (⟨⟨cD,az⟩,⟨er,bU⟩,⟨cU,eP⟩⟩)
  any_goals
   refine uw 12 ?_
   have cI:=cc cp
   refine ww 13 ?_
   rotate_left
  any_goals
   refine uw 13 ?_
   refine rV 5 rfl (vp (bA rfl rfl (by omega)) rfl (rL 2 rfl ?_))
   refine dR (c+1) rfl rfl [1] rfl ?_ ?_
   exact⟨by omega,by intro x cT;rw[List.take_succ_eq_append_getElem O] at cT;rcases List.mem_append.1 cT with E|E;exact t x E;rw[List.mem_singleton] at E;rw[E,←bE];exact cI⟩
   (try dsimp only);omega
  any_goals
   refine uw 14 ?_
   refine ww 16 ?_
   rotate_left
  any_goals
   refine uw 15 ?_
   refine bL [5,6,7,8,1009,10] rfl (by kernel_rfl) id (bS (by kernel_rfl) (rD 3 rfl (ww 19 ?_)))
   rotate_left
  any_goals
   refine uw 16 ?_
   refine rV 15 rfl ?_
   exact cB results93 (aK rfl rfl kF) (aT rfl) ⟨rfl,_,_,false,rfl,(eK f (aC eM g (ai ac F))),⟨fun h=>(by cases h),(by first|rfl|exact ak.2.trans t.2.1)⟩⟩
  any_goals
   refine uw 17 ?_
   exact cB results93 (aK rfl rfl kF) (aT rfl) ⟨rfl,_,_,false,rfl,(eK f g),⟨fun h=>(by cases h),(by first|rfl|exact hx_178.2.trans t.2.1)⟩⟩
  any_goals
   refine uw 18 ?_
   exact cB results93 (aK rfl rfl kF) (aT rfl) ⟨rfl,_,_,false,rfl,(eK f g),⟨fun h=>(by cases h),(by first|rfl|exact hx_94.2.trans t.2.1)⟩⟩
  any_goals
   refine uw 19 ?_
   exact cB results93 (aK rfl rfl kF) (aT rfl) ⟨rfl,_,_,false,rfl,(eK M P),⟨fun h=>(by cases h),(by first|rfl|exact aA.2.trans t.2.1)⟩⟩
  any_goals
   refine uw 20 ?_
   refine rV 11 rfl ?_
   exact cB results93 (aK rfl rfl kF) (aT rfl) ⟨rfl,_,_,true,rfl,(eK f g),⟨fun _=>⟨[],by simp,C,aj,ar,Nat.zero_le _⟩,rfl⟩⟩
theorem Hj(m:Su.Cs ah gu aj)(c:Ty.Cs ah bC bj)(d:Ty.Cs ah fC og)(n:Ty.Cs ah we vV)(i:Ty.Cs ah Aw Hk){B p:Nat}(g:Good gu.l)(f:full gu.l we≤1000)(e:full gu.l Aw≤1000)(j:Part gu.l we bC p)(h:gu.l.length≤B+p)(b:B≤485000000):bd 93 [.agg aj.toArray,.agg bj.toArray,.agg og.toArray,.agg vV.toArray,.agg Hk.toArray] ah (fun v R'=>∃(r:Su) (a:LV) (k:Bool),v= .tuple #[.agg a.toArray,.bool k]∧Su.Cs R' r a∧((k=true→∃ext,r.l=gu.l++ext∧Good r.l∧full r.l we≤1000∧full r.l Aw≤1000∧ext.length≤full r.l bC)∧r.made=gu.made)):=Hi _ m c d n i g f e j h b (a9 _)
theorem Ax(E:Su.Cs ah gu aj)(z:Ty.Cs ah bC bj)(A:Ty.Cs ah fC og)(j:Good gu.l)(n:gu.l.length≤485000000):bd 74 [.agg aj.toArray,.agg bj.toArray,.agg og.toArray] ah (fun v R'=>∃(r:Su) (g:LV) (k:Bool),v= .tuple #[.agg g.toArray,.bool k]∧Su.Cs R' r g∧(r.made=gu.made∧(k=true→Good r.l∧r.l.length≤gu.l.length+1000))):=by
 obtain⟨J,X⟩:=gu
 obtain⟨L,Q,rfl,a,b⟩:=E
 obtain⟨U,sa,Y,aa⟩:=bC
 obtain⟨M,R,rfl,e,c⟩:=z
 obtain⟨kb,Z,nb,ab⟩:=fC
 obtain⟨N,S,rfl,f,d⟩:=A
 (try dsimp only at a b)
 replace c:=a8.1 c
 replace d:=a8.1 d
 dsimp only at j n
 refine b5 func74 rfl ntmps74 rfl rfl fun w G ad=> ?_
 refine sV 14 rfl ?_
 refine be (ni (eK a b) (aP e c)) nj rfl rfl ?_
 rintro _ ⟨s,rfl,F⟩
 refine rL 2 rfl ?_
 cases C:(s)
 refine rL 17 rfl (ww 1 ?_)
 rotate_left
 refine rL 2 rfl (dJ rfl rfl rfl ?_)
 refine be (ni (eK a b) (aP f d)) nj rfl rfl ?_
 rintro _ ⟨t,rfl,H⟩
 refine rL 4 rfl ?_
 cases D:(t)
 refine rV 10 rfl (ww 1 ?_)
 rotate_left
 refine rV 10 rfl ?_
 refine cN (Hj (eK a b) (aP e c) (aP f d) (aP e c) (aP f d) (B:=J.length) (p:=0) j (F.1 C) (H.1 D) .refl (a9 _) n) Au rfl rfl ?_
 rintro _ O _ ⟨⟨V,W⟩,_,I,rfl,⟨K,P,rfl,m,o⟩,q⟩
 (try dsimp only at m o)
 refine rL 7 rfl ?_
 exact cB results74 (aK rfl rfl kF) (aT rfl) ⟨rfl,_,_,I,rfl,(eK m o),⟨q.2,fun h=>(by obtain⟨ext,u,x,h3,T,y⟩:=q.1 h;refine⟨x,?_⟩;have i:=congrArg List.length u;rw[List.length_append] at i;dsimp only at h3 y i⊢;omega)⟩⟩
 any_goals
  refine uw 1 ?_
  exact cB results74 (aK rfl rfl kF) (aT rfl) ⟨rfl,_,_,false,rfl,(eK a b),⟨rfl,fun h=>(by cases h)⟩⟩
theorem h7:aF 18:=by unfold aF;kernel_rfl
theorem Ay:aF 74:=by unfold aF;kernel_rfl
theorem lW{ts:List bU}(hh:cF aA bD.length ae)(d:a5 Bi.Cs 5 ah aA bD)(b:Good bD)(q:bD.length≤485000000)(E:Ty.Cs ah bC aj)(F:Ty.Cs ah fC bj)(pl t:Int):iL 46 [.agg aj.toArray,.agg bj.toArray,.agg #[zI pl,zI t]] 73 [.slice aA bD.length ae,zI bi,az,cM,fp,hz,zI c0,zI iX,zI iY] ts ah (fun v B J R'=>J=ts∧∃(a:List Bi) (h:OA) (m:Nat) (C z x:Int),B=[.slice h a.length m,zI bi,az,cM,fp,hz,zI C,zI z,zI x]∧cF h a.length m∧a5 Bi.Cs 5 R' h a∧Good a∧a.length≤bD.length+1000):=by
 obtain⟨U,sa,X,aa⟩:=bC
 obtain⟨K,O,rfl,o,f⟩:=E
 obtain⟨kb,Y,nb,ab⟩:=fC
 obtain⟨L,P,rfl,p,g⟩:=F
 replace f:=a8.1 f
 replace g:=a8.1 g
 refine kI func46 rfl ntmps46 rfl rfl fun w G ad=> ?_
 refine sV 17 rfl ?_
 cases R:(c0 !=0)
 refine rV 4 rfl ?_
 refine bZ mixed (fun k=>k==1||k==2) fun aq=> ?_
 refine bL [0,1,2,4,5] rfl (by kernel_rfl) id (a7 [3,10] (by kernel_rfl) rfl ?_)
 refine sS rfl (qu (ds:=[.slice aA bD.length ae,zI bi]) rfl rfl rfl kF rfl rfl) rfl ?_ ?_
 refine a7 [6,10] (by kernel_rfl) rfl ?_
 refine dK rfl (Ax (eK hh d) (aP o f) (aP p g) b q) Ay rfl rfl ?_ ?_
 rintro _ N r ⟨⟨s,V⟩,_,H,rfl,⟨l,n,rfl,c,e⟩,j⟩
 (try dsimp only at c e)
 refine bL [7,8,9] rfl (by kernel_rfl) id (a7 [10] (by kernel_rfl) rfl ?_)
 refine kJ rfl ?_ bf
 refine bL [1011,12] rfl (by kernel_rfl) id (bS (by kernel_rfl) (rD 8 rfl ?_))
 cases i:(H)
 refine ww 2 ?_
 rotate_left
 refine ww 3 ?_
 rotate_left
 refine kJ rfl ?_ bf
 refine a7 [6] (by kernel_rfl) rfl (ww 1 ?_)
 rotate_left
 refine kJ rfl ?_ bf
 refine bL [1003] rfl (by kernel_rfl) id (a7 [6] (by kernel_rfl) rfl (ww 1 ?_))
 rotate_left
 refine rV 3 rfl ?_
 exact sK results46 (ts:=ts) (List.Sublist.refl _) ⟨_,rfl,rfl,bD,aA,ae,c0,iX,iY,rfl,hh,d,b,by omega⟩
 any_goals
  refine uw 1 ?_
  refine dK rfl (Ax (eK hh d) (aP o f) (aP p g) b q) Ay rfl rfl ?_ bf
  rintro _ M r ⟨⟨s,W⟩,_,I,rfl,⟨l,n,rfl,c,e⟩,j⟩
  (try dsimp only at c e)
  refine bL [7,8,9,1011,12] rfl (by kernel_rfl) id (bS (by kernel_rfl) (rD 8 rfl ?_))
  cases i:(I)
  refine ww 2 ?_
  rotate_left
  refine ww 3 ?_
  rotate_left
 any_goals
  refine uw 2 ?_
  refine rV 5 rfl ?_
  refine ep (ts:=[]) (rs:=ts) (h6 (ts:=[]) 3 pl t) h7 rfl rfl rfl rfl ?_
  rintro _ _ _ u T ⟨S,rfl,⟨D,A,y,rfl⟩,Z,Q,rfl,-⟩
  subst u
  refine rL 4 rfl ?_
  exact sK results46 (ts:=ts) (List.Sublist.refl _) ⟨_,rfl,rfl,bD,aA,ae,D,A,y,rfl,hh,(aC eM d r),b,by omega⟩
 any_goals
  refine uw 3 ?_
  refine rV 21 rfl (yV ?_)
  exact sK results46 (ts:=ts) (List.Sublist.refl _) ⟨_,rfl,rfl,s,l,n,c0,iX,iY,rfl,c,e,(j.2 i).1,(j.2 i).2⟩
theorem nn:aF 36:=by unfold aF;kernel_rfl
theorem Az(aT:0≤bi)(aU:bi≤900000000000000){p:Pl}(aD:Pl.Cs ah p aj):iL 73 [.agg aj.toArray] 73 [az,zI bi,cM,fp,hz,je,zI c0,zI iX,zI iY] [] ah (fun v aa aJ R'=>aJ=[]∧∃F:Int,aa=[az,zI F,cM,fp,hz,je,zI c0,zI iX,zI iY]∧bi≤F∧F≤bi+490000000∧∃(t:Ty) (J:LV),v= .agg J.toArray∧Ty.Cs R' t J):=by
 obtain⟨aI,⟨aG,n4,aH,aM⟩,Q⟩:=p
 obtain⟨_,rfl,ap,⟨T,X,rfl,O,y⟩⟩:=aD
 replace y:=a8.1 y
 (try dsimp only at O y)
 dsimp only at ap
 obtain⟨k,rfl⟩:∃k:Nat,Q=(k:Int):=⟨Q.toNat,by omega⟩
 refine kI func73 rfl ntmps73 rfl rfl fun w G ad=> ?_
 refine sV 23 rfl ?_
 refine gN 3 1 ?_
 refine gN 36 4 ?_
 refine fl _ (List.Perm.swap _ _ _) ?_
 refine lK (ι:=Wd×Nat×Int×List Int×LV×OA×Nat×List Ty×LV×OA×Nat) [0,3,4] 0 rfl (fun(d,a,s,b,m,q,e,c,n,r,f)=>(⟨[(5,.val (.slice q b.length e)),(6,.val (.slice r c.length f)),(7,.val (zI a))],[(73,[az,zI s,cM,fp,hz,je,zI c0,zI iX,zI iY]),(75,[.string aI,zI aG,.string n4,zI aH,.slice T aM.length X,zI k]),(36,[zI 0,.string ⟨#[]⟩,zI 0,zS])],[⟨.slice q b.length e,b.length,m,3,1⟩,⟨.slice r c.length f,c.length,n,36,4⟩]⟩,d,Sub ah d∧(aL dU d b m∧Src d 1 q b.length m∧b.length≤e∧e≤9223372036854775807∧(q=none→e=0))∧(aL Ty.Cs d c n∧Src d 4 r c.length n∧c.length≤f∧f≤9223372036854775807∧(r=none→f=0))∧a≤k∧True∧True∧(s=bi+(a:Int)∧b.length=a∧c.length=a),k -a)) (ah,0,bi,[],[],none,0,[],[],none,0) rfl rfl [1,1] rfl ?_ ?_
 exact⟨sR,⟨gr,⟨rfl,.inl rfl⟩,a9 _,by decide,fun _=>rfl⟩,⟨gr,⟨rfl,.inl rfl⟩,a9 _,by decide,fun _=>rfl⟩,b2 _,trivial,trivial,(⟨by omega,rfl,rfl⟩)⟩
 rintro⟨d,a,s,b,m,q,e,c,n,r,f⟩ ⟨P,⟨L,aE,aA,aq,ab⟩,⟨M,aF,aB,ar,ac⟩,aW,_,_,a0⟩
 show V _ _ _ ⟨_,_,_⟩ d
 refine rV 9 rfl ?_
 cases K:(decide ((a:Int)<(k:Int)))
 have aV:=cS K
 refine rV 12 rfl ?_
 refine cN (GM (aP O (aC a2 y P)) (dp ⟨aA,aq,by(try simp only[ll]);omega,ab⟩ (cz aE L)) (dp ⟨aB,ar,by(try simp only[ll]);omega,ac⟩ (cz aF M)) (by omega)) vY rfl rfl ?_
 rintro _ aQ _ ⟨⟨a1,a4,a3,a5⟩,_,rfl,⟨aN,aR,rfl,aw,C⟩⟩
 replace C:=a8.1 C
 refine rL 4 rfl ?_
 exact dN results73 (aK rfl rfl cD) (ts:=[]) (eH _) ⟨_,rfl,rfl,s,rfl,by omega,by omega,_,_,rfl,(aP aw C)⟩
 have aX:=cX K
 refine rV 9 rfl ?_
 refine et gE rfl ?_
 intro g2 I D av
 refine gO ?_
 refine j4 (news:=[zI a]) om rfl rfl (cd rfl av) (fun h=>by cases h) (fun u hu=>cP.one (show dU I (a:Int) [_] from rfl) u hu) (n1:=(b++ [(a:Int)]).length) (by(try simp only[ll])<;>omega) (by(try simp only[ll]);omega) rfl rfl ?_
 intro S Z W E ae af ag ak
 have ax:aL dU W (b++ [(a:Int)]) (m++ [zI a]):=bg cP E (c6 (bg cP D L) (c4 (show dU I (a:Int) [_] from rfl)))
 refine rL 6 rfl ?_
 refine ep (ts:=[]) (rs:=_) (nl (ts:=[]) (by omega) (by omega)) nn rfl rfl rfl rfl ?_
 rintro _ _ _ U aZ ⟨aY,rfl,rfl,⟨i,l,j,o⟩,_,rfl,⟨A,B,rfl,N,x⟩,_⟩
 subst U
 replace x:=a8.1 x
 refine et e6 rfl ?_
 intro aS aO g au
 refine o8 _ ((List.Perm.swap _ _ _).trans (List.Perm.cons _ ((List.Perm.swap _ _ _).trans (List.Perm.cons _ (List.Perm.swap _ _ _))))) ?_
 refine j4 (news:=[zI i,.string l,zI j,.slice A o.length B]) m8 rfl rfl (cd rfl au) (fun h=>by cases h) (fun u hu=>a2.one (aP N (aC a2 x g)) u hu) (n1:=(c++ [(.mk i l j o:Ty)]).length) (by(try simp only[ll])<;>omega) (by(try simp only[ll]);omega) rfl rfl ?_
 intro R Y H z al am an ao
 have ay:aL Ty.Cs H (c++ [(.mk i l j o:Ty)]) (n++ [zI i,.string l,zI j,.slice A o.length B]):=bg a2 z (c6 (bg a2 (ai (ai D E) g) M) (c4 (aP N (aC a2 x g))))
 refine rL 6 rfl (vp (bA rfl rfl (by omega)) rfl (rL 2 rfl ?_))
 refine u9 _ ((List.Perm.swap _ _ _).trans (List.Perm.cons _ (List.Perm.swap _ _ _))) ?_
 refine dR (H,a+1,(s+1),(b++ [(a:Int)]),(m++ [zI a]),S,Z,(c++ [(.mk i l j o:Ty)]),(n++ [zI i,.string l,zI j,.slice A o.length B]),R,Y) rfl rfl [1,1] rfl ?_ ?_
 exact⟨P.trans (ai (ai (ai D E) g) z),⟨bg cP (ai g z) ax,eL ak (ai g z),ae,af,ag⟩,⟨ay,ao,al,am,an⟩,by omega,trivial,trivial,⟨by omega,by simp only[ll];omega,by simp only[ll];omega⟩⟩
 (try dsimp only);omega
theorem tK:aF 72:=by unfold aF;kernel_rfl
theorem AA:aF 73:=by unfold aF;kernel_rfl
theorem AB(Z:0≤bi)(aa:bi≤900000000000000)(h:cF aA hS.length ae)(i:a5 Pl.Cs 6 ah aA hS){x:Ex}(L:Ex.Cs ah x aj):iL 45 [.agg aj.toArray] 73 [az,zI bi,cM,.slice aA hS.length ae,fp,hz,zI c0,zI iX,zI iY] [] ah (fun v E N R'=>N=[]∧∃e F z u:Int,E=[az,zI e,cM,.slice aA hS.length ae,fp,hz,zI F,zI z,zI u]∧bi≤e∧e≤bi+490000000∧∃(t:Ty) (f:LV),v= .agg f.toArray∧Ty.Cs R' t f):=by
 obtain⟨ap,o,ay,aJ,lex,D⟩:=x
 obtain⟨S,Y,rfl,_,j⟩:=L
 replace j:=c9.1 j
 refine kI func45 rfl ntmps45 rfl rfl fun w G ad=> ?_
 refine sV 7 rfl ?_
 refine bZ mixed (fun k=>k==1) fun aq=> ?_
 refine bL [0,1,2,4,5] rfl (by kernel_rfl) id (a7 [3,10] (by kernel_rfl) rfl ?_)
 refine av rfl ?_ ?_
 refine a7 [6,10] (by kernel_rfl) rfl ?_
 refine dK rfl (tG (dp h i) o) tK rfl rfl ?_ ?_
 rintro _ q -⟨K,⟨⟨m,⟨an,aD,aw,aH⟩,l⟩,_,B,rfl,⟨_,rfl,g,⟨Q,W,rfl,b,a⟩⟩⟩⟩
 subst q
 replace a:=a8.1 a
 (try dsimp only at b a)
 refine bL [7,8,9] rfl (by kernel_rfl) id (a7 [10] (by kernel_rfl) rfl ?_)
 refine kJ rfl ?_ bf
 refine bL [1011,12] rfl (by kernel_rfl) id (bS (by kernel_rfl) (rD 8 rfl ?_))
 cases ac:(B)
 refine ww 3 ?_
 rotate_left
 refine ww 2 ?_
 rotate_left
 refine kJ rfl ?_ bf
 refine a7 [6] (by kernel_rfl) rfl (ww 1 ?_)
 rotate_left
 refine kJ rfl ?_ bf
 refine bL [1003] rfl (by kernel_rfl) id (a7 [6] (by kernel_rfl) rfl (ww 1 ?_))
 rotate_left
 any_goals
  refine uw 1 ?_
  refine dK rfl (tG (dp h i) o) tK rfl rfl ?_ bf
  rintro _ r -⟨K,⟨⟨m,⟨ao,aE,ax,aI⟩,l⟩,_,C,rfl,⟨_,rfl,g,⟨R,X,rfl,b,a⟩⟩⟩⟩
  subst r
  replace a:=a8.1 a
  (try dsimp only at b a)
  refine bL [7,8,9,1011,12] rfl (by kernel_rfl) id (bS (by kernel_rfl) (rD 8 rfl ?_))
  cases ab:(C)
  refine ww 3 ?_
  rotate_left
  refine ww 2 ?_
  rotate_left
 any_goals
  refine uw 2 ?_
  refine rV 7 rfl ?_
  refine ep (ts:=[]) (rs:=_) (Az (by omega) (by omega) (kH (s:=m) (n:=l) g (aP b a))) AA rfl rfl rfl rfl ?_
  rintro _ _ _ T _ ⟨rfl,M,rfl,af,ag,⟨al,aB,ar,aF⟩,_,rfl,⟨O,U,rfl,I,c⟩⟩
  replace c:=a8.1 c
  refine rL 4 rfl ?_
  exact dN results45 (aK rfl rfl cD) (ts:=[]) (eH _) ⟨_,rfl,rfl,M,c0,iX,iY,rfl,by omega,by omega,_,_,rfl,(aP I c)⟩
 any_goals
  refine uw 3 ?_
  refine rV 6 rfl ?_
  refine ep (ts:=[]) (rs:=_) (h6 (ts:=[]) 2 lex D) h7 rfl rfl rfl rfl ?_
  rintro _ _ _ p ak ⟨ai,rfl,⟨H,A,y,rfl⟩,⟨am,aC,au,aG⟩,_,rfl,⟨P,V,rfl,J,d⟩⟩
  subst p
  replace d:=a8.1 d
  refine rL 5 rfl ?_
  exact dN results45 (aK rfl rfl cD) (ts:=[]) (eH _) ⟨_,rfl,rfl,bi,H,A,y,rfl,by omega,by omega,_,_,rfl,(aP J d)⟩
theorem pI:c7 70 129 5:=by unfold c7;kernel_rfl
structure Lo where
 s:ByteArray
 t:Ty
def Lo.Cs (R:World) (x:Lo) (c:List Value):Prop:=∃a,c= .string x.s::a∧x.t.Cs R a
theorem mD{s:BA}(h:bC.Cs ah aj):Lo.Cs ah ⟨s,bC⟩ (.string s::aj):=⟨aj,rfl,h⟩
theorem gv:eR Lo.Cs 5:=by
 refine⟨fun h d=> ?_,fun h=> ?_,fun h u hu=> ?_⟩
 ·obtain⟨b,c,a⟩:=h;exact⟨b,c,Ty.Cs.sub a d⟩
 ·obtain⟨b,rfl,a⟩:=h;simp[a.len]
 ·obtain⟨b,rfl,a⟩:=h
  rcases dX.1 hu with rfl|hu
  ·rfl
  ·exact a.one u hu
variable{pJ:List Lo}
theorem Hl(Q:cF aA pJ.length ae)(U:a5 Lo.Cs 5 ah aA pJ)(ax:0≤bi)(ay:bi≤900000000000000)(q:cF h5 hS.length ao)(u:a5 Pl.Cs 6 ah h5 hS){x:Ex}(W:Ex.Cs ah x aj):iL 44 [.agg aj.toArray] 73 [az,zI bi,.slice h5 hS.length ao,cM,.slice aA pJ.length ae,fp,zI c0,zI iX,zI iY] [] ah (fun v M Z R'=>Z=[]∧∃h N H E:Int,M=[az,zI h,.slice h5 hS.length ao,cM,.slice aA pJ.length ae,fp,zI N,zI H,zI E]∧bi≤h∧h≤bi+490000000∧∃(t:Ty) (l:LV),v= .agg l.toArray∧Ty.Cs R' t l):=by
 obtain⟨aS,i,aY,bg,lex,L⟩:=x
 obtain⟨ai,aw,rfl,_,y⟩:=W
 replace y:=c9.1 y
 have aB:pJ.length≤490000000:=Q.2.2.1
 refine kI func44 rfl ntmps44 rfl rfl fun w G ad=> ?_
 refine sV 14 rfl (vp (h0 rfl rfl rfl (by omega) (by omega)) rfl (rL 4 rfl ?_))
 refine lK (ι:=Nat) [0,3,4] 3 rfl (fun(b)=>(⟨[(5,.val (zI ((b:Int) -1)))],[],[]⟩,ah,(b≤pJ.length),b)) (pJ.length) rfl rfl [] rfl ?_ ?_
 exact(a9 _)
 rintro b aL
 show V _ _ _ ⟨_,_,_⟩ ah
 refine rV 7 rfl ?_
 cases P:(decide (((b:Int) -1)≥0))
 refine rV 7 rfl ?_
 refine bZ mixed (fun k=>k==1) fun aq=> ?_
 refine bL [0,1,2,4,5] rfl (by kernel_rfl) id (a7 [3,10] (by kernel_rfl) rfl ?_)
 refine av rfl ?_ ?_
 refine a7 [6,10] (by kernel_rfl) rfl ?_
 refine dK rfl (tG (dp q u) i) tK rfl rfl ?_ ?_
 rintro _ D -⟨T,⟨⟨A,⟨aR,a6,aX,be⟩,z⟩,_,K,rfl,⟨_,rfl,o,⟨ag,au,rfl,c,a⟩⟩⟩⟩
 subst D
 replace a:=a8.1 a
 (try dsimp only at c a)
 refine bL [7,8,9] rfl (by kernel_rfl) id (a7 [10] (by kernel_rfl) rfl ?_)
 refine kJ rfl ?_ bf
 refine bL [1011,12] rfl (by kernel_rfl) id (bS (by kernel_rfl) (rD 8 rfl ?_))
 cases aE:(K)
 refine ww 3 ?_
 rotate_left
 refine ww 2 ?_
 rotate_left
 refine kJ rfl ?_ bf
 refine a7 [6] (by kernel_rfl) rfl (ww 1 ?_)
 rotate_left
 refine kJ rfl ?_ bf
 refine bL [1003] rfl (by kernel_rfl) id (a7 [6] (by kernel_rfl) rfl (ww 1 ?_))
 rotate_left
 have aI:=of_decide_eq_true P
 obtain⟨e,rfl⟩:∃j,b=j+1:=⟨b -1,by omega⟩
 rw[show(((e+1:Nat):Int) -1)=(e:Int) by omega]
 refine rV 6 rfl ?_
 refine bZ mixed (fun k=>k==1) fun aq=> ?_
 refine bL [0,1,2,4,8,9,1003] rfl (by kernel_rfl) id ?_
 obtain⟨al,aZ,_,m,⟨Y,⟨aN,a1,aU,bb⟩⟩,_,⟨_,rfl,⟨ab,an,rfl,r,d⟩⟩,p⟩:=cn gv U e (by omega)
 replace d:=a8.1 d
 (try dsimp only at r d)
 refine vt 5 rfl (a3 m rfl rfl (by omega) pI) rfl (by kernel_rfl) id (bL [6] rfl (by kernel_rfl) id (vt 7 rfl (dT rfl fx (p 0 _ rfl)) rfl (by kernel_rfl) id (bL [10] rfl (by kernel_rfl) id (bS (by kernel_rfl) (rD 1 rfl ?_)))))
 cases aD:(Y.toList==i.toList)
 refine rV 6 rfl (vp (h0 rfl rfl rfl (by omega) (by omega)) rfl (rL 2 rfl ?_))
 refine dR (e) rfl rfl [] rfl ?_ ?_
 exact by omega
 (try dsimp only);omega
 refine rV 8 rfl (vp (a3 m rfl rfl (by omega) pI) rfl (rL 1 rfl (vp (cl rfl (nc (off:=1) (n:=4) p rfl) rfl) rfl (rL 9 rfl ?_))))
 exact dN results44 (aK rfl rfl cD) (ts:=[]) (eH _) ⟨_,rfl,rfl,bi,c0,iX,iY,rfl,by omega,by omega,_,_,rfl,(aP r d)⟩
 any_goals
  refine uw 1 ?_
  refine dK rfl (tG (dp q u) i) tK rfl rfl ?_ bf
  rintro _ C -⟨T,⟨⟨A,⟨aQ,a4,aW,bd⟩,z⟩,_,J,rfl,⟨_,rfl,o,⟨af,ar,rfl,c,a⟩⟩⟩⟩
  subst C
  replace a:=a8.1 a
  (try dsimp only at c a)
  refine bL [7,8,9,1011,12] rfl (by kernel_rfl) id (bS (by kernel_rfl) (rD 8 rfl ?_))
  cases aC:(J)
  refine ww 3 ?_
  rotate_left
  refine ww 2 ?_
  rotate_left
 any_goals
  refine uw 2 ?_
  refine rV 7 rfl ?_
  refine ep (ts:=[]) (rs:=_) (Az (by omega) (by omega) (kH (s:=A) (n:=z) o (aP c a))) AA rfl rfl rfl rfl ?_
  rintro _ _ _ ak _ ⟨rfl,X,rfl,aF,aG,⟨aO,a2,aV,bc⟩,_,rfl,⟨ac,ap,rfl,S,g⟩⟩
  replace g:=a8.1 g
  refine rL 4 rfl ?_
  exact dN results44 (aK rfl rfl cD) (ts:=[]) (eH _) ⟨_,rfl,rfl,X,c0,iX,iY,rfl,by omega,by omega,_,_,rfl,(aP S g)⟩
 any_goals
  refine uw 3 ?_
  refine rV 6 rfl ?_
  refine ep (ts:=[]) (rs:=_) (h6 (ts:=[]) 2 lex L) h7 rfl rfl rfl rfl ?_
  rintro _ _ _ B aJ ⟨aH,rfl,⟨O,I,F,rfl⟩,⟨aM,a0,aT,ba⟩,_,rfl,⟨aa,am,rfl,R,f⟩⟩
  subst B
  replace f:=a8.1 f
  refine rL 5 rfl ?_
  exact dN results44 (aK rfl rfl cD) (ts:=[]) (eH _) ⟨_,rfl,rfl,bi,O,I,F,rfl,by omega,by omega,_,_,rfl,(aP R f)⟩
theorem wg:c7 71 135 6:=by unfold c7;kernel_rfl
structure Fr where
 p:Po
 t:Ty
def Fr.Cs (R:World) (x:Fr) (c:List Value):Prop:=∃a b,c=a++b∧Po.Cs R x.p a∧x.t.Cs R b
theorem wi{p:Po}(h:Po.Cs ah p aj)(g:bC.Cs ah bj):Fr.Cs ah ⟨p,bC⟩ (aj++bj):=⟨aj,bj,rfl,h,g⟩
theorem ho:eR Fr.Cs 6:=by
 refine⟨fun h e=> ?_,fun h=> ?_,fun h u hu=> ?_⟩
 ·obtain⟨a,b,c,d,h3⟩:=h;exact⟨a,b,c,d,Ty.Cs.sub h3 e⟩
 ·obtain⟨a,b,rfl,rfl,h3⟩:=h;simp[h3.len]
 ·obtain⟨a,b,rfl,rfl,h3⟩:=h
  rcases fM.1 hu with hu|hu
  ·simp only[List.mem_cons,List.not_mem_nil,or_false] at hu
   rcases hu with rfl|rfl<;>rfl
  ·exact h3.one u hu
variable{pK:List Fr}
theorem AC(i:cF aA bD.length ae)(l:a5 Bi.Cs 5 ah aA bD)(z:cF h5 pK.length ao)(A:a5 Fr.Cs 6 ah h5 pK):iL 17 [] 73 [.slice aA bD.length ae,zI bi,az,cM,fp,.slice h5 pK.length ao,zI c0,zI iX,zI iY] [] ah (fun v t C R'=>C=[]∧t=[.slice aA bD.length ae,zI bi,az,cM,fp,.slice h5 pK.length ao,zI c0,zI iX,zI iY]∧∃(p q:Int) (b:Bool),v= .tuple #[.agg #[zI p,zI q],.bool b]):=by
 refine kI func17 rfl ntmps17 rfl rfl fun w G ad=> ?_
 refine sV 18 rfl ?_
 have L:=fR z
 refine lK (ι:=Wd×Nat) [0,2,3,10,11] 2 rfl (fun(d,a)=>(⟨[(12,.val (zI a))],[],[]⟩,d,Sub ah d∧a≤pK.length,pK.length -a)) (ah,0) rfl rfl [] rfl ?_ ?_
 exact⟨sR,b2 _⟩
 rintro⟨d,a⟩ ⟨e,_⟩
 show V _ _ _ ⟨_,_,_⟩ d
 refine rV 6 rfl ?_
 cases x:(decide ((a:Int)<(pK.length:Int)))
 refine rV 8 rfl (vp (bJ (vs:=[]) (v:= .agg #[zI 0,zI 0]) rfl (fun W=>by kernel_rfl)) rfl (rL 5 rfl ?_))
 exact qz results17 (aK rfl rfl gp) (aT rfl) (ts:=[]) (eH _) ⟨_,rfl,rfl,rfl,0,0,false,rfl⟩
 have j:=cX x
 refine rV 7 rfl ?_
 obtain⟨H,T,_,u,⟨⟨B,s⟩,⟨P,U,S,Z⟩⟩,_,⟨_,_,rfl,rfl,⟨F,K,rfl,f,c⟩⟩,y⟩:=cn ho (aC ho A e) a j
 replace c:=a8.1 c
 (try dsimp only at f c)
 refine vp (a3 u rfl rfl j wg) rfl (vp (cl rfl y rfl) rfl (rL 5 rfl ?_))
 refine bZ mixed (fun k=>k==2) fun aq=> ?_
 refine bL [0,1,2,4,5] rfl (by kernel_rfl) id (a7 [3,7] (by kernel_rfl) rfl ?_)
 refine sS rfl (qu (ds:=[.slice aA bD.length ae,zI bi]) rfl rfl rfl kF rfl rfl) rfl ?_ ?_
 refine a7 [6,7] (by kernel_rfl) rfl ?_
 refine dK rfl (j5 (eK i (aC eM l e)) (aP f c)) j6 rfl rfl ?_ ?_
 rintro _ h o ⟨⟨g,r,Q,X⟩,_,rfl,⟨D,I,rfl,_,m⟩,_⟩
 replace m:=a8.1 m
 refine a7 [7] (by kernel_rfl) rfl ?_
 refine kJ rfl ?_ bf
 refine ww 2 ?_
 rotate_left
 refine kJ rfl ?_ bf
 refine a7 [6] (by kernel_rfl) rfl (ww 1 ?_)
 rotate_left
 refine kJ rfl ?_ bf
 refine bL [1003] rfl (by kernel_rfl) id (a7 [6] (by kernel_rfl) rfl (ww 1 ?_))
 rotate_left
 any_goals
  refine uw 1 ?_
  refine dK rfl (j5 (eK i (aC eM l e)) (aP f c)) j6 rfl rfl ?_ bf
  rintro _ h o ⟨⟨g,r,R,Y⟩,_,rfl,⟨E,J,rfl,_,n⟩,_⟩
  replace n:=a8.1 n
  refine ww 2 ?_
  rotate_left
 any_goals
  refine uw 2 ?_
  refine bL [1008] rfl (by kernel_rfl) id (bS (by kernel_rfl) (rD 7 rfl ?_))
  cases M:(g==3)
  refine rL 4 rfl ?_
  cases N:(g==2)
  refine rL 12 rfl (vp (bA rfl rfl (by omega)) rfl (rL 2 rfl (ww 4 ?_)))
  rotate_left
  refine rL 7 rfl ?_
  cases O:(r.toList==(⟨#[73,110,116]⟩:BA).toList)
  refine rV 5 rfl (vp (bA rfl rfl (by omega)) rfl (rL 2 rfl (ww 4 ?_)))
  rotate_left
  refine rV 15 rfl (ww 3 ?_)
  rotate_left
  refine rL 26 rfl (ww 3 ?_)
  rotate_left
 any_goals
  refine uw 3 ?_
  exact qz results17 (aK rfl rfl gp) (aT rfl) (ts:=[]) (eH _) ⟨_,rfl,rfl,rfl,B,s,true,rfl⟩
 any_goals
  refine uw 4 ?_
  refine dR (h,a+1) rfl rfl [] rfl ?_ ?_
  exact⟨e.trans o,by omega⟩
  (try dsimp only);omega
theorem ri:aF 69:=by unfold aF;kernel_rfl
theorem Hm(N:Nat):∀{R:Wd} {S:OA} {o:List BA} {X:Nat} {Q:LV} (a5:dL b7 1 R S o X Q) {aA:LV} {e:Ex} (a2:Ex.Cs R e aA) {aF:Vl} {i:List BA} (aS:a6 b7 1 R aF i) (bz:o.length+e.size≤1000000) (bK:i.length+e.size≤1000000) (bt:e.size≤N),mA 69 [.slice S o.length X,.agg aA.toArray,aF] ⟨.slice S o.length X,o.length,Q,9,1⟩ R (fun v ce R'=>∃(Al:OA) (l:List BA) (dA:Nat) (fc:LV),v= .slice Al l.length dA∧ce=⟨.slice Al l.length dA,l.length,fc,9,1⟩∧dL b7 1 R' Al l dA fc∧(l.length≤o.length+e.size)):=by
 induction N with
 |zero=>
  intros
  intros;rename_i s;exact absurd (Nat.le_zero.1 s) (ng _)
 |succ N aE=>
  intro R S o X Q a5 aA e a2 aF i aS bz bK bt
  obtain⟨aB,a8,a4,aW,aR⟩:=a5
  obtain⟨d,a,ne,b,g,f⟩:=e
  obtain⟨cv,cE,rfl,aD,ao⟩:=a2
  obtain⟨cs,cB,rfl,A,C⟩:=aS
  replace ao:=c9.1 ao
  refine vS func69 rfl ntmps69 rfl rfl fun w G ad=> ?_
  refine sV 13 rfl ?_
  cases bB:(d==1)
  refine rL 19 rfl ?_
  refine bZ mixed (fun k=>k==0) fun aq=> ?_
  refine bL [0,2,3] rfl (by kernel_rfl) id ?_
  refine mo 9 1 ?_
  refine a7 [1,4] (by kernel_rfl) rfl ?_
  obtain⟨aJ,b8,a0⟩:=id C
  refine fW (news:=aJ) rfl gY rfl rfl b8 A.2.2.2 (aL.one bT a0) (n1:=i.length) (by(try simp only[ll])<;>omega) (by have m:=fh d a ne b g f;(try simp only[ll]);omega) rfl rfl ?_ ?_
  intro cm cK bj z _ _ _ _
  have b0:aL b7 bj i ([]++aJ):=bg bT z (a0)
  refine a7 [4] (by kernel_rfl) rfl ?_
  refine eW fy rfl ?_ bf
  intro cT aQ t bR
  refine iJ ?_
  refine a7 [5] (by kernel_rfl) rfl ?_
  refine fW (news:=[.string a]) rfl gY rfl rfl (cd rfl bR) (fun h=>by cases h) (fun u hu=>bT.one (show b7 aQ a [_] from rfl) u hu) (n1:=(i++ [a]).length) (by(try simp only[ll])<;>omega) (by have m:=fh d a ne b g f;(try simp only[ll]);omega) rfl rfl ?_ bf
  intro co cL ay y aa ab ac ae
  have af:aL b7 ay (i++ [a]) (([]++aJ)++ [.string a]):=bg bT y (c6 (bg bT t b0) (c4 (show b7 aQ a [_] from rfl)))
  refine bL [6] rfl (by kernel_rfl) id (bS (by kernel_rfl) (rD 11 rfl ?_))
  refine fl _ ((List.Perm.swap _ _ _).trans (List.Perm.cons _ (List.Perm.swap _ _ _))) ?_
  have cW:=fR aD
  refine lK (ι:=Wd×Nat×List BA×LV×OA×Nat) [2,4,6,7,39,40] 1 rfl (fun(U,c,r,aj,At,H)=>(⟨[(0,.val (.slice At r.length H)),(41,.val (zI c))],[],[⟨.slice At r.length H,r.length,aj,9,1⟩]⟩,U,Sub ay U∧(aL b7 U r aj∧Src U 1 At r.length aj∧r.length≤H∧H≤9223372036854775807∧(At=none→H=0))∧c≤b.length∧True∧(r.length≤o.length+1+aO (b.take c)),b.length -c)) (ay,0,o,Q,S,X) rfl rfl [1] rfl ?_ ?_
  refine ww 15 ?_
  rotate_left
  rintro⟨U,c,r,aj,At,H⟩ ⟨F,⟨K,P,L,J,I⟩,_,_,df⟩
  show V _ _ _ ⟨_,_,_⟩ U
  refine rV 6 rfl ?_
  cases am:(decide ((c:Int)<(b.length:Int)))
  refine rV 13 rfl ?_
  exact dN results69 (aT rfl) (ts:=[⟨.slice At r.length H,r.length,aj,9,1⟩]) (.cons_cons _ .slnil) ⟨_,rfl,_,_,_,_,rfl,rfl,⟨K,P,L,J,I⟩,(by have bp:=eJ b c;have m:=fh d a ne b g f;omega)⟩
  refine ww 5 ?_
  rotate_left
  refine ww 2 ?_
  rotate_left
  have c2:=cb bB
  refine rL 3 rfl (dJ rfl rfl rfl ?_)
  refine be (jE (dp A C) a) ji rfl rfl ?_
  rintro _ ⟨bm,rfl⟩
  refine rL 3 rfl ?_
  cases c1:(bm)
  refine rL 3 rfl (dJ rfl rfl rfl ?_)
  refine be (jE (dp ⟨a4,aW,by have h3:=eJ b;have m:=fh d a ne b g f;omega,aR⟩ (cz a8 aB)) a) ji rfl rfl ?_
  rintro _ ⟨bl,rfl⟩
  refine rL 4 rfl ?_
  cases c0:(bl)
  refine rV 5 rfl ?_
  refine et fy rfl ?_
  intro cQ aN ag bO
  refine gO ?_
  refine j4 (news:=[.string a]) gY rfl rfl (cd rfl bO) (fun h=>by cases h) (fun u hu=>bT.one (show b7 aN a [_] from rfl) u hu) (n1:=(o++ [a]).length) (by(try simp only[ll])<;>omega) (by have m:=fh d a ne b g f;(try simp only[ll]);omega) rfl rfl ?_
  intro bb bo bd ah bu bv bw bx
  have bW:aL b7 bd (o++ [a]) (Q++ [.string a]):=bg bT ah (c6 (bg bT ag aB) (c4 (show b7 aN a [_] from rfl)))
  refine rL 4 rfl ?_
  refine bZ mixed (fun k=>k==0) fun aq=> ?_
  refine bL [0,2,3] rfl (by kernel_rfl) id ?_
  refine mo 9 1 ?_
  refine a7 [1,4] (by kernel_rfl) rfl ?_
  obtain⟨aH,b5,aY⟩:=(aC bT C (ai ag ah))
  refine fW (news:=aH) rfl gY rfl rfl b5 A.2.2.2 (aL.one bT aY) (n1:=i.length) (by(try simp only[ll])<;>omega) (by have m:=fh d a ne b g f;(try simp only[ll]);omega) rfl rfl ?_ ?_
  intro ch cG bh M _ _ _ _
  have bX:aL b7 bh i ([]++aH):=bg bT M (aY)
  refine a7 [4] (by kernel_rfl) rfl ?_
  refine eW fy rfl ?_ bf
  intro cR aP E bP
  refine iJ ?_
  refine a7 [5] (by kernel_rfl) rfl ?_
  refine fW (news:=[.string a]) rfl gY rfl rfl (cd rfl bP) (fun h=>by cases h) (fun u hu=>bT.one (show b7 aP a [_] from rfl) u hu) (n1:=(i++ [a]).length) (by(try simp only[ll])<;>omega) (by have m:=fh d a ne b g f;(try simp only[ll]);omega) rfl rfl ?_ bf
  intro ci cH Z O aa ab ac ae
  have af:aL b7 Z (i++ [a]) (([]++aH)++ [.string a]):=bg bT O (c6 (bg bT E bX) (c4 (show b7 aP a [_] from rfl)))
  refine bL [6] rfl (by kernel_rfl) id (bS (by kernel_rfl) (rD 11 rfl ?_))
  refine fl _ ((List.Perm.swap _ _ _).trans (List.Perm.cons _ (List.Perm.swap _ _ _))) ?_
  refine ww 3 ?_
  rotate_left
  refine eW fy rfl ?_ bf
  intro cS cw M bQ
  refine mo 9 1 ?_
  refine a7 [1] (by kernel_rfl) rfl ?_
  obtain⟨aI,b6,aZ⟩:=(aC bT C (ai (ai ag ah) M))
  refine fW (news:=aI) rfl gY rfl rfl b6 A.2.2.2 (aL.one bT aZ) (n1:=i.length) (by(try simp only[ll])<;>omega) (by have m:=fh d a ne b g f;(try simp only[ll]);omega) rfl rfl ?_ bf
  intro cj cI ax E _ _ _ _
  have bY:aL b7 ax i ([]++aI):=bg bT E (aZ)
  refine a7 [5] (by kernel_rfl) rfl ?_
  refine fW (news:=[.string a]) rfl gY rfl rfl (cd rfl (fun j u hu=>E _ _ _ (bQ j u hu))) (fun h=>by cases h) (fun u hu=>bT.one (show b7 ax a [_] from rfl) u hu) (n1:=(i++ [a]).length) (by(try simp only[ll])<;>omega) (by have m:=fh d a ne b g f;(try simp only[ll]);omega) rfl rfl ?_ bf
  intro ck cJ Z O aa ab ac ae
  have af:aL b7 Z (i++ [a]) (([]++aI)++ [.string a]):=bg bT O (c6 bY (c4 (show b7 ax a [_] from rfl)))
  refine bL [6] rfl (by kernel_rfl) id (bS (by kernel_rfl) (rD 11 rfl ?_))
  refine fl _ ((List.Perm.swap _ _ _).trans (List.Perm.cons _ ((List.Perm.swap _ _ _).trans (List.Perm.cons _ (List.Perm.swap _ _ _))))) ?_
  refine ww 3 ?_
  rotate_left
  refine rV 4 rfl (ww 1 ?_)
  rotate_left
  refine rL 12 rfl (ww 1 ?_)
  rotate_left
  any_goals
   refine uw 1 ?_
   refine bZ mixed (fun k=>k==0) fun aq=> ?_
   refine bL [0,2,3] rfl (by kernel_rfl) id ?_
   refine mo 9 1 ?_
   refine a7 [1,4] (by kernel_rfl) rfl ?_
   obtain⟨aG,b4,aX⟩:=id C
   refine fW (news:=aG) rfl gY rfl rfl b4 A.2.2.2 (aL.one bT aX) (n1:=i.length) (by(try simp only[ll])<;>omega) (by have m:=fh d a ne b g f;(try simp only[ll]);omega) rfl rfl ?_ ?_
   intro cp cM bk z _ _ _ _
   have bV:aL b7 bk i ([]++aG):=bg bT z (aX)
   refine a7 [4] (by kernel_rfl) rfl ?_
   refine eW fy rfl ?_ bf
   intro cP aM t bN
   refine iJ ?_
   refine a7 [5] (by kernel_rfl) rfl ?_
   refine fW (news:=[.string a]) rfl gY rfl rfl (cd rfl bN) (fun h=>by cases h) (fun u hu=>bT.one (show b7 aM a [_] from rfl) u hu) (n1:=(i++ [a]).length) (by(try simp only[ll])<;>omega) (by have m:=fh d a ne b g f;(try simp only[ll]);omega) rfl rfl ?_ bf
   intro cg cF Y y aa ab ac ae
   have af:aL b7 Y (i++ [a]) (([]++aG)++ [.string a]):=bg bT y (c6 (bg bT t bV) (c4 (show b7 aM a [_] from rfl)))
   refine bL [6] rfl (by kernel_rfl) id (bS (by kernel_rfl) (rD 11 rfl ?_))
   refine fl _ ((List.Perm.swap _ _ _).trans (List.Perm.cons _ (List.Perm.swap _ _ _))) ?_
   refine ww 4 ?_
   rotate_left
   refine ww 2 ?_
   rotate_left
  any_goals
   refine uw 2 ?_
   refine eW fy rfl ?_ bf
   intro cU cx z bU
   refine mo 9 1 ?_
   refine a7 [1] (by kernel_rfl) rfl ?_
   obtain⟨aK,b9,a1⟩:=(aC bT C z)
   refine fW (news:=aK) rfl gY rfl rfl b9 A.2.2.2 (aL.one bT a1) (n1:=i.length) (by(try simp only[ll])<;>omega) (by have m:=fh d a ne b g f;(try simp only[ll]);omega) rfl rfl ?_ bf
   intro cq cN az t _ _ _ _
   have b1:aL b7 az i ([]++aK):=bg bT t (a1)
   refine a7 [5] (by kernel_rfl) rfl ?_
   refine fW (news:=[.string a]) rfl gY rfl rfl (cd rfl (fun j u hu=>t _ _ _ (bU j u hu))) (fun h=>by cases h) (fun u hu=>bT.one (show b7 az a [_] from rfl) u hu) (n1:=(i++ [a]).length) (by(try simp only[ll])<;>omega) (by have m:=fh d a ne b g f;(try simp only[ll]);omega) rfl rfl ?_ bf
   intro cr cO Y y aa ab ac ae
   have af:aL b7 Y (i++ [a]) (([]++aK)++ [.string a]):=bg bT y (c6 b1 (c4 (show b7 az a [_] from rfl)))
   refine bL [6] rfl (by kernel_rfl) id (bS (by kernel_rfl) (rD 11 rfl ?_))
   refine fl _ ((List.Perm.swap _ _ _).trans (List.Perm.cons _ ((List.Perm.swap _ _ _).trans (List.Perm.cons _ (List.Perm.swap _ _ _))))) ?_
   refine ww 4 ?_
   rotate_left
  any_goals
   refine uw 3 ?_
   have cY:=fR aD
   refine lK (ι:=Wd×Nat×List BA×LV×OA×Nat) [2,4,6,7,39,40] 1 rfl (fun(W,c,n,x,q,p)=>(⟨[(0,.val (.slice q n.length p)),(41,.val (zI c))],[],[⟨.slice q n.length p,n.length,x,9,1⟩]⟩,W,Sub Z W∧(aL b7 W n x∧Src W 1 q n.length x∧n.length≤p∧p≤9223372036854775807∧(q=none→p=0))∧c≤b.length∧True∧(n.length≤o.length+1+aO (b.take c)),b.length -c)) (Z,0,(o++ [a]),(Q++ [.string a]),bb,bo) rfl rfl [1] rfl ?_ ?_
   exact⟨sR,⟨bg bT (ai (ai M E) O) bW,eL bx (ai (ai M E) O),bu,bv,bw⟩,Nat.zero_le _,trivial,(by(try simp only[ll]);omega)⟩
   rintro⟨W,c,n,x,q,p⟩ ⟨F,⟨K,P,L,J,I⟩,_,_,dg⟩
   show V _ _ _ ⟨_,_,_⟩ W
   refine rV 6 rfl ?_
   cases am:(decide ((c:Int)<(b.length:Int)))
   refine ww 13 ?_
   rotate_left
   have B:=cX am
   refine rV 8 rfl ?_
   obtain⟨cy,dh,_,bq,⟨ap,av,au,aw,ar,ak⟩,al,⟨ct,cC,rfl,an,D⟩,bG⟩:=cn bM (aC bM ao (ai (ai (ai (ai (ai ag ah) M) E) O) F)) c B
   replace D:=c9.1 D
   refine vp (a3 bq rfl rfl B cZ) rfl (vp (cl rfl bG rfl) rfl (rL 11 rfl ?_))
   cases bC:(d==8)
   refine rL 8 rfl (ww 6 ?_)
   rotate_left
   have c3:=cb bC
   refine rL 4 rfl ?_
   cases aU:((c:Int)==0)
   refine rL 4 rfl (ww 6 ?_)
   rotate_left
   refine ww 8 ?_
   rotate_left
  any_goals
   refine uw 4 ?_
   have cV:=fR aD
   refine lK (ι:=Wd×Nat×List BA×LV×OA×Nat) [2,4,6,7,39,40] 1 rfl (fun(T,c,n,x,q,p)=>(⟨[(0,.val (.slice q n.length p)),(41,.val (zI c))],[],[⟨.slice q n.length p,n.length,x,9,1⟩]⟩,T,Sub Y T∧(aL b7 T n x∧Src T 1 q n.length x∧n.length≤p∧p≤9223372036854775807∧(q=none→p=0))∧c≤b.length∧True∧(n.length≤o.length+1+aO (b.take c)),b.length -c)) (Y,0,o,Q,S,X) rfl rfl [1] rfl ?_ ?_
   refine ww 15 ?_
   rotate_left
   rintro⟨T,c,n,x,q,p⟩ ⟨F,⟨K,P,L,J,I⟩,_,_,dd⟩
   show V _ _ _ ⟨_,_,_⟩ T
   refine rV 6 rfl ?_
   cases am:(decide ((c:Int)<(b.length:Int)))
   refine ww 13 ?_
   rotate_left
   refine ww 5 ?_
   rotate_left
  any_goals
   refine uw 5 ?_
   have B:=cX am
   refine rV 8 rfl ?_
   obtain⟨cA,di,_,br,⟨ap,av,au,aw,ar,ak⟩,al,⟨cu,cD,rfl,an,D⟩,bH⟩:=cn bM (aC bM ao (ai (ai (ai z t) y) F)) c B
   replace D:=c9.1 D
   refine vp (a3 br rfl rfl B cZ) rfl (vp (cl rfl bH rfl) rfl (rL 11 rfl ?_))
   cases bE:(d==8)
   refine rL 8 rfl (ww 7 ?_)
   rotate_left
   have c7:=cb bE
   refine rL 4 rfl ?_
   cases aU:((c:Int)==0)
   refine rL 4 rfl (ww 7 ?_)
   rotate_left
   refine ww 8 ?_
   rotate_left
  any_goals
   refine uw 6 ?_
   cases bD:(d==7)
   refine rL 11 rfl (ww 11 ?_)
   rotate_left
   have c5:=cb bD
   refine rL 6 rfl ?_
   cases aV:((c:Int)==1)
   refine rV 5 rfl (ww 11 ?_)
   rotate_left
   refine ww 9 ?_
   rotate_left
  any_goals
   refine uw 7 ?_
   cases bF:(d==7)
   refine rL 11 rfl (ww 12 ?_)
   rotate_left
   have da:=cb bF
   refine rL 6 rfl ?_
   cases aV:((c:Int)==1)
   refine rV 5 rfl (ww 12 ?_)
   rotate_left
   refine ww 9 ?_
   rotate_left
  any_goals
   refine uw 8 ?_
   have c8:=cb aU
   refine rL 15 rfl (ww 10 ?_)
   rotate_left
  any_goals
   refine uw 9 ?_
   have db:=cb aV
   refine rV 5 rfl (ww 10 ?_)
   rotate_left
  any_goals
   refine uw 10 ?_
   have ba:aO (b.take (c+1))=aO (b.take c)+(.mk ap av au aw ar ak:Ex).size:=by have s:=gL B;rw[←al] at s;exact s
   have a9:=eJ b (c+1)
   refine kC (aE ⟨K,P,L,J,I⟩ (de an D) (dp ⟨aa,ab,by(have m:=fh d a ne b g f;(try simp only[ll]);omega),ac⟩ (aC bT (cz ae af) F)) (by have m:=fh d a ne b g f;omega) (by have m:=fh d a ne b g f;(try simp only[ll]);omega) (by have m:=fh d a ne b g f;omega)) ri rfl rfl ?_
   refine ww 14 ?_
   rotate_left
  any_goals
   refine uw 11 ?_
   have ba:aO (b.take (c+1))=aO (b.take c)+(.mk ap av au aw ar ak:Ex).size:=by have s:=gL B;rw[←al] at s;exact s
   have a9:=eJ b (c+1)
   refine kC (aE ⟨K,P,L,J,I⟩ (de an D) (dp A (aC bT C (ai (ai (ai (ai (ai ag ah) M) E) O) F))) (by have m:=fh d a ne b g f;omega) (by have m:=fh d a ne b g f;(try simp only[ll]);omega) (by have m:=fh d a ne b g f;omega)) ri rfl rfl ?_
   refine ww 14 ?_
   rotate_left
  any_goals
   refine uw 12 ?_
   have ba:aO (b.take (c+1))=aO (b.take c)+(.mk ap av au aw ar ak:Ex).size:=by have s:=gL B;rw[←al] at s;exact s
   have a9:=eJ b (c+1)
   refine kC (aE ⟨K,P,L,J,I⟩ (de an D) (dp A (aC bT C (ai (ai (ai z t) y) F))) (by have m:=fh d a ne b g f;omega) (by have m:=fh d a ne b g f;(try simp only[ll]);omega) (by have m:=fh d a ne b g f;omega)) ri rfl rfl ?_
   refine ww 14 ?_
   rotate_left
  any_goals
   refine uw 13 ?_
   refine rV 13 rfl ?_
   exact dN results69 (aT rfl) (ts:=[⟨.slice q n.length p,n.length,x,9,1⟩]) (.cons_cons _ .slnil) ⟨_,rfl,_,_,_,_,rfl,rfl,⟨K,P,L,J,I⟩,(by have bp:=eJ b c;have m:=fh d a ne b g f;omega)⟩
  any_goals
   refine uw 14 ?_
   rintro _ _ bi b3 ⟨bc,cc,bn,cf,rfl,rfl,⟨bJ,ca,b2,bI,bs⟩,dc⟩
   refine rL 5 rfl (vp (bA rfl rfl (by omega)) rfl (rL 2 rfl ?_))
   refine dR (bi,c+1,cc,cf,bc,bn) rfl rfl [1] rfl ?_ ?_
   exact⟨F.trans b3,⟨bJ,ca,b2,bI,bs⟩,by omega,trivial,by omega⟩
   (try dsimp only);omega
  any_goals
   refine uw 15 ?_
   exact⟨sR,⟨bg bT (ai (ai z t) y) aB,eL a8 (ai (ai z t) y),a4,aW,aR⟩,Nat.zero_le _,trivial,(by(try simp only[ll]);omega)⟩
theorem free_spec(e:dL b7 1 ah aA ec ae aj)(d:Ex.Cs ah aM bj)(b:a6 b7 1 ah az tL)(a:ec.length+aM.size≤1000000)(c:tL.length+aM.size≤1000000):mA 69 [.slice aA ec.length ae,.agg bj.toArray,az] ⟨.slice aA ec.length ae,ec.length,aj,9,1⟩ ah (fun v f R'=>∃(Al:OA) (l:List BA) (dA:Nat) (fc:LV),v= .slice Al l.length dA∧f=⟨.slice Al l.length dA,l.length,fc,9,1⟩∧dL b7 1 R' Al l dA fc∧(l.length≤ec.length+aM.size)):=Hm _ e d b a c (a9 _)
end Go.Proofs.YthnogncknmhgoaaGreat.Vm
